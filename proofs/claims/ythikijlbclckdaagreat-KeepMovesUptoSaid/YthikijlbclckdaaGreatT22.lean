/- Keep: contracts (Ld). -/
import Derived.Test.YthikijlbclckdaaGreatT21
namespace Go.Proofs.YthikijlbclckdaaGreat
set_option maxRecDepth 100000
set_option maxHeartbeats 40000000
set_option linter.unusedSimpArgs false
set_option linter.unusedVariables false
open Go.IntWalk Go.RowKit
theorem own_own_ne {w : World} {b1 b2 e1 e2 s1 s2 n1 n2 : Nat} {v1 v2 : Value} {l1 l2 : List Value} (h : w.ownsRow b1 e1 s1 v1 n1 l1) (k : w.ownsRow b2 e2 s2 v2 n2 l2) (hn : e1 ≠ e2) : ∀ g, v1.ownBlock = some g → ¬ ownB v2 g := by
 intro g hg
 rcases h.2 with ⟨rfl, -⟩ | ⟨g', cap, cur, rfl, -, hg', -⟩
 ·
  cases hg
 ·
  simp only [Value.ownBlock, Option.some.injEq] at hg
  subst hg
  exact own_ne k hg' (Ne.symm hn)
theorem info_procs : (Tryz.prog.info? 95).map (fun i => (i.zero, i.size, i.bytes)) = some (some (.agg #[.string ⟨#[]⟩, .string ⟨#[]⟩]), 2, 32) := by kernel_rfl
theorem info_insts : (Tryz.prog.info? 103).map (fun i => (i.zero, i.size, i.bytes)) = some (some (.agg #[.int .u64 0, .string ⟨#[]⟩, .slice none 0 0]), 3, 48) := by kernel_rfl
theorem info_tokens : (Tryz.prog.info? 105).map (fun i => (i.zero, i.size, i.bytes)) = some (some (.agg #[.int .u64 0, .int .u64 0, .int .u64 0, .int .i64 0, .int .i64 0, .string ⟨#[]⟩]), 6, 56) := by kernel_rfl
theorem info_jobs : (Tryz.prog.info? 107).map (fun i => (i.zero, i.size, i.bytes)) = some (some (.agg #[.int .u64 0, .int .u64 0, .string ⟨#[]⟩, .int .i64 0, .string ⟨#[]⟩, .int .i64 0]), 6, 64) := by kernel_rfl
theorem info_timers : (Tryz.prog.info? 109).map (fun i => (i.zero, i.size, i.bytes)) = some (some (.agg #[.int .u64 0, .int .i64 0, .int .i64 0]), 3, 24) := by kernel_rfl
theorem info_subs : (Tryz.prog.info? 111).map (fun i => (i.zero, i.size, i.bytes)) = some (some (.agg #[.int .u64 0, .int .u64 0, .int .i64 0, .string ⟨#[]⟩, .string ⟨#[]⟩, .bool false]), 6, 64) := by kernel_rfl
theorem info_kept : (Tryz.prog.info? 113).map (fun i => (i.zero, i.size, i.bytes)) = some (some (.agg #[.int .u64 0, .int .u64 0, .int .i64 0]), 3, 24) := by kernel_rfl
theorem info_listed : (Tryz.prog.info? 115).map (fun i => (i.zero, i.size, i.bytes)) = some (some (.agg #[.int .u64 0, .int .u64 0, .int .i64 0, .string ⟨#[]⟩, .string ⟨#[]⟩, .int .u64 0, .slice none 0 0]), 7, 88) := by kernel_rfl
theorem info_msgs : (Tryz.prog.info? 118).map (fun i => (i.zero, i.size, i.bytes)) = some (some (.agg #[.int .u64 0, .string ⟨#[]⟩, .string ⟨#[]⟩, .string ⟨#[]⟩, .int .i64 0, .slice none 0 0, .slice none 0 0]), 7, 112) := by kernel_rfl
theorem let3_any (xb sb rb k : Nat) (node : Int) (id : ByteArray) (odd : Bool) (s : StateV) (r : RdV) (w : World) (base : Nat) (hbase : base ≤ w.heap.size) (hbx : base ≤ xb) (hbs : base ≤ sb) (hbr : base ≤ rb) (hx : TakAt w xb sb rb k node id odd) (hs : StB w base sb s) (hr : IsR 168 w rb r)
  (hsz : r.s.size ≤ 1099511627776) (hk : k < 18446744073709551616) (hno : I64 node) (hl : s.insts.length ≤ 2097152) :
  Calls Tryz.prog 93 #[.pointer (some ⟨xb, 0, none⟩)] w fun e w' => e = .returned (.tuple #[]) ∧ TakAt w' xb sb rb k node id (odd || (stepI k s r).bad) ∧ StB w' base sb (stepI k s r).s ∧ IsR 168 w' rb (stepI k s r).r ∧ TyBut base letTs w w' := by
 obtain ⟨hno1, hno2⟩ := hno
 unfold stepI
 dsimp only
 have Hc1 : Hid (∀ W, TakAt W xb sb rb k node id odd → IsR 168 W rb r → Calls Tryz.prog 89 #[.pointer (some ⟨xb, 0, none⟩)] W fun e w' => e = .returned (.string (textR 16384 r).1) ∧ IsR 168 w' rb (textR 16384 r).2 ∧ Rb rb W w') := fun W hX hR => takText_any xb sb rb k node id odd r W hX hR (by omega)
 have hz1 := textR_sz 16384 r
 have hv1 : True := trivial
 revert Hc1 hz1 hv1
 generalize textR 16384 r = p1
 obtain ⟨v1, r1⟩ := p1
 intro Hc1 hz1 hv1
 dsimp only at Hc1 hz1 hv1 ⊢
 have Hc2 : Hid (∀ W, TakAt W xb sb rb k node id odd → IsR 168 W rb r1 → Calls Tryz.prog 91 #[.pointer (some ⟨xb, 0, none⟩)] W fun e w' => ∃ v, e = .returned v ∧ VarsOwn w' W.heap.size v (varsOf r1) ∧ TakAt w' xb sb rb k node id (odd || varsBad r1) ∧ IsR 168 w' rb (takeVars r1).2 ∧ But (fun b => b = rb ∨ b = xb) W w' ∧ ∀ i v, i < 5 → W.cell? ⟨xb, i, none⟩ = some v → w'.cell? ⟨xb, i, none⟩ = some v) := fun W hX hR => takVars_any xb sb rb k node id odd r1 W hX hR (by omega)
 have hz2 := takeVars_size r1
 revert Hc2 hz2
 generalize varsOf r1 = vs
 generalize varsBad r1 = vb
 generalize (takeVars r1).2 = r2
 intro Hc2 hz2
 obtain ⟨vp, vi, vt, vj, vr, vs_, vk, vl, vm, hsb, hL⟩ := hs
 obtain ⟨css, a1, a2, a3, hown⟩ := hL.insts
 obtain ⟨ak, ck, rfl⟩ := own_slice hown
 have HL := hid hL
 have Hown := hid hown
 have Hx := hid hx
 have Hsb := hid hsb
 have Hr := hid hr
 have n1 : xb ≠ rb := ty_ne hx hr (by decide)
 have n2 : sb ≠ rb := ty_ne hsb hr (by decide)
 have n7 : sb ≠ xb := ty_ne hsb hx (by decide)
 have n3 := hid (own_ne hown hx (by decide))
 have n4 := hid (own_ne hown hsb (by decide))
 have n5 := hid (own_ne hown hr (by decide))
 have n6 := hid (own_lt hown)
 have hFl : ∀ b, (b = rb ∨ b = xb ∨ ownB (.slice ak s.insts.length ck) b) → b < w.heap.size := fun b h => h.elim (fun h => h ▸ heap_lt hr) (fun h => h.elim (fun h => h ▸ heap_lt hx) (own_lt hown b))
 replace hFl := hid hFl
 have l1 := heap_lt hx
 have l2 := heap_lt hsb
 have l3 := heap_lt hr
 have A1 := hid a1
 have A2 := hid a2
 have A3 := hid a3
 clear hx hsb hr hown hL a1 a2 a3
 go_enter Tryz.func93, Tryz.ntmps93
 have HQ1 := hid (fun w' (hb : (Ps.relC (fun b => b = rb ∨ b = xb ∨ ownB (.slice ak s.insts.length ck) b) (fun b i => (b = xb ∧ i < 5) ∨ b = sb)).G w w') => And.intro (hb.2 xb 0 _ (.inl ⟨rfl, by omega⟩) (cell_of Hx.out 0)) (And.intro (hb.2 xb 1 _ (.inl ⟨rfl, by omega⟩) (cell_of Hx.out 1)) (And.intro (hb.2 xb 2 _ (.inl ⟨rfl, by omega⟩) (cell_of Hx.out 2)) (And.intro (hb.2 xb 3 _ (.inl ⟨rfl, by omega⟩) (cell_of Hx.out 3)) (And.intro (hb.2 xb 4 _ (.inl ⟨rfl, by omega⟩) (cell_of Hx.out 4)) (hb.2 sb 4 _ (.inr rfl) (cell_of Hsb.out 4)))))))
 refine Ps.wp_par (Ps.relC (fun b => b = rb ∨ b = xb ∨ ownB (.slice ak s.insts.length ck) b) (fun b i => (b = xb ∧ i < 5) ∨ b = sb)) (fun W => (TakAt W xb sb rb k node id odd ∧ IsR 168 W rb r ∧ True) ∧ W.ownsRow base 103 3 (.slice ak s.insts.length ck) s.insts.length (css.flatten)) (false :: false :: false :: false :: false :: false :: false :: false :: false :: false :: false :: false :: false :: false :: false :: false :: true :: false :: true :: false :: false :: true :: []) _ (.fix ?_ :: .fix ?_ :: .fix ?_ :: .fix ?_ :: .fix ?_ :: .fix ?_ :: .fix ?_ :: .fix ?_ :: .fix ?_ :: .fix ?_ :: .fix ?_ :: .fix ?_ :: .fix ?_ :: .fix ?_ :: .fix ?_ :: .fix ?_ :: .sf (.string v1) (fun W => (TakAt W xb sb rb k node id odd ∧ IsR 168 W rb r1 ∧ True) ∧ W.ownsRow base 103 3 (.slice ak s.insts.length ck) s.insts.length (css.flatten)) :: .fix ?_ :: .st (none) (fun uv W => VarsOwn W w.heap.size uv vs) (fun uv W => (TakAt W xb sb rb k node id (odd || vb) ∧ IsR 168 W rb r2 ∧ True) ∧ W.ownsRow base 103 3 (.slice ak s.insts.length ck) s.insts.length (css.flatten)) :: .new (fun u W => ∃ a c, u = .agg #[U k, .string v1, .slice a vs.length c] ∧ VarsOwn W w.heap.size (.slice a vs.length c) vs) :: .new (fun u W => ∃ a c, FlatAt 3 W u 1 [U k, .string v1, .slice a vs.length c] ∧ (∀ a' m c', u = .slice (some a') m c' → w.heap.size ≤ a'.block) ∧ VarsOwn W w.heap.size (.slice a vs.length c) vs) :: .st (some (s.insts.length + 1)) (fun _ _ => True) (fun u W => (TakAt W xb sb rb k node id (odd || vb) ∧ IsR 168 W rb r2 ∧ True) ∧ ∃ cs, (∃ a c, cs = [U k, .string v1, .slice a vs.length c] ∧ VarsOwn W w.heap.size (.slice a vs.length c) vs) ∧ W.ownsRow base 103 3 u (s.insts.length + 1) (css.flatten ++ cs)) :: []) (by kernel_rfl) (by kernel_rfl) (by simp only [List.length_cons, List.length_nil, List.drop_succ_cons, List.drop_zero, List.drop_nil]; with_reducible rfl) rfl (fun _ _ _ _ _ => ⟨fun h => h, fun h => h⟩) (fun _ _ h hb => ⟨⟨(hb.block xb (heap_lt h.1.1)).trans h.1.1, h.1.2.1.grow hb, trivial⟩, own_below h.2 hb⟩) (⟨⟨Hx.out, Hr.out, trivial⟩, Hown.out⟩) ?_
 rotate_left 17
 iterate 16
  first
   | (refine Ps.par_skip (a' := ?_) (by rfl) (by rfl) ?_ ?_ ?_; rotate_left 1; with_reducible rfl; (simp only [lays]; with_reducible rfl))
   | (refine Ps.par_run (a' := ?_) (by rfl) (by rfl) (fun w' hb hn => ?_) ?_ ?_; rotate_left 1; (obtain ⟨q0, q1, q2, q3, q4, q14⟩ := HQ1.out w' hb; go_simp; (try simp (disch := omega) only [nrm, toNatUp, iteOmega]); first | with_reducible rfl | (go_simp; with_reducible rfl)); (simp only [lays]; with_reducible rfl))
 refine Ps.par_sf (a' := ?_) (f := ?_) (args := ?_) (by rfl) (by rfl) (fun w' => ?_) (fun _ _ h hb => ⟨⟨(hb.block xb (heap_lt h.1.1)).trans h.1.1, h.1.2.1.grow hb, trivial⟩, own_below h.2 hb⟩) (fun w' hb hn hr => ?_) ?_ ?_; rotate_left 3; (go_simp; constructor <;> with_reducible rfl); (exact (Hc1.out w' hr.1.1 hr.1.2.1).mono (fun e w2 ⟨he, h2, b2⟩ => ⟨he, ⟨b2.mono (fun _ _ h => .inl h), fun b i v hs hc => But.cell b2 hc (by rcases hs with ⟨rfl, -⟩ | rfl <;> assumption)⟩, ⟨b2.at hr.1.1 n1, h2, trivial⟩, own_at hr.2 b2 (fun g hg he => n5.out (he ▸ hg))⟩)); (simp only [lays]; with_reducible rfl)
 iterate 1
  first
   | (refine Ps.par_skip (a' := ?_) (by rfl) (by rfl) ?_ ?_ ?_; rotate_left 1; with_reducible rfl; (simp only [lays]; with_reducible rfl))
   | (refine Ps.par_run (a' := ?_) (by rfl) (by rfl) (fun w' hb hn => ?_) ?_ ?_; rotate_left 1; (obtain ⟨q0, q1, q2, q3, q4, q14⟩ := HQ1.out w' hb; go_simp; (try simp (disch := omega) only [nrm, toNatUp, iteOmega]); first | with_reducible rfl | (go_simp; with_reducible rfl)); (simp only [lays]; with_reducible rfl))
 refine Ps.par_stc (a' := ?ap3k18) (f := ?fp3k18) (args := ?rp3k18) (by rfl) (by rfl) (fun w' => ?ep3k18) (fun uv _ _ h hb => own_at h hb.1 (fun g hg hf => by have := (h.lt g hg).1; have := hFl.out g hf; omega)) (fun uv _ _ h hb => ⟨⟨(hb.block xb (heap_lt h.1.1)).trans h.1.1, h.1.2.1.grow hb, trivial⟩, own_below h.2 hb⟩) (fun w' hb hn hr => ?hp3k18) (fun u => ?pp3k18) (fun u18 hu18 => ?gp3k18)
 case ep3k18 => (go_simp; constructor <;> with_reducible rfl)
 case hp3k18 => (exact (Hc2.out w' hr.1.1 hr.1.2.1).mono (fun e w2 ⟨v, he, hv, h3, h2, b2, hcell⟩ => ⟨v, he, trivial, ownsRow_base hv hb.1.size, ⟨b2.mono (fun _ _ h => h.elim .inl (fun h => .inr (.inl h))), fun b i v hs hc => hs.elim (fun hs => by obtain ⟨rfl, hi⟩ := hs; exact hcell i v hi hc) (fun hs => by subst hs; exact But.cell b2 hc (fun h => h.elim n2 n7))⟩, ⟨h3, h2, trivial⟩, own_at hr.2 b2 (fun g hg he => he.elim (fun he => n5.out (he ▸ hg)) (fun he => n3.out (he ▸ hg)))⟩))
 case pp3k18 => (simp only [lays]; with_reducible rfl)
 refine Ps.par_val (a' := ?ap4k19) (by rfl) (by rfl) (fun u _ _ h hb => by obtain ⟨a, c, he, hv⟩ := h; exact ⟨a, c, he, own_at hv hb.1 (fun g hg hf => by have := (hv.lt g hg).1; have := hFl.out g hf; omega)⟩) (fun w' hb hn => ?hp4k19) (fun u => ?pp4k19) (fun u => ?gp4k19)
 case hp4k19 => (have hv := Ps.need_head hn (by kernel_rfl); obtain ⟨a, c, rfl⟩ := own_slice hv; exact ⟨_, _, (by go_simp; try with_reducible rfl), ⟨a, c, rfl, hv⟩, Below.refl _ _⟩)
 case pp4k19 => (simp only [lays]; with_reducible rfl)
 refine Ps.par_val (a' := ?ap5k20) (by rfl) (by rfl) (fun u _ _ h hb => by obtain ⟨a, c, hf, hu, hv⟩ := h; exact ⟨a, c, FlatAt.but hf hb.1 (fun a' m c' he hh => by have := hu a' m c' he; have := hFl.out _ hh; omega), hu, own_at hv hb.1 (fun g hg hf => by have := (hv.lt g hg).1; have := hFl.out g hf; omega)⟩) (fun w' hb hn => ?hp5k20) (fun u => ?pp5k20) (fun u => ?gp5k20)
 case hp5k20 => (obtain ⟨a, c, rfl, hv⟩ := Ps.need_head hn (by kernel_rfl); exact ⟨_, _, (by go_simp; try with_reducible rfl), ⟨a, c, FlatAt.made w' [U k, .string v1, .slice a vs.length c] _ rfl (by unfold maxLen; omega), fun a' m c' he => by cases he; exact hb.1.size, own_below hv ((Below.refl _ w').alloc (Nat.le_refl _) _)⟩, (Below.refl _ w').alloc (Nat.le_refl _) _⟩)
 case pp5k20 => (simp only [lays]; with_reducible rfl)
 refine Ps.par_appE (a' := ?ap6k21) (A := fun W => (TakAt W xb sb rb k node id (odd || vb) ∧ IsR 168 W rb r2 ∧ True)) (Pc := fun cs W => ∃ a c, cs = [U k, .string v1, .slice a vs.length c] ∧ VarsOwn W w.heap.size (.slice a vs.length c) vs) 24 103 Tryz.underlying24 info_insts rfl (by decide) hbase (by unfold maxLen; omega) (by omega) (fun w1 w2 h ho hb => ⟨(hb.block xb (heap_lt h.1) n3.out).trans h.1, (hb.block rb (heap_lt h.2.1) n5.out).trans h.2.1, trivial⟩) (fun _ _ h hb => ⟨(hb.block xb (heap_lt h.1)).trans h.1, h.2.1.grow hb, trivial⟩) (fun cs w1 w2 hG h ho hb => by obtain ⟨a, c, he, hv⟩ := h; exact ⟨a, c, he, own_at hv hb (own_own_ne hv ho (by decide))⟩) (fun cs w1 w2 h hb => by obtain ⟨a, c, he, hv⟩ := h; exact ⟨a, c, he, own_below hv hb⟩) (fun _ h => .inr (.inr h)) (fun b i hs hb => by rcases hs with ⟨rfl, -⟩ | rfl; exact n3.out hb; exact n4.out hb) (by rfl) rfl rfl rfl rfl (fun w' hb hn => ?xp6k21) (fun u => ?pp6k21) (fun u hu21 => ?gp6k21)
 case xp6k21 => (obtain ⟨a, c, hf, -, hv⟩ := Ps.need_head hn (by kernel_rfl); exact ⟨_, ⟨a, c, rfl, hv⟩, hf, by simp [Value.oneCell']⟩)
 case pp6k21 => (simp only [lays]; with_reducible rfl)
 obtain ⟨au21, cu21, rfl⟩ := hu21
 refine Ps.par_end (fun w9 hb9 hf9 hr9 => ?_)
 try refine Ps.wpList_none ?_
 have T9 : TyBut base [168, 81, 103] w w9 := hb9.1.mono (fun i _ hi => hi.elim (fun h => h ▸ ⟨_, _, _, Hr.out, by decide, hbr⟩) (fun h => h.elim (fun h => h ▸ ⟨_, _, _, Hx.out, by decide, hbx⟩) (fun h => own_ty Hown.out (by decide) h)))
 have Hsb9 := T9.at Hsb.out (by decide)
 have Hx9 := hid hr9.1.1
 have Hr9 := hid hr9.1.2.1
 obtain ⟨cs9, ⟨av9, cv9, rfl, hv9⟩, ho9⟩ := hr9.2
 have Hv9 := hid (ownsRow_base hv9 hbase)
 have Ho9 := hid ho9
 clear hv9 ho9
 have k9 := cell_of Hsb9 4
 have f9 := free_of Hsb9 4
 clear hb9 hf9 hr9
 go_wp2
 have hs9 := setCell_at Hsb9 4 (.slice au21 (s.insts.length + 1) cu21)
 have T10 : TyBut base [33] w9 (w9.setCell ⟨sb, 4, none⟩ (.slice au21 (s.insts.length + 1) cu21)) := TyBut.set Hsb9 (by decide) hbs 4 _
 generalize w9.setCell ⟨sb, 4, none⟩ (.slice au21 (s.insts.length + 1) cu21) = w10 at hs9 T10 ⊢
 have T : TyBut base [168, 81, 103, 33] w w10 := (T9.weak (by decide)).trans (T10.weak (by decide))
 have hL := HL.out
 go_end0
 refine ⟨rfl, T10.at Hx9.out (by decide), ⟨vp, (.slice au21 (s.insts.length + 1) cu21), vt, vj, vr, vs_, vk, vl, vm, hs9, ?_⟩, T10.at Hr9.out (by decide), T.weak (by decide)⟩
 exact ⟨hL.procs.keep DepV.ost T (by decide) (by decide) (by decide), (LOwn.snoc A1.out A2.out (fun i cs x hc hx => InstV.ost _ _ _ _ _ _ (by decide) (by decide) (A3.out i cs x hc hx) T9.kept) ⟨rfl, by simp [Value.oneCell']⟩ (show InstV.ow w9 base _ ⟨k, v1, vs⟩ from ⟨_, rfl, Hv9.out⟩) Ho9.out).keep InstV.ost T10 (by decide) (by decide) (by decide), hL.tokens.keep TokV.ost T (by decide) (by decide) (by decide), hL.jobs.keep JobV.ost T (by decide) (by decide) (by decide), hL.timers.keep TimV.ost T (by decide) (by decide) (by decide), hL.subs.keep SubV.ost T (by decide) (by decide) (by decide), hL.kept.keep KeptV.ost T (by decide) (by decide) (by decide), hL.listed.keep LisV.ost T (by decide) (by decide) (by decide), hL.msgs.keep MsgV.ost T (by decide) (by decide) (by decide)⟩
theorem let4_any (xb sb rb k : Nat) (node : Int) (id : ByteArray) (odd : Bool) (s : StateV) (r : RdV) (w : World) (base : Nat) (hbase : base ≤ w.heap.size) (hbx : base ≤ xb) (hbs : base ≤ sb) (hbr : base ≤ rb) (hx : TakAt w xb sb rb k node id odd) (hs : StB w base sb s) (hr : IsR 168 w rb r)
  (hsz : r.s.size ≤ 1099511627776) (hk : k < 18446744073709551616) (hno : I64 node) (hl : s.jobs.length ≤ 2097152) :
  Calls Tryz.prog 94 #[.pointer (some ⟨xb, 0, none⟩)] w fun e w' => e = .returned (.tuple #[]) ∧ TakAt w' xb sb rb k node id (odd || (stepJ k s r).bad) ∧ StB w' base sb (stepJ k s r).s ∧ IsR 168 w' rb (stepJ k s r).r ∧ TyBut base letTs w w' := by
 obtain ⟨hno1, hno2⟩ := hno
 unfold stepJ
 dsimp only
 have Hc1 : Hid (∀ W, TakAt W xb sb rb k node id odd → IsR 168 W rb r → Calls Tryz.prog 87 #[.pointer (some ⟨rb, 0, none⟩)] W fun e w' => e = .returned (.int .u64 (uintR r).1) ∧ IsR 168 w' rb (uintR r).2 ∧ Rb rb W w') := fun W _ hR => rdUint_any rb r W hR (by omega)
 have hz1 := uintR_size r
 have hv1 := uintR_lt r
 revert Hc1 hz1 hv1
 generalize uintR r = p1
 obtain ⟨v1, r1⟩ := p1
 intro Hc1 hz1 hv1
 dsimp only at Hc1 hz1 hv1 ⊢
 have Hc2 : Hid (∀ W, TakAt W xb sb rb k node id odd → IsR 168 W rb r1 → Calls Tryz.prog 89 #[.pointer (some ⟨xb, 0, none⟩)] W fun e w' => e = .returned (.string (textR 16384 r1).1) ∧ IsR 168 w' rb (textR 16384 r1).2 ∧ Rb rb W w') := fun W hX hR => takText_any xb sb rb k node id odd r1 W hX hR (by omega)
 have hz2 := textR_sz 16384 r1
 have hv2 : True := trivial
 revert Hc2 hz2 hv2
 generalize textR 16384 r1 = p2
 obtain ⟨v2, r2⟩ := p2
 intro Hc2 hz2 hv2
 dsimp only at Hc2 hz2 hv2 ⊢
 have Hc3 : Hid (∀ W, TakAt W xb sb rb k node id odd → IsR 168 W rb r2 → Calls Tryz.prog 90 #[.pointer (some ⟨rb, 0, none⟩)] W fun e w' => e = .returned (.int .i64 (intR r2).1) ∧ IsR 168 w' rb (intR r2).2 ∧ Rb rb W w') := fun W _ hR => rdInt_any rb r2 W hR (by omega)
 have hz3 := intR_size r2
 have hv3 := intR_in r2
 revert Hc3 hz3 hv3
 generalize intR r2 = p3
 obtain ⟨v3, r3⟩ := p3
 intro Hc3 hz3 hv3
 dsimp only at Hc3 hz3 hv3 ⊢
 obtain ⟨hv3a, hv3b⟩ := hv3
 have Hc4 : Hid (∀ W, TakAt W xb sb rb k node id odd → IsR 168 W rb r3 → Calls Tryz.prog 89 #[.pointer (some ⟨xb, 0, none⟩)] W fun e w' => e = .returned (.string (textR 16384 r3).1) ∧ IsR 168 w' rb (textR 16384 r3).2 ∧ Rb rb W w') := fun W hX hR => takText_any xb sb rb k node id odd r3 W hX hR (by omega)
 have hz4 := textR_sz 16384 r3
 have hv4 : True := trivial
 revert Hc4 hz4 hv4
 generalize textR 16384 r3 = p4
 obtain ⟨v4, r4⟩ := p4
 intro Hc4 hz4 hv4
 dsimp only at Hc4 hz4 hv4 ⊢
 have Hc5 : Hid (∀ W, TakAt W xb sb rb k node id odd → IsR 168 W rb r4 → Calls Tryz.prog 90 #[.pointer (some ⟨rb, 0, none⟩)] W fun e w' => e = .returned (.int .i64 (intR r4).1) ∧ IsR 168 w' rb (intR r4).2 ∧ Rb rb W w') := fun W _ hR => rdInt_any rb r4 W hR (by omega)
 have hz5 := intR_size r4
 have hv5 := intR_in r4
 revert Hc5 hz5 hv5
 generalize intR r4 = p5
 obtain ⟨v5, r5⟩ := p5
 intro Hc5 hz5 hv5
 dsimp only at Hc5 hz5 hv5 ⊢
 obtain ⟨hv5a, hv5b⟩ := hv5
 obtain ⟨vp, vi, vt, vj, vr, vs_, vk, vl, vm, hsb, hL⟩ := hs
 obtain ⟨css, a1, a2, a3, hown⟩ := hL.jobs
 obtain ⟨ak, ck, rfl⟩ := own_slice hown
 have HL := hid hL
 have Hown := hid hown
 have Hx := hid hx
 have Hsb := hid hsb
 have Hr := hid hr
 have n1 : xb ≠ rb := ty_ne hx hr (by decide)
 have n2 : sb ≠ rb := ty_ne hsb hr (by decide)
 have n7 : sb ≠ xb := ty_ne hsb hx (by decide)
 have n3 := hid (own_ne hown hx (by decide))
 have n4 := hid (own_ne hown hsb (by decide))
 have n5 := hid (own_ne hown hr (by decide))
 have n6 := hid (own_lt hown)
 have hFl : ∀ b, (b = rb ∨ b = xb ∨ ownB (.slice ak s.jobs.length ck) b) → b < w.heap.size := fun b h => h.elim (fun h => h ▸ heap_lt hr) (fun h => h.elim (fun h => h ▸ heap_lt hx) (own_lt hown b))
 replace hFl := hid hFl
 have l1 := heap_lt hx
 have l2 := heap_lt hsb
 have l3 := heap_lt hr
 have A1 := hid a1
 have A2 := hid a2
 have A3 := hid a3
 clear hx hsb hr hown hL a1 a2 a3
 go_enter Tryz.func94, Tryz.ntmps94
 have HQ7 := hid (fun w' (hb : (Ps.relC (fun b => b = rb ∨ b = xb ∨ ownB (.slice ak s.jobs.length ck) b) (fun b i => (b = xb ∧ i < 5) ∨ b = sb)).G w w') => And.intro (hb.2 xb 0 _ (.inl ⟨rfl, by omega⟩) (cell_of Hx.out 0)) (And.intro (hb.2 xb 1 _ (.inl ⟨rfl, by omega⟩) (cell_of Hx.out 1)) (And.intro (hb.2 xb 2 _ (.inl ⟨rfl, by omega⟩) (cell_of Hx.out 2)) (And.intro (hb.2 xb 3 _ (.inl ⟨rfl, by omega⟩) (cell_of Hx.out 3)) (And.intro (hb.2 xb 4 _ (.inl ⟨rfl, by omega⟩) (cell_of Hx.out 4)) (hb.2 sb 6 _ (.inr rfl) (cell_of Hsb.out 6)))))))
 refine Ps.wp_par (Ps.relC (fun b => b = rb ∨ b = xb ∨ ownB (.slice ak s.jobs.length ck) b) (fun b i => (b = xb ∧ i < 5) ∨ b = sb)) (fun W => (TakAt W xb sb rb k node id odd ∧ IsR 168 W rb r ∧ True) ∧ W.ownsRow base 107 6 (.slice ak s.jobs.length ck) s.jobs.length (css.flatten)) (false :: false :: false :: false :: false :: false :: false :: false :: false :: false :: false :: false :: false :: false :: false :: false :: false :: false :: false :: true :: false :: true :: false :: false :: false :: false :: true :: false :: true :: false :: false :: false :: false :: true :: false :: false :: true :: []) _ (.fix ?_ :: .fix ?_ :: .fix ?_ :: .fix ?_ :: .fix ?_ :: .fix ?_ :: .fix ?_ :: .fix ?_ :: .fix ?_ :: .fix ?_ :: .fix ?_ :: .fix ?_ :: .fix ?_ :: .fix ?_ :: .fix ?_ :: .fix ?_ :: .fix ?_ :: .fix ?_ :: .fix ?_ :: .sf (.int .u64 v1) (fun W => (TakAt W xb sb rb k node id odd ∧ IsR 168 W rb r1 ∧ True) ∧ W.ownsRow base 107 6 (.slice ak s.jobs.length ck) s.jobs.length (css.flatten)) :: .fix ?_ :: .sf (.string v2) (fun W => (TakAt W xb sb rb k node id odd ∧ IsR 168 W rb r2 ∧ True) ∧ W.ownsRow base 107 6 (.slice ak s.jobs.length ck) s.jobs.length (css.flatten)) :: .fix ?_ :: .fix ?_ :: .fix ?_ :: .fix ?_ :: .sf (.int .i64 v3) (fun W => (TakAt W xb sb rb k node id odd ∧ IsR 168 W rb r3 ∧ True) ∧ W.ownsRow base 107 6 (.slice ak s.jobs.length ck) s.jobs.length (css.flatten)) :: .fix ?_ :: .sf (.string v4) (fun W => (TakAt W xb sb rb k node id odd ∧ IsR 168 W rb r4 ∧ True) ∧ W.ownsRow base 107 6 (.slice ak s.jobs.length ck) s.jobs.length (css.flatten)) :: .fix ?_ :: .fix ?_ :: .fix ?_ :: .fix ?_ :: .sf (.int .i64 v5) (fun W => (TakAt W xb sb rb k node id odd ∧ IsR 168 W rb r5 ∧ True) ∧ W.ownsRow base 107 6 (.slice ak s.jobs.length ck) s.jobs.length (css.flatten)) :: .fix ?_ :: .new (Ps.rowN 6 ?_ ?_ w.heap.size) :: .st (some (s.jobs.length + 1)) (fun _ _ => True) (fun u W => (TakAt W xb sb rb k node id odd ∧ IsR 168 W rb r5 ∧ True) ∧ W.ownsRow base 107 6 u (s.jobs.length + 1) (css.flatten ++ [U k, U v1, .string v2, I v3, .string v4, I v5])) :: []) (by kernel_rfl) (by kernel_rfl) (by simp only [List.length_cons, List.length_nil, List.drop_succ_cons, List.drop_zero, List.drop_nil]; with_reducible rfl) rfl (fun _ _ _ _ _ => ⟨fun h => h, fun h => h⟩) (fun _ _ h hb => ⟨⟨(hb.block xb (heap_lt h.1.1)).trans h.1.1, h.1.2.1.grow hb, trivial⟩, own_below h.2 hb⟩) (⟨⟨Hx.out, Hr.out, trivial⟩, Hown.out⟩) ?_
 rotate_left 32
 iterate 19
  first
   | (refine Ps.par_skip (a' := ?_) (by rfl) (by rfl) ?_ ?_ ?_; rotate_left 1; with_reducible rfl; (simp only [lays]; with_reducible rfl))
   | (refine Ps.par_run (a' := ?_) (by rfl) (by rfl) (fun w' hb hn => ?_) ?_ ?_; rotate_left 1; (obtain ⟨q0, q1, q2, q3, q4, q16⟩ := HQ7.out w' hb; go_simp; (try simp (disch := omega) only [nrm, toNatUp, iteOmega]); first | with_reducible rfl | (go_simp; with_reducible rfl)); (simp only [lays]; with_reducible rfl))
 refine Ps.par_sf (a' := ?_) (f := ?_) (args := ?_) (by rfl) (by rfl) (fun w' => ?_) (fun _ _ h hb => ⟨⟨(hb.block xb (heap_lt h.1.1)).trans h.1.1, h.1.2.1.grow hb, trivial⟩, own_below h.2 hb⟩) (fun w' hb hn hr => ?_) ?_ ?_; rotate_left 3; (go_simp; constructor <;> with_reducible rfl); (exact (Hc1.out w' hr.1.1 hr.1.2.1).mono (fun e w2 ⟨he, h2, b2⟩ => ⟨he, ⟨b2.mono (fun _ _ h => .inl h), fun b i v hs hc => But.cell b2 hc (by rcases hs with ⟨rfl, -⟩ | rfl <;> assumption)⟩, ⟨b2.at hr.1.1 n1, h2, trivial⟩, own_at hr.2 b2 (fun g hg he => n5.out (he ▸ hg))⟩)); (simp only [lays]; with_reducible rfl)
 iterate 1
  first
   | (refine Ps.par_skip (a' := ?_) (by rfl) (by rfl) ?_ ?_ ?_; rotate_left 1; with_reducible rfl; (simp only [lays]; with_reducible rfl))
   | (refine Ps.par_run (a' := ?_) (by rfl) (by rfl) (fun w' hb hn => ?_) ?_ ?_; rotate_left 1; (obtain ⟨q0, q1, q2, q3, q4, q16⟩ := HQ7.out w' hb; go_simp; (try simp (disch := omega) only [nrm, toNatUp, iteOmega]); first | with_reducible rfl | (go_simp; with_reducible rfl)); (simp only [lays]; with_reducible rfl))
 refine Ps.par_sf (a' := ?_) (f := ?_) (args := ?_) (by rfl) (by rfl) (fun w' => ?_) (fun _ _ h hb => ⟨⟨(hb.block xb (heap_lt h.1.1)).trans h.1.1, h.1.2.1.grow hb, trivial⟩, own_below h.2 hb⟩) (fun w' hb hn hr => ?_) ?_ ?_; rotate_left 3; (go_simp; constructor <;> with_reducible rfl); (exact (Hc2.out w' hr.1.1 hr.1.2.1).mono (fun e w2 ⟨he, h2, b2⟩ => ⟨he, ⟨b2.mono (fun _ _ h => .inl h), fun b i v hs hc => But.cell b2 hc (by rcases hs with ⟨rfl, -⟩ | rfl <;> assumption)⟩, ⟨b2.at hr.1.1 n1, h2, trivial⟩, own_at hr.2 b2 (fun g hg he => n5.out (he ▸ hg))⟩)); (simp only [lays]; with_reducible rfl)
 iterate 4
  first
   | (refine Ps.par_skip (a' := ?_) (by rfl) (by rfl) ?_ ?_ ?_; rotate_left 1; with_reducible rfl; (simp only [lays]; with_reducible rfl))
   | (refine Ps.par_run (a' := ?_) (by rfl) (by rfl) (fun w' hb hn => ?_) ?_ ?_; rotate_left 1; (obtain ⟨q0, q1, q2, q3, q4, q16⟩ := HQ7.out w' hb; go_simp; (try simp (disch := omega) only [nrm, toNatUp, iteOmega]); first | with_reducible rfl | (go_simp; with_reducible rfl)); (simp only [lays]; with_reducible rfl))
 refine Ps.par_sf (a' := ?_) (f := ?_) (args := ?_) (by rfl) (by rfl) (fun w' => ?_) (fun _ _ h hb => ⟨⟨(hb.block xb (heap_lt h.1.1)).trans h.1.1, h.1.2.1.grow hb, trivial⟩, own_below h.2 hb⟩) (fun w' hb hn hr => ?_) ?_ ?_; rotate_left 3; (go_simp; constructor <;> with_reducible rfl); (exact (Hc3.out w' hr.1.1 hr.1.2.1).mono (fun e w2 ⟨he, h2, b2⟩ => ⟨he, ⟨b2.mono (fun _ _ h => .inl h), fun b i v hs hc => But.cell b2 hc (by rcases hs with ⟨rfl, -⟩ | rfl <;> assumption)⟩, ⟨b2.at hr.1.1 n1, h2, trivial⟩, own_at hr.2 b2 (fun g hg he => n5.out (he ▸ hg))⟩)); (simp only [lays]; with_reducible rfl)
 iterate 1
  first
   | (refine Ps.par_skip (a' := ?_) (by rfl) (by rfl) ?_ ?_ ?_; rotate_left 1; with_reducible rfl; (simp only [lays]; with_reducible rfl))
   | (refine Ps.par_run (a' := ?_) (by rfl) (by rfl) (fun w' hb hn => ?_) ?_ ?_; rotate_left 1; (obtain ⟨q0, q1, q2, q3, q4, q16⟩ := HQ7.out w' hb; go_simp; (try simp (disch := omega) only [nrm, toNatUp, iteOmega]); first | with_reducible rfl | (go_simp; with_reducible rfl)); (simp only [lays]; with_reducible rfl))
 refine Ps.par_sf (a' := ?_) (f := ?_) (args := ?_) (by rfl) (by rfl) (fun w' => ?_) (fun _ _ h hb => ⟨⟨(hb.block xb (heap_lt h.1.1)).trans h.1.1, h.1.2.1.grow hb, trivial⟩, own_below h.2 hb⟩) (fun w' hb hn hr => ?_) ?_ ?_; rotate_left 3; (go_simp; constructor <;> with_reducible rfl); (exact (Hc4.out w' hr.1.1 hr.1.2.1).mono (fun e w2 ⟨he, h2, b2⟩ => ⟨he, ⟨b2.mono (fun _ _ h => .inl h), fun b i v hs hc => But.cell b2 hc (by rcases hs with ⟨rfl, -⟩ | rfl <;> assumption)⟩, ⟨b2.at hr.1.1 n1, h2, trivial⟩, own_at hr.2 b2 (fun g hg he => n5.out (he ▸ hg))⟩)); (simp only [lays]; with_reducible rfl)
 iterate 4
  first
   | (refine Ps.par_skip (a' := ?_) (by rfl) (by rfl) ?_ ?_ ?_; rotate_left 1; with_reducible rfl; (simp only [lays]; with_reducible rfl))
   | (refine Ps.par_run (a' := ?_) (by rfl) (by rfl) (fun w' hb hn => ?_) ?_ ?_; rotate_left 1; (obtain ⟨q0, q1, q2, q3, q4, q16⟩ := HQ7.out w' hb; go_simp; (try simp (disch := omega) only [nrm, toNatUp, iteOmega]); first | with_reducible rfl | (go_simp; with_reducible rfl)); (simp only [lays]; with_reducible rfl))
 refine Ps.par_sf (a' := ?_) (f := ?_) (args := ?_) (by rfl) (by rfl) (fun w' => ?_) (fun _ _ h hb => ⟨⟨(hb.block xb (heap_lt h.1.1)).trans h.1.1, h.1.2.1.grow hb, trivial⟩, own_below h.2 hb⟩) (fun w' hb hn hr => ?_) ?_ ?_; rotate_left 3; (go_simp; constructor <;> with_reducible rfl); (exact (Hc5.out w' hr.1.1 hr.1.2.1).mono (fun e w2 ⟨he, h2, b2⟩ => ⟨he, ⟨b2.mono (fun _ _ h => .inl h), fun b i v hs hc => But.cell b2 hc (by rcases hs with ⟨rfl, -⟩ | rfl <;> assumption)⟩, ⟨b2.at hr.1.1 n1, h2, trivial⟩, own_at hr.2 b2 (fun g hg he => n5.out (he ▸ hg))⟩)); (simp only [lays]; with_reducible rfl)
 iterate 1
  first
   | (refine Ps.par_skip (a' := ?_) (by rfl) (by rfl) ?_ ?_ ?_; rotate_left 1; with_reducible rfl; (simp only [lays]; with_reducible rfl))
   | (refine Ps.par_run (a' := ?_) (by rfl) (by rfl) (fun w' hb hn => ?_) ?_ ?_; rotate_left 1; (obtain ⟨q0, q1, q2, q3, q4, q16⟩ := HQ7.out w' hb; go_simp; (try simp (disch := omega) only [nrm, toNatUp, iteOmega]); first | with_reducible rfl | (go_simp; with_reducible rfl)); (simp only [lays]; with_reducible rfl))
 refine Ps.par_row (a' := ?ap13k35) (m := ?mp13k35) (T := ?Tp13k35) (cs := ?cp13k35) (r := ?rp13k35) (fun b h => h.elim (fun h => by omega) (fun h => h.elim (fun h => by omega) (n6.out b))) (by rfl) (by rfl) (fun w' hb hn => ?hp13k35) (fun w' => ?ep13k35) ?np13k35 ?vp13k35 ?lp13k35 ?xp13k35 (fun u => ?pp13k35) (fun u => ?gp13k35)
 case hp13k35 => (obtain ⟨q0, q1, q2, q3, q4, q16⟩ := HQ7.out w' hb; go_simp; (try simp (disch := omega) only [nrm, toNatUp, iteOmega]); with_reducible rfl)
 case ep13k35 => with_reducible rfl
 case np13k35 => with_reducible rfl
 case vp13k35 => with_reducible rfl
 case lp13k35 => simp only [List.length_cons, List.length_nil]
 case xp13k35 => (unfold maxLen; omega)
 case pp13k35 => (simp only [lays]; with_reducible rfl)
 refine Ps.par_app (a' := ?ap14k36) (A := fun W => (TakAt W xb sb rb k node id odd ∧ IsR 168 W rb r5 ∧ True)) 26 107 Tryz.underlying26 info_jobs rfl (by decide) hbase (by unfold maxLen; omega) (by omega) (by simp [Value.oneCell']) (fun w1 w2 h ho hb => ⟨(hb.block xb (heap_lt h.1) n3.out).trans h.1, (hb.block rb (heap_lt h.2.1) n5.out).trans h.2.1, trivial⟩) (fun _ _ h hb => ⟨(hb.block xb (heap_lt h.1)).trans h.1, h.2.1.grow hb, trivial⟩) (fun _ h => .inr (.inr h)) (fun b i hs hb => by rcases hs with ⟨rfl, -⟩ | rfl; exact n3.out hb; exact n4.out hb) (by rfl) rfl rfl rfl rfl (fun w' hb hn => ?xp14k36) (fun u => ?pp14k36) (fun u hu36 => ?gp14k36)
 case xp14k36 => (exact (Ps.need_head hn (by kernel_rfl)).1)
 case pp14k36 => (simp only [lays]; with_reducible rfl)
 obtain ⟨au36, cu36, rfl⟩ := hu36
 refine Ps.par_end (fun w9 hb9 hf9 hr9 => ?_)
 try refine Ps.wpList_none ?_
 have T9 : TyBut base [168, 81, 107] w w9 := hb9.1.mono (fun i _ hi => hi.elim (fun h => h ▸ ⟨_, _, _, Hr.out, by decide, hbr⟩) (fun h => h.elim (fun h => h ▸ ⟨_, _, _, Hx.out, by decide, hbx⟩) (fun h => own_ty Hown.out (by decide) h)))
 have Hsb9 := T9.at Hsb.out (by decide)
 have Hx9 := hid hr9.1.1
 have Hr9 := hid hr9.1.2.1
 have Ho9 := hid hr9.2
 have k9 := cell_of Hsb9 6
 have f9 := free_of Hsb9 6
 clear hb9 hf9 hr9
 go_wp2
 have hs9 := setCell_at Hsb9 6 (.slice au36 (s.jobs.length + 1) cu36)
 have T10 : TyBut base [33] w9 (w9.setCell ⟨sb, 6, none⟩ (.slice au36 (s.jobs.length + 1) cu36)) := TyBut.set Hsb9 (by decide) hbs 6 _
 generalize w9.setCell ⟨sb, 6, none⟩ (.slice au36 (s.jobs.length + 1) cu36) = w10 at hs9 T10 ⊢
 have T : TyBut base [168, 81, 107, 33] w w10 := (T9.weak (by decide)).trans (T10.weak (by decide))
 have hL := HL.out
 go_end0
 refine ⟨rfl, by rw [Bool.or_false]; exact T10.at Hx9.out (by decide), ⟨vp, vi, vt, (.slice au36 (s.jobs.length + 1) cu36), vr, vs_, vk, vl, vm, hs9, ?_⟩, T10.at Hr9.out (by decide), T.weak (by decide)⟩
 exact ⟨hL.procs.keep DepV.ost T (by decide) (by decide) (by decide), hL.insts.keep InstV.ost T (by decide) (by decide) (by decide), hL.tokens.keep TokV.ost T (by decide) (by decide) (by decide), (LOwn.snoc A1.out A2.out (fun i cs x hc hx => JobV.ost _ _ _ _ _ _ (by decide) (by decide) (A3.out i cs x hc hx) T9.kept) ⟨rfl, by simp [Value.oneCell']⟩ rfl Ho9.out).keep JobV.ost T10 (by decide) (by decide) (by decide), hL.timers.keep TimV.ost T (by decide) (by decide) (by decide), hL.subs.keep SubV.ost T (by decide) (by decide) (by decide), hL.kept.keep KeptV.ost T (by decide) (by decide) (by decide), hL.listed.keep LisV.ost T (by decide) (by decide) (by decide), hL.msgs.keep MsgV.ost T (by decide) (by decide) (by decide)⟩
theorem let6_any (xb sb rb k : Nat) (node : Int) (id : ByteArray) (odd : Bool) (s : StateV) (r : RdV) (w : World) (base : Nat) (hbase : base ≤ w.heap.size) (hbx : base ≤ xb) (hbs : base ≤ sb) (hbr : base ≤ rb) (hx : TakAt w xb sb rb k node id odd) (hs : StB w base sb s) (hr : IsR 168 w rb r)
  (hsz : r.s.size ≤ 1099511627776) (hk : k < 18446744073709551616) (hno : I64 node) (hl : s.listed.length ≤ 2097152) :
  Calls Tryz.prog 96 #[.pointer (some ⟨xb, 0, none⟩)] w fun e w' => e = .returned (.tuple #[]) ∧ TakAt w' xb sb rb k node id (odd || (stepL k node s r).bad) ∧ StB w' base sb (stepL k node s r).s ∧ IsR 168 w' rb (stepL k node s r).r ∧ TyBut base letTs w w' := by
 obtain ⟨hno1, hno2⟩ := hno
 unfold stepL
 dsimp only
 have Hc1 : Hid (∀ W, TakAt W xb sb rb k node id odd → IsR 168 W rb r → Calls Tryz.prog 87 #[.pointer (some ⟨rb, 0, none⟩)] W fun e w' => e = .returned (.int .u64 (uintR r).1) ∧ IsR 168 w' rb (uintR r).2 ∧ Rb rb W w') := fun W _ hR => rdUint_any rb r W hR (by omega)
 have hz1 := uintR_size r
 have hv1 := uintR_lt r
 revert Hc1 hz1 hv1
 generalize uintR r = p1
 obtain ⟨v1, r1⟩ := p1
 intro Hc1 hz1 hv1
 dsimp only at Hc1 hz1 hv1 ⊢
 have Hc2 : Hid (∀ W, TakAt W xb sb rb k node id odd → IsR 168 W rb r1 → Calls Tryz.prog 89 #[.pointer (some ⟨xb, 0, none⟩)] W fun e w' => e = .returned (.string (textR 16384 r1).1) ∧ IsR 168 w' rb (textR 16384 r1).2 ∧ Rb rb W w') := fun W hX hR => takText_any xb sb rb k node id odd r1 W hX hR (by omega)
 have hz2 := textR_sz 16384 r1
 have hv2 : True := trivial
 revert Hc2 hz2 hv2
 generalize textR 16384 r1 = p2
 obtain ⟨v2, r2⟩ := p2
 intro Hc2 hz2 hv2
 dsimp only at Hc2 hz2 hv2 ⊢
 have Hc3 : Hid (∀ W, TakAt W xb sb rb k node id odd → IsR 168 W rb r2 → Calls Tryz.prog 89 #[.pointer (some ⟨xb, 0, none⟩)] W fun e w' => e = .returned (.string (textR 16384 r2).1) ∧ IsR 168 w' rb (textR 16384 r2).2 ∧ Rb rb W w') := fun W hX hR => takText_any xb sb rb k node id odd r2 W hX hR (by omega)
 have hz3 := textR_sz 16384 r2
 have hv3 : True := trivial
 revert Hc3 hz3 hv3
 generalize textR 16384 r2 = p3
 obtain ⟨v3, r3⟩ := p3
 intro Hc3 hz3 hv3
 dsimp only at Hc3 hz3 hv3 ⊢
 have Hc4 : Hid (∀ W, TakAt W xb sb rb k node id odd → IsR 168 W rb r3 → Calls Tryz.prog 87 #[.pointer (some ⟨rb, 0, none⟩)] W fun e w' => e = .returned (.int .u64 (uintR r3).1) ∧ IsR 168 w' rb (uintR r3).2 ∧ Rb rb W w') := fun W _ hR => rdUint_any rb r3 W hR (by omega)
 have hz4 := uintR_size r3
 have hv4 := uintR_lt r3
 revert Hc4 hz4 hv4
 generalize uintR r3 = p4
 obtain ⟨v4, r4⟩ := p4
 intro Hc4 hz4 hv4
 dsimp only at Hc4 hz4 hv4 ⊢
 have Hc5 : Hid (∀ W, TakAt W xb sb rb k node id odd → IsR 168 W rb r4 → Calls Tryz.prog 91 #[.pointer (some ⟨xb, 0, none⟩)] W fun e w' => ∃ v, e = .returned v ∧ VarsOwn w' W.heap.size v (varsOf r4) ∧ TakAt w' xb sb rb k node id (odd || varsBad r4) ∧ IsR 168 w' rb (takeVars r4).2 ∧ But (fun b => b = rb ∨ b = xb) W w' ∧ ∀ i v, i < 5 → W.cell? ⟨xb, i, none⟩ = some v → w'.cell? ⟨xb, i, none⟩ = some v) := fun W hX hR => takVars_any xb sb rb k node id odd r4 W hX hR (by omega)
 have hz5 := takeVars_size r4
 revert Hc5 hz5
 generalize varsOf r4 = vs
 generalize varsBad r4 = vb
 generalize (takeVars r4).2 = r5
 intro Hc5 hz5
 obtain ⟨vp, vi, vt, vj, vr, vs_, vk, vl, vm, hsb, hL⟩ := hs
 obtain ⟨css, a1, a2, a3, hown⟩ := hL.listed
 obtain ⟨ak, ck, rfl⟩ := own_slice hown
 have HL := hid hL
 have Hown := hid hown
 have Hx := hid hx
 have Hsb := hid hsb
 have Hr := hid hr
 have n1 : xb ≠ rb := ty_ne hx hr (by decide)
 have n2 : sb ≠ rb := ty_ne hsb hr (by decide)
 have n7 : sb ≠ xb := ty_ne hsb hx (by decide)
 have n3 := hid (own_ne hown hx (by decide))
 have n4 := hid (own_ne hown hsb (by decide))
 have n5 := hid (own_ne hown hr (by decide))
 have n6 := hid (own_lt hown)
 have hFl : ∀ b, (b = rb ∨ b = xb ∨ ownB (.slice ak s.listed.length ck) b) → b < w.heap.size := fun b h => h.elim (fun h => h ▸ heap_lt hr) (fun h => h.elim (fun h => h ▸ heap_lt hx) (own_lt hown b))
 replace hFl := hid hFl
 have l1 := heap_lt hx
 have l2 := heap_lt hsb
 have l3 := heap_lt hr
 have A1 := hid a1
 have A2 := hid a2
 have A3 := hid a3
 clear hx hsb hr hown hL a1 a2 a3
 go_enter Tryz.func96, Tryz.ntmps96
 have HQ15 := hid (fun w' (hb : (Ps.relC (fun b => b = rb ∨ b = xb ∨ ownB (.slice ak s.listed.length ck) b) (fun b i => (b = xb ∧ i < 5) ∨ b = sb)).G w w') => And.intro (hb.2 xb 0 _ (.inl ⟨rfl, by omega⟩) (cell_of Hx.out 0)) (And.intro (hb.2 xb 1 _ (.inl ⟨rfl, by omega⟩) (cell_of Hx.out 1)) (And.intro (hb.2 xb 2 _ (.inl ⟨rfl, by omega⟩) (cell_of Hx.out 2)) (And.intro (hb.2 xb 3 _ (.inl ⟨rfl, by omega⟩) (cell_of Hx.out 3)) (And.intro (hb.2 xb 4 _ (.inl ⟨rfl, by omega⟩) (cell_of Hx.out 4)) (hb.2 sb 10 _ (.inr rfl) (cell_of Hsb.out 10)))))))
 refine Ps.wp_par (Ps.relC (fun b => b = rb ∨ b = xb ∨ ownB (.slice ak s.listed.length ck) b) (fun b i => (b = xb ∧ i < 5) ∨ b = sb)) (fun W => (TakAt W xb sb rb k node id odd ∧ IsR 168 W rb r ∧ True) ∧ W.ownsRow base 115 7 (.slice ak s.listed.length ck) s.listed.length (css.flatten)) (false :: false :: false :: false :: false :: false :: false :: false :: false :: false :: false :: false :: false :: false :: false :: false :: false :: false :: false :: false :: false :: false :: false :: true :: false :: true :: false :: true :: false :: false :: false :: false :: true :: false :: true :: false :: false :: true :: []) _ (.fix ?_ :: .fix ?_ :: .fix ?_ :: .fix ?_ :: .fix ?_ :: .fix ?_ :: .fix ?_ :: .fix ?_ :: .fix ?_ :: .fix ?_ :: .fix ?_ :: .fix ?_ :: .fix ?_ :: .fix ?_ :: .fix ?_ :: .fix ?_ :: .fix ?_ :: .fix ?_ :: .fix ?_ :: .fix ?_ :: .fix ?_ :: .fix ?_ :: .fix ?_ :: .sf (.int .u64 v1) (fun W => (TakAt W xb sb rb k node id odd ∧ IsR 168 W rb r1 ∧ True) ∧ W.ownsRow base 115 7 (.slice ak s.listed.length ck) s.listed.length (css.flatten)) :: .fix ?_ :: .sf (.string v2) (fun W => (TakAt W xb sb rb k node id odd ∧ IsR 168 W rb r2 ∧ True) ∧ W.ownsRow base 115 7 (.slice ak s.listed.length ck) s.listed.length (css.flatten)) :: .fix ?_ :: .sf (.string v3) (fun W => (TakAt W xb sb rb k node id odd ∧ IsR 168 W rb r3 ∧ True) ∧ W.ownsRow base 115 7 (.slice ak s.listed.length ck) s.listed.length (css.flatten)) :: .fix ?_ :: .fix ?_ :: .fix ?_ :: .fix ?_ :: .sf (.int .u64 v4) (fun W => (TakAt W xb sb rb k node id odd ∧ IsR 168 W rb r4 ∧ True) ∧ W.ownsRow base 115 7 (.slice ak s.listed.length ck) s.listed.length (css.flatten)) :: .fix ?_ :: .st (none) (fun uv W => VarsOwn W w.heap.size uv vs) (fun uv W => (TakAt W xb sb rb k node id (odd || vb) ∧ IsR 168 W rb r5 ∧ True) ∧ W.ownsRow base 115 7 (.slice ak s.listed.length ck) s.listed.length (css.flatten)) :: .new (fun u W => ∃ a c, u = .agg #[U k, U v1, I node, .string v2, .string v3, U v4, .slice a vs.length c] ∧ VarsOwn W w.heap.size (.slice a vs.length c) vs) :: .new (fun u W => ∃ a c, FlatAt 7 W u 1 [U k, U v1, I node, .string v2, .string v3, U v4, .slice a vs.length c] ∧ (∀ a' m c', u = .slice (some a') m c' → w.heap.size ≤ a'.block) ∧ VarsOwn W w.heap.size (.slice a vs.length c) vs) :: .st (some (s.listed.length + 1)) (fun _ _ => True) (fun u W => (TakAt W xb sb rb k node id (odd || vb) ∧ IsR 168 W rb r5 ∧ True) ∧ ∃ cs, (∃ a c, cs = [U k, U v1, I node, .string v2, .string v3, U v4, .slice a vs.length c] ∧ VarsOwn W w.heap.size (.slice a vs.length c) vs) ∧ W.ownsRow base 115 7 u (s.listed.length + 1) (css.flatten ++ cs)) :: []) (by kernel_rfl) (by kernel_rfl) (by simp only [List.length_cons, List.length_nil, List.drop_succ_cons, List.drop_zero, List.drop_nil]; with_reducible rfl) rfl (fun _ _ _ _ _ => ⟨fun h => h, fun h => h⟩) (fun _ _ h hb => ⟨⟨(hb.block xb (heap_lt h.1.1)).trans h.1.1, h.1.2.1.grow hb, trivial⟩, own_below h.2 hb⟩) (⟨⟨Hx.out, Hr.out, trivial⟩, Hown.out⟩) ?_
 rotate_left 30
 iterate 23
  first
   | (refine Ps.par_skip (a' := ?_) (by rfl) (by rfl) ?_ ?_ ?_; rotate_left 1; with_reducible rfl; (simp only [lays]; with_reducible rfl))
   | (refine Ps.par_run (a' := ?_) (by rfl) (by rfl) (fun w' hb hn => ?_) ?_ ?_; rotate_left 1; (obtain ⟨q0, q1, q2, q3, q4, q20⟩ := HQ15.out w' hb; go_simp; (try simp (disch := omega) only [nrm, toNatUp, iteOmega]); first | with_reducible rfl | (go_simp; with_reducible rfl)); (simp only [lays]; with_reducible rfl))
 refine Ps.par_sf (a' := ?_) (f := ?_) (args := ?_) (by rfl) (by rfl) (fun w' => ?_) (fun _ _ h hb => ⟨⟨(hb.block xb (heap_lt h.1.1)).trans h.1.1, h.1.2.1.grow hb, trivial⟩, own_below h.2 hb⟩) (fun w' hb hn hr => ?_) ?_ ?_; rotate_left 3; (go_simp; constructor <;> with_reducible rfl); (exact (Hc1.out w' hr.1.1 hr.1.2.1).mono (fun e w2 ⟨he, h2, b2⟩ => ⟨he, ⟨b2.mono (fun _ _ h => .inl h), fun b i v hs hc => But.cell b2 hc (by rcases hs with ⟨rfl, -⟩ | rfl <;> assumption)⟩, ⟨b2.at hr.1.1 n1, h2, trivial⟩, own_at hr.2 b2 (fun g hg he => n5.out (he ▸ hg))⟩)); (simp only [lays]; with_reducible rfl)
 iterate 1
  first
   | (refine Ps.par_skip (a' := ?_) (by rfl) (by rfl) ?_ ?_ ?_; rotate_left 1; with_reducible rfl; (simp only [lays]; with_reducible rfl))
   | (refine Ps.par_run (a' := ?_) (by rfl) (by rfl) (fun w' hb hn => ?_) ?_ ?_; rotate_left 1; (obtain ⟨q0, q1, q2, q3, q4, q20⟩ := HQ15.out w' hb; go_simp; (try simp (disch := omega) only [nrm, toNatUp, iteOmega]); first | with_reducible rfl | (go_simp; with_reducible rfl)); (simp only [lays]; with_reducible rfl))
 refine Ps.par_sf (a' := ?_) (f := ?_) (args := ?_) (by rfl) (by rfl) (fun w' => ?_) (fun _ _ h hb => ⟨⟨(hb.block xb (heap_lt h.1.1)).trans h.1.1, h.1.2.1.grow hb, trivial⟩, own_below h.2 hb⟩) (fun w' hb hn hr => ?_) ?_ ?_; rotate_left 3; (go_simp; constructor <;> with_reducible rfl); (exact (Hc2.out w' hr.1.1 hr.1.2.1).mono (fun e w2 ⟨he, h2, b2⟩ => ⟨he, ⟨b2.mono (fun _ _ h => .inl h), fun b i v hs hc => But.cell b2 hc (by rcases hs with ⟨rfl, -⟩ | rfl <;> assumption)⟩, ⟨b2.at hr.1.1 n1, h2, trivial⟩, own_at hr.2 b2 (fun g hg he => n5.out (he ▸ hg))⟩)); (simp only [lays]; with_reducible rfl)
 iterate 1
  first
   | (refine Ps.par_skip (a' := ?_) (by rfl) (by rfl) ?_ ?_ ?_; rotate_left 1; with_reducible rfl; (simp only [lays]; with_reducible rfl))
   | (refine Ps.par_run (a' := ?_) (by rfl) (by rfl) (fun w' hb hn => ?_) ?_ ?_; rotate_left 1; (obtain ⟨q0, q1, q2, q3, q4, q20⟩ := HQ15.out w' hb; go_simp; (try simp (disch := omega) only [nrm, toNatUp, iteOmega]); first | with_reducible rfl | (go_simp; with_reducible rfl)); (simp only [lays]; with_reducible rfl))
 refine Ps.par_sf (a' := ?_) (f := ?_) (args := ?_) (by rfl) (by rfl) (fun w' => ?_) (fun _ _ h hb => ⟨⟨(hb.block xb (heap_lt h.1.1)).trans h.1.1, h.1.2.1.grow hb, trivial⟩, own_below h.2 hb⟩) (fun w' hb hn hr => ?_) ?_ ?_; rotate_left 3; (go_simp; constructor <;> with_reducible rfl); (exact (Hc3.out w' hr.1.1 hr.1.2.1).mono (fun e w2 ⟨he, h2, b2⟩ => ⟨he, ⟨b2.mono (fun _ _ h => .inl h), fun b i v hs hc => But.cell b2 hc (by rcases hs with ⟨rfl, -⟩ | rfl <;> assumption)⟩, ⟨b2.at hr.1.1 n1, h2, trivial⟩, own_at hr.2 b2 (fun g hg he => n5.out (he ▸ hg))⟩)); (simp only [lays]; with_reducible rfl)
 iterate 4
  first
   | (refine Ps.par_skip (a' := ?_) (by rfl) (by rfl) ?_ ?_ ?_; rotate_left 1; with_reducible rfl; (simp only [lays]; with_reducible rfl))
   | (refine Ps.par_run (a' := ?_) (by rfl) (by rfl) (fun w' hb hn => ?_) ?_ ?_; rotate_left 1; (obtain ⟨q0, q1, q2, q3, q4, q20⟩ := HQ15.out w' hb; go_simp; (try simp (disch := omega) only [nrm, toNatUp, iteOmega]); first | with_reducible rfl | (go_simp; with_reducible rfl)); (simp only [lays]; with_reducible rfl))
 refine Ps.par_sf (a' := ?_) (f := ?_) (args := ?_) (by rfl) (by rfl) (fun w' => ?_) (fun _ _ h hb => ⟨⟨(hb.block xb (heap_lt h.1.1)).trans h.1.1, h.1.2.1.grow hb, trivial⟩, own_below h.2 hb⟩) (fun w' hb hn hr => ?_) ?_ ?_; rotate_left 3; (go_simp; constructor <;> with_reducible rfl); (exact (Hc4.out w' hr.1.1 hr.1.2.1).mono (fun e w2 ⟨he, h2, b2⟩ => ⟨he, ⟨b2.mono (fun _ _ h => .inl h), fun b i v hs hc => But.cell b2 hc (by rcases hs with ⟨rfl, -⟩ | rfl <;> assumption)⟩, ⟨b2.at hr.1.1 n1, h2, trivial⟩, own_at hr.2 b2 (fun g hg he => n5.out (he ▸ hg))⟩)); (simp only [lays]; with_reducible rfl)
 iterate 1
  first
   | (refine Ps.par_skip (a' := ?_) (by rfl) (by rfl) ?_ ?_ ?_; rotate_left 1; with_reducible rfl; (simp only [lays]; with_reducible rfl))
   | (refine Ps.par_run (a' := ?_) (by rfl) (by rfl) (fun w' hb hn => ?_) ?_ ?_; rotate_left 1; (obtain ⟨q0, q1, q2, q3, q4, q20⟩ := HQ15.out w' hb; go_simp; (try simp (disch := omega) only [nrm, toNatUp, iteOmega]); first | with_reducible rfl | (go_simp; with_reducible rfl)); (simp only [lays]; with_reducible rfl))
 refine Ps.par_stc (a' := ?ap20k34) (f := ?fp20k34) (args := ?rp20k34) (by rfl) (by rfl) (fun w' => ?ep20k34) (fun uv _ _ h hb => own_at h hb.1 (fun g hg hf => by have := (h.lt g hg).1; have := hFl.out g hf; omega)) (fun uv _ _ h hb => ⟨⟨(hb.block xb (heap_lt h.1.1)).trans h.1.1, h.1.2.1.grow hb, trivial⟩, own_below h.2 hb⟩) (fun w' hb hn hr => ?hp20k34) (fun u => ?pp20k34) (fun u34 hu34 => ?gp20k34)
 case ep20k34 => (go_simp; constructor <;> with_reducible rfl)
 case hp20k34 => (exact (Hc5.out w' hr.1.1 hr.1.2.1).mono (fun e w2 ⟨v, he, hv, h3, h2, b2, hcell⟩ => ⟨v, he, trivial, ownsRow_base hv hb.1.size, ⟨b2.mono (fun _ _ h => h.elim .inl (fun h => .inr (.inl h))), fun b i v hs hc => hs.elim (fun hs => by obtain ⟨rfl, hi⟩ := hs; exact hcell i v hi hc) (fun hs => by subst hs; exact But.cell b2 hc (fun h => h.elim n2 n7))⟩, ⟨h3, h2, trivial⟩, own_at hr.2 b2 (fun g hg he => he.elim (fun he => n5.out (he ▸ hg)) (fun he => n3.out (he ▸ hg)))⟩))
 case pp20k34 => (simp only [lays]; with_reducible rfl)
 refine Ps.par_val (a' := ?ap21k35) (by rfl) (by rfl) (fun u _ _ h hb => by obtain ⟨a, c, he, hv⟩ := h; exact ⟨a, c, he, own_at hv hb.1 (fun g hg hf => by have := (hv.lt g hg).1; have := hFl.out g hf; omega)⟩) (fun w' hb hn => ?hp21k35) (fun u => ?pp21k35) (fun u => ?gp21k35)
 case hp21k35 => (have hv := Ps.need_head hn (by kernel_rfl); obtain ⟨a, c, rfl⟩ := own_slice hv; exact ⟨_, _, (by go_simp; try with_reducible rfl), ⟨a, c, rfl, hv⟩, Below.refl _ _⟩)
 case pp21k35 => (simp only [lays]; with_reducible rfl)
 refine Ps.par_val (a' := ?ap22k36) (by rfl) (by rfl) (fun u _ _ h hb => by obtain ⟨a, c, hf, hu, hv⟩ := h; exact ⟨a, c, FlatAt.but hf hb.1 (fun a' m c' he hh => by have := hu a' m c' he; have := hFl.out _ hh; omega), hu, own_at hv hb.1 (fun g hg hf => by have := (hv.lt g hg).1; have := hFl.out g hf; omega)⟩) (fun w' hb hn => ?hp22k36) (fun u => ?pp22k36) (fun u => ?gp22k36)
 case hp22k36 => (obtain ⟨a, c, rfl, hv⟩ := Ps.need_head hn (by kernel_rfl); exact ⟨_, _, (by go_simp; try with_reducible rfl), ⟨a, c, FlatAt.made w' [U k, U v1, I node, .string v2, .string v3, U v4, .slice a vs.length c] _ rfl (by unfold maxLen; omega), fun a' m c' he => by cases he; exact hb.1.size, own_below hv ((Below.refl _ w').alloc (Nat.le_refl _) _)⟩, (Below.refl _ w').alloc (Nat.le_refl _) _⟩)
 case pp22k36 => (simp only [lays]; with_reducible rfl)
 refine Ps.par_appE (a' := ?ap23k37) (A := fun W => (TakAt W xb sb rb k node id (odd || vb) ∧ IsR 168 W rb r5 ∧ True)) (Pc := fun cs W => ∃ a c, cs = [U k, U v1, I node, .string v2, .string v3, U v4, .slice a vs.length c] ∧ VarsOwn W w.heap.size (.slice a vs.length c) vs) 30 115 Tryz.underlying30 info_listed rfl (by decide) hbase (by unfold maxLen; omega) (by omega) (fun w1 w2 h ho hb => ⟨(hb.block xb (heap_lt h.1) n3.out).trans h.1, (hb.block rb (heap_lt h.2.1) n5.out).trans h.2.1, trivial⟩) (fun _ _ h hb => ⟨(hb.block xb (heap_lt h.1)).trans h.1, h.2.1.grow hb, trivial⟩) (fun cs w1 w2 hG h ho hb => by obtain ⟨a, c, he, hv⟩ := h; exact ⟨a, c, he, own_at hv hb (own_own_ne hv ho (by decide))⟩) (fun cs w1 w2 h hb => by obtain ⟨a, c, he, hv⟩ := h; exact ⟨a, c, he, own_below hv hb⟩) (fun _ h => .inr (.inr h)) (fun b i hs hb => by rcases hs with ⟨rfl, -⟩ | rfl; exact n3.out hb; exact n4.out hb) (by rfl) rfl rfl rfl rfl (fun w' hb hn => ?xp23k37) (fun u => ?pp23k37) (fun u hu37 => ?gp23k37)
 case xp23k37 => (obtain ⟨a, c, hf, -, hv⟩ := Ps.need_head hn (by kernel_rfl); exact ⟨_, ⟨a, c, rfl, hv⟩, hf, by simp [Value.oneCell']⟩)
 case pp23k37 => (simp only [lays]; with_reducible rfl)
 obtain ⟨au37, cu37, rfl⟩ := hu37
 refine Ps.par_end (fun w9 hb9 hf9 hr9 => ?_)
 try refine Ps.wpList_none ?_
 have T9 : TyBut base [168, 81, 115] w w9 := hb9.1.mono (fun i _ hi => hi.elim (fun h => h ▸ ⟨_, _, _, Hr.out, by decide, hbr⟩) (fun h => h.elim (fun h => h ▸ ⟨_, _, _, Hx.out, by decide, hbx⟩) (fun h => own_ty Hown.out (by decide) h)))
 have Hsb9 := T9.at Hsb.out (by decide)
 have Hx9 := hid hr9.1.1
 have Hr9 := hid hr9.1.2.1
 obtain ⟨cs9, ⟨av9, cv9, rfl, hv9⟩, ho9⟩ := hr9.2
 have Hv9 := hid (ownsRow_base hv9 hbase)
 have Ho9 := hid ho9
 clear hv9 ho9
 have k9 := cell_of Hsb9 10
 have f9 := free_of Hsb9 10
 clear hb9 hf9 hr9
 go_wp2
 have hs9 := setCell_at Hsb9 10 (.slice au37 (s.listed.length + 1) cu37)
 have T10 : TyBut base [33] w9 (w9.setCell ⟨sb, 10, none⟩ (.slice au37 (s.listed.length + 1) cu37)) := TyBut.set Hsb9 (by decide) hbs 10 _
 generalize w9.setCell ⟨sb, 10, none⟩ (.slice au37 (s.listed.length + 1) cu37) = w10 at hs9 T10 ⊢
 have T : TyBut base [168, 81, 115, 33] w w10 := (T9.weak (by decide)).trans (T10.weak (by decide))
 have hL := HL.out
 go_end0
 refine ⟨rfl, T10.at Hx9.out (by decide), ⟨vp, vi, vt, vj, vr, vs_, vk, (.slice au37 (s.listed.length + 1) cu37), vm, hs9, ?_⟩, T10.at Hr9.out (by decide), T.weak (by decide)⟩
 exact ⟨hL.procs.keep DepV.ost T (by decide) (by decide) (by decide), hL.insts.keep InstV.ost T (by decide) (by decide) (by decide), hL.tokens.keep TokV.ost T (by decide) (by decide) (by decide), hL.jobs.keep JobV.ost T (by decide) (by decide) (by decide), hL.timers.keep TimV.ost T (by decide) (by decide) (by decide), hL.subs.keep SubV.ost T (by decide) (by decide) (by decide), hL.kept.keep KeptV.ost T (by decide) (by decide) (by decide), (LOwn.snoc A1.out A2.out (fun i cs x hc hx => LisV.ost _ _ _ _ _ _ (by decide) (by decide) (A3.out i cs x hc hx) T9.kept) ⟨rfl, by simp [Value.oneCell']⟩ (show LisV.ow w9 base _ ⟨k, v1, node, v2, v3, v4, vs⟩ from ⟨_, rfl, Hv9.out⟩) Ho9.out).keep LisV.ost T10 (by decide) (by decide) (by decide), hL.msgs.keep MsgV.ost T (by decide) (by decide) (by decide)⟩
theorem let7_any (xb sb rb k : Nat) (node : Int) (id : ByteArray) (odd : Bool) (s : StateV) (r : RdV) (w : World) (base : Nat) (hbase : base ≤ w.heap.size) (hbx : base ≤ xb) (hbs : base ≤ sb) (hbr : base ≤ rb) (hx : TakAt w xb sb rb k node id odd) (hs : StB w base sb s) (hr : IsR 168 w rb r)
  (hsz : r.s.size ≤ 1099511627776) (hk : k < 18446744073709551616) (hno : I64 node) (hl : s.procs.length ≤ 2097152) :
  Calls Tryz.prog 97 #[.pointer (some ⟨xb, 0, none⟩)] w fun e w' => e = .returned (.tuple #[]) ∧ TakAt w' xb sb rb k node id (odd || (stepP id s r).bad) ∧ StB w' base sb (stepP id s r).s ∧ IsR 168 w' rb (stepP id s r).r ∧ TyBut base letTs w w' := by
 obtain ⟨hno1, hno2⟩ := hno
 unfold stepP
 dsimp only
 have Hc1 : Hid (∀ W, TakAt W xb sb rb k node id odd → IsR 168 W rb r → Calls Tryz.prog 89 #[.pointer (some ⟨xb, 0, none⟩)] W fun e w' => e = .returned (.string (textR 16384 r).1) ∧ IsR 168 w' rb (textR 16384 r).2 ∧ Rb rb W w') := fun W hX hR => takText_any xb sb rb k node id odd r W hX hR (by omega)
 have hz1 := textR_sz 16384 r
 have hv1 : True := trivial
 revert Hc1 hz1 hv1
 generalize textR 16384 r = p1
 obtain ⟨v1, r1⟩ := p1
 intro Hc1 hz1 hv1
 dsimp only at Hc1 hz1 hv1 ⊢
 obtain ⟨vp, vi, vt, vj, vr, vs_, vk, vl, vm, hsb, hL⟩ := hs
 obtain ⟨css, a1, a2, a3, hown⟩ := hL.procs
 obtain ⟨ak, ck, rfl⟩ := own_slice hown
 have HL := hid hL
 have Hown := hid hown
 have Hx := hid hx
 have Hsb := hid hsb
 have Hr := hid hr
 have n1 : xb ≠ rb := ty_ne hx hr (by decide)
 have n2 : sb ≠ rb := ty_ne hsb hr (by decide)
 have n7 : sb ≠ xb := ty_ne hsb hx (by decide)
 have n3 := hid (own_ne hown hx (by decide))
 have n4 := hid (own_ne hown hsb (by decide))
 have n5 := hid (own_ne hown hr (by decide))
 have n6 := hid (own_lt hown)
 have hFl : ∀ b, (b = rb ∨ b = xb ∨ ownB (.slice ak s.procs.length ck) b) → b < w.heap.size := fun b h => h.elim (fun h => h ▸ heap_lt hr) (fun h => h.elim (fun h => h ▸ heap_lt hx) (own_lt hown b))
 replace hFl := hid hFl
 have l1 := heap_lt hx
 have l2 := heap_lt hsb
 have l3 := heap_lt hr
 have A1 := hid a1
 have A2 := hid a2
 have A3 := hid a3
 clear hx hsb hr hown hL a1 a2 a3
 go_enter Tryz.func97, Tryz.ntmps97
 have HQ24 := hid (fun w' (hb : (Ps.relC (fun b => b = rb ∨ b = xb ∨ ownB (.slice ak s.procs.length ck) b) (fun b i => (b = xb ∧ i < 5) ∨ b = sb)).G w w') => And.intro (hb.2 xb 0 _ (.inl ⟨rfl, by omega⟩) (cell_of Hx.out 0)) (And.intro (hb.2 xb 1 _ (.inl ⟨rfl, by omega⟩) (cell_of Hx.out 1)) (And.intro (hb.2 xb 2 _ (.inl ⟨rfl, by omega⟩) (cell_of Hx.out 2)) (And.intro (hb.2 xb 3 _ (.inl ⟨rfl, by omega⟩) (cell_of Hx.out 3)) (And.intro (hb.2 xb 4 _ (.inl ⟨rfl, by omega⟩) (cell_of Hx.out 4)) (hb.2 sb 3 _ (.inr rfl) (cell_of Hsb.out 3)))))))
 refine Ps.wp_par (Ps.relC (fun b => b = rb ∨ b = xb ∨ ownB (.slice ak s.procs.length ck) b) (fun b i => (b = xb ∧ i < 5) ∨ b = sb)) (fun W => (TakAt W xb sb rb k node id odd ∧ IsR 168 W rb r ∧ True) ∧ W.ownsRow base 95 2 (.slice ak s.procs.length ck) s.procs.length (css.flatten)) (false :: false :: false :: false :: false :: false :: false :: false :: false :: false :: false :: false :: false :: false :: false :: false :: true :: false :: false :: true :: []) _ (.fix ?_ :: .fix ?_ :: .fix ?_ :: .fix ?_ :: .fix ?_ :: .fix ?_ :: .fix ?_ :: .fix ?_ :: .fix ?_ :: .fix ?_ :: .fix ?_ :: .fix ?_ :: .fix ?_ :: .fix ?_ :: .fix ?_ :: .fix ?_ :: .sf (.string v1) (fun W => (TakAt W xb sb rb k node id odd ∧ IsR 168 W rb r1 ∧ True) ∧ W.ownsRow base 95 2 (.slice ak s.procs.length ck) s.procs.length (css.flatten)) :: .fix ?_ :: .new (Ps.rowN 2 ?_ ?_ w.heap.size) :: .st (some (s.procs.length + 1)) (fun _ _ => True) (fun u W => (TakAt W xb sb rb k node id odd ∧ IsR 168 W rb r1 ∧ True) ∧ W.ownsRow base 95 2 u (s.procs.length + 1) (css.flatten ++ [.string id, .string v1])) :: []) (by kernel_rfl) (by kernel_rfl) (by simp only [List.length_cons, List.length_nil, List.drop_succ_cons, List.drop_zero, List.drop_nil]; with_reducible rfl) rfl (fun _ _ _ _ _ => ⟨fun h => h, fun h => h⟩) (fun _ _ h hb => ⟨⟨(hb.block xb (heap_lt h.1.1)).trans h.1.1, h.1.2.1.grow hb, trivial⟩, own_below h.2 hb⟩) (⟨⟨Hx.out, Hr.out, trivial⟩, Hown.out⟩) ?_
 rotate_left 19
 iterate 16
  first
   | (refine Ps.par_skip (a' := ?_) (by rfl) (by rfl) ?_ ?_ ?_; rotate_left 1; with_reducible rfl; (simp only [lays]; with_reducible rfl))
   | (refine Ps.par_run (a' := ?_) (by rfl) (by rfl) (fun w' hb hn => ?_) ?_ ?_; rotate_left 1; (obtain ⟨q0, q1, q2, q3, q4, q13⟩ := HQ24.out w' hb; go_simp; (try simp (disch := omega) only [nrm, toNatUp, iteOmega]); first | with_reducible rfl | (go_simp; with_reducible rfl)); (simp only [lays]; with_reducible rfl))
 refine Ps.par_sf (a' := ?_) (f := ?_) (args := ?_) (by rfl) (by rfl) (fun w' => ?_) (fun _ _ h hb => ⟨⟨(hb.block xb (heap_lt h.1.1)).trans h.1.1, h.1.2.1.grow hb, trivial⟩, own_below h.2 hb⟩) (fun w' hb hn hr => ?_) ?_ ?_; rotate_left 3; (go_simp; constructor <;> with_reducible rfl); (exact (Hc1.out w' hr.1.1 hr.1.2.1).mono (fun e w2 ⟨he, h2, b2⟩ => ⟨he, ⟨b2.mono (fun _ _ h => .inl h), fun b i v hs hc => But.cell b2 hc (by rcases hs with ⟨rfl, -⟩ | rfl <;> assumption)⟩, ⟨b2.at hr.1.1 n1, h2, trivial⟩, own_at hr.2 b2 (fun g hg he => n5.out (he ▸ hg))⟩)); (simp only [lays]; with_reducible rfl)
 iterate 1
  first
   | (refine Ps.par_skip (a' := ?_) (by rfl) (by rfl) ?_ ?_ ?_; rotate_left 1; with_reducible rfl; (simp only [lays]; with_reducible rfl))
   | (refine Ps.par_run (a' := ?_) (by rfl) (by rfl) (fun w' hb hn => ?_) ?_ ?_; rotate_left 1; (obtain ⟨q0, q1, q2, q3, q4, q13⟩ := HQ24.out w' hb; go_simp; (try simp (disch := omega) only [nrm, toNatUp, iteOmega]); first | with_reducible rfl | (go_simp; with_reducible rfl)); (simp only [lays]; with_reducible rfl))
 refine Ps.par_row (a' := ?ap26k18) (m := ?mp26k18) (T := ?Tp26k18) (cs := ?cp26k18) (r := ?rp26k18) (fun b h => h.elim (fun h => by omega) (fun h => h.elim (fun h => by omega) (n6.out b))) (by rfl) (by rfl) (fun w' hb hn => ?hp26k18) (fun w' => ?ep26k18) ?np26k18 ?vp26k18 ?lp26k18 ?xp26k18 (fun u => ?pp26k18) (fun u => ?gp26k18)
 case hp26k18 => (obtain ⟨q0, q1, q2, q3, q4, q13⟩ := HQ24.out w' hb; go_simp; (try simp (disch := omega) only [nrm, toNatUp, iteOmega]); with_reducible rfl)
 case ep26k18 => with_reducible rfl
 case np26k18 => with_reducible rfl
 case vp26k18 => with_reducible rfl
 case lp26k18 => simp only [List.length_cons, List.length_nil]
 case xp26k18 => (unfold maxLen; omega)
 case pp26k18 => (simp only [lays]; with_reducible rfl)
 refine Ps.par_app (a' := ?ap27k19) (A := fun W => (TakAt W xb sb rb k node id odd ∧ IsR 168 W rb r1 ∧ True)) 23 95 Tryz.underlying23 info_procs rfl (by decide) hbase (by unfold maxLen; omega) (by omega) (by simp [Value.oneCell']) (fun w1 w2 h ho hb => ⟨(hb.block xb (heap_lt h.1) n3.out).trans h.1, (hb.block rb (heap_lt h.2.1) n5.out).trans h.2.1, trivial⟩) (fun _ _ h hb => ⟨(hb.block xb (heap_lt h.1)).trans h.1, h.2.1.grow hb, trivial⟩) (fun _ h => .inr (.inr h)) (fun b i hs hb => by rcases hs with ⟨rfl, -⟩ | rfl; exact n3.out hb; exact n4.out hb) (by rfl) rfl rfl rfl rfl (fun w' hb hn => ?xp27k19) (fun u => ?pp27k19) (fun u hu19 => ?gp27k19)
 case xp27k19 => (exact (Ps.need_head hn (by kernel_rfl)).1)
 case pp27k19 => (simp only [lays]; with_reducible rfl)
 obtain ⟨au19, cu19, rfl⟩ := hu19
 refine Ps.par_end (fun w9 hb9 hf9 hr9 => ?_)
 try refine Ps.wpList_none ?_
 have T9 : TyBut base [168, 81, 95] w w9 := hb9.1.mono (fun i _ hi => hi.elim (fun h => h ▸ ⟨_, _, _, Hr.out, by decide, hbr⟩) (fun h => h.elim (fun h => h ▸ ⟨_, _, _, Hx.out, by decide, hbx⟩) (fun h => own_ty Hown.out (by decide) h)))
 have Hsb9 := T9.at Hsb.out (by decide)
 have Hx9 := hid hr9.1.1
 have Hr9 := hid hr9.1.2.1
 have Ho9 := hid hr9.2
 have k9 := cell_of Hsb9 3
 have f9 := free_of Hsb9 3
 clear hb9 hf9 hr9
 go_wp2
 have hs9 := setCell_at Hsb9 3 (.slice au19 (s.procs.length + 1) cu19)
 have T10 : TyBut base [33] w9 (w9.setCell ⟨sb, 3, none⟩ (.slice au19 (s.procs.length + 1) cu19)) := TyBut.set Hsb9 (by decide) hbs 3 _
 generalize w9.setCell ⟨sb, 3, none⟩ (.slice au19 (s.procs.length + 1) cu19) = w10 at hs9 T10 ⊢
 have T : TyBut base [168, 81, 95, 33] w w10 := (T9.weak (by decide)).trans (T10.weak (by decide))
 have hL := HL.out
 go_end0
 refine ⟨rfl, by rw [Bool.or_false]; exact T10.at Hx9.out (by decide), ⟨(.slice au19 (s.procs.length + 1) cu19), vi, vt, vj, vr, vs_, vk, vl, vm, hs9, ?_⟩, T10.at Hr9.out (by decide), T.weak (by decide)⟩
 exact ⟨(LOwn.snoc A1.out A2.out (fun i cs x hc hx => DepV.ost _ _ _ _ _ _ (by decide) (by decide) (A3.out i cs x hc hx) T9.kept) ⟨rfl, by simp [Value.oneCell']⟩ rfl Ho9.out).keep DepV.ost T10 (by decide) (by decide) (by decide), hL.insts.keep InstV.ost T (by decide) (by decide) (by decide), hL.tokens.keep TokV.ost T (by decide) (by decide) (by decide), hL.jobs.keep JobV.ost T (by decide) (by decide) (by decide), hL.timers.keep TimV.ost T (by decide) (by decide) (by decide), hL.subs.keep SubV.ost T (by decide) (by decide) (by decide), hL.kept.keep KeptV.ost T (by decide) (by decide) (by decide), hL.listed.keep LisV.ost T (by decide) (by decide) (by decide), hL.msgs.keep MsgV.ost T (by decide) (by decide) (by decide)⟩
theorem let8_any (xb sb rb k : Nat) (node : Int) (id : ByteArray) (odd : Bool) (s : StateV) (r : RdV) (w : World) (base : Nat) (hbase : base ≤ w.heap.size) (hbx : base ≤ xb) (hbs : base ≤ sb) (hbr : base ≤ rb) (hx : TakAt w xb sb rb k node id odd) (hs : StB w base sb s) (hr : IsR 168 w rb r)
  (hsz : r.s.size ≤ 1099511627776) (hk : k < 18446744073709551616) (hno : I64 node) (hl : s.timers.length ≤ 2097152) :
  Calls Tryz.prog 98 #[.pointer (some ⟨xb, 0, none⟩)] w fun e w' => e = .returned (.tuple #[]) ∧ TakAt w' xb sb rb k node id (odd || (stepR k node s r).bad) ∧ StB w' base sb (stepR k node s r).s ∧ IsR 168 w' rb (stepR k node s r).r ∧ TyBut base letTs w w' := by
 obtain ⟨hno1, hno2⟩ := hno
 unfold stepR
 dsimp only
 have Hc1 : Hid (∀ W, TakAt W xb sb rb k node id odd → IsR 168 W rb r → Calls Tryz.prog 90 #[.pointer (some ⟨rb, 0, none⟩)] W fun e w' => e = .returned (.int .i64 (intR r).1) ∧ IsR 168 w' rb (intR r).2 ∧ Rb rb W w') := fun W _ hR => rdInt_any rb r W hR (by omega)
 have hz1 := intR_size r
 have hv1 := intR_in r
 revert Hc1 hz1 hv1
 generalize intR r = p1
 obtain ⟨v1, r1⟩ := p1
 intro Hc1 hz1 hv1
 dsimp only at Hc1 hz1 hv1 ⊢
 obtain ⟨hv1a, hv1b⟩ := hv1
 obtain ⟨vp, vi, vt, vj, vr, vs_, vk, vl, vm, hsb, hL⟩ := hs
 obtain ⟨css, a1, a2, a3, hown⟩ := hL.timers
 obtain ⟨ak, ck, rfl⟩ := own_slice hown
 have HL := hid hL
 have Hown := hid hown
 have Hx := hid hx
 have Hsb := hid hsb
 have Hr := hid hr
 have n1 : xb ≠ rb := ty_ne hx hr (by decide)
 have n2 : sb ≠ rb := ty_ne hsb hr (by decide)
 have n7 : sb ≠ xb := ty_ne hsb hx (by decide)
 have n3 := hid (own_ne hown hx (by decide))
 have n4 := hid (own_ne hown hsb (by decide))
 have n5 := hid (own_ne hown hr (by decide))
 have n6 := hid (own_lt hown)
 have hFl : ∀ b, (b = rb ∨ b = xb ∨ ownB (.slice ak s.timers.length ck) b) → b < w.heap.size := fun b h => h.elim (fun h => h ▸ heap_lt hr) (fun h => h.elim (fun h => h ▸ heap_lt hx) (own_lt hown b))
 replace hFl := hid hFl
 have l1 := heap_lt hx
 have l2 := heap_lt hsb
 have l3 := heap_lt hr
 have A1 := hid a1
 have A2 := hid a2
 have A3 := hid a3
 clear hx hsb hr hown hL a1 a2 a3
 go_enter Tryz.func98, Tryz.ntmps98
 have HQ28 := hid (fun w' (hb : (Ps.relC (fun b => b = rb ∨ b = xb ∨ ownB (.slice ak s.timers.length ck) b) (fun b i => (b = xb ∧ i < 5) ∨ b = sb)).G w w') => And.intro (hb.2 xb 0 _ (.inl ⟨rfl, by omega⟩) (cell_of Hx.out 0)) (And.intro (hb.2 xb 1 _ (.inl ⟨rfl, by omega⟩) (cell_of Hx.out 1)) (And.intro (hb.2 xb 2 _ (.inl ⟨rfl, by omega⟩) (cell_of Hx.out 2)) (And.intro (hb.2 xb 3 _ (.inl ⟨rfl, by omega⟩) (cell_of Hx.out 3)) (And.intro (hb.2 xb 4 _ (.inl ⟨rfl, by omega⟩) (cell_of Hx.out 4)) (hb.2 sb 7 _ (.inr rfl) (cell_of Hsb.out 7)))))))
 refine Ps.wp_par (Ps.relC (fun b => b = rb ∨ b = xb ∨ ownB (.slice ak s.timers.length ck) b) (fun b i => (b = xb ∧ i < 5) ∨ b = sb)) (fun W => (TakAt W xb sb rb k node id odd ∧ IsR 168 W rb r ∧ True) ∧ W.ownsRow base 109 3 (.slice ak s.timers.length ck) s.timers.length (css.flatten)) (false :: false :: false :: false :: false :: false :: false :: false :: false :: false :: false :: false :: false :: false :: false :: false :: false :: false :: false :: false :: false :: false :: false :: true :: false :: false :: true :: []) _ (.fix ?_ :: .fix ?_ :: .fix ?_ :: .fix ?_ :: .fix ?_ :: .fix ?_ :: .fix ?_ :: .fix ?_ :: .fix ?_ :: .fix ?_ :: .fix ?_ :: .fix ?_ :: .fix ?_ :: .fix ?_ :: .fix ?_ :: .fix ?_ :: .fix ?_ :: .fix ?_ :: .fix ?_ :: .fix ?_ :: .fix ?_ :: .fix ?_ :: .fix ?_ :: .sf (.int .i64 v1) (fun W => (TakAt W xb sb rb k node id odd ∧ IsR 168 W rb r1 ∧ True) ∧ W.ownsRow base 109 3 (.slice ak s.timers.length ck) s.timers.length (css.flatten)) :: .fix ?_ :: .new (Ps.rowN 3 ?_ ?_ w.heap.size) :: .st (some (s.timers.length + 1)) (fun _ _ => True) (fun u W => (TakAt W xb sb rb k node id odd ∧ IsR 168 W rb r1 ∧ True) ∧ W.ownsRow base 109 3 u (s.timers.length + 1) (css.flatten ++ [U k, I node, I v1])) :: []) (by kernel_rfl) (by kernel_rfl) (by simp only [List.length_cons, List.length_nil, List.drop_succ_cons, List.drop_zero, List.drop_nil]; with_reducible rfl) rfl (fun _ _ _ _ _ => ⟨fun h => h, fun h => h⟩) (fun _ _ h hb => ⟨⟨(hb.block xb (heap_lt h.1.1)).trans h.1.1, h.1.2.1.grow hb, trivial⟩, own_below h.2 hb⟩) (⟨⟨Hx.out, Hr.out, trivial⟩, Hown.out⟩) ?_
 rotate_left 26
 iterate 23
  first
   | (refine Ps.par_skip (a' := ?_) (by rfl) (by rfl) ?_ ?_ ?_; rotate_left 1; with_reducible rfl; (simp only [lays]; with_reducible rfl))
   | (refine Ps.par_run (a' := ?_) (by rfl) (by rfl) (fun w' hb hn => ?_) ?_ ?_; rotate_left 1; (obtain ⟨q0, q1, q2, q3, q4, q17⟩ := HQ28.out w' hb; go_simp; (try simp (disch := omega) only [nrm, toNatUp, iteOmega]); first | with_reducible rfl | (go_simp; with_reducible rfl)); (simp only [lays]; with_reducible rfl))
 refine Ps.par_sf (a' := ?_) (f := ?_) (args := ?_) (by rfl) (by rfl) (fun w' => ?_) (fun _ _ h hb => ⟨⟨(hb.block xb (heap_lt h.1.1)).trans h.1.1, h.1.2.1.grow hb, trivial⟩, own_below h.2 hb⟩) (fun w' hb hn hr => ?_) ?_ ?_; rotate_left 3; (go_simp; constructor <;> with_reducible rfl); (exact (Hc1.out w' hr.1.1 hr.1.2.1).mono (fun e w2 ⟨he, h2, b2⟩ => ⟨he, ⟨b2.mono (fun _ _ h => .inl h), fun b i v hs hc => But.cell b2 hc (by rcases hs with ⟨rfl, -⟩ | rfl <;> assumption)⟩, ⟨b2.at hr.1.1 n1, h2, trivial⟩, own_at hr.2 b2 (fun g hg he => n5.out (he ▸ hg))⟩)); (simp only [lays]; with_reducible rfl)
 iterate 1
  first
   | (refine Ps.par_skip (a' := ?_) (by rfl) (by rfl) ?_ ?_ ?_; rotate_left 1; with_reducible rfl; (simp only [lays]; with_reducible rfl))
   | (refine Ps.par_run (a' := ?_) (by rfl) (by rfl) (fun w' hb hn => ?_) ?_ ?_; rotate_left 1; (obtain ⟨q0, q1, q2, q3, q4, q17⟩ := HQ28.out w' hb; go_simp; (try simp (disch := omega) only [nrm, toNatUp, iteOmega]); first | with_reducible rfl | (go_simp; with_reducible rfl)); (simp only [lays]; with_reducible rfl))
 refine Ps.par_row (a' := ?ap30k25) (m := ?mp30k25) (T := ?Tp30k25) (cs := ?cp30k25) (r := ?rp30k25) (fun b h => h.elim (fun h => by omega) (fun h => h.elim (fun h => by omega) (n6.out b))) (by rfl) (by rfl) (fun w' hb hn => ?hp30k25) (fun w' => ?ep30k25) ?np30k25 ?vp30k25 ?lp30k25 ?xp30k25 (fun u => ?pp30k25) (fun u => ?gp30k25)
 case hp30k25 => (obtain ⟨q0, q1, q2, q3, q4, q17⟩ := HQ28.out w' hb; go_simp; (try simp (disch := omega) only [nrm, toNatUp, iteOmega]); with_reducible rfl)
 case ep30k25 => with_reducible rfl
 case np30k25 => with_reducible rfl
 case vp30k25 => with_reducible rfl
 case lp30k25 => simp only [List.length_cons, List.length_nil]
 case xp30k25 => (unfold maxLen; omega)
 case pp30k25 => (simp only [lays]; with_reducible rfl)
 refine Ps.par_app (a' := ?ap31k26) (A := fun W => (TakAt W xb sb rb k node id odd ∧ IsR 168 W rb r1 ∧ True)) 27 109 Tryz.underlying27 info_timers rfl (by decide) hbase (by unfold maxLen; omega) (by omega) (by simp [Value.oneCell']) (fun w1 w2 h ho hb => ⟨(hb.block xb (heap_lt h.1) n3.out).trans h.1, (hb.block rb (heap_lt h.2.1) n5.out).trans h.2.1, trivial⟩) (fun _ _ h hb => ⟨(hb.block xb (heap_lt h.1)).trans h.1, h.2.1.grow hb, trivial⟩) (fun _ h => .inr (.inr h)) (fun b i hs hb => by rcases hs with ⟨rfl, -⟩ | rfl; exact n3.out hb; exact n4.out hb) (by rfl) rfl rfl rfl rfl (fun w' hb hn => ?xp31k26) (fun u => ?pp31k26) (fun u hu26 => ?gp31k26)
 case xp31k26 => (exact (Ps.need_head hn (by kernel_rfl)).1)
 case pp31k26 => (simp only [lays]; with_reducible rfl)
 obtain ⟨au26, cu26, rfl⟩ := hu26
 refine Ps.par_end (fun w9 hb9 hf9 hr9 => ?_)
 try refine Ps.wpList_none ?_
 have T9 : TyBut base [168, 81, 109] w w9 := hb9.1.mono (fun i _ hi => hi.elim (fun h => h ▸ ⟨_, _, _, Hr.out, by decide, hbr⟩) (fun h => h.elim (fun h => h ▸ ⟨_, _, _, Hx.out, by decide, hbx⟩) (fun h => own_ty Hown.out (by decide) h)))
 have Hsb9 := T9.at Hsb.out (by decide)
 have Hx9 := hid hr9.1.1
 have Hr9 := hid hr9.1.2.1
 have Ho9 := hid hr9.2
 have k9 := cell_of Hsb9 7
 have f9 := free_of Hsb9 7
 clear hb9 hf9 hr9
 go_wp2
 have hs9 := setCell_at Hsb9 7 (.slice au26 (s.timers.length + 1) cu26)
 have T10 : TyBut base [33] w9 (w9.setCell ⟨sb, 7, none⟩ (.slice au26 (s.timers.length + 1) cu26)) := TyBut.set Hsb9 (by decide) hbs 7 _
 generalize w9.setCell ⟨sb, 7, none⟩ (.slice au26 (s.timers.length + 1) cu26) = w10 at hs9 T10 ⊢
 have T : TyBut base [168, 81, 109, 33] w w10 := (T9.weak (by decide)).trans (T10.weak (by decide))
 have hL := HL.out
 go_end0
 refine ⟨rfl, by rw [Bool.or_false]; exact T10.at Hx9.out (by decide), ⟨vp, vi, vt, vj, (.slice au26 (s.timers.length + 1) cu26), vs_, vk, vl, vm, hs9, ?_⟩, T10.at Hr9.out (by decide), T.weak (by decide)⟩
 exact ⟨hL.procs.keep DepV.ost T (by decide) (by decide) (by decide), hL.insts.keep InstV.ost T (by decide) (by decide) (by decide), hL.tokens.keep TokV.ost T (by decide) (by decide) (by decide), hL.jobs.keep JobV.ost T (by decide) (by decide) (by decide), (LOwn.snoc A1.out A2.out (fun i cs x hc hx => TimV.ost _ _ _ _ _ _ (by decide) (by decide) (A3.out i cs x hc hx) T9.kept) ⟨rfl, by simp [Value.oneCell']⟩ rfl Ho9.out).keep TimV.ost T10 (by decide) (by decide) (by decide), hL.subs.keep SubV.ost T (by decide) (by decide) (by decide), hL.kept.keep KeptV.ost T (by decide) (by decide) (by decide), hL.listed.keep LisV.ost T (by decide) (by decide) (by decide), hL.msgs.keep MsgV.ost T (by decide) (by decide) (by decide)⟩
theorem let10_any (xb sb rb k : Nat) (node : Int) (id : ByteArray) (odd : Bool) (s : StateV) (r : RdV) (w : World) (base : Nat) (hbase : base ≤ w.heap.size) (hbx : base ≤ xb) (hbs : base ≤ sb) (hbr : base ≤ rb) (hx : TakAt w xb sb rb k node id odd) (hs : StB w base sb s) (hr : IsR 168 w rb r)
  (hsz : r.s.size ≤ 1099511627776) (hk : k < 18446744073709551616) (hno : I64 node) (hl : s.tokens.length ≤ 2097152) :
  Calls Tryz.prog 100 #[.pointer (some ⟨xb, 0, none⟩)] w fun e w' => e = .returned (.tuple #[]) ∧ TakAt w' xb sb rb k node id (odd || (stepT k s r).bad) ∧ StB w' base sb (stepT k s r).s ∧ IsR 168 w' rb (stepT k s r).r ∧ TyBut base letTs w w' := by
 obtain ⟨hno1, hno2⟩ := hno
 unfold stepT
 dsimp only
 have Hc1 : Hid (∀ W, TakAt W xb sb rb k node id odd → IsR 168 W rb r → Calls Tryz.prog 87 #[.pointer (some ⟨rb, 0, none⟩)] W fun e w' => e = .returned (.int .u64 (uintR r).1) ∧ IsR 168 w' rb (uintR r).2 ∧ Rb rb W w') := fun W _ hR => rdUint_any rb r W hR (by omega)
 have hz1 := uintR_size r
 have hv1 := uintR_lt r
 revert Hc1 hz1 hv1
 generalize uintR r = p1
 obtain ⟨v1, r1⟩ := p1
 intro Hc1 hz1 hv1
 dsimp only at Hc1 hz1 hv1 ⊢
 have Hc2 : Hid (∀ W, TakAt W xb sb rb k node id odd → IsR 168 W rb r1 → Calls Tryz.prog 87 #[.pointer (some ⟨rb, 0, none⟩)] W fun e w' => e = .returned (.int .u64 (uintR r1).1) ∧ IsR 168 w' rb (uintR r1).2 ∧ Rb rb W w') := fun W _ hR => rdUint_any rb r1 W hR (by omega)
 have hz2 := uintR_size r1
 have hv2 := uintR_lt r1
 revert Hc2 hz2 hv2
 generalize uintR r1 = p2
 obtain ⟨v2, r2⟩ := p2
 intro Hc2 hz2 hv2
 dsimp only at Hc2 hz2 hv2 ⊢
 have Hc3 : Hid (∀ W, TakAt W xb sb rb k node id odd → IsR 168 W rb r2 → Calls Tryz.prog 90 #[.pointer (some ⟨rb, 0, none⟩)] W fun e w' => e = .returned (.int .i64 (intR r2).1) ∧ IsR 168 w' rb (intR r2).2 ∧ Rb rb W w') := fun W _ hR => rdInt_any rb r2 W hR (by omega)
 have hz3 := intR_size r2
 have hv3 := intR_in r2
 revert Hc3 hz3 hv3
 generalize intR r2 = p3
 obtain ⟨v3, r3⟩ := p3
 intro Hc3 hz3 hv3
 dsimp only at Hc3 hz3 hv3 ⊢
 obtain ⟨hv3a, hv3b⟩ := hv3
 have Hc4 : Hid (∀ W, TakAt W xb sb rb k node id odd → IsR 168 W rb r3 → Calls Tryz.prog 90 #[.pointer (some ⟨rb, 0, none⟩)] W fun e w' => e = .returned (.int .i64 (intR r3).1) ∧ IsR 168 w' rb (intR r3).2 ∧ Rb rb W w') := fun W _ hR => rdInt_any rb r3 W hR (by omega)
 have hz4 := intR_size r3
 have hv4 := intR_in r3
 revert Hc4 hz4 hv4
 generalize intR r3 = p4
 obtain ⟨v4, r4⟩ := p4
 intro Hc4 hz4 hv4
 dsimp only at Hc4 hz4 hv4 ⊢
 obtain ⟨hv4a, hv4b⟩ := hv4
 have Hc5 : Hid (∀ W, TakAt W xb sb rb k node id odd → IsR 168 W rb r4 → Calls Tryz.prog 89 #[.pointer (some ⟨xb, 0, none⟩)] W fun e w' => e = .returned (.string (textR 16384 r4).1) ∧ IsR 168 w' rb (textR 16384 r4).2 ∧ Rb rb W w') := fun W hX hR => takText_any xb sb rb k node id odd r4 W hX hR (by omega)
 have hz5 := textR_sz 16384 r4
 have hv5 : True := trivial
 revert Hc5 hz5 hv5
 generalize textR 16384 r4 = p5
 obtain ⟨v5, r5⟩ := p5
 intro Hc5 hz5 hv5
 dsimp only at Hc5 hz5 hv5 ⊢
 obtain ⟨vp, vi, vt, vj, vr, vs_, vk, vl, vm, hsb, hL⟩ := hs
 obtain ⟨css, a1, a2, a3, hown⟩ := hL.tokens
 obtain ⟨ak, ck, rfl⟩ := own_slice hown
 have HL := hid hL
 have Hown := hid hown
 have Hx := hid hx
 have Hsb := hid hsb
 have Hr := hid hr
 have n1 : xb ≠ rb := ty_ne hx hr (by decide)
 have n2 : sb ≠ rb := ty_ne hsb hr (by decide)
 have n7 : sb ≠ xb := ty_ne hsb hx (by decide)
 have n3 := hid (own_ne hown hx (by decide))
 have n4 := hid (own_ne hown hsb (by decide))
 have n5 := hid (own_ne hown hr (by decide))
 have n6 := hid (own_lt hown)
 have hFl : ∀ b, (b = rb ∨ b = xb ∨ ownB (.slice ak s.tokens.length ck) b) → b < w.heap.size := fun b h => h.elim (fun h => h ▸ heap_lt hr) (fun h => h.elim (fun h => h ▸ heap_lt hx) (own_lt hown b))
 replace hFl := hid hFl
 have l1 := heap_lt hx
 have l2 := heap_lt hsb
 have l3 := heap_lt hr
 have A1 := hid a1
 have A2 := hid a2
 have A3 := hid a3
 clear hx hsb hr hown hL a1 a2 a3
 go_enter Tryz.func100, Tryz.ntmps100
 have HQ32 := hid (fun w' (hb : (Ps.relC (fun b => b = rb ∨ b = xb ∨ ownB (.slice ak s.tokens.length ck) b) (fun b i => (b = xb ∧ i < 5) ∨ b = sb)).G w w') => And.intro (hb.2 xb 0 _ (.inl ⟨rfl, by omega⟩) (cell_of Hx.out 0)) (And.intro (hb.2 xb 1 _ (.inl ⟨rfl, by omega⟩) (cell_of Hx.out 1)) (And.intro (hb.2 xb 2 _ (.inl ⟨rfl, by omega⟩) (cell_of Hx.out 2)) (And.intro (hb.2 xb 3 _ (.inl ⟨rfl, by omega⟩) (cell_of Hx.out 3)) (And.intro (hb.2 xb 4 _ (.inl ⟨rfl, by omega⟩) (cell_of Hx.out 4)) (hb.2 sb 5 _ (.inr rfl) (cell_of Hsb.out 5)))))))
 refine Ps.wp_par (Ps.relC (fun b => b = rb ∨ b = xb ∨ ownB (.slice ak s.tokens.length ck) b) (fun b i => (b = xb ∧ i < 5) ∨ b = sb)) (fun W => (TakAt W xb sb rb k node id odd ∧ IsR 168 W rb r ∧ True) ∧ W.ownsRow base 105 6 (.slice ak s.tokens.length ck) s.tokens.length (css.flatten)) (false :: false :: false :: false :: false :: false :: false :: false :: false :: false :: false :: false :: false :: false :: false :: false :: false :: false :: false :: true :: false :: false :: false :: false :: true :: false :: false :: false :: false :: true :: false :: false :: false :: false :: true :: false :: true :: false :: false :: true :: []) _ (.fix ?_ :: .fix ?_ :: .fix ?_ :: .fix ?_ :: .fix ?_ :: .fix ?_ :: .fix ?_ :: .fix ?_ :: .fix ?_ :: .fix ?_ :: .fix ?_ :: .fix ?_ :: .fix ?_ :: .fix ?_ :: .fix ?_ :: .fix ?_ :: .fix ?_ :: .fix ?_ :: .fix ?_ :: .sf (.int .u64 v1) (fun W => (TakAt W xb sb rb k node id odd ∧ IsR 168 W rb r1 ∧ True) ∧ W.ownsRow base 105 6 (.slice ak s.tokens.length ck) s.tokens.length (css.flatten)) :: .fix ?_ :: .fix ?_ :: .fix ?_ :: .fix ?_ :: .sf (.int .u64 v2) (fun W => (TakAt W xb sb rb k node id odd ∧ IsR 168 W rb r2 ∧ True) ∧ W.ownsRow base 105 6 (.slice ak s.tokens.length ck) s.tokens.length (css.flatten)) :: .fix ?_ :: .fix ?_ :: .fix ?_ :: .fix ?_ :: .sf (.int .i64 v3) (fun W => (TakAt W xb sb rb k node id odd ∧ IsR 168 W rb r3 ∧ True) ∧ W.ownsRow base 105 6 (.slice ak s.tokens.length ck) s.tokens.length (css.flatten)) :: .fix ?_ :: .fix ?_ :: .fix ?_ :: .fix ?_ :: .sf (.int .i64 v4) (fun W => (TakAt W xb sb rb k node id odd ∧ IsR 168 W rb r4 ∧ True) ∧ W.ownsRow base 105 6 (.slice ak s.tokens.length ck) s.tokens.length (css.flatten)) :: .fix ?_ :: .sf (.string v5) (fun W => (TakAt W xb sb rb k node id odd ∧ IsR 168 W rb r5 ∧ True) ∧ W.ownsRow base 105 6 (.slice ak s.tokens.length ck) s.tokens.length (css.flatten)) :: .fix ?_ :: .new (Ps.rowN 6 ?_ ?_ w.heap.size) :: .st (some (s.tokens.length + 1)) (fun _ _ => True) (fun u W => (TakAt W xb sb rb k node id odd ∧ IsR 168 W rb r5 ∧ True) ∧ W.ownsRow base 105 6 u (s.tokens.length + 1) (css.flatten ++ [U k, U v1, U v2, I v3, I v4, .string v5])) :: []) (by kernel_rfl) (by kernel_rfl) (by simp only [List.length_cons, List.length_nil, List.drop_succ_cons, List.drop_zero, List.drop_nil]; with_reducible rfl) rfl (fun _ _ _ _ _ => ⟨fun h => h, fun h => h⟩) (fun _ _ h hb => ⟨⟨(hb.block xb (heap_lt h.1.1)).trans h.1.1, h.1.2.1.grow hb, trivial⟩, own_below h.2 hb⟩) (⟨⟨Hx.out, Hr.out, trivial⟩, Hown.out⟩) ?_
 rotate_left 35
 iterate 19
  first
   | (refine Ps.par_skip (a' := ?_) (by rfl) (by rfl) ?_ ?_ ?_; rotate_left 1; with_reducible rfl; (simp only [lays]; with_reducible rfl))
   | (refine Ps.par_run (a' := ?_) (by rfl) (by rfl) (fun w' hb hn => ?_) ?_ ?_; rotate_left 1; (obtain ⟨q0, q1, q2, q3, q4, q15⟩ := HQ32.out w' hb; go_simp; (try simp (disch := omega) only [nrm, toNatUp, iteOmega]); first | with_reducible rfl | (go_simp; with_reducible rfl)); (simp only [lays]; with_reducible rfl))
 refine Ps.par_sf (a' := ?_) (f := ?_) (args := ?_) (by rfl) (by rfl) (fun w' => ?_) (fun _ _ h hb => ⟨⟨(hb.block xb (heap_lt h.1.1)).trans h.1.1, h.1.2.1.grow hb, trivial⟩, own_below h.2 hb⟩) (fun w' hb hn hr => ?_) ?_ ?_; rotate_left 3; (go_simp; constructor <;> with_reducible rfl); (exact (Hc1.out w' hr.1.1 hr.1.2.1).mono (fun e w2 ⟨he, h2, b2⟩ => ⟨he, ⟨b2.mono (fun _ _ h => .inl h), fun b i v hs hc => But.cell b2 hc (by rcases hs with ⟨rfl, -⟩ | rfl <;> assumption)⟩, ⟨b2.at hr.1.1 n1, h2, trivial⟩, own_at hr.2 b2 (fun g hg he => n5.out (he ▸ hg))⟩)); (simp only [lays]; with_reducible rfl)
 iterate 4
  first
   | (refine Ps.par_skip (a' := ?_) (by rfl) (by rfl) ?_ ?_ ?_; rotate_left 1; with_reducible rfl; (simp only [lays]; with_reducible rfl))
   | (refine Ps.par_run (a' := ?_) (by rfl) (by rfl) (fun w' hb hn => ?_) ?_ ?_; rotate_left 1; (obtain ⟨q0, q1, q2, q3, q4, q15⟩ := HQ32.out w' hb; go_simp; (try simp (disch := omega) only [nrm, toNatUp, iteOmega]); first | with_reducible rfl | (go_simp; with_reducible rfl)); (simp only [lays]; with_reducible rfl))
 refine Ps.par_sf (a' := ?_) (f := ?_) (args := ?_) (by rfl) (by rfl) (fun w' => ?_) (fun _ _ h hb => ⟨⟨(hb.block xb (heap_lt h.1.1)).trans h.1.1, h.1.2.1.grow hb, trivial⟩, own_below h.2 hb⟩) (fun w' hb hn hr => ?_) ?_ ?_; rotate_left 3; (go_simp; constructor <;> with_reducible rfl); (exact (Hc2.out w' hr.1.1 hr.1.2.1).mono (fun e w2 ⟨he, h2, b2⟩ => ⟨he, ⟨b2.mono (fun _ _ h => .inl h), fun b i v hs hc => But.cell b2 hc (by rcases hs with ⟨rfl, -⟩ | rfl <;> assumption)⟩, ⟨b2.at hr.1.1 n1, h2, trivial⟩, own_at hr.2 b2 (fun g hg he => n5.out (he ▸ hg))⟩)); (simp only [lays]; with_reducible rfl)
 iterate 4
  first
   | (refine Ps.par_skip (a' := ?_) (by rfl) (by rfl) ?_ ?_ ?_; rotate_left 1; with_reducible rfl; (simp only [lays]; with_reducible rfl))
   | (refine Ps.par_run (a' := ?_) (by rfl) (by rfl) (fun w' hb hn => ?_) ?_ ?_; rotate_left 1; (obtain ⟨q0, q1, q2, q3, q4, q15⟩ := HQ32.out w' hb; go_simp; (try simp (disch := omega) only [nrm, toNatUp, iteOmega]); first | with_reducible rfl | (go_simp; with_reducible rfl)); (simp only [lays]; with_reducible rfl))
 refine Ps.par_sf (a' := ?_) (f := ?_) (args := ?_) (by rfl) (by rfl) (fun w' => ?_) (fun _ _ h hb => ⟨⟨(hb.block xb (heap_lt h.1.1)).trans h.1.1, h.1.2.1.grow hb, trivial⟩, own_below h.2 hb⟩) (fun w' hb hn hr => ?_) ?_ ?_; rotate_left 3; (go_simp; constructor <;> with_reducible rfl); (exact (Hc3.out w' hr.1.1 hr.1.2.1).mono (fun e w2 ⟨he, h2, b2⟩ => ⟨he, ⟨b2.mono (fun _ _ h => .inl h), fun b i v hs hc => But.cell b2 hc (by rcases hs with ⟨rfl, -⟩ | rfl <;> assumption)⟩, ⟨b2.at hr.1.1 n1, h2, trivial⟩, own_at hr.2 b2 (fun g hg he => n5.out (he ▸ hg))⟩)); (simp only [lays]; with_reducible rfl)
 iterate 4
  first
   | (refine Ps.par_skip (a' := ?_) (by rfl) (by rfl) ?_ ?_ ?_; rotate_left 1; with_reducible rfl; (simp only [lays]; with_reducible rfl))
   | (refine Ps.par_run (a' := ?_) (by rfl) (by rfl) (fun w' hb hn => ?_) ?_ ?_; rotate_left 1; (obtain ⟨q0, q1, q2, q3, q4, q15⟩ := HQ32.out w' hb; go_simp; (try simp (disch := omega) only [nrm, toNatUp, iteOmega]); first | with_reducible rfl | (go_simp; with_reducible rfl)); (simp only [lays]; with_reducible rfl))
 refine Ps.par_sf (a' := ?_) (f := ?_) (args := ?_) (by rfl) (by rfl) (fun w' => ?_) (fun _ _ h hb => ⟨⟨(hb.block xb (heap_lt h.1.1)).trans h.1.1, h.1.2.1.grow hb, trivial⟩, own_below h.2 hb⟩) (fun w' hb hn hr => ?_) ?_ ?_; rotate_left 3; (go_simp; constructor <;> with_reducible rfl); (exact (Hc4.out w' hr.1.1 hr.1.2.1).mono (fun e w2 ⟨he, h2, b2⟩ => ⟨he, ⟨b2.mono (fun _ _ h => .inl h), fun b i v hs hc => But.cell b2 hc (by rcases hs with ⟨rfl, -⟩ | rfl <;> assumption)⟩, ⟨b2.at hr.1.1 n1, h2, trivial⟩, own_at hr.2 b2 (fun g hg he => n5.out (he ▸ hg))⟩)); (simp only [lays]; with_reducible rfl)
 iterate 1
  first
   | (refine Ps.par_skip (a' := ?_) (by rfl) (by rfl) ?_ ?_ ?_; rotate_left 1; with_reducible rfl; (simp only [lays]; with_reducible rfl))
   | (refine Ps.par_run (a' := ?_) (by rfl) (by rfl) (fun w' hb hn => ?_) ?_ ?_; rotate_left 1; (obtain ⟨q0, q1, q2, q3, q4, q15⟩ := HQ32.out w' hb; go_simp; (try simp (disch := omega) only [nrm, toNatUp, iteOmega]); first | with_reducible rfl | (go_simp; with_reducible rfl)); (simp only [lays]; with_reducible rfl))
 refine Ps.par_sf (a' := ?_) (f := ?_) (args := ?_) (by rfl) (by rfl) (fun w' => ?_) (fun _ _ h hb => ⟨⟨(hb.block xb (heap_lt h.1.1)).trans h.1.1, h.1.2.1.grow hb, trivial⟩, own_below h.2 hb⟩) (fun w' hb hn hr => ?_) ?_ ?_; rotate_left 3; (go_simp; constructor <;> with_reducible rfl); (exact (Hc5.out w' hr.1.1 hr.1.2.1).mono (fun e w2 ⟨he, h2, b2⟩ => ⟨he, ⟨b2.mono (fun _ _ h => .inl h), fun b i v hs hc => But.cell b2 hc (by rcases hs with ⟨rfl, -⟩ | rfl <;> assumption)⟩, ⟨b2.at hr.1.1 n1, h2, trivial⟩, own_at hr.2 b2 (fun g hg he => n5.out (he ▸ hg))⟩)); (simp only [lays]; with_reducible rfl)
 iterate 1
  first
   | (refine Ps.par_skip (a' := ?_) (by rfl) (by rfl) ?_ ?_ ?_; rotate_left 1; with_reducible rfl; (simp only [lays]; with_reducible rfl))
   | (refine Ps.par_run (a' := ?_) (by rfl) (by rfl) (fun w' hb hn => ?_) ?_ ?_; rotate_left 1; (obtain ⟨q0, q1, q2, q3, q4, q15⟩ := HQ32.out w' hb; go_simp; (try simp (disch := omega) only [nrm, toNatUp, iteOmega]); first | with_reducible rfl | (go_simp; with_reducible rfl)); (simp only [lays]; with_reducible rfl))
 refine Ps.par_row (a' := ?ap38k38) (m := ?mp38k38) (T := ?Tp38k38) (cs := ?cp38k38) (r := ?rp38k38) (fun b h => h.elim (fun h => by omega) (fun h => h.elim (fun h => by omega) (n6.out b))) (by rfl) (by rfl) (fun w' hb hn => ?hp38k38) (fun w' => ?ep38k38) ?np38k38 ?vp38k38 ?lp38k38 ?xp38k38 (fun u => ?pp38k38) (fun u => ?gp38k38)
 case hp38k38 => (obtain ⟨q0, q1, q2, q3, q4, q15⟩ := HQ32.out w' hb; go_simp; (try simp (disch := omega) only [nrm, toNatUp, iteOmega]); with_reducible rfl)
 case ep38k38 => with_reducible rfl
 case np38k38 => with_reducible rfl
 case vp38k38 => with_reducible rfl
 case lp38k38 => simp only [List.length_cons, List.length_nil]
 case xp38k38 => (unfold maxLen; omega)
 case pp38k38 => (simp only [lays]; with_reducible rfl)
 refine Ps.par_app (a' := ?ap39k39) (A := fun W => (TakAt W xb sb rb k node id odd ∧ IsR 168 W rb r5 ∧ True)) 25 105 Tryz.underlying25 info_tokens rfl (by decide) hbase (by unfold maxLen; omega) (by omega) (by simp [Value.oneCell']) (fun w1 w2 h ho hb => ⟨(hb.block xb (heap_lt h.1) n3.out).trans h.1, (hb.block rb (heap_lt h.2.1) n5.out).trans h.2.1, trivial⟩) (fun _ _ h hb => ⟨(hb.block xb (heap_lt h.1)).trans h.1, h.2.1.grow hb, trivial⟩) (fun _ h => .inr (.inr h)) (fun b i hs hb => by rcases hs with ⟨rfl, -⟩ | rfl; exact n3.out hb; exact n4.out hb) (by rfl) rfl rfl rfl rfl (fun w' hb hn => ?xp39k39) (fun u => ?pp39k39) (fun u hu39 => ?gp39k39)
 case xp39k39 => (exact (Ps.need_head hn (by kernel_rfl)).1)
 case pp39k39 => (simp only [lays]; with_reducible rfl)
 obtain ⟨au39, cu39, rfl⟩ := hu39
 refine Ps.par_end (fun w9 hb9 hf9 hr9 => ?_)
 try refine Ps.wpList_none ?_
 have T9 : TyBut base [168, 81, 105] w w9 := hb9.1.mono (fun i _ hi => hi.elim (fun h => h ▸ ⟨_, _, _, Hr.out, by decide, hbr⟩) (fun h => h.elim (fun h => h ▸ ⟨_, _, _, Hx.out, by decide, hbx⟩) (fun h => own_ty Hown.out (by decide) h)))
 have Hsb9 := T9.at Hsb.out (by decide)
 have Hx9 := hid hr9.1.1
 have Hr9 := hid hr9.1.2.1
 have Ho9 := hid hr9.2
 have k9 := cell_of Hsb9 5
 have f9 := free_of Hsb9 5
 clear hb9 hf9 hr9
 go_wp2
 have hs9 := setCell_at Hsb9 5 (.slice au39 (s.tokens.length + 1) cu39)
 have T10 : TyBut base [33] w9 (w9.setCell ⟨sb, 5, none⟩ (.slice au39 (s.tokens.length + 1) cu39)) := TyBut.set Hsb9 (by decide) hbs 5 _
 generalize w9.setCell ⟨sb, 5, none⟩ (.slice au39 (s.tokens.length + 1) cu39) = w10 at hs9 T10 ⊢
 have T : TyBut base [168, 81, 105, 33] w w10 := (T9.weak (by decide)).trans (T10.weak (by decide))
 have hL := HL.out
 go_end0
 refine ⟨rfl, by rw [Bool.or_false]; exact T10.at Hx9.out (by decide), ⟨vp, vi, (.slice au39 (s.tokens.length + 1) cu39), vj, vr, vs_, vk, vl, vm, hs9, ?_⟩, T10.at Hr9.out (by decide), T.weak (by decide)⟩
 exact ⟨hL.procs.keep DepV.ost T (by decide) (by decide) (by decide), hL.insts.keep InstV.ost T (by decide) (by decide) (by decide), (LOwn.snoc A1.out A2.out (fun i cs x hc hx => TokV.ost _ _ _ _ _ _ (by decide) (by decide) (A3.out i cs x hc hx) T9.kept) ⟨rfl, by simp [Value.oneCell']⟩ rfl Ho9.out).keep TokV.ost T10 (by decide) (by decide) (by decide), hL.jobs.keep JobV.ost T (by decide) (by decide) (by decide), hL.timers.keep TimV.ost T (by decide) (by decide) (by decide), hL.subs.keep SubV.ost T (by decide) (by decide) (by decide), hL.kept.keep KeptV.ost T (by decide) (by decide) (by decide), hL.listed.keep LisV.ost T (by decide) (by decide) (by decide), hL.msgs.keep MsgV.ost T (by decide) (by decide) (by decide)⟩
theorem let5_any (xb sb rb k : Nat) (node : Int) (id : ByteArray) (odd : Bool) (s : StateV) (r : RdV) (w : World) (base : Nat) (hbase : base ≤ w.heap.size) (hbx : base ≤ xb) (hbs : base ≤ sb) (hbr : base ≤ rb) (hx : TakAt w xb sb rb k node id odd) (hs : StB w base sb s) (hr : IsR 168 w rb r)
  (hsz : r.s.size ≤ 1099511627776) (hk : k < 18446744073709551616) (hno : I64 node) (hl : s.kept.length ≤ 2097152) :
  Calls Tryz.prog 95 #[.pointer (some ⟨xb, 0, none⟩)] w fun e w' => e = .returned (.tuple #[]) ∧ TakAt w' xb sb rb k node id (odd || (stepK k node s r).bad) ∧ StB w' base sb (stepK k node s r).s ∧ IsR 168 w' rb (stepK k node s r).r ∧ TyBut base letTs w w' := by
 obtain ⟨hno1, hno2⟩ := hno
 unfold stepK
 dsimp only
 have Hc1 : Hid (∀ W, TakAt W xb sb rb k node id odd → IsR 168 W rb r → Calls Tryz.prog 87 #[.pointer (some ⟨rb, 0, none⟩)] W fun e w' => e = .returned (.int .u64 (uintR r).1) ∧ IsR 168 w' rb (uintR r).2 ∧ Rb rb W w') := fun W _ hR => rdUint_any rb r W hR (by omega)
 have hz1 := uintR_size r
 have hv1 := uintR_lt r
 revert Hc1 hz1 hv1
 generalize uintR r = p1
 obtain ⟨v1, r1⟩ := p1
 intro Hc1 hz1 hv1
 dsimp only at Hc1 hz1 hv1 ⊢
 obtain ⟨vp, vi, vt, vj, vr, vs_, vk, vl, vm, hsb, hL⟩ := hs
 obtain ⟨css, a1, a2, a3, hown⟩ := hL.kept
 obtain ⟨ak, ck, rfl⟩ := own_slice hown
 have HL := hid hL
 have Hown := hid hown
 have Hx := hid hx
 have Hsb := hid hsb
 have Hr := hid hr
 have n1 : xb ≠ rb := ty_ne hx hr (by decide)
 have n2 : sb ≠ rb := ty_ne hsb hr (by decide)
 have n7 : sb ≠ xb := ty_ne hsb hx (by decide)
 have n3 := hid (own_ne hown hx (by decide))
 have n4 := hid (own_ne hown hsb (by decide))
 have n5 := hid (own_ne hown hr (by decide))
 have n6 := hid (own_lt hown)
 have hFl : ∀ b, (b = rb ∨ b = xb ∨ ownB (.slice ak s.kept.length ck) b) → b < w.heap.size := fun b h => h.elim (fun h => h ▸ heap_lt hr) (fun h => h.elim (fun h => h ▸ heap_lt hx) (own_lt hown b))
 replace hFl := hid hFl
 have l1 := heap_lt hx
 have l2 := heap_lt hsb
 have l3 := heap_lt hr
 have A1 := hid a1
 have A2 := hid a2
 have A3 := hid a3
 clear hx hsb hr hown hL a1 a2 a3
 go_enter Tryz.func95, Tryz.ntmps95
 have HQ40 := hid (fun w' (hb : (Ps.relC (fun b => b = rb ∨ b = xb ∨ ownB (.slice ak s.kept.length ck) b) (fun b i => (b = xb ∧ i < 5) ∨ b = sb)).G w w') => And.intro (hb.2 xb 0 _ (.inl ⟨rfl, by omega⟩) (cell_of Hx.out 0)) (And.intro (hb.2 xb 1 _ (.inl ⟨rfl, by omega⟩) (cell_of Hx.out 1)) (And.intro (hb.2 xb 2 _ (.inl ⟨rfl, by omega⟩) (cell_of Hx.out 2)) (And.intro (hb.2 xb 3 _ (.inl ⟨rfl, by omega⟩) (cell_of Hx.out 3)) (And.intro (hb.2 xb 4 _ (.inl ⟨rfl, by omega⟩) (cell_of Hx.out 4)) (hb.2 sb 9 _ (.inr rfl) (cell_of Hsb.out 9)))))))
 refine Ps.wp_par (Ps.relC (fun b => b = rb ∨ b = xb ∨ ownB (.slice ak s.kept.length ck) b) (fun b i => (b = xb ∧ i < 5) ∨ b = sb)) (fun W => (TakAt W xb sb rb k node id odd ∧ IsR 168 W rb r ∧ True) ∧ W.ownsRow base 113 3 (.slice ak s.kept.length ck) s.kept.length (css.flatten)) (false :: false :: false :: false :: false :: false :: false :: false :: false :: false :: false :: false :: false :: false :: false :: false :: false :: false :: false :: false :: false :: false :: false :: true :: false :: false :: true :: []) _ (.fix ?_ :: .fix ?_ :: .fix ?_ :: .fix ?_ :: .fix ?_ :: .fix ?_ :: .fix ?_ :: .fix ?_ :: .fix ?_ :: .fix ?_ :: .fix ?_ :: .fix ?_ :: .fix ?_ :: .fix ?_ :: .fix ?_ :: .fix ?_ :: .fix ?_ :: .fix ?_ :: .fix ?_ :: .fix ?_ :: .fix ?_ :: .fix ?_ :: .fix ?_ :: .sf (.int .u64 v1) (fun W => (TakAt W xb sb rb k node id odd ∧ IsR 168 W rb r1 ∧ True) ∧ W.ownsRow base 113 3 (.slice ak s.kept.length ck) s.kept.length (css.flatten)) :: .fix ?_ :: .new (Ps.rowN 3 ?_ ?_ w.heap.size) :: .st (some (s.kept.length + 1)) (fun _ _ => True) (fun u W => (TakAt W xb sb rb k node id odd ∧ IsR 168 W rb r1 ∧ True) ∧ W.ownsRow base 113 3 u (s.kept.length + 1) (css.flatten ++ [U k, U v1, I node])) :: []) (by kernel_rfl) (by kernel_rfl) (by simp only [List.length_cons, List.length_nil, List.drop_succ_cons, List.drop_zero, List.drop_nil]; with_reducible rfl) rfl (fun _ _ _ _ _ => ⟨fun h => h, fun h => h⟩) (fun _ _ h hb => ⟨⟨(hb.block xb (heap_lt h.1.1)).trans h.1.1, h.1.2.1.grow hb, trivial⟩, own_below h.2 hb⟩) (⟨⟨Hx.out, Hr.out, trivial⟩, Hown.out⟩) ?_
 rotate_left 26
 iterate 23
  first
   | (refine Ps.par_skip (a' := ?_) (by rfl) (by rfl) ?_ ?_ ?_; rotate_left 1; with_reducible rfl; (simp only [lays]; with_reducible rfl))
   | (refine Ps.par_run (a' := ?_) (by rfl) (by rfl) (fun w' hb hn => ?_) ?_ ?_; rotate_left 1; (obtain ⟨q0, q1, q2, q3, q4, q19⟩ := HQ40.out w' hb; go_simp; (try simp (disch := omega) only [nrm, toNatUp, iteOmega]); first | with_reducible rfl | (go_simp; with_reducible rfl)); (simp only [lays]; with_reducible rfl))
 refine Ps.par_sf (a' := ?_) (f := ?_) (args := ?_) (by rfl) (by rfl) (fun w' => ?_) (fun _ _ h hb => ⟨⟨(hb.block xb (heap_lt h.1.1)).trans h.1.1, h.1.2.1.grow hb, trivial⟩, own_below h.2 hb⟩) (fun w' hb hn hr => ?_) ?_ ?_; rotate_left 3; (go_simp; constructor <;> with_reducible rfl); (exact (Hc1.out w' hr.1.1 hr.1.2.1).mono (fun e w2 ⟨he, h2, b2⟩ => ⟨he, ⟨b2.mono (fun _ _ h => .inl h), fun b i v hs hc => But.cell b2 hc (by rcases hs with ⟨rfl, -⟩ | rfl <;> assumption)⟩, ⟨b2.at hr.1.1 n1, h2, trivial⟩, own_at hr.2 b2 (fun g hg he => n5.out (he ▸ hg))⟩)); (simp only [lays]; with_reducible rfl)
 iterate 1
  first
   | (refine Ps.par_skip (a' := ?_) (by rfl) (by rfl) ?_ ?_ ?_; rotate_left 1; with_reducible rfl; (simp only [lays]; with_reducible rfl))
   | (refine Ps.par_run (a' := ?_) (by rfl) (by rfl) (fun w' hb hn => ?_) ?_ ?_; rotate_left 1; (obtain ⟨q0, q1, q2, q3, q4, q19⟩ := HQ40.out w' hb; go_simp; (try simp (disch := omega) only [nrm, toNatUp, iteOmega]); first | with_reducible rfl | (go_simp; with_reducible rfl)); (simp only [lays]; with_reducible rfl))
 refine Ps.par_row (a' := ?ap42k25) (m := ?mp42k25) (T := ?Tp42k25) (cs := ?cp42k25) (r := ?rp42k25) (fun b h => h.elim (fun h => by omega) (fun h => h.elim (fun h => by omega) (n6.out b))) (by rfl) (by rfl) (fun w' hb hn => ?hp42k25) (fun w' => ?ep42k25) ?np42k25 ?vp42k25 ?lp42k25 ?xp42k25 (fun u => ?pp42k25) (fun u => ?gp42k25)
 case hp42k25 => (obtain ⟨q0, q1, q2, q3, q4, q19⟩ := HQ40.out w' hb; go_simp; (try simp (disch := omega) only [nrm, toNatUp, iteOmega]); with_reducible rfl)
 case ep42k25 => with_reducible rfl
 case np42k25 => with_reducible rfl
 case vp42k25 => with_reducible rfl
 case lp42k25 => simp only [List.length_cons, List.length_nil]
 case xp42k25 => (unfold maxLen; omega)
 case pp42k25 => (simp only [lays]; with_reducible rfl)
 refine Ps.par_app (a' := ?ap43k26) (A := fun W => (TakAt W xb sb rb k node id odd ∧ IsR 168 W rb r1 ∧ True)) 29 113 Tryz.underlying29 info_kept rfl (by decide) hbase (by unfold maxLen; omega) (by omega) (by simp [Value.oneCell']) (fun w1 w2 h ho hb => ⟨(hb.block xb (heap_lt h.1) n3.out).trans h.1, (hb.block rb (heap_lt h.2.1) n5.out).trans h.2.1, trivial⟩) (fun _ _ h hb => ⟨(hb.block xb (heap_lt h.1)).trans h.1, h.2.1.grow hb, trivial⟩) (fun _ h => .inr (.inr h)) (fun b i hs hb => by rcases hs with ⟨rfl, -⟩ | rfl; exact n3.out hb; exact n4.out hb) (by rfl) rfl rfl rfl rfl (fun w' hb hn => ?xp43k26) (fun u => ?pp43k26) (fun u hu26 => ?gp43k26)
 case xp43k26 => (exact (Ps.need_head hn (by kernel_rfl)).1)
 case pp43k26 => (simp only [lays]; with_reducible rfl)
 obtain ⟨au26, cu26, rfl⟩ := hu26
 refine Ps.par_end (fun w9 hb9 hf9 hr9 => ?_)
 try refine Ps.wpList_none ?_
 have T9 : TyBut base [168, 81, 113] w w9 := hb9.1.mono (fun i _ hi => hi.elim (fun h => h ▸ ⟨_, _, _, Hr.out, by decide, hbr⟩) (fun h => h.elim (fun h => h ▸ ⟨_, _, _, Hx.out, by decide, hbx⟩) (fun h => own_ty Hown.out (by decide) h)))
 have Hsb9 := T9.at Hsb.out (by decide)
 have Hx9 := hid hr9.1.1
 have Hr9 := hid hr9.1.2.1
 have Ho9 := hid hr9.2
 have k9 := cell_of Hsb9 9
 have f9 := free_of Hsb9 9
 clear hb9 hf9 hr9
 go_wp2
 have hs9 := setCell_at Hsb9 9 (.slice au26 (s.kept.length + 1) cu26)
 have T10 : TyBut base [33] w9 (w9.setCell ⟨sb, 9, none⟩ (.slice au26 (s.kept.length + 1) cu26)) := TyBut.set Hsb9 (by decide) hbs 9 _
 generalize w9.setCell ⟨sb, 9, none⟩ (.slice au26 (s.kept.length + 1) cu26) = w10 at hs9 T10 ⊢
 have T : TyBut base [168, 81, 113, 33] w w10 := (T9.weak (by decide)).trans (T10.weak (by decide))
 have hL := HL.out
 go_end0
 refine ⟨rfl, by rw [Bool.or_false]; exact T10.at Hx9.out (by decide), ⟨vp, vi, vt, vj, vr, vs_, (.slice au26 (s.kept.length + 1) cu26), vl, vm, hs9, ?_⟩, T10.at Hr9.out (by decide), T.weak (by decide)⟩
 exact ⟨hL.procs.keep DepV.ost T (by decide) (by decide) (by decide), hL.insts.keep InstV.ost T (by decide) (by decide) (by decide), hL.tokens.keep TokV.ost T (by decide) (by decide) (by decide), hL.jobs.keep JobV.ost T (by decide) (by decide) (by decide), hL.timers.keep TimV.ost T (by decide) (by decide) (by decide), hL.subs.keep SubV.ost T (by decide) (by decide) (by decide), (LOwn.snoc A1.out A2.out (fun i cs x hc hx => KeptV.ost _ _ _ _ _ _ (by decide) (by decide) (A3.out i cs x hc hx) T9.kept) ⟨rfl, by simp [Value.oneCell']⟩ rfl Ho9.out).keep KeptV.ost T10 (by decide) (by decide) (by decide), hL.listed.keep LisV.ost T (by decide) (by decide) (by decide), hL.msgs.keep MsgV.ost T (by decide) (by decide) (by decide)⟩
end Go.Proofs.YthikijlbclckdaaGreat
