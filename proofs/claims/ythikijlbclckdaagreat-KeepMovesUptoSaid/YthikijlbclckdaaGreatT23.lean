/- Keep: contracts (Le). -/
import Derived.Test.YthikijlbclckdaaGreatT22
namespace Go.Proofs.YthikijlbclckdaaGreat
set_option maxRecDepth 100000
set_option maxHeartbeats 40000000
set_option linter.unusedSimpArgs false
set_option linter.unusedVariables false
open Go.IntWalk Go.RowKit
theorem let1_any (xb sb rb k : Nat) (node : Int) (id : ByteArray) (odd : Bool) (s : StateV) (r : RdV) (w : World) (base : Nat) (hbase : base ≤ w.heap.size) (hbx : base ≤ xb) (hbs : base ≤ sb) (hbr : base ≤ rb) (hx : TakAt w xb sb rb k node id odd) (hs : StB w base sb s) (hr : IsR 168 w rb r)
  (hsz : r.s.size ≤ 1099511627776) (hk : k < 18446744073709551616) (hno : I64 node) :
  Calls Tryz.prog 86 #[.pointer (some ⟨xb, 0, none⟩)] w fun e w' => e = .returned (.tuple #[]) ∧ TakAt w' xb sb rb k node id (odd || (stepA  s r).bad) ∧ StB w' base sb (stepA  s r).s ∧ IsR 168 w' rb (stepA  s r).r ∧ TyBut base letTs w w' := by
 obtain ⟨hno1, hno2⟩ := hno
 unfold stepA
 dsimp only
 have Hc1 : Hid (∀ W, TakAt W xb sb rb k node id odd → IsR 168 W rb r → Calls Tryz.prog 87 #[.pointer (some ⟨rb, 0, none⟩)] W fun e w' => e = .returned (.int .u64 (uintR r).1) ∧ IsR 168 w' rb (uintR r).2 ∧ Rb rb W w') := fun W _ hR => rdUint_any rb r W hR (by omega)
 have hz1 := uintR_size r
 have hv1 := uintR_lt r
 revert Hc1 hz1 hv1
 generalize uintR r = p1
 obtain ⟨v1, r1⟩ := p1
 intro Hc1 hz1 hv1
 dsimp only at Hc1 hz1 hv1 ⊢
 have Hc2 : Hid (∀ W, TakAt W xb sb rb k node id odd → IsR 168 W rb r1 → Calls Tryz.prog 87 #[.pointer (some ⟨rb, 0, none⟩)] W fun e w' => e = .returned (.int .u64 (uintR r1).1) ∧ IsR 168 w' rb (uintR r1).2 ∧ Rb rb W w') := fun W _ hR => rdUint_any rb r1 W hR (by omega)
 have hz2 := uintR_size r1
 have hv2 := uintR_lt r1
 revert Hc2 hz2 hv2
 generalize uintR r1 = p2
 obtain ⟨v2, r2⟩ := p2
 intro Hc2 hz2 hv2
 dsimp only at Hc2 hz2 hv2 ⊢
 have Hc3 : Hid (∀ W, TakAt W xb sb rb k node id odd → IsR 168 W rb r2 → Calls Tryz.prog 87 #[.pointer (some ⟨rb, 0, none⟩)] W fun e w' => e = .returned (.int .u64 (uintR r2).1) ∧ IsR 168 w' rb (uintR r2).2 ∧ Rb rb W w') := fun W _ hR => rdUint_any rb r2 W hR (by omega)
 have hz3 := uintR_size r2
 have hv3 := uintR_lt r2
 revert Hc3 hz3 hv3
 generalize uintR r2 = p3
 obtain ⟨v3, r3⟩ := p3
 intro Hc3 hz3 hv3
 dsimp only at Hc3 hz3 hv3 ⊢
 obtain ⟨vp, vi, vt, vj, vr, vs_, vk, vl, vm, hsb, hL⟩ := hs
 obtain ⟨css, a1, a2, a3, hown⟩ := hL.kept
 obtain ⟨ak, ck, rfl⟩ := own_slice hown
 have HL := hid hL
 have Hown := hid hown
 have Hx := hid hx
 have Hsb := hid hsb
 have Hr := hid hr
 have n1 : xb ≠ rb := ty_ne hx hr (by decide)
 have n2 : sb ≠ rb := ty_ne hsb hr (by decide)
 have n7 : sb ≠ xb := ty_ne hsb hx (by decide)
 have n3 := hid (own_ne hown hx (by decide))
 have n4 := hid (own_ne hown hsb (by decide))
 have n5 := hid (own_ne hown hr (by decide))
 have n6 := hid (own_lt hown)
 have l1 := heap_lt hx
 have l2 := heap_lt hsb
 have l3 := heap_lt hr
 have A1 := hid a1
 have A2 := hid a2
 have A3 := hid a3
 clear hx hsb hr hown hL a1 a2 a3
 go_enter Tryz.func86, Tryz.ntmps86
 have HQ1 := hid (fun w' (hb : (Ps.relC (fun b => b = rb) (fun b i => (b = xb ∧ i < 5) ∨ b = sb)).G w w') => And.intro (hb.2 xb 0 _ (.inl ⟨rfl, by omega⟩) (cell_of Hx.out 0)) (And.intro (hb.2 xb 1 _ (.inl ⟨rfl, by omega⟩) (cell_of Hx.out 1)) (And.intro (hb.2 xb 2 _ (.inl ⟨rfl, by omega⟩) (cell_of Hx.out 2)) (And.intro (hb.2 xb 3 _ (.inl ⟨rfl, by omega⟩) (cell_of Hx.out 3)) (hb.2 xb 4 _ (.inl ⟨rfl, by omega⟩) (cell_of Hx.out 4))))))
 refine Ps.wp_par (Ps.relC (fun b => b = rb) (fun b i => (b = xb ∧ i < 5) ∨ b = sb)) (fun W => (TakAt W xb sb rb k node id odd ∧ IsR 168 W rb r) ∧ W.ownsRow base 113 3 (.slice ak s.kept.length ck) s.kept.length css.flatten) (false :: false :: false :: false :: false :: false :: false :: false :: false :: false :: false :: false :: false :: false :: false :: false :: true :: false :: false :: false :: false :: true :: false :: false :: false :: false :: true :: []) _ (.fix ?_ :: .fix ?_ :: .fix ?_ :: .fix ?_ :: .fix ?_ :: .fix ?_ :: .fix ?_ :: .fix ?_ :: .fix ?_ :: .fix ?_ :: .fix ?_ :: .fix ?_ :: .fix ?_ :: .fix ?_ :: .fix ?_ :: .fix ?_ :: .sf (.int .u64 v1) (fun W => (TakAt W xb sb rb k node id odd ∧ IsR 168 W rb r1) ∧ W.ownsRow base 113 3 (.slice ak s.kept.length ck) s.kept.length css.flatten) :: .fix ?_ :: .fix ?_ :: .fix ?_ :: .fix ?_ :: .sf (.int .u64 v2) (fun W => (TakAt W xb sb rb k node id odd ∧ IsR 168 W rb r2) ∧ W.ownsRow base 113 3 (.slice ak s.kept.length ck) s.kept.length css.flatten) :: .fix ?_ :: .fix ?_ :: .fix ?_ :: .fix ?_ :: .sf (.int .u64 v3) (fun W => (TakAt W xb sb rb k node id odd ∧ IsR 168 W rb r3) ∧ W.ownsRow base 113 3 (.slice ak s.kept.length ck) s.kept.length css.flatten) :: []) (by kernel_rfl) (by kernel_rfl) (by simp only [List.length_cons, List.length_nil, List.drop_succ_cons, List.drop_zero, List.drop_nil]; with_reducible rfl) rfl (fun _ _ _ _ _ => ⟨fun h => h, fun h => h⟩) (fun _ _ h hb => ⟨⟨(hb.block xb (heap_lt h.1.1)).trans h.1.1, h.1.2.grow hb⟩, own_below h.2 hb⟩) (⟨⟨Hx.out, Hr.out⟩, Hown.out⟩) ?_
 rotate_left 24
 iterate 16
  first
   | (refine Ps.par_skip (a' := ?_) (by rfl) (by rfl) ?_ ?_ ?_; rotate_left 1; with_reducible rfl; (simp only [lays]; with_reducible rfl))
   | (refine Ps.par_run (a' := ?_) (by rfl) (by rfl) (fun w' hb hn => ?_) ?_ ?_; rotate_left 1; (obtain ⟨q0, q1, q2, q3, q4⟩ := HQ1.out w' hb; go_simp; (try simp (disch := omega) only [nrm, toNatUp, iteOmega]); first | with_reducible rfl | (go_simp; with_reducible rfl)); (simp only [lays]; with_reducible rfl))
 refine Ps.par_sf (a' := ?_) (f := ?_) (args := ?_) (by rfl) (by rfl) (fun w' => ?_) (fun _ _ h hb => ⟨⟨(hb.block xb (heap_lt h.1.1)).trans h.1.1, h.1.2.grow hb⟩, own_below h.2 hb⟩) (fun w' hb hn hr => ?_) ?_ ?_; rotate_left 3; (go_simp; constructor <;> with_reducible rfl); (exact (Hc1.out w' hr.1.1 hr.1.2).mono (fun e w2 ⟨he, h2, b2⟩ => ⟨he, ⟨b2, fun b i v hs hc => But.cell b2 hc (by rcases hs with ⟨rfl, -⟩ | rfl <;> assumption)⟩, ⟨b2.at hr.1.1 n1, h2⟩, own_at hr.2 b2 (fun g hg he => n5.out (he ▸ hg))⟩)); (simp only [lays]; with_reducible rfl)
 iterate 4
  first
   | (refine Ps.par_skip (a' := ?_) (by rfl) (by rfl) ?_ ?_ ?_; rotate_left 1; with_reducible rfl; (simp only [lays]; with_reducible rfl))
   | (refine Ps.par_run (a' := ?_) (by rfl) (by rfl) (fun w' hb hn => ?_) ?_ ?_; rotate_left 1; (obtain ⟨q0, q1, q2, q3, q4⟩ := HQ1.out w' hb; go_simp; (try simp (disch := omega) only [nrm, toNatUp, iteOmega]); first | with_reducible rfl | (go_simp; with_reducible rfl)); (simp only [lays]; with_reducible rfl))
 refine Ps.par_sf (a' := ?_) (f := ?_) (args := ?_) (by rfl) (by rfl) (fun w' => ?_) (fun _ _ h hb => ⟨⟨(hb.block xb (heap_lt h.1.1)).trans h.1.1, h.1.2.grow hb⟩, own_below h.2 hb⟩) (fun w' hb hn hr => ?_) ?_ ?_; rotate_left 3; (go_simp; constructor <;> with_reducible rfl); (exact (Hc2.out w' hr.1.1 hr.1.2).mono (fun e w2 ⟨he, h2, b2⟩ => ⟨he, ⟨b2, fun b i v hs hc => But.cell b2 hc (by rcases hs with ⟨rfl, -⟩ | rfl <;> assumption)⟩, ⟨b2.at hr.1.1 n1, h2⟩, own_at hr.2 b2 (fun g hg he => n5.out (he ▸ hg))⟩)); (simp only [lays]; with_reducible rfl)
 iterate 4
  first
   | (refine Ps.par_skip (a' := ?_) (by rfl) (by rfl) ?_ ?_ ?_; rotate_left 1; with_reducible rfl; (simp only [lays]; with_reducible rfl))
   | (refine Ps.par_run (a' := ?_) (by rfl) (by rfl) (fun w' hb hn => ?_) ?_ ?_; rotate_left 1; (obtain ⟨q0, q1, q2, q3, q4⟩ := HQ1.out w' hb; go_simp; (try simp (disch := omega) only [nrm, toNatUp, iteOmega]); first | with_reducible rfl | (go_simp; with_reducible rfl)); (simp only [lays]; with_reducible rfl))
 refine Ps.par_sf (a' := ?_) (f := ?_) (args := ?_) (by rfl) (by rfl) (fun w' => ?_) (fun _ _ h hb => ⟨⟨(hb.block xb (heap_lt h.1.1)).trans h.1.1, h.1.2.grow hb⟩, own_below h.2 hb⟩) (fun w' hb hn hr => ?_) ?_ ?_; rotate_left 3; (go_simp; constructor <;> with_reducible rfl); (exact (Hc3.out w' hr.1.1 hr.1.2).mono (fun e w2 ⟨he, h2, b2⟩ => ⟨he, ⟨b2, fun b i v hs hc => But.cell b2 hc (by rcases hs with ⟨rfl, -⟩ | rfl <;> assumption)⟩, ⟨b2.at hr.1.1 n1, h2⟩, own_at hr.2 b2 (fun g hg he => n5.out (he ▸ hg))⟩)); (simp only [lays]; with_reducible rfl)
 refine Ps.par_end (fun w9 hb9 hf9 hr9 => ?_)
 try refine Ps.wpList_none ?_
 have T9 : TyBut base [168] w w9 := hb9.1.mono (fun i _ hi => hi ▸ ⟨_, _, _, Hr.out, by decide, hbr⟩)
 have Hx9 := hid hr9.1.1
 have Hr9 := hid hr9.1.2
 have hsb9 := T9.at Hsb.out (by decide)
 have k0 := cell_of hsb9 0
 have f0 := free_of hsb9 0
 have k1 := cell_of hsb9 1
 have f1 := free_of hsb9 1
 have k2 := cell_of hsb9 2
 have f2 := free_of hsb9 2
 clear hb9 hf9 hr9
 go_wp2
 have hs9 := setCell_at (setCell_at (setCell_at hsb9 0 (U v1)) 1 (U v2)) 2 (U v3)
 have T10 : TyBut base [33] w9 (((w9.setCell ⟨sb, 0, none⟩ (U v1)).setCell ⟨sb, 1, none⟩ (U v2)).setCell ⟨sb, 2, none⟩ (U v3)) := ((Rb.set sb 0 (U v1)).trans ((Rb.set sb 1 (U v2)).trans (Rb.set sb 2 (U v3)))).mono (fun i _ hi => hi ▸ ⟨_, _, _, hsb9, by decide, hbs⟩)
 change bodyPost _ _ _ _ _ (((w9.setCell ⟨sb, 0, none⟩ (U v1)).setCell ⟨sb, 1, none⟩ (U v2)).setCell ⟨sb, 2, none⟩ (U v3))
 generalize ((w9.setCell ⟨sb, 0, none⟩ (U v1)).setCell ⟨sb, 1, none⟩ (U v2)).setCell ⟨sb, 2, none⟩ (U v3) = w10 at hs9 T10 ⊢
 have T : TyBut base [168, 33] w w10 := (T9.weak (by decide)).trans (T10.weak (by decide))
 have hL := HL.out
 go_end0
 refine ⟨rfl, by rw [Bool.or_false]; exact T10.at Hx9.out (by decide), ⟨vp, vi, vt, vj, vr, vs_, .slice ak s.kept.length ck, vl, vm, hs9, ?_⟩, T10.at Hr9.out (by decide), T.weak (by decide)⟩
 exact ⟨hL.procs.keep DepV.ost T (by decide) (by decide) (by decide), hL.insts.keep InstV.ost T (by decide) (by decide) (by decide), hL.tokens.keep TokV.ost T (by decide) (by decide) (by decide), hL.jobs.keep JobV.ost T (by decide) (by decide) (by decide), hL.timers.keep TimV.ost T (by decide) (by decide) (by decide), hL.subs.keep SubV.ost T (by decide) (by decide) (by decide), hL.kept.keep KeptV.ost T (by decide) (by decide) (by decide), hL.listed.keep LisV.ost T (by decide) (by decide) (by decide), hL.msgs.keep MsgV.ost T (by decide) (by decide) (by decide)⟩
theorem let2_any (xb sb rb k : Nat) (node : Int) (id : ByteArray) (odd : Bool) (s : StateV) (r : RdV) (w : World) (base : Nat) (hbase : base ≤ w.heap.size) (hbx : base ≤ xb) (hbs : base ≤ sb) (hbr : base ≤ rb) (hx : TakAt w xb sb rb k node id odd) (hs : StB w base sb s) (hr : IsR 168 w rb r)
  (hsz : r.s.size ≤ 1099511627776) (hk : k < 18446744073709551616) (hno : I64 node) (hl : s.msgs.length ≤ 2097152) :
  Calls Tryz.prog 88 #[.pointer (some ⟨xb, 0, none⟩)] w fun e w' => e = .returned (.tuple #[]) ∧ TakAt w' xb sb rb k node id (odd || (stepG k s r).bad) ∧ StB w' base sb (stepG k s r).s ∧ IsR 168 w' rb (stepG k s r).r ∧ TyBut base letTs w w' := by
 obtain ⟨hno1, hno2⟩ := hno
 unfold stepG
 dsimp only
 have Hc1 : Hid (∀ W, TakAt W xb sb rb k node id odd → IsR 168 W rb r → Calls Tryz.prog 89 #[.pointer (some ⟨xb, 0, none⟩)] W fun e w' => e = .returned (.string (textR 16384 r).1) ∧ IsR 168 w' rb (textR 16384 r).2 ∧ Rb rb W w') := fun W hX hR => takText_any xb sb rb k node id odd r W hX hR (by omega)
 have hz1 := textR_sz 16384 r
 have hv1 : True := trivial
 revert Hc1 hz1 hv1
 generalize textR 16384 r = p1
 obtain ⟨v1, r1⟩ := p1
 intro Hc1 hz1 hv1
 dsimp only at Hc1 hz1 hv1 ⊢
 have Hc2 : Hid (∀ W, TakAt W xb sb rb k node id odd → IsR 168 W rb r1 → Calls Tryz.prog 89 #[.pointer (some ⟨xb, 0, none⟩)] W fun e w' => e = .returned (.string (textR 16384 r1).1) ∧ IsR 168 w' rb (textR 16384 r1).2 ∧ Rb rb W w') := fun W hX hR => takText_any xb sb rb k node id odd r1 W hX hR (by omega)
 have hz2 := textR_sz 16384 r1
 have hv2 : True := trivial
 revert Hc2 hz2 hv2
 generalize textR 16384 r1 = p2
 obtain ⟨v2, r2⟩ := p2
 intro Hc2 hz2 hv2
 dsimp only at Hc2 hz2 hv2 ⊢
 have Hc3 : Hid (∀ W, TakAt W xb sb rb k node id odd → IsR 168 W rb r2 → Calls Tryz.prog 89 #[.pointer (some ⟨xb, 0, none⟩)] W fun e w' => e = .returned (.string (textR 16384 r2).1) ∧ IsR 168 w' rb (textR 16384 r2).2 ∧ Rb rb W w') := fun W hX hR => takText_any xb sb rb k node id odd r2 W hX hR (by omega)
 have hz3 := textR_sz 16384 r2
 have hv3 : True := trivial
 revert Hc3 hz3 hv3
 generalize textR 16384 r2 = p3
 obtain ⟨v3, r3⟩ := p3
 intro Hc3 hz3 hv3
 dsimp only at Hc3 hz3 hv3 ⊢
 have Hc4 : Hid (∀ W, TakAt W xb sb rb k node id odd → IsR 168 W rb r3 → Calls Tryz.prog 90 #[.pointer (some ⟨rb, 0, none⟩)] W fun e w' => e = .returned (.int .i64 (intR r3).1) ∧ IsR 168 w' rb (intR r3).2 ∧ Rb rb W w') := fun W _ hR => rdInt_any rb r3 W hR (by omega)
 have hz4 := intR_size r3
 have hv4 := intR_in r3
 revert Hc4 hz4 hv4
 generalize intR r3 = p4
 obtain ⟨v4, r4⟩ := p4
 intro Hc4 hz4 hv4
 dsimp only at Hc4 hz4 hv4 ⊢
 obtain ⟨hv4a, hv4b⟩ := hv4
 have Hc5 : Hid (∀ W odd, TakAt W xb sb rb k node id odd → IsR 168 W rb r4 → Calls Tryz.prog 91 #[.pointer (some ⟨xb, 0, none⟩)] W fun e w' => ∃ v, e = .returned v ∧ VarsOwn w' W.heap.size v (varsOf r4) ∧ TakAt w' xb sb rb k node id (odd || varsBad r4) ∧ IsR 168 w' rb (takeVars r4).2 ∧ But (fun b => b = rb ∨ b = xb) W w' ∧ ∀ i v, i < 5 → W.cell? ⟨xb, i, none⟩ = some v → w'.cell? ⟨xb, i, none⟩ = some v) := fun W odd hX hR => takVars_any xb sb rb k node id odd r4 W hX hR (by omega)
 have hz5 := takeVars_size r4
 revert Hc5 hz5
 generalize varsOf r4 = vs
 generalize varsBad r4 = vb
 generalize (takeVars r4).2 = r5
 intro Hc5 hz5
 have Hc6 : Hid (∀ W odd, TakAt W xb sb rb k node id odd → IsR 168 W rb r5 → Calls Tryz.prog 92 #[.pointer (some ⟨xb, 0, none⟩)] W fun e w' => ∃ v, e = .returned v ∧ NatsOwn w' W.heap.size v (takeInsts r5).1 ∧ IsR 168 w' rb (takeInsts r5).2 ∧ Rb rb W w') := fun W odd hX hR => takInsts_any xb sb rb k node id odd r5 W hX hR (by omega)
 revert Hc6
 generalize takeInsts r5 = p6
 obtain ⟨ns, r6⟩ := p6
 intro Hc6
 dsimp only at Hc6 ⊢
 obtain ⟨vp, vi, vt, vj, vr, vs_, vk, vl, vm, hsb, hL⟩ := hs
 obtain ⟨css, a1, a2, a3, hown⟩ := hL.msgs
 obtain ⟨ak, ck, rfl⟩ := own_slice hown
 have HL := hid hL
 have Hown := hid hown
 have Hx := hid hx
 have Hsb := hid hsb
 have Hr := hid hr
 have n1 : xb ≠ rb := ty_ne hx hr (by decide)
 have n2 : sb ≠ rb := ty_ne hsb hr (by decide)
 have n7 : sb ≠ xb := ty_ne hsb hx (by decide)
 have n3 := hid (own_ne hown hx (by decide))
 have n4 := hid (own_ne hown hsb (by decide))
 have n5 := hid (own_ne hown hr (by decide))
 have n6 := hid (own_lt hown)
 have l1 := heap_lt hx
 have l2 := heap_lt hsb
 have l3 := heap_lt hr
 have A1 := hid a1
 have A2 := hid a2
 have A3 := hid a3
 clear hx hsb hr hown hL a1 a2 a3
 go_enter Tryz.func88, Tryz.ntmps88
 go_wp2_with fail
 have HQ5 := hid (fun w' (hb : (Ps.relC (fun b => b = rb) (fun b i => (b = xb ∧ i < 5) ∨ b = sb)).G w w') => And.intro (hb.2 xb 0 _ (.inl ⟨rfl, by omega⟩) (cell_of Hx.out 0)) (And.intro (hb.2 xb 1 _ (.inl ⟨rfl, by omega⟩) (cell_of Hx.out 1)) (And.intro (hb.2 xb 2 _ (.inl ⟨rfl, by omega⟩) (cell_of Hx.out 2)) (And.intro (hb.2 xb 3 _ (.inl ⟨rfl, by omega⟩) (cell_of Hx.out 3)) (hb.2 xb 4 _ (.inl ⟨rfl, by omega⟩) (cell_of Hx.out 4))))))
 refine Ps.wp_par (Ps.relC (fun b => b = rb) (fun b i => (b = xb ∧ i < 5) ∨ b = sb)) (fun W => (TakAt W xb sb rb k node id odd ∧ IsR 168 W rb r) ∧ W.ownsRow base 118 7 (.slice ak s.msgs.length ck) s.msgs.length css.flatten) (false :: false :: false :: false :: false :: true :: false :: true :: false :: true :: false :: false :: false :: false :: true :: false :: false :: []) _ (.fix ?_ :: .fix ?_ :: .fix ?_ :: .fix ?_ :: .fix ?_ :: .sf (.string v1) (fun W => (TakAt W xb sb rb k node id odd ∧ IsR 168 W rb r1) ∧ W.ownsRow base 118 7 (.slice ak s.msgs.length ck) s.msgs.length css.flatten) :: .fix ?_ :: .sf (.string v2) (fun W => (TakAt W xb sb rb k node id odd ∧ IsR 168 W rb r2) ∧ W.ownsRow base 118 7 (.slice ak s.msgs.length ck) s.msgs.length css.flatten) :: .fix ?_ :: .sf (.string v3) (fun W => (TakAt W xb sb rb k node id odd ∧ IsR 168 W rb r3) ∧ W.ownsRow base 118 7 (.slice ak s.msgs.length ck) s.msgs.length css.flatten) :: .fix ?_ :: .fix ?_ :: .fix ?_ :: .fix ?_ :: .sf (.int .i64 v4) (fun W => (TakAt W xb sb rb k node id odd ∧ IsR 168 W rb r4) ∧ W.ownsRow base 118 7 (.slice ak s.msgs.length ck) s.msgs.length css.flatten) :: .fix ?_ :: .new (Ps.boxN (#[.int .u64 0, .string ⟨#[]⟩, .string ⟨#[]⟩, .string ⟨#[]⟩, .int .i64 0, .slice none 0 0, .slice none 0 0]) (118) w.heap.size) :: []) (by kernel_rfl) (by kernel_rfl) (by simp only [List.length_cons, List.length_nil, List.drop_succ_cons, List.drop_zero, List.drop_nil]; with_reducible rfl) rfl (fun _ _ _ _ _ => ⟨fun h => h, fun h => h⟩) (fun _ _ h hb => ⟨⟨(hb.block xb (heap_lt h.1.1)).trans h.1.1, h.1.2.grow hb⟩, own_below h.2 hb⟩) (⟨⟨Hx.out, Hr.out⟩, Hown.out⟩) ?_
 rotate_left 12
 iterate 5
  first
   | (refine Ps.par_skip (a' := ?_) (by rfl) (by rfl) ?_ ?_ ?_; rotate_left 1; with_reducible rfl; (simp only [lays]; with_reducible rfl))
   | (refine Ps.par_run (a' := ?_) (by rfl) (by rfl) (fun w' hb hn => ?_) ?_ ?_; rotate_left 1; (obtain ⟨q0, q1, q2, q3, q4⟩ := HQ5.out w' hb; go_simp; (try simp (disch := omega) only [nrm, toNatUp, iteOmega]); first | with_reducible rfl | (go_simp; with_reducible rfl)); (simp only [lays]; with_reducible rfl))
 refine Ps.par_sf (a' := ?_) (f := ?_) (args := ?_) (by rfl) (by rfl) (fun w' => ?_) (fun _ _ h hb => ⟨⟨(hb.block xb (heap_lt h.1.1)).trans h.1.1, h.1.2.grow hb⟩, own_below h.2 hb⟩) (fun w' hb hn hr => ?_) ?_ ?_; rotate_left 3; (go_simp; constructor <;> with_reducible rfl); (exact (Hc1.out w' hr.1.1 hr.1.2).mono (fun e w2 ⟨he, h2, b2⟩ => ⟨he, ⟨b2, fun b i v hs hc => But.cell b2 hc (by rcases hs with ⟨rfl, -⟩ | rfl <;> assumption)⟩, ⟨b2.at hr.1.1 n1, h2⟩, own_at hr.2 b2 (fun g hg he => n5.out (he ▸ hg))⟩)); (simp only [lays]; with_reducible rfl)
 iterate 1
  first
   | (refine Ps.par_skip (a' := ?_) (by rfl) (by rfl) ?_ ?_ ?_; rotate_left 1; with_reducible rfl; (simp only [lays]; with_reducible rfl))
   | (refine Ps.par_run (a' := ?_) (by rfl) (by rfl) (fun w' hb hn => ?_) ?_ ?_; rotate_left 1; (obtain ⟨q0, q1, q2, q3, q4⟩ := HQ5.out w' hb; go_simp; (try simp (disch := omega) only [nrm, toNatUp, iteOmega]); first | with_reducible rfl | (go_simp; with_reducible rfl)); (simp only [lays]; with_reducible rfl))
 refine Ps.par_sf (a' := ?_) (f := ?_) (args := ?_) (by rfl) (by rfl) (fun w' => ?_) (fun _ _ h hb => ⟨⟨(hb.block xb (heap_lt h.1.1)).trans h.1.1, h.1.2.grow hb⟩, own_below h.2 hb⟩) (fun w' hb hn hr => ?_) ?_ ?_; rotate_left 3; (go_simp; constructor <;> with_reducible rfl); (exact (Hc2.out w' hr.1.1 hr.1.2).mono (fun e w2 ⟨he, h2, b2⟩ => ⟨he, ⟨b2, fun b i v hs hc => But.cell b2 hc (by rcases hs with ⟨rfl, -⟩ | rfl <;> assumption)⟩, ⟨b2.at hr.1.1 n1, h2⟩, own_at hr.2 b2 (fun g hg he => n5.out (he ▸ hg))⟩)); (simp only [lays]; with_reducible rfl)
 iterate 1
  first
   | (refine Ps.par_skip (a' := ?_) (by rfl) (by rfl) ?_ ?_ ?_; rotate_left 1; with_reducible rfl; (simp only [lays]; with_reducible rfl))
   | (refine Ps.par_run (a' := ?_) (by rfl) (by rfl) (fun w' hb hn => ?_) ?_ ?_; rotate_left 1; (obtain ⟨q0, q1, q2, q3, q4⟩ := HQ5.out w' hb; go_simp; (try simp (disch := omega) only [nrm, toNatUp, iteOmega]); first | with_reducible rfl | (go_simp; with_reducible rfl)); (simp only [lays]; with_reducible rfl))
 refine Ps.par_sf (a' := ?_) (f := ?_) (args := ?_) (by rfl) (by rfl) (fun w' => ?_) (fun _ _ h hb => ⟨⟨(hb.block xb (heap_lt h.1.1)).trans h.1.1, h.1.2.grow hb⟩, own_below h.2 hb⟩) (fun w' hb hn hr => ?_) ?_ ?_; rotate_left 3; (go_simp; constructor <;> with_reducible rfl); (exact (Hc3.out w' hr.1.1 hr.1.2).mono (fun e w2 ⟨he, h2, b2⟩ => ⟨he, ⟨b2, fun b i v hs hc => But.cell b2 hc (by rcases hs with ⟨rfl, -⟩ | rfl <;> assumption)⟩, ⟨b2.at hr.1.1 n1, h2⟩, own_at hr.2 b2 (fun g hg he => n5.out (he ▸ hg))⟩)); (simp only [lays]; with_reducible rfl)
 iterate 4
  first
   | (refine Ps.par_skip (a' := ?_) (by rfl) (by rfl) ?_ ?_ ?_; rotate_left 1; with_reducible rfl; (simp only [lays]; with_reducible rfl))
   | (refine Ps.par_run (a' := ?_) (by rfl) (by rfl) (fun w' hb hn => ?_) ?_ ?_; rotate_left 1; (obtain ⟨q0, q1, q2, q3, q4⟩ := HQ5.out w' hb; go_simp; (try simp (disch := omega) only [nrm, toNatUp, iteOmega]); first | with_reducible rfl | (go_simp; with_reducible rfl)); (simp only [lays]; with_reducible rfl))
 refine Ps.par_sf (a' := ?_) (f := ?_) (args := ?_) (by rfl) (by rfl) (fun w' => ?_) (fun _ _ h hb => ⟨⟨(hb.block xb (heap_lt h.1.1)).trans h.1.1, h.1.2.grow hb⟩, own_below h.2 hb⟩) (fun w' hb hn hr => ?_) ?_ ?_; rotate_left 3; (go_simp; constructor <;> with_reducible rfl); (exact (Hc4.out w' hr.1.1 hr.1.2).mono (fun e w2 ⟨he, h2, b2⟩ => ⟨he, ⟨b2, fun b i v hs hc => But.cell b2 hc (by rcases hs with ⟨rfl, -⟩ | rfl <;> assumption)⟩, ⟨b2.at hr.1.1 n1, h2⟩, own_at hr.2 b2 (fun g hg he => n5.out (he ▸ hg))⟩)); (simp only [lays]; with_reducible rfl)
 iterate 1
  first
   | (refine Ps.par_skip (a' := ?_) (by rfl) (by rfl) ?_ ?_ ?_; rotate_left 1; with_reducible rfl; (simp only [lays]; with_reducible rfl))
   | (refine Ps.par_run (a' := ?_) (by rfl) (by rfl) (fun w' hb hn => ?_) ?_ ?_; rotate_left 1; (obtain ⟨q0, q1, q2, q3, q4⟩ := HQ5.out w' hb; go_simp; (try simp (disch := omega) only [nrm, toNatUp, iteOmega]); first | with_reducible rfl | (go_simp; with_reducible rfl)); (simp only [lays]; with_reducible rfl))
 refine Ps.par_box (a' := ?ap10k16) (r := ?rp10k16) (fun b h => by omega) (by rfl) (by rfl) (fun w' hb hn => ?hp10k16) (fun w' => ?ep10k16) (fun u => ?pp10k16) (fun u => ?gp10k16)
 case hp10k16 => (go_simp; with_reducible rfl)
 case ep10k16 => with_reducible rfl
 case pp10k16 => (simp only [lays]; with_reducible rfl)
 refine Ps.par_end (fun w9 hb9 hf9 hr9 => ?_)
 try refine Ps.wpList_none ?_
 obtain ⟨g, rfl, hg, hgb⟩ := hf9 _ List.mem_cons_self
 try dsimp only at hgb
 have T9 : TyBut base [168, 81, 118] w w9 := hb9.1.mono (fun i _ hi => hi ▸ ⟨_, _, _, Hr.out, by decide, hbr⟩)
 have gr : g ≠ rb := by omega
 have gx : g ≠ xb := by omega
 have gs : g ≠ sb := by omega
 have go : ¬ ownB (.slice ak s.msgs.length ck) g := fun h => by have := n6.out g h; omega
 have hgl := heap_lt hgb
 have kg0 := cell_of hgb 0
 have fg0 := free_of hgb 0
 have kg1 := cell_of hgb 1
 have fg1 := free_of hgb 1
 have kg2 := cell_of hgb 2
 have fg2 := free_of hgb 2
 have kg3 := cell_of hgb 3
 have fg3 := free_of hgb 3
 have kg4 := cell_of hgb 4
 have fg4 := free_of hgb 4
 have kg5 := cell_of hgb 5
 have fg5 := free_of hgb 5
 have kg6 := cell_of hgb 6
 have fg6 := free_of hgb 6
 have hx9 := hr9.1.1
 have hr9' := hr9.1.2
 have ho9 := hr9.2
 have hsb9 := T9.at Hsb.out (by decide)
 clear hb9 hf9
 go_wp2_with fail
 clear kg0 fg0 kg1 fg1 kg2 fg2 kg3 fg3 kg4 fg4 kg5 fg5 kg6 fg6
 have hg1 := (setCell_at (setCell_at (setCell_at (setCell_at (setCell_at (setCell_at (setCell_at hgb 0 (U k)) 1 (.string v1)) 2 (.string v2)) 3 (.string v3)) 4 (I v4)) 5 (.slice none 0 0)) 6 (.slice none 0 0))
 have bg1 : Rb g w9 (((((((w9.setCell ⟨g, 0, none⟩ (U k)).setCell ⟨g, 1, none⟩ (.string v1)).setCell ⟨g, 2, none⟩ (.string v2)).setCell ⟨g, 3, none⟩ (.string v3)).setCell ⟨g, 4, none⟩ (I v4)).setCell ⟨g, 5, none⟩ (.slice none 0 0)).setCell ⟨g, 6, none⟩ (.slice none 0 0)) := (Rb.set g 0 (U k)).trans ((Rb.set g 1 (.string v1)).trans ((Rb.set g 2 (.string v2)).trans ((Rb.set g 3 (.string v3)).trans ((Rb.set g 4 (I v4)).trans ((Rb.set g 5 (.slice none 0 0)).trans (Rb.set g 6 (.slice none 0 0)))))))
 have Hx1 := hid (bg1.at hx9 (Ne.symm gx))
 have Hr1 := hid (bg1.at hr9' (Ne.symm gr))
 have Hsb1 := hid (bg1.at hsb9 (Ne.symm gs))
 have Ho1 := hid (own_at ho9 bg1 (fun i hi he => go (he ▸ hi)))
 have T1 := hid (show TyBut base [168, 81, 118] w _ from But.trans' T9 bg1 (fun i hi he => by omega))
 clear hx9 hr9' hr9 ho9 hsb9 T9 bg1 hgb hgl
 generalize ((((((w9.setCell ⟨g, 0, none⟩ (U k)).setCell ⟨g, 1, none⟩ (.string v1)).setCell ⟨g, 2, none⟩ (.string v2)).setCell ⟨g, 3, none⟩ (.string v3)).setCell ⟨g, 4, none⟩ (I v4)).setCell ⟨g, 5, none⟩ (.slice none 0 0)).setCell ⟨g, 6, none⟩ (.slice none 0 0) = w1 at hg1 Hx1 Hr1 Hsb1 Ho1 T1 ⊢
 have Hg1 : Hid (w1.heap[g]? = some (.cells #[U k, .string v1, .string v2, .string v3, I v4, .slice none 0 0, .slice none 0 0] 118 (0, 0))) := hg1
 clear hg1
 refine (Hc5.out w1 odd Hx1.out Hr1.out).mono ?_
 rintro e1 w2 ⟨uv, rfl, hv2, hx2, h2, b2, -⟩
 obtain ⟨av, cv, rfl⟩ := own_slice hv2
 have nn : ∀ i, ¬ (i = rb ∨ i = xb) → i ≠ rb ∧ i ≠ xb := fun i h => ⟨fun e => h (.inl e), fun e => h (.inr e)⟩
 have Hr2 := hid h2
 have Hx2 := hid hx2
 have Hsb2 := hid ((b2.block sb (heap_lt Hsb1.out) (fun h => h.elim n2 n7)).trans Hsb1.out)
 have Hg2 := hid ((b2.block g (heap_lt Hg1.out) (fun h => h.elim gr gx)).trans Hg1.out)
 have Ho2 := hid (own_at Ho1.out b2 (fun i hi he => he.elim (fun he => n5.out (he ▸ hi)) (fun he => n3.out (he ▸ hi))))
 have T2 := hid (show TyBut base [168, 81, 118] w w2 from TyBut.trans (ts := [168, 81, 118]) T1.out (b2.mono (fun i _ hi => hi.elim (fun h => h ▸ ⟨_, _, _, Hr1.out, by decide, hbr⟩) (fun h => h ▸ ⟨_, _, _, Hx1.out, by decide, hbx⟩))))
 have Hv2 := hid hv2
 have vl2 := T1.out.size
 clear hx2 h2 b2 hv2 nn
 go_wp2_with fail
 refine (Hc6.out w2 _ Hx2.out Hr2.out).mono ?_
 rintro e1 w2b ⟨ui, rfl, hi2, h2, b2⟩
 obtain ⟨ai, ci, rfl⟩ := own_slice hi2
 have Hr2b := hid h2
 have Hx2b := hid (b2.at Hx2.out n1)
 have Hsb2b := hid (b2.at Hsb2.out n2)
 have Hg2b := hid (b2.at Hg2.out gr)
 have Ho2b := hid (own_at Ho2.out b2 (fun i hi he => n5.out (he ▸ hi)))
 have Hv2b := hid (own_rb Hv2.out b2 (by omega))
 have Hi2b := hid hi2
 have il2 := T2.out.size
 have T2b := hid (show TyBut base [168, 81, 118] w w2b from TyBut.trans (ts := [168, 81, 118]) T2.out (TyBut.rb (ts := [168, 81, 118]) Hr2.out (by decide) hbr b2))
 clear h2 b2 hi2
 have gl1 := heap_lt Hg1.out
 have gl2 := heap_lt Hg2.out
 have kg5 := cell_of Hg2b.out 5
 have fg5 := free_of Hg2b.out 5
 have kg6 := cell_of Hg2b.out 6
 have fg6 := free_of Hg2b.out 6
 have hg3 := setCell_at (setCell_at Hg2b.out 5 (.slice av vs.length cv)) 6 (.slice ai ns.length ci)
 have bg3 : Rb g w2b ((w2b.setCell ⟨g, 5, none⟩ (.slice av vs.length cv)).setCell ⟨g, 6, none⟩ (.slice ai ns.length ci)) := (Rb.set g 5 (.slice av vs.length cv)).trans (Rb.set g 6 (.slice ai ns.length ci))
 have Hx3 := hid (bg3.at Hx2b.out (Ne.symm gx))
 have Hr3 := hid (bg3.at Hr2b.out (Ne.symm gr))
 have Hsb3 := hid (bg3.at Hsb2b.out (Ne.symm gs))
 have Ho3 := hid (own_at Ho2b.out bg3 (fun i hi he => go (he ▸ hi)))
 have Hv3 := hid (ownsRow_base (own_rb Hv2b.out bg3 (by omega)) (Nat.le_trans hbase vl2))
 have Hi3 := hid (ownsRow_base (own_rb Hi2b.out bg3 (by omega)) (Nat.le_trans hbase il2))
 have Hg3 : Hid (((w2b.setCell ⟨g, 5, none⟩ (.slice av vs.length cv)).setCell ⟨g, 6, none⟩ (.slice ai ns.length ci)).heap[g]? = some (.cells #[U k, .string v1, .string v2, .string v3, I v4, .slice av vs.length cv, .slice ai ns.length ci] 118 (0, 0))) := hg3
 have T3 := hid (show TyBut base [168, 81, 118] w _ from But.trans' T2b.out bg3 (fun i hi he => by omega))
 clear hg3 bg3
 have go3 := hid go
 clear go
 go_wp2_with fail
 clear kg5 fg5 kg6 fg6
 generalize (w2b.setCell ⟨g, 5, none⟩ (.slice av vs.length cv)).setCell ⟨g, 6, none⟩ (.slice ai ns.length ci) = w3 at Hx3 Hr3 Hsb3 Ho3 Hv3 Hi3 Hg3 T3 ⊢
 have m6 : ∀ b, ownB (.slice ak s.msgs.length ck) b → b < w3.heap.size := fun b h => Nat.lt_of_lt_of_le (n6.out b h) T3.out.size
 replace m6 := hid m6
 have m7 : ¬ ownB (.slice ak s.msgs.length ck) g := fun h => by have := n6.out g h; omega
 replace m7 := hid m7
 have mb : base ≤ w3.heap.size := Nat.le_trans hbase T3.out.size
 have HQ11 := hid (fun w' (hb : (Ps.relC (fun b => ownB (.slice ak s.msgs.length ck) b) (fun b _ => b = xb ∨ b = sb ∨ b = g)).G w3 w') => And.intro (hb.2 xb 0 _ (.inl rfl) (cell_of Hx3.out 0)) (And.intro (hb.2 sb 11 _ (.inr (.inl rfl)) (cell_of Hsb3.out 11)) (And.intro (hb.2 g 0 _ (.inr (.inr rfl)) (cell_of Hg3.out 0)) (And.intro (hb.2 g 1 _ (.inr (.inr rfl)) (cell_of Hg3.out 1)) (And.intro (hb.2 g 2 _ (.inr (.inr rfl)) (cell_of Hg3.out 2)) (And.intro (hb.2 g 3 _ (.inr (.inr rfl)) (cell_of Hg3.out 3)) (And.intro (hb.2 g 4 _ (.inr (.inr rfl)) (cell_of Hg3.out 4)) (And.intro (hb.2 g 5 _ (.inr (.inr rfl)) (cell_of Hg3.out 5)) (hb.2 g 6 _ (.inr (.inr rfl)) (cell_of Hg3.out 6))))))))))
 refine Ps.wp_par (Ps.relC (fun b => ownB (.slice ak s.msgs.length ck) b) (fun b _ => b = xb ∨ b = sb ∨ b = g)) (fun W => True ∧ W.ownsRow base 118 7 (.slice ak s.msgs.length ck) s.msgs.length css.flatten) (false :: false :: false :: false :: false :: false :: false :: false :: false :: false :: false :: false :: false :: true :: []) _ (.fix ?_ :: .fix ?_ :: .fix ?_ :: .fix ?_ :: .fix ?_ :: .fix ?_ :: .fix ?_ :: .fix ?_ :: .fix ?_ :: .fix ?_ :: .fix ?_ :: .fix ?_ :: .new (Ps.rowN 7 ?_ ?_ w3.heap.size) :: .st (some (s.msgs.length + 1)) (fun _ _ => True) (fun u W => True ∧ W.ownsRow base 118 7 u (s.msgs.length + 1) (css.flatten ++ [U k, .string v1, .string v2, .string v3, I v4, .slice av vs.length cv, .slice ai ns.length ci])) :: []) (by kernel_rfl) (by kernel_rfl) (by simp only [List.length_cons, List.length_nil, List.drop_succ_cons, List.drop_zero, List.drop_nil]; with_reducible rfl) rfl (fun _ _ _ _ _ => ⟨fun h => h, fun h => h⟩) (fun _ _ h hb => ⟨trivial, own_below h.2 hb⟩) (⟨trivial, Ho3.out⟩) ?_
 rotate_left 14
 iterate 12
  first
   | (refine Ps.par_skip (a' := ?_) (by rfl) (by rfl) ?_ ?_ ?_; rotate_left 1; with_reducible rfl; (simp only [lays]; with_reducible rfl))
   | (refine Ps.par_run (a' := ?_) (by rfl) (by rfl) (fun w' hb hn => ?_) ?_ ?_; rotate_left 1; (obtain ⟨q0, q21, g0, g1, g2, g3, g4, g5, g6⟩ := HQ11.out w' hb; go_simp; (try simp (disch := omega) only [nrm, toNatUp, iteOmega]); first | with_reducible rfl | (go_simp; with_reducible rfl)); (simp only [lays]; with_reducible rfl))
 refine Ps.par_row (a' := ?ap12k12) (m := ?mp12k12) (T := ?Tp12k12) (cs := ?cp12k12) (r := ?rp12k12) (fun b h => m6.out b h) (by rfl) (by rfl) (fun w' hb hn => ?hp12k12) (fun w' => ?ep12k12) ?np12k12 ?vp12k12 ?lp12k12 ?xp12k12 (fun u => ?pp12k12) (fun u => ?gp12k12)
 case hp12k12 => (obtain ⟨q0, q21, g0, g1, g2, g3, g4, g5, g6⟩ := HQ11.out w' hb; go_simp; (try simp (disch := omega) only [nrm, toNatUp, iteOmega]); with_reducible rfl)
 case ep12k12 => with_reducible rfl
 case np12k12 => with_reducible rfl
 case vp12k12 => with_reducible rfl
 case lp12k12 => simp only [List.length_cons, List.length_nil]
 case xp12k12 => (unfold maxLen; omega)
 case pp12k12 => (simp only [lays]; with_reducible rfl)
 refine Ps.par_app (a' := ?ap13k13) (A := fun W => True) 31 118 Tryz.underlying31 info_msgs rfl (by decide) mb (by unfold maxLen; omega) (by omega) (by simp [Value.oneCell']) (fun _ _ _ _ _ => trivial) (fun _ _ _ _ => trivial) (fun _ h => h) (fun b i hs hb => by rcases hs with rfl | rfl | rfl; exact n3.out hb; exact n4.out hb; exact m7.out hb) (by rfl) rfl rfl rfl rfl (fun w' hb hn => ?xp13k13) (fun u => ?pp13k13) (fun u hu13 => ?gp13k13)
 case xp13k13 => (exact (Ps.need_head hn (by kernel_rfl)).1)
 case pp13k13 => (simp only [lays]; with_reducible rfl)
 obtain ⟨au13, cu13, rfl⟩ := hu13
 refine Ps.par_end (fun w9 hb9 hf9 hr9 => ?_)
 try refine Ps.wpList_none ?_
 have Hx9 := hid ((hb9.1.block xb (heap_lt Hx3.out) n3.out).trans Hx3.out)
 have Hr9 := hid ((hb9.1.block rb (heap_lt Hr3.out) n5.out).trans Hr3.out)
 have Hsb9 := (hb9.1.block sb (heap_lt Hsb3.out) n4.out).trans Hsb3.out
 have T9 : TyBut base [168, 81, 118] w w9 := T3.out.trans' hb9.1 (fun i hi ho => own_ty Hown.out (by decide) ho)
 have Ho9 := hid hr9.2
 have Hv9 := hid (own_at Hv3.out hb9.1 (own_own_ne Hv3.out Ho3.out (by decide)))
 have Hi9 := hid (own_at Hi3.out hb9.1 (own_own_ne Hi3.out Ho3.out (by decide)))
 have k9 := cell_of Hsb9 11
 have f9 := free_of Hsb9 11
 clear hb9 hf9 hr9
 go_wp2
 have hs9 := setCell_at Hsb9 11 (.slice au13 (s.msgs.length + 1) cu13)
 have T10 : TyBut base [33] w9 (w9.setCell ⟨sb, 11, none⟩ (.slice au13 (s.msgs.length + 1) cu13)) := TyBut.set Hsb9 (by decide) hbs 11 _
 generalize w9.setCell ⟨sb, 11, none⟩ (.slice au13 (s.msgs.length + 1) cu13) = w10 at hs9 T10 ⊢
 have T : TyBut base [168, 81, 118, 33] w w10 := (T9.weak (by decide)).trans (T10.weak (by decide))
 have hL := HL.out
 go_end0
 refine ⟨rfl, T10.at Hx9.out (by decide), ⟨vp, vi, vt, vj, vr, vs_, vk, vl, (.slice au13 (s.msgs.length + 1) cu13), hs9, ?_⟩, T10.at Hr9.out (by decide), T.weak (by decide)⟩
 exact ⟨hL.procs.keep DepV.ost T (by decide) (by decide) (by decide), hL.insts.keep InstV.ost T (by decide) (by decide) (by decide), hL.tokens.keep TokV.ost T (by decide) (by decide) (by decide), hL.jobs.keep JobV.ost T (by decide) (by decide) (by decide), hL.timers.keep TimV.ost T (by decide) (by decide) (by decide), hL.subs.keep SubV.ost T (by decide) (by decide) (by decide), hL.kept.keep KeptV.ost T (by decide) (by decide) (by decide), hL.listed.keep LisV.ost T (by decide) (by decide) (by decide), (LOwn.snoc A1.out A2.out (fun i cs x hc hx => MsgV.ost _ _ _ _ _ _ (by decide) (by decide) (A3.out i cs x hc hx) T9.kept) ⟨rfl, by simp [Value.oneCell']⟩ (show MsgV.ow w9 base _ ⟨k, v1, v2, v3, v4, vs, ns⟩ from ⟨_, _, rfl, Hv9.out, Hi9.out⟩) Ho9.out).keep MsgV.ost T10 (by decide) (by decide) (by decide)⟩
theorem let9_any (xb sb rb k : Nat) (node : Int) (id : ByteArray) (odd : Bool) (s : StateV) (r : RdV) (w : World) (base : Nat) (hbase : base ≤ w.heap.size) (hbx : base ≤ xb) (hbs : base ≤ sb) (hbr : base ≤ rb) (hx : TakAt w xb sb rb k node id odd) (hs : StB w base sb s) (hr : IsR 168 w rb r)
  (hsz : r.s.size ≤ 1099511627776) (hk : k < 18446744073709551616) (hno : I64 node) (hl : s.subs.length ≤ 2097152) :
  Calls Tryz.prog 99 #[.pointer (some ⟨xb, 0, none⟩)] w fun e w' => e = .returned (.tuple #[]) ∧ TakAt w' xb sb rb k node id (odd || (stepS k node s r).bad) ∧ StB w' base sb (stepS k node s r).s ∧ IsR 168 w' rb (stepS k node s r).r ∧ TyBut base letTs w w' := by
 obtain ⟨hno1, hno2⟩ := hno
 unfold stepS
 dsimp only
 have Hc1 : Hid (∀ W, TakAt W xb sb rb k node id odd → IsR 168 W rb r → Calls Tryz.prog 87 #[.pointer (some ⟨rb, 0, none⟩)] W fun e w' => e = .returned (.int .u64 (uintR r).1) ∧ IsR 168 w' rb (uintR r).2 ∧ Rb rb W w') := fun W _ hR => rdUint_any rb r W hR (by omega)
 have hz1 := uintR_size r
 have hv1 := uintR_lt r
 revert Hc1 hz1 hv1
 generalize uintR r = p1
 obtain ⟨v1, r1⟩ := p1
 intro Hc1 hz1 hv1
 dsimp only at Hc1 hz1 hv1 ⊢
 have Hc2 : Hid (∀ W, TakAt W xb sb rb k node id odd → IsR 168 W rb r1 → Calls Tryz.prog 89 #[.pointer (some ⟨xb, 0, none⟩)] W fun e w' => e = .returned (.string (textR 16384 r1).1) ∧ IsR 168 w' rb (textR 16384 r1).2 ∧ Rb rb W w') := fun W hX hR => takText_any xb sb rb k node id odd r1 W hX hR (by omega)
 have hz2 := textR_sz 16384 r1
 have hv2 : True := trivial
 revert Hc2 hz2 hv2
 generalize textR 16384 r1 = p2
 obtain ⟨v2, r2⟩ := p2
 intro Hc2 hz2 hv2
 dsimp only at Hc2 hz2 hv2 ⊢
 have Hc3 : Hid (∀ W, TakAt W xb sb rb k node id odd → IsR 168 W rb r2 → Calls Tryz.prog 89 #[.pointer (some ⟨xb, 0, none⟩)] W fun e w' => e = .returned (.string (textR 16384 r2).1) ∧ IsR 168 w' rb (textR 16384 r2).2 ∧ Rb rb W w') := fun W hX hR => takText_any xb sb rb k node id odd r2 W hX hR (by omega)
 have hz3 := textR_sz 16384 r2
 have hv3 : True := trivial
 revert Hc3 hz3 hv3
 generalize textR 16384 r2 = p3
 obtain ⟨v3, r3⟩ := p3
 intro Hc3 hz3 hv3
 dsimp only at Hc3 hz3 hv3 ⊢
 have Hc4 : Hid (∀ W, TakAt W xb sb rb k node id odd → IsR 168 W rb r3 → Calls Tryz.prog 90 #[.pointer (some ⟨rb, 0, none⟩)] W fun e w' => e = .returned (.int .i64 (intR r3).1) ∧ IsR 168 w' rb (intR r3).2 ∧ Rb rb W w') := fun W _ hR => rdInt_any rb r3 W hR (by omega)
 have hz4 := intR_size r3
 have hv4 := intR_in r3
 revert Hc4 hz4 hv4
 generalize intR r3 = p4
 obtain ⟨v4, r4⟩ := p4
 intro Hc4 hz4 hv4
 dsimp only at Hc4 hz4 hv4 ⊢
 obtain ⟨hv4a, hv4b⟩ := hv4
 obtain ⟨vp, vi, vt, vj, vr, vs_, vk, vl, vm, hsb, hL⟩ := hs
 obtain ⟨css, a1, a2, a3, hown⟩ := hL.subs
 obtain ⟨ak, ck, rfl⟩ := own_slice hown
 have HL := hid hL
 have Hown := hid hown
 have Hx := hid hx
 have Hsb := hid hsb
 have Hr := hid hr
 have n1 : xb ≠ rb := ty_ne hx hr (by decide)
 have n2 : sb ≠ rb := ty_ne hsb hr (by decide)
 have n7 : sb ≠ xb := ty_ne hsb hx (by decide)
 have n3 := hid (own_ne hown hx (by decide))
 have n4 := hid (own_ne hown hsb (by decide))
 have n5 := hid (own_ne hown hr (by decide))
 have n6 := hid (own_lt hown)
 have l1 := heap_lt hx
 have l2 := heap_lt hsb
 have l3 := heap_lt hr
 have A1 := hid a1
 have A2 := hid a2
 have A3 := hid a3
 clear hx hsb hr hown hL a1 a2 a3
 go_enter Tryz.func99, Tryz.ntmps99
 go_wp2_with fail
 have HQ14 := hid (fun w' (hb : (Ps.relC (fun b => b = rb) (fun b i => (b = xb ∧ i < 5) ∨ b = sb)).G w w') => And.intro (hb.2 xb 0 _ (.inl ⟨rfl, by omega⟩) (cell_of Hx.out 0)) (And.intro (hb.2 xb 1 _ (.inl ⟨rfl, by omega⟩) (cell_of Hx.out 1)) (And.intro (hb.2 xb 2 _ (.inl ⟨rfl, by omega⟩) (cell_of Hx.out 2)) (And.intro (hb.2 xb 3 _ (.inl ⟨rfl, by omega⟩) (cell_of Hx.out 3)) (hb.2 xb 4 _ (.inl ⟨rfl, by omega⟩) (cell_of Hx.out 4))))))
 refine Ps.wp_par (Ps.relC (fun b => b = rb) (fun b i => (b = xb ∧ i < 5) ∨ b = sb)) (fun W => (TakAt W xb sb rb k node id odd ∧ IsR 168 W rb r) ∧ W.ownsRow base 111 6 (.slice ak s.subs.length ck) s.subs.length css.flatten) (false :: false :: false :: false :: false :: false :: false :: false :: false :: false :: false :: false :: true :: false :: true :: false :: true :: false :: false :: []) _ (.fix ?_ :: .fix ?_ :: .fix ?_ :: .fix ?_ :: .fix ?_ :: .fix ?_ :: .fix ?_ :: .fix ?_ :: .fix ?_ :: .fix ?_ :: .fix ?_ :: .fix ?_ :: .sf (.int .u64 v1) (fun W => (TakAt W xb sb rb k node id odd ∧ IsR 168 W rb r1) ∧ W.ownsRow base 111 6 (.slice ak s.subs.length ck) s.subs.length css.flatten) :: .fix ?_ :: .sf (.string v2) (fun W => (TakAt W xb sb rb k node id odd ∧ IsR 168 W rb r2) ∧ W.ownsRow base 111 6 (.slice ak s.subs.length ck) s.subs.length css.flatten) :: .fix ?_ :: .sf (.string v3) (fun W => (TakAt W xb sb rb k node id odd ∧ IsR 168 W rb r3) ∧ W.ownsRow base 111 6 (.slice ak s.subs.length ck) s.subs.length css.flatten) :: .fix ?_ :: .new (Ps.boxN (#[.int .u64 0, .int .u64 0, .int .i64 0, .string ⟨#[]⟩, .string ⟨#[]⟩, .bool false]) (111) w.heap.size) :: []) (by kernel_rfl) (by kernel_rfl) (by simp only [List.length_cons, List.length_nil, List.drop_succ_cons, List.drop_zero, List.drop_nil]; with_reducible rfl) rfl (fun _ _ _ _ _ => ⟨fun h => h, fun h => h⟩) (fun _ _ h hb => ⟨⟨(hb.block xb (heap_lt h.1.1)).trans h.1.1, h.1.2.grow hb⟩, own_below h.2 hb⟩) (⟨⟨Hx.out, Hr.out⟩, Hown.out⟩) ?_
 rotate_left 15
 iterate 12
  first
   | (refine Ps.par_skip (a' := ?_) (by rfl) (by rfl) ?_ ?_ ?_; rotate_left 1; with_reducible rfl; (simp only [lays]; with_reducible rfl))
   | (refine Ps.par_run (a' := ?_) (by rfl) (by rfl) (fun w' hb hn => ?_) ?_ ?_; rotate_left 1; (obtain ⟨q0, q1, q2, q3, q4⟩ := HQ14.out w' hb; go_simp; (try simp (disch := omega) only [nrm, toNatUp, iteOmega]); first | with_reducible rfl | (go_simp; with_reducible rfl)); (simp only [lays]; with_reducible rfl))
 refine Ps.par_sf (a' := ?_) (f := ?_) (args := ?_) (by rfl) (by rfl) (fun w' => ?_) (fun _ _ h hb => ⟨⟨(hb.block xb (heap_lt h.1.1)).trans h.1.1, h.1.2.grow hb⟩, own_below h.2 hb⟩) (fun w' hb hn hr => ?_) ?_ ?_; rotate_left 3; (go_simp; constructor <;> with_reducible rfl); (exact (Hc1.out w' hr.1.1 hr.1.2).mono (fun e w2 ⟨he, h2, b2⟩ => ⟨he, ⟨b2, fun b i v hs hc => But.cell b2 hc (by rcases hs with ⟨rfl, -⟩ | rfl <;> assumption)⟩, ⟨b2.at hr.1.1 n1, h2⟩, own_at hr.2 b2 (fun g hg he => n5.out (he ▸ hg))⟩)); (simp only [lays]; with_reducible rfl)
 iterate 1
  first
   | (refine Ps.par_skip (a' := ?_) (by rfl) (by rfl) ?_ ?_ ?_; rotate_left 1; with_reducible rfl; (simp only [lays]; with_reducible rfl))
   | (refine Ps.par_run (a' := ?_) (by rfl) (by rfl) (fun w' hb hn => ?_) ?_ ?_; rotate_left 1; (obtain ⟨q0, q1, q2, q3, q4⟩ := HQ14.out w' hb; go_simp; (try simp (disch := omega) only [nrm, toNatUp, iteOmega]); first | with_reducible rfl | (go_simp; with_reducible rfl)); (simp only [lays]; with_reducible rfl))
 refine Ps.par_sf (a' := ?_) (f := ?_) (args := ?_) (by rfl) (by rfl) (fun w' => ?_) (fun _ _ h hb => ⟨⟨(hb.block xb (heap_lt h.1.1)).trans h.1.1, h.1.2.grow hb⟩, own_below h.2 hb⟩) (fun w' hb hn hr => ?_) ?_ ?_; rotate_left 3; (go_simp; constructor <;> with_reducible rfl); (exact (Hc2.out w' hr.1.1 hr.1.2).mono (fun e w2 ⟨he, h2, b2⟩ => ⟨he, ⟨b2, fun b i v hs hc => But.cell b2 hc (by rcases hs with ⟨rfl, -⟩ | rfl <;> assumption)⟩, ⟨b2.at hr.1.1 n1, h2⟩, own_at hr.2 b2 (fun g hg he => n5.out (he ▸ hg))⟩)); (simp only [lays]; with_reducible rfl)
 iterate 1
  first
   | (refine Ps.par_skip (a' := ?_) (by rfl) (by rfl) ?_ ?_ ?_; rotate_left 1; with_reducible rfl; (simp only [lays]; with_reducible rfl))
   | (refine Ps.par_run (a' := ?_) (by rfl) (by rfl) (fun w' hb hn => ?_) ?_ ?_; rotate_left 1; (obtain ⟨q0, q1, q2, q3, q4⟩ := HQ14.out w' hb; go_simp; (try simp (disch := omega) only [nrm, toNatUp, iteOmega]); first | with_reducible rfl | (go_simp; with_reducible rfl)); (simp only [lays]; with_reducible rfl))
 refine Ps.par_sf (a' := ?_) (f := ?_) (args := ?_) (by rfl) (by rfl) (fun w' => ?_) (fun _ _ h hb => ⟨⟨(hb.block xb (heap_lt h.1.1)).trans h.1.1, h.1.2.grow hb⟩, own_below h.2 hb⟩) (fun w' hb hn hr => ?_) ?_ ?_; rotate_left 3; (go_simp; constructor <;> with_reducible rfl); (exact (Hc3.out w' hr.1.1 hr.1.2).mono (fun e w2 ⟨he, h2, b2⟩ => ⟨he, ⟨b2, fun b i v hs hc => But.cell b2 hc (by rcases hs with ⟨rfl, -⟩ | rfl <;> assumption)⟩, ⟨b2.at hr.1.1 n1, h2⟩, own_at hr.2 b2 (fun g hg he => n5.out (he ▸ hg))⟩)); (simp only [lays]; with_reducible rfl)
 iterate 1
  first
   | (refine Ps.par_skip (a' := ?_) (by rfl) (by rfl) ?_ ?_ ?_; rotate_left 1; with_reducible rfl; (simp only [lays]; with_reducible rfl))
   | (refine Ps.par_run (a' := ?_) (by rfl) (by rfl) (fun w' hb hn => ?_) ?_ ?_; rotate_left 1; (obtain ⟨q0, q1, q2, q3, q4⟩ := HQ14.out w' hb; go_simp; (try simp (disch := omega) only [nrm, toNatUp, iteOmega]); first | with_reducible rfl | (go_simp; with_reducible rfl)); (simp only [lays]; with_reducible rfl))
 refine Ps.par_box (a' := ?ap18k18) (r := ?rp18k18) (fun b h => by omega) (by rfl) (by rfl) (fun w' hb hn => ?hp18k18) (fun w' => ?ep18k18) (fun u => ?pp18k18) (fun u => ?gp18k18)
 case hp18k18 => (go_simp; with_reducible rfl)
 case ep18k18 => with_reducible rfl
 case pp18k18 => (simp only [lays]; with_reducible rfl)
 refine Ps.par_end (fun w9 hb9 hf9 hr9 => ?_)
 try refine Ps.wpList_none ?_
 obtain ⟨g, rfl, hg, hgb⟩ := hf9 _ List.mem_cons_self
 try dsimp only at hgb
 have T9 : TyBut base [168, 81, 111] w w9 := hb9.1.mono (fun i _ hi => hi ▸ ⟨_, _, _, Hr.out, by decide, hbr⟩)
 have gr : g ≠ rb := by omega
 have gx : g ≠ xb := by omega
 have gs : g ≠ sb := by omega
 have go : ¬ ownB (.slice ak s.subs.length ck) g := fun h => by have := n6.out g h; omega
 have hgl := heap_lt hgb
 have kg0 := cell_of hgb 0
 have fg0 := free_of hgb 0
 have kg1 := cell_of hgb 1
 have fg1 := free_of hgb 1
 have kg2 := cell_of hgb 2
 have fg2 := free_of hgb 2
 have kg3 := cell_of hgb 3
 have fg3 := free_of hgb 3
 have kg4 := cell_of hgb 4
 have fg4 := free_of hgb 4
 have kg5 := cell_of hgb 5
 have fg5 := free_of hgb 5
 have hx9 := hr9.1.1
 have hr9' := hr9.1.2
 have ho9 := hr9.2
 have hsb9 := T9.at Hsb.out (by decide)
 have ql := hx9.c
 clear hb9 hf9
 go_wp2_with fail
 clear ql kg0 fg0 kg1 fg1 kg2 fg2 kg3 fg3 kg4 fg4 kg5 fg5
 have hg1 := (setCell_at (setCell_at (setCell_at (setCell_at (setCell_at (setCell_at hgb 0 (U k)) 1 (U v1)) 2 (I node)) 3 (.string v2)) 4 (.string v3)) 5 (.bool false))
 have bg1 : Rb g w9 ((((((w9.setCell ⟨g, 0, none⟩ (U k)).setCell ⟨g, 1, none⟩ (U v1)).setCell ⟨g, 2, none⟩ (I node)).setCell ⟨g, 3, none⟩ (.string v2)).setCell ⟨g, 4, none⟩ (.string v3)).setCell ⟨g, 5, none⟩ (.bool false)) := (Rb.set g 0 (U k)).trans ((Rb.set g 1 (U v1)).trans ((Rb.set g 2 (I node)).trans ((Rb.set g 3 (.string v2)).trans ((Rb.set g 4 (.string v3)).trans (Rb.set g 5 (.bool false))))))
 have Hx1 := hid (bg1.at hx9 (Ne.symm gx))
 have Hr1 := hid (bg1.at hr9' (Ne.symm gr))
 have Hsb1 := hid (bg1.at hsb9 (Ne.symm gs))
 have Ho1 := hid (own_at ho9 bg1 (fun i hi he => go (he ▸ hi)))
 have T1 := hid (show TyBut base [168, 81, 111] w _ from But.trans' T9 bg1 (fun i hi he => by omega))
 clear hx9 hr9' hr9 ho9 hsb9 T9 bg1 hgb hgl
 generalize (((((w9.setCell ⟨g, 0, none⟩ (U k)).setCell ⟨g, 1, none⟩ (U v1)).setCell ⟨g, 2, none⟩ (I node)).setCell ⟨g, 3, none⟩ (.string v2)).setCell ⟨g, 4, none⟩ (.string v3)).setCell ⟨g, 5, none⟩ (.bool false) = w1 at hg1 Hx1 Hr1 Hsb1 Ho1 T1 ⊢
 have Hg1 : Hid (w1.heap[g]? = some (.cells #[U k, U v1, I node, .string v2, .string v3, .bool false] 111 (0, 0))) := hg1
 clear hg1
 refine (Hc4.out w1 Hx1.out Hr1.out).mono ?_
 rintro e1 w2 ⟨rfl, h2, b2⟩
 have Hr2 := hid h2
 have Hx2 := hid (b2.at Hx1.out n1)
 have Hsb2 := hid (b2.at Hsb1.out n2)
 have Hg2 := hid (b2.at Hg1.out gr)
 have Ho2 := hid (own_at Ho1.out b2 (fun i hi he => n5.out (he ▸ hi)))
 have T2 := hid (show TyBut base [168, 81, 111] w w2 from TyBut.trans (ts := [168, 81, 111]) T1.out (TyBut.rb (ts := [168, 81, 111]) Hr1.out (by decide) hbr b2))
 clear h2 b2
 have kx5 := cell_of Hx2.out 5
 have fx5 := free_of Hx2.out 5
 have kg5 := cell_of Hg2.out 5
 have fg5 := free_of Hg2.out 5
 have b1 : Hid ((v4 == 1) = (v4 == 1)) := rfl
 have hg3 := setCell_at Hg2.out 5 (.bool (v4 == 1))
 have bg3 := Rb.set (w := w2) g 5 (.bool (v4 == 1))
 have hx3 := setCell_at (bg3.at Hx2.out (Ne.symm gx)) 5 (.bool (odd || (v4 != 0 && v4 != 1)))
 have bx3 := Rb.set (w := w2.setCell ⟨g, 5, none⟩ (.bool (v4 == 1))) xb 5 (.bool (odd || (v4 != 0 && v4 != 1)))
 have Hx3 : Hid (TakAt ((w2.setCell ⟨g, 5, none⟩ (.bool (v4 == 1))).setCell ⟨xb, 5, none⟩ (.bool (odd || (v4 != 0 && v4 != 1)))) xb sb rb k node id (odd || (v4 != 0 && v4 != 1))) := hx3
 have Hg3 : Hid (((w2.setCell ⟨g, 5, none⟩ (.bool (v4 == 1))).setCell ⟨xb, 5, none⟩ (.bool (odd || (v4 != 0 && v4 != 1)))).heap[g]? = some (.cells #[U k, U v1, I node, .string v2, .string v3, .bool (v4 == 1)] 111 (0, 0))) := bx3.at hg3 gx
 have Hr3 := hid (bx3.at (bg3.at Hr2.out (Ne.symm gr)) (Ne.symm n1))
 have Hsb3 := hid (bx3.at (bg3.at Hsb2.out (Ne.symm gs)) n7)
 have Ho3 := hid (own_at (own_at Ho2.out bg3 (fun i hi he => go (he ▸ hi))) bx3 (fun i hi he => n3.out (he ▸ hi)))
 have T3 := hid (show TyBut base [168, 81, 111] w _ from TyBut.trans (ts := [168, 81, 111]) (But.trans' T2.out bg3 (fun i hi he => by omega)) (TyBut.set (ts := [168, 81, 111]) (bg3.at Hx2.out (Ne.symm gx)) (by decide) hbx 5 (.bool (odd || (v4 != 0 && v4 != 1)))))
 clear hg3 bg3 hx3 bx3 b1
 have go3 := hid go
 clear go
 cases odd with
 | true =>
  go_wp2_with fail
  simp only [Bool.true_or] at Hx3 Hg3 Hr3 Hsb3 Ho3 T3 ⊢
  generalize (w2.setCell ⟨g, 5, none⟩ (.bool (v4 == 1))).setCell ⟨xb, 5, none⟩ (.bool true) = w3 at Hx3 Hg3 Hr3 Hsb3 Ho3 T3 ⊢
  have m6 : ∀ b, ownB (.slice ak s.subs.length ck) b → b < w3.heap.size := fun b h => Nat.lt_of_lt_of_le (n6.out b h) T3.out.size
  replace m6 := hid m6
  have m7 : ¬ ownB (.slice ak s.subs.length ck) g := fun h => by have := n6.out g h; omega
  replace m7 := hid m7
  have mb : base ≤ w3.heap.size := Nat.le_trans hbase T3.out.size
  have HQ19 := hid (fun w' (hb : (Ps.relC (fun b => ownB (.slice ak s.subs.length ck) b) (fun b _ => b = xb ∨ b = sb ∨ b = g)).G w3 w') => And.intro (hb.2 xb 0 _ (.inl rfl) (cell_of Hx3.out 0)) (And.intro (hb.2 sb 8 _ (.inr (.inl rfl)) (cell_of Hsb3.out 8)) (And.intro (hb.2 g 0 _ (.inr (.inr rfl)) (cell_of Hg3.out 0)) (And.intro (hb.2 g 1 _ (.inr (.inr rfl)) (cell_of Hg3.out 1)) (And.intro (hb.2 g 2 _ (.inr (.inr rfl)) (cell_of Hg3.out 2)) (And.intro (hb.2 g 3 _ (.inr (.inr rfl)) (cell_of Hg3.out 3)) (And.intro (hb.2 g 4 _ (.inr (.inr rfl)) (cell_of Hg3.out 4)) (hb.2 g 5 _ (.inr (.inr rfl)) (cell_of Hg3.out 5)))))))))
  refine Ps.wp_par (Ps.relC (fun b => ownB (.slice ak s.subs.length ck) b) (fun b _ => b = xb ∨ b = sb ∨ b = g)) (fun W => True ∧ W.ownsRow base 111 6 (.slice ak s.subs.length ck) s.subs.length css.flatten) (false :: false :: false :: false :: false :: false :: false :: false :: false :: false :: false :: false :: false :: true :: []) _ (.fix ?_ :: .fix ?_ :: .fix ?_ :: .fix ?_ :: .fix ?_ :: .fix ?_ :: .fix ?_ :: .fix ?_ :: .fix ?_ :: .fix ?_ :: .fix ?_ :: .fix ?_ :: .new (Ps.rowN 6 ?_ ?_ w3.heap.size) :: .st (some (s.subs.length + 1)) (fun _ _ => True) (fun u W => True ∧ W.ownsRow base 111 6 u (s.subs.length + 1) (css.flatten ++ [U k, U v1, I node, .string v2, .string v3, .bool (v4 == 1)])) :: []) (by kernel_rfl) (by kernel_rfl) (by simp only [List.length_cons, List.length_nil, List.drop_succ_cons, List.drop_zero, List.drop_nil]; with_reducible rfl) rfl (fun _ _ _ _ _ => ⟨fun h => h, fun h => h⟩) (fun _ _ h hb => ⟨trivial, own_below h.2 hb⟩) (⟨trivial, Ho3.out⟩) ?_
  rotate_left 14
  iterate 12
   first
    | (refine Ps.par_skip (a' := ?_) (by rfl) (by rfl) ?_ ?_ ?_; rotate_left 1; with_reducible rfl; (simp only [lays]; with_reducible rfl))
    | (refine Ps.par_run (a' := ?_) (by rfl) (by rfl) (fun w' hb hn => ?_) ?_ ?_; rotate_left 1; (obtain ⟨q0, q18, g0, g1, g2, g3, g4, g5⟩ := HQ19.out w' hb; go_simp; (try simp (disch := omega) only [nrm, toNatUp, iteOmega]); first | with_reducible rfl | (go_simp; with_reducible rfl)); (simp only [lays]; with_reducible rfl))
  refine Ps.par_row (a' := ?ap20k12) (m := ?mp20k12) (T := ?Tp20k12) (cs := ?cp20k12) (r := ?rp20k12) (fun b h => m6.out b h) (by rfl) (by rfl) (fun w' hb hn => ?hp20k12) (fun w' => ?ep20k12) ?np20k12 ?vp20k12 ?lp20k12 ?xp20k12 (fun u => ?pp20k12) (fun u => ?gp20k12)
  case hp20k12 => (obtain ⟨q0, q18, g0, g1, g2, g3, g4, g5⟩ := HQ19.out w' hb; go_simp; (try simp (disch := omega) only [nrm, toNatUp, iteOmega]); with_reducible rfl)
  case ep20k12 => with_reducible rfl
  case np20k12 => with_reducible rfl
  case vp20k12 => with_reducible rfl
  case lp20k12 => simp only [List.length_cons, List.length_nil]
  case xp20k12 => (unfold maxLen; omega)
  case pp20k12 => (simp only [lays]; with_reducible rfl)
  refine Ps.par_app (a' := ?ap21k13) (A := fun W => True) 28 111 Tryz.underlying28 info_subs rfl (by decide) mb (by unfold maxLen; omega) (by omega) (by simp [Value.oneCell']) (fun _ _ _ _ _ => trivial) (fun _ _ _ _ => trivial) (fun _ h => h) (fun b i hs hb => by rcases hs with rfl | rfl | rfl; exact n3.out hb; exact n4.out hb; exact m7.out hb) (by rfl) rfl rfl rfl rfl (fun w' hb hn => ?xp21k13) (fun u => ?pp21k13) (fun u hu13 => ?gp21k13)
  case xp21k13 => (exact (Ps.need_head hn (by kernel_rfl)).1)
  case pp21k13 => (simp only [lays]; with_reducible rfl)
  obtain ⟨au13, cu13, rfl⟩ := hu13
  refine Ps.par_end (fun w9 hb9 hf9 hr9 => ?_)
  try refine Ps.wpList_none ?_
  have Hx9 := hid ((hb9.1.block xb (heap_lt Hx3.out) n3.out).trans Hx3.out)
  have Hr9 := hid ((hb9.1.block rb (heap_lt Hr3.out) n5.out).trans Hr3.out)
  have Hsb9 := (hb9.1.block sb (heap_lt Hsb3.out) n4.out).trans Hsb3.out
  have T9 : TyBut base [168, 81, 111] w w9 := T3.out.trans' hb9.1 (fun i hi ho => own_ty Hown.out (by decide) ho)
  have Ho9 := hid hr9.2
  have k9 := cell_of Hsb9 8
  have f9 := free_of Hsb9 8
  clear hb9 hf9 hr9
  go_wp2
  have hs9 := setCell_at Hsb9 8 (.slice au13 (s.subs.length + 1) cu13)
  have T10 : TyBut base [33] w9 (w9.setCell ⟨sb, 8, none⟩ (.slice au13 (s.subs.length + 1) cu13)) := TyBut.set Hsb9 (by decide) hbs 8 _
  generalize w9.setCell ⟨sb, 8, none⟩ (.slice au13 (s.subs.length + 1) cu13) = w10 at hs9 T10 ⊢
  have T : TyBut base [168, 81, 111, 33] w w10 := (T9.weak (by decide)).trans (T10.weak (by decide))
  have hL := HL.out
  go_end0
  refine ⟨rfl, T10.at Hx9.out (by decide), ⟨vp, vi, vt, vj, vr, (.slice au13 (s.subs.length + 1) cu13), vk, vl, vm, hs9, ?_⟩, T10.at Hr9.out (by decide), T.weak (by decide)⟩
  exact ⟨hL.procs.keep DepV.ost T (by decide) (by decide) (by decide), hL.insts.keep InstV.ost T (by decide) (by decide) (by decide), hL.tokens.keep TokV.ost T (by decide) (by decide) (by decide), hL.jobs.keep JobV.ost T (by decide) (by decide) (by decide), hL.timers.keep TimV.ost T (by decide) (by decide) (by decide), (LOwn.snoc A1.out A2.out (fun i cs x hc hx => SubV.ost _ _ _ _ _ _ (by decide) (by decide) (A3.out i cs x hc hx) T9.kept) ⟨rfl, by simp [Value.oneCell']⟩ rfl Ho9.out).keep SubV.ost T10 (by decide) (by decide) (by decide), hL.kept.keep KeptV.ost T (by decide) (by decide) (by decide), hL.listed.keep LisV.ost T (by decide) (by decide) (by decide), hL.msgs.keep MsgV.ost T (by decide) (by decide) (by decide)⟩
 | false =>
  by_cases hc_0 : v4 = 0
  ·
   have tok := trivial
   have e1 : (v4 == 1) = false := by rw [hc_0]; rfl
   have e0 : (v4 != 0) = false := by rw [hc_0]; rfl
   have en1 : (v4 != 1) = true := by rw [hc_0]; rfl
   have hodd := hid (show (false || (v4 != 0 && v4 != 1)) = false by rw [e0, en1]; rfl)
   have hop := hid e1
   simp only [hodd.out, e1] at Hx3 Hg3 Hr3 Hsb3 Ho3 T3
   clear hc_0
   go_wp2_with fail
   generalize (w2.setCell ⟨g, 5, none⟩ (.bool false)).setCell ⟨xb, 5, none⟩ (.bool false) = w3 at Hx3 Hg3 Hr3 Hsb3 Ho3 T3 ⊢
   clear e1 e0 en1
   have m6 : ∀ b, ownB (.slice ak s.subs.length ck) b → b < w3.heap.size := fun b h => Nat.lt_of_lt_of_le (n6.out b h) T3.out.size
   replace m6 := hid m6
   have m7 : ¬ ownB (.slice ak s.subs.length ck) g := fun h => by have := n6.out g h; omega
   replace m7 := hid m7
   have mb : base ≤ w3.heap.size := Nat.le_trans hbase T3.out.size
   have HQ22 := hid (fun w' (hb : (Ps.relC (fun b => ownB (.slice ak s.subs.length ck) b) (fun b _ => b = xb ∨ b = sb ∨ b = g)).G w3 w') => And.intro (hb.2 xb 0 _ (.inl rfl) (cell_of Hx3.out 0)) (And.intro (hb.2 sb 8 _ (.inr (.inl rfl)) (cell_of Hsb3.out 8)) (And.intro (hb.2 g 0 _ (.inr (.inr rfl)) (cell_of Hg3.out 0)) (And.intro (hb.2 g 1 _ (.inr (.inr rfl)) (cell_of Hg3.out 1)) (And.intro (hb.2 g 2 _ (.inr (.inr rfl)) (cell_of Hg3.out 2)) (And.intro (hb.2 g 3 _ (.inr (.inr rfl)) (cell_of Hg3.out 3)) (And.intro (hb.2 g 4 _ (.inr (.inr rfl)) (cell_of Hg3.out 4)) (hb.2 g 5 _ (.inr (.inr rfl)) (cell_of Hg3.out 5)))))))))
   refine Ps.wp_par (Ps.relC (fun b => ownB (.slice ak s.subs.length ck) b) (fun b _ => b = xb ∨ b = sb ∨ b = g)) (fun W => True ∧ W.ownsRow base 111 6 (.slice ak s.subs.length ck) s.subs.length css.flatten) (false :: false :: false :: false :: false :: false :: false :: false :: false :: false :: false :: false :: false :: true :: []) _ (.fix ?_ :: .fix ?_ :: .fix ?_ :: .fix ?_ :: .fix ?_ :: .fix ?_ :: .fix ?_ :: .fix ?_ :: .fix ?_ :: .fix ?_ :: .fix ?_ :: .fix ?_ :: .new (Ps.rowN 6 ?_ ?_ w3.heap.size) :: .st (some (s.subs.length + 1)) (fun _ _ => True) (fun u W => True ∧ W.ownsRow base 111 6 u (s.subs.length + 1) (css.flatten ++ [U k, U v1, I node, .string v2, .string v3, .bool false])) :: []) (by kernel_rfl) (by kernel_rfl) (by simp only [List.length_cons, List.length_nil, List.drop_succ_cons, List.drop_zero, List.drop_nil]; with_reducible rfl) rfl (fun _ _ _ _ _ => ⟨fun h => h, fun h => h⟩) (fun _ _ h hb => ⟨trivial, own_below h.2 hb⟩) (⟨trivial, Ho3.out⟩) ?_
   rotate_left 14
   iterate 12
    first
     | (refine Ps.par_skip (a' := ?_) (by rfl) (by rfl) ?_ ?_ ?_; rotate_left 1; with_reducible rfl; (simp only [lays]; with_reducible rfl))
     | (refine Ps.par_run (a' := ?_) (by rfl) (by rfl) (fun w' hb hn => ?_) ?_ ?_; rotate_left 1; (obtain ⟨q0, q18, g0, g1, g2, g3, g4, g5⟩ := HQ22.out w' hb; go_simp; (try simp (disch := omega) only [nrm, toNatUp, iteOmega]); first | with_reducible rfl | (go_simp; with_reducible rfl)); (simp only [lays]; with_reducible rfl))
   refine Ps.par_row (a' := ?ap23k12) (m := ?mp23k12) (T := ?Tp23k12) (cs := ?cp23k12) (r := ?rp23k12) (fun b h => m6.out b h) (by rfl) (by rfl) (fun w' hb hn => ?hp23k12) (fun w' => ?ep23k12) ?np23k12 ?vp23k12 ?lp23k12 ?xp23k12 (fun u => ?pp23k12) (fun u => ?gp23k12)
   case hp23k12 => (obtain ⟨q0, q18, g0, g1, g2, g3, g4, g5⟩ := HQ22.out w' hb; go_simp; (try simp (disch := omega) only [nrm, toNatUp, iteOmega]); with_reducible rfl)
   case ep23k12 => with_reducible rfl
   case np23k12 => with_reducible rfl
   case vp23k12 => with_reducible rfl
   case lp23k12 => simp only [List.length_cons, List.length_nil]
   case xp23k12 => (unfold maxLen; omega)
   case pp23k12 => (simp only [lays]; with_reducible rfl)
   refine Ps.par_app (a' := ?ap24k13) (A := fun W => True) 28 111 Tryz.underlying28 info_subs rfl (by decide) mb (by unfold maxLen; omega) (by omega) (by simp [Value.oneCell']) (fun _ _ _ _ _ => trivial) (fun _ _ _ _ => trivial) (fun _ h => h) (fun b i hs hb => by rcases hs with rfl | rfl | rfl; exact n3.out hb; exact n4.out hb; exact m7.out hb) (by rfl) rfl rfl rfl rfl (fun w' hb hn => ?xp24k13) (fun u => ?pp24k13) (fun u hu13 => ?gp24k13)
   case xp24k13 => (exact (Ps.need_head hn (by kernel_rfl)).1)
   case pp24k13 => (simp only [lays]; with_reducible rfl)
   obtain ⟨au13, cu13, rfl⟩ := hu13
   refine Ps.par_end (fun w9 hb9 hf9 hr9 => ?_)
   try refine Ps.wpList_none ?_
   have Hx9 := hid ((hb9.1.block xb (heap_lt Hx3.out) n3.out).trans Hx3.out)
   have Hr9 := hid ((hb9.1.block rb (heap_lt Hr3.out) n5.out).trans Hr3.out)
   have Hsb9 := (hb9.1.block sb (heap_lt Hsb3.out) n4.out).trans Hsb3.out
   have T9 : TyBut base [168, 81, 111] w w9 := T3.out.trans' hb9.1 (fun i hi ho => own_ty Hown.out (by decide) ho)
   have Ho9 := hid hr9.2
   have k9 := cell_of Hsb9 8
   have f9 := free_of Hsb9 8
   clear hb9 hf9 hr9
   go_wp2
   have hs9 := setCell_at Hsb9 8 (.slice au13 (s.subs.length + 1) cu13)
   have T10 : TyBut base [33] w9 (w9.setCell ⟨sb, 8, none⟩ (.slice au13 (s.subs.length + 1) cu13)) := TyBut.set Hsb9 (by decide) hbs 8 _
   generalize w9.setCell ⟨sb, 8, none⟩ (.slice au13 (s.subs.length + 1) cu13) = w10 at hs9 T10 ⊢
   have T : TyBut base [168, 81, 111, 33] w w10 := (T9.weak (by decide)).trans (T10.weak (by decide))
   have hL := HL.out
   go_end0
   refine ⟨rfl, by rw [hodd.out]; exact T10.at Hx9.out (by decide), ⟨vp, vi, vt, vj, vr, (.slice au13 (s.subs.length + 1) cu13), vk, vl, vm, hs9, ?_⟩, T10.at Hr9.out (by decide), T.weak (by decide)⟩
   exact ⟨hL.procs.keep DepV.ost T (by decide) (by decide) (by decide), hL.insts.keep InstV.ost T (by decide) (by decide) (by decide), hL.tokens.keep TokV.ost T (by decide) (by decide) (by decide), hL.jobs.keep JobV.ost T (by decide) (by decide) (by decide), hL.timers.keep TimV.ost T (by decide) (by decide) (by decide), (LOwn.snoc A1.out A2.out (fun i cs x hc hx => SubV.ost _ _ _ _ _ _ (by decide) (by decide) (A3.out i cs x hc hx) T9.kept) ⟨rfl, by simp [Value.oneCell']⟩ (show SubV.ow w9 base _ ⟨k, v1, node, v2, v3, v4 == 1⟩ from by unfold SubV.ow; rw [hop.out]) Ho9.out).keep SubV.ost T10 (by decide) (by decide) (by decide), hL.kept.keep KeptV.ost T (by decide) (by decide) (by decide), hL.listed.keep LisV.ost T (by decide) (by decide) (by decide), hL.msgs.keep MsgV.ost T (by decide) (by decide) (by decide)⟩
  by_cases hc_1 : v4 = 1
  ·
   have tok := trivial
   have e1 : (v4 == 1) = true := by rw [hc_1]; rfl
   have e0 : (v4 != 0) = true := by rw [hc_1]; rfl
   have en1 : (v4 != 1) = false := by rw [hc_1]; rfl
   have hodd := hid (show (false || (v4 != 0 && v4 != 1)) = false by rw [e0, en1]; rfl)
   have hop := hid e1
   simp only [hodd.out, e1] at Hx3 Hg3 Hr3 Hsb3 Ho3 T3
   clear hc_1
   go_wp2_with fail
   generalize (w2.setCell ⟨g, 5, none⟩ (.bool true)).setCell ⟨xb, 5, none⟩ (.bool false) = w3 at Hx3 Hg3 Hr3 Hsb3 Ho3 T3 ⊢
   clear e1 e0 en1
   have m6 : ∀ b, ownB (.slice ak s.subs.length ck) b → b < w3.heap.size := fun b h => Nat.lt_of_lt_of_le (n6.out b h) T3.out.size
   replace m6 := hid m6
   have m7 : ¬ ownB (.slice ak s.subs.length ck) g := fun h => by have := n6.out g h; omega
   replace m7 := hid m7
   have mb : base ≤ w3.heap.size := Nat.le_trans hbase T3.out.size
   have HQ25 := hid (fun w' (hb : (Ps.relC (fun b => ownB (.slice ak s.subs.length ck) b) (fun b _ => b = xb ∨ b = sb ∨ b = g)).G w3 w') => And.intro (hb.2 xb 0 _ (.inl rfl) (cell_of Hx3.out 0)) (And.intro (hb.2 sb 8 _ (.inr (.inl rfl)) (cell_of Hsb3.out 8)) (And.intro (hb.2 g 0 _ (.inr (.inr rfl)) (cell_of Hg3.out 0)) (And.intro (hb.2 g 1 _ (.inr (.inr rfl)) (cell_of Hg3.out 1)) (And.intro (hb.2 g 2 _ (.inr (.inr rfl)) (cell_of Hg3.out 2)) (And.intro (hb.2 g 3 _ (.inr (.inr rfl)) (cell_of Hg3.out 3)) (And.intro (hb.2 g 4 _ (.inr (.inr rfl)) (cell_of Hg3.out 4)) (hb.2 g 5 _ (.inr (.inr rfl)) (cell_of Hg3.out 5)))))))))
   refine Ps.wp_par (Ps.relC (fun b => ownB (.slice ak s.subs.length ck) b) (fun b _ => b = xb ∨ b = sb ∨ b = g)) (fun W => True ∧ W.ownsRow base 111 6 (.slice ak s.subs.length ck) s.subs.length css.flatten) (false :: false :: false :: false :: false :: false :: false :: false :: false :: false :: false :: false :: false :: true :: []) _ (.fix ?_ :: .fix ?_ :: .fix ?_ :: .fix ?_ :: .fix ?_ :: .fix ?_ :: .fix ?_ :: .fix ?_ :: .fix ?_ :: .fix ?_ :: .fix ?_ :: .fix ?_ :: .new (Ps.rowN 6 ?_ ?_ w3.heap.size) :: .st (some (s.subs.length + 1)) (fun _ _ => True) (fun u W => True ∧ W.ownsRow base 111 6 u (s.subs.length + 1) (css.flatten ++ [U k, U v1, I node, .string v2, .string v3, .bool true])) :: []) (by kernel_rfl) (by kernel_rfl) (by simp only [List.length_cons, List.length_nil, List.drop_succ_cons, List.drop_zero, List.drop_nil]; with_reducible rfl) rfl (fun _ _ _ _ _ => ⟨fun h => h, fun h => h⟩) (fun _ _ h hb => ⟨trivial, own_below h.2 hb⟩) (⟨trivial, Ho3.out⟩) ?_
   rotate_left 14
   iterate 12
    first
     | (refine Ps.par_skip (a' := ?_) (by rfl) (by rfl) ?_ ?_ ?_; rotate_left 1; with_reducible rfl; (simp only [lays]; with_reducible rfl))
     | (refine Ps.par_run (a' := ?_) (by rfl) (by rfl) (fun w' hb hn => ?_) ?_ ?_; rotate_left 1; (obtain ⟨q0, q18, g0, g1, g2, g3, g4, g5⟩ := HQ25.out w' hb; go_simp; (try simp (disch := omega) only [nrm, toNatUp, iteOmega]); first | with_reducible rfl | (go_simp; with_reducible rfl)); (simp only [lays]; with_reducible rfl))
   refine Ps.par_row (a' := ?ap26k12) (m := ?mp26k12) (T := ?Tp26k12) (cs := ?cp26k12) (r := ?rp26k12) (fun b h => m6.out b h) (by rfl) (by rfl) (fun w' hb hn => ?hp26k12) (fun w' => ?ep26k12) ?np26k12 ?vp26k12 ?lp26k12 ?xp26k12 (fun u => ?pp26k12) (fun u => ?gp26k12)
   case hp26k12 => (obtain ⟨q0, q18, g0, g1, g2, g3, g4, g5⟩ := HQ25.out w' hb; go_simp; (try simp (disch := omega) only [nrm, toNatUp, iteOmega]); with_reducible rfl)
   case ep26k12 => with_reducible rfl
   case np26k12 => with_reducible rfl
   case vp26k12 => with_reducible rfl
   case lp26k12 => simp only [List.length_cons, List.length_nil]
   case xp26k12 => (unfold maxLen; omega)
   case pp26k12 => (simp only [lays]; with_reducible rfl)
   refine Ps.par_app (a' := ?ap27k13) (A := fun W => True) 28 111 Tryz.underlying28 info_subs rfl (by decide) mb (by unfold maxLen; omega) (by omega) (by simp [Value.oneCell']) (fun _ _ _ _ _ => trivial) (fun _ _ _ _ => trivial) (fun _ h => h) (fun b i hs hb => by rcases hs with rfl | rfl | rfl; exact n3.out hb; exact n4.out hb; exact m7.out hb) (by rfl) rfl rfl rfl rfl (fun w' hb hn => ?xp27k13) (fun u => ?pp27k13) (fun u hu13 => ?gp27k13)
   case xp27k13 => (exact (Ps.need_head hn (by kernel_rfl)).1)
   case pp27k13 => (simp only [lays]; with_reducible rfl)
   obtain ⟨au13, cu13, rfl⟩ := hu13
   refine Ps.par_end (fun w9 hb9 hf9 hr9 => ?_)
   try refine Ps.wpList_none ?_
   have Hx9 := hid ((hb9.1.block xb (heap_lt Hx3.out) n3.out).trans Hx3.out)
   have Hr9 := hid ((hb9.1.block rb (heap_lt Hr3.out) n5.out).trans Hr3.out)
   have Hsb9 := (hb9.1.block sb (heap_lt Hsb3.out) n4.out).trans Hsb3.out
   have T9 : TyBut base [168, 81, 111] w w9 := T3.out.trans' hb9.1 (fun i hi ho => own_ty Hown.out (by decide) ho)
   have Ho9 := hid hr9.2
   have k9 := cell_of Hsb9 8
   have f9 := free_of Hsb9 8
   clear hb9 hf9 hr9
   go_wp2
   have hs9 := setCell_at Hsb9 8 (.slice au13 (s.subs.length + 1) cu13)
   have T10 : TyBut base [33] w9 (w9.setCell ⟨sb, 8, none⟩ (.slice au13 (s.subs.length + 1) cu13)) := TyBut.set Hsb9 (by decide) hbs 8 _
   generalize w9.setCell ⟨sb, 8, none⟩ (.slice au13 (s.subs.length + 1) cu13) = w10 at hs9 T10 ⊢
   have T : TyBut base [168, 81, 111, 33] w w10 := (T9.weak (by decide)).trans (T10.weak (by decide))
   have hL := HL.out
   go_end0
   refine ⟨rfl, by rw [hodd.out]; exact T10.at Hx9.out (by decide), ⟨vp, vi, vt, vj, vr, (.slice au13 (s.subs.length + 1) cu13), vk, vl, vm, hs9, ?_⟩, T10.at Hr9.out (by decide), T.weak (by decide)⟩
   exact ⟨hL.procs.keep DepV.ost T (by decide) (by decide) (by decide), hL.insts.keep InstV.ost T (by decide) (by decide) (by decide), hL.tokens.keep TokV.ost T (by decide) (by decide) (by decide), hL.jobs.keep JobV.ost T (by decide) (by decide) (by decide), hL.timers.keep TimV.ost T (by decide) (by decide) (by decide), (LOwn.snoc A1.out A2.out (fun i cs x hc hx => SubV.ost _ _ _ _ _ _ (by decide) (by decide) (A3.out i cs x hc hx) T9.kept) ⟨rfl, by simp [Value.oneCell']⟩ (show SubV.ow w9 base _ ⟨k, v1, node, v2, v3, v4 == 1⟩ from by unfold SubV.ow; rw [hop.out]) Ho9.out).keep SubV.ost T10 (by decide) (by decide) (by decide), hL.kept.keep KeptV.ost T (by decide) (by decide) (by decide), hL.listed.keep LisV.ost T (by decide) (by decide) (by decide), hL.msgs.keep MsgV.ost T (by decide) (by decide) (by decide)⟩
  have tok := trivial
  have e1 : (v4 == 1) = false := by simpa using hc_1
  have e0 : (v4 != 0) = true := by simpa using hc_0
  have en1 : (v4 != 1) = true := by simpa using hc_1
  have hodd := hid (show (false || (v4 != 0 && v4 != 1)) = true by rw [e0, en1]; rfl)
  have hop := hid e1
  simp only [hodd.out, e1] at Hx3 Hg3 Hr3 Hsb3 Ho3 T3
  clear hc_0 hc_1
  go_wp2_with fail
  generalize (w2.setCell ⟨g, 5, none⟩ (.bool false)).setCell ⟨xb, 5, none⟩ (.bool true) = w3 at Hx3 Hg3 Hr3 Hsb3 Ho3 T3 ⊢
  clear e1 e0 en1
  have m6 : ∀ b, ownB (.slice ak s.subs.length ck) b → b < w3.heap.size := fun b h => Nat.lt_of_lt_of_le (n6.out b h) T3.out.size
  replace m6 := hid m6
  have m7 : ¬ ownB (.slice ak s.subs.length ck) g := fun h => by have := n6.out g h; omega
  replace m7 := hid m7
  have mb : base ≤ w3.heap.size := Nat.le_trans hbase T3.out.size
  have HQ28 := hid (fun w' (hb : (Ps.relC (fun b => ownB (.slice ak s.subs.length ck) b) (fun b _ => b = xb ∨ b = sb ∨ b = g)).G w3 w') => And.intro (hb.2 xb 0 _ (.inl rfl) (cell_of Hx3.out 0)) (And.intro (hb.2 sb 8 _ (.inr (.inl rfl)) (cell_of Hsb3.out 8)) (And.intro (hb.2 g 0 _ (.inr (.inr rfl)) (cell_of Hg3.out 0)) (And.intro (hb.2 g 1 _ (.inr (.inr rfl)) (cell_of Hg3.out 1)) (And.intro (hb.2 g 2 _ (.inr (.inr rfl)) (cell_of Hg3.out 2)) (And.intro (hb.2 g 3 _ (.inr (.inr rfl)) (cell_of Hg3.out 3)) (And.intro (hb.2 g 4 _ (.inr (.inr rfl)) (cell_of Hg3.out 4)) (hb.2 g 5 _ (.inr (.inr rfl)) (cell_of Hg3.out 5)))))))))
  refine Ps.wp_par (Ps.relC (fun b => ownB (.slice ak s.subs.length ck) b) (fun b _ => b = xb ∨ b = sb ∨ b = g)) (fun W => True ∧ W.ownsRow base 111 6 (.slice ak s.subs.length ck) s.subs.length css.flatten) (false :: false :: false :: false :: false :: false :: false :: false :: false :: false :: false :: false :: false :: true :: []) _ (.fix ?_ :: .fix ?_ :: .fix ?_ :: .fix ?_ :: .fix ?_ :: .fix ?_ :: .fix ?_ :: .fix ?_ :: .fix ?_ :: .fix ?_ :: .fix ?_ :: .fix ?_ :: .new (Ps.rowN 6 ?_ ?_ w3.heap.size) :: .st (some (s.subs.length + 1)) (fun _ _ => True) (fun u W => True ∧ W.ownsRow base 111 6 u (s.subs.length + 1) (css.flatten ++ [U k, U v1, I node, .string v2, .string v3, .bool false])) :: []) (by kernel_rfl) (by kernel_rfl) (by simp only [List.length_cons, List.length_nil, List.drop_succ_cons, List.drop_zero, List.drop_nil]; with_reducible rfl) rfl (fun _ _ _ _ _ => ⟨fun h => h, fun h => h⟩) (fun _ _ h hb => ⟨trivial, own_below h.2 hb⟩) (⟨trivial, Ho3.out⟩) ?_
  rotate_left 14
  iterate 12
   first
    | (refine Ps.par_skip (a' := ?_) (by rfl) (by rfl) ?_ ?_ ?_; rotate_left 1; with_reducible rfl; (simp only [lays]; with_reducible rfl))
    | (refine Ps.par_run (a' := ?_) (by rfl) (by rfl) (fun w' hb hn => ?_) ?_ ?_; rotate_left 1; (obtain ⟨q0, q18, g0, g1, g2, g3, g4, g5⟩ := HQ28.out w' hb; go_simp; (try simp (disch := omega) only [nrm, toNatUp, iteOmega]); first | with_reducible rfl | (go_simp; with_reducible rfl)); (simp only [lays]; with_reducible rfl))
  refine Ps.par_row (a' := ?ap29k12) (m := ?mp29k12) (T := ?Tp29k12) (cs := ?cp29k12) (r := ?rp29k12) (fun b h => m6.out b h) (by rfl) (by rfl) (fun w' hb hn => ?hp29k12) (fun w' => ?ep29k12) ?np29k12 ?vp29k12 ?lp29k12 ?xp29k12 (fun u => ?pp29k12) (fun u => ?gp29k12)
  case hp29k12 => (obtain ⟨q0, q18, g0, g1, g2, g3, g4, g5⟩ := HQ28.out w' hb; go_simp; (try simp (disch := omega) only [nrm, toNatUp, iteOmega]); with_reducible rfl)
  case ep29k12 => with_reducible rfl
  case np29k12 => with_reducible rfl
  case vp29k12 => with_reducible rfl
  case lp29k12 => simp only [List.length_cons, List.length_nil]
  case xp29k12 => (unfold maxLen; omega)
  case pp29k12 => (simp only [lays]; with_reducible rfl)
  refine Ps.par_app (a' := ?ap30k13) (A := fun W => True) 28 111 Tryz.underlying28 info_subs rfl (by decide) mb (by unfold maxLen; omega) (by omega) (by simp [Value.oneCell']) (fun _ _ _ _ _ => trivial) (fun _ _ _ _ => trivial) (fun _ h => h) (fun b i hs hb => by rcases hs with rfl | rfl | rfl; exact n3.out hb; exact n4.out hb; exact m7.out hb) (by rfl) rfl rfl rfl rfl (fun w' hb hn => ?xp30k13) (fun u => ?pp30k13) (fun u hu13 => ?gp30k13)
  case xp30k13 => (exact (Ps.need_head hn (by kernel_rfl)).1)
  case pp30k13 => (simp only [lays]; with_reducible rfl)
  obtain ⟨au13, cu13, rfl⟩ := hu13
  refine Ps.par_end (fun w9 hb9 hf9 hr9 => ?_)
  try refine Ps.wpList_none ?_
  have Hx9 := hid ((hb9.1.block xb (heap_lt Hx3.out) n3.out).trans Hx3.out)
  have Hr9 := hid ((hb9.1.block rb (heap_lt Hr3.out) n5.out).trans Hr3.out)
  have Hsb9 := (hb9.1.block sb (heap_lt Hsb3.out) n4.out).trans Hsb3.out
  have T9 : TyBut base [168, 81, 111] w w9 := T3.out.trans' hb9.1 (fun i hi ho => own_ty Hown.out (by decide) ho)
  have Ho9 := hid hr9.2
  have k9 := cell_of Hsb9 8
  have f9 := free_of Hsb9 8
  clear hb9 hf9 hr9
  go_wp2
  have hs9 := setCell_at Hsb9 8 (.slice au13 (s.subs.length + 1) cu13)
  have T10 : TyBut base [33] w9 (w9.setCell ⟨sb, 8, none⟩ (.slice au13 (s.subs.length + 1) cu13)) := TyBut.set Hsb9 (by decide) hbs 8 _
  generalize w9.setCell ⟨sb, 8, none⟩ (.slice au13 (s.subs.length + 1) cu13) = w10 at hs9 T10 ⊢
  have T : TyBut base [168, 81, 111, 33] w w10 := (T9.weak (by decide)).trans (T10.weak (by decide))
  have hL := HL.out
  go_end0
  refine ⟨rfl, by rw [hodd.out]; exact T10.at Hx9.out (by decide), ⟨vp, vi, vt, vj, vr, (.slice au13 (s.subs.length + 1) cu13), vk, vl, vm, hs9, ?_⟩, T10.at Hr9.out (by decide), T.weak (by decide)⟩
  exact ⟨hL.procs.keep DepV.ost T (by decide) (by decide) (by decide), hL.insts.keep InstV.ost T (by decide) (by decide) (by decide), hL.tokens.keep TokV.ost T (by decide) (by decide) (by decide), hL.jobs.keep JobV.ost T (by decide) (by decide) (by decide), hL.timers.keep TimV.ost T (by decide) (by decide) (by decide), (LOwn.snoc A1.out A2.out (fun i cs x hc hx => SubV.ost _ _ _ _ _ _ (by decide) (by decide) (A3.out i cs x hc hx) T9.kept) ⟨rfl, by simp [Value.oneCell']⟩ (show SubV.ow w9 base _ ⟨k, v1, node, v2, v3, v4 == 1⟩ from by unfold SubV.ow; rw [hop.out]) Ho9.out).keep SubV.ost T10 (by decide) (by decide) (by decide), hL.kept.keep KeptV.ost T (by decide) (by decide) (by decide), hL.listed.keep LisV.ost T (by decide) (by decide) (by decide), hL.msgs.keep MsgV.ost T (by decide) (by decide) (by decide)⟩
end Go.Proofs.YthikijlbclckdaaGreat
