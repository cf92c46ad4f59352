/- KeepReads: contracts (Ro). -/
import Derived.Test.YthikijlbclckdaaGreatQ10
import Derived.Test.YthikijlbclckdaaGreatQ11
namespace Go.Proofs.YthikijlbclckdaaGreat
set_option maxRecDepth 100000
set_option maxHeartbeats 40000000
set_option linter.unusedSimpArgs false
set_option linter.unusedVariables false
open Go.IntWalk Go.RowKit
theorem one_i (xb rb k : Nat) (node : Int) (odd : Bool) (s : StateV) (r : RdV) (w : World) (base : Nat) (hbase : base ≤ w.heap.size) (hbx : base ≤ xb) (hbr : base ≤ rb) (hs : RnB w base xb rb s odd) (hr : IsR 92 w rb r)
  (hsz : r.s.size ≤ 1099511627776) (hk : k < 18446744073709551616) (hno : I64 node) (hl : s.insts.length ≤ 2097152) :
  Calls Tryz.prog 40 #[.pointer (some ⟨xb, 0, none⟩), .int .u8 105, .int .u64 k] w fun e w' => e = .returned (.tuple #[]) ∧ RnB w' base xb rb (stepI k s r).s (odd || (stepI k s r).bad) ∧ IsR 92 w' rb (stepI k s r).r ∧ TyBut base refTs w w' := by
 obtain ⟨hno1, hno2⟩ := hno
 unfold stepI
 dsimp only
 have Hc1 : Hid (∀ W : World, W.cell? ⟨xb, 12, none⟩ = some (.pointer (some ⟨rb, 0, none⟩)) → IsR 92 W rb r → Calls Tryz.prog 38 #[.pointer (some ⟨xb, 0, none⟩)] W fun e w' => e = .returned (.string (textR 16384 r).1) ∧ IsR 92 w' rb (textR 16384 r).2 ∧ Rb rb W w') := fun W hX hR => refText_any xb rb r W hX hR (by omega)
 have hz1 := textR_sz 16384 r
 have hv1 : True := trivial
 revert Hc1 hz1 hv1
 generalize textR 16384 r = p1
 obtain ⟨v1, r1⟩ := p1
 intro Hc1 hz1 hv1
 dsimp only at Hc1 hz1 hv1 ⊢
 have Hc2 : Hid (∀ (W : World) (c0 c1 c2 c3 c4 c5 c6 c7 c8 c9 c10 c11 : Value) (od : Bool), RnC W xb c0 c1 c2 c3 c4 c5 c6 c7 c8 c9 c10 c11 rb od → IsR 92 W rb r1 → Calls Tryz.prog 107 #[.pointer (some ⟨xb, 0, none⟩)] W fun e w' => ∃ v, e = .returned v ∧ VarsOwn w' W.heap.size v (varsOf r1) ∧ RnC w' xb c0 c1 c2 c3 c4 c5 c6 c7 c8 c9 c10 c11 rb (od || varsBad r1) ∧ IsR 92 w' rb (takeVars r1).2 ∧ But (fun b => b = rb ∨ b = xb) W w') := fun W c0 c1 c2 c3 c4 c5 c6 c7 c8 c9 c10 c11 od hX hR => refVars_any xb c0 c1 c2 c3 c4 c5 c6 c7 c8 c9 c10 c11 rb od r1 W hX hR (by omega)
 have hz2 := takeVars_size r1
 revert Hc2 hz2
 generalize varsOf r1 = vs
 generalize varsBad r1 = vb
 generalize (takeVars r1).2 = r2
 intro Hc2 hz2
 obtain ⟨vp, vi, vt, vj, vr, vs_, vk, vl, vm, hx, hL⟩ := hs
 obtain ⟨css, a1, a2, a3, hown⟩ := hL.insts
 obtain ⟨ak, ck, rfl⟩ := own_slice hown
 have HL := hid hL
 have Hown := hid hown
 have Hx := hid hx
 have Hr := hid hr
 have n1 : xb ≠ rb := ty_ne hx hr (by decide)
 have n3 := hid (own_ne hown hx (by decide))
 have n5 := hid (own_ne hown hr (by decide))
 have n6 := hid (own_lt hown)
 have l1 := heap_lt hx
 have l3 := heap_lt hr
 have A1 := hid a1
 have A2 := hid a2
 have A3 := hid a3
 clear hx hr hown hL a1 a2 a3
 go_enter Tryz.func40, Tryz.ntmps40
 have q12 : (w.alloc (.cells #[.int .u64 k, .string ⟨#[]⟩, .slice none 0 0] 103)).cell? ⟨xb, 12, none⟩ = some (.pointer (some ⟨rb, 0, none⟩)) := cell_of ((alloc_old _ l1).trans Hx.out) 12
 go_wp2_with fail
 clear q12
 obtain ⟨g, hgd⟩ : ∃ g, g = w.heap.size := ⟨_, rfl⟩
 have Hg0 := hid (show (w.alloc (.cells #[.int .u64 k, .string ⟨#[]⟩, .slice none 0 0] 103)).heap[g]? = some (.cells #[.int .u64 k, .string ⟨#[]⟩, .slice none 0 0] 103 (0, 0)) from hgd ▸ alloc_new w _)
 have Hx0 : Hid (RnC (w.alloc (.cells #[.int .u64 k, .string ⟨#[]⟩, .slice none 0 0] 103)) xb (U s.pos) (U s.done) (U s.made) vp (.slice ak s.insts.length ck) vt vj vr vs_ vk vl vm rb odd) := (alloc_old _ l1).trans Hx.out
 have Hr0 := hid (show IsR 92 (w.alloc (.cells #[.int .u64 k, .string ⟨#[]⟩, .slice none 0 0] 103)) rb r from (alloc_old _ l3).trans Hr.out)
 have Ho0 := hid (own_below Hown.out ((Below.refl _ w).alloc (Nat.le_refl _) (.cells #[.int .u64 k, .string ⟨#[]⟩, .slice none 0 0] 103)))
 have T0 := hid (show But (fun b => b = rb ∨ b = xb) w (w.alloc (.cells #[.int .u64 k, .string ⟨#[]⟩, .slice none 0 0] 103)) from But.of ((Below.refl _ w).alloc (Nat.le_refl _) _))
 have gr : g ≠ rb := by omega
 have gx : g ≠ xb := by omega
 have go := hid (show ¬ ownB (.slice ak s.insts.length ck) g from fun h => by have := n6.out g h; omega)
 have hgw := hid (Nat.le_of_eq hgd.symm)
 try rw [← hgd]
 generalize w.alloc (.cells #[.int .u64 k, .string ⟨#[]⟩, .slice none 0 0] 103) = w0 at Hg0 Hx0 Hr0 Ho0 T0 ⊢
 clear hgd
 refine (Hc1.out w0 (cell_of Hx0.out 12) Hr0.out).mono ?_
 rintro e1 w1 ⟨rfl, h2, b2⟩
 have Hr1 := hid h2
 have Hx1 : Hid (RnC w1 xb (U s.pos) (U s.done) (U s.made) vp (.slice ak s.insts.length ck) vt vj vr vs_ vk vl vm rb odd) := b2.at Hx0.out n1
 have Hg1 := hid (b2.at Hg0.out gr)
 have Ho1 := hid (own_at Ho0.out b2 (fun i hi he => n5.out (he ▸ hi)))
 have T1 := hid (T0.out.trans (b2.mono (fun _ _ h => .inl h)))
 have Tw1 := hid (show w0.heap.size ≤ w1.heap.size from b2.size)
 clear h2 b2
 have kg := cell_of Hg1.out 1
 have fg := free_of Hg1.out 1
 have q12 := cell_of Hx1.out 12
 have q12b : (w1.setCell ⟨g, 1, none⟩ (.string v1)).cell? ⟨xb, 12, none⟩ = some (.pointer (some ⟨rb, 0, none⟩)) := cell_of ((Rb.set (w := w1) g 1 (.string v1)).at Hx1.out (Ne.symm gx)) 12
 go_wp2_with fail
 clear kg fg q12 q12b
 have bg := Rb.set (w := w1) g 1 (.string v1)
 have Hg2 : Hid ((w1.setCell ⟨g, 1, none⟩ (.string v1)).heap[g]? = some (.cells #[.int .u64 k, .string v1, .slice none 0 0] 103 (0, 0))) := setCell_at Hg1.out 1 _
 have Hx2 : Hid (RnC (w1.setCell ⟨g, 1, none⟩ (.string v1)) xb (U s.pos) (U s.done) (U s.made) vp (.slice ak s.insts.length ck) vt vj vr vs_ vk vl vm rb odd) := bg.at Hx1.out (Ne.symm gx)
 have Hr2 := hid (show IsR 92 (w1.setCell ⟨g, 1, none⟩ (.string v1)) rb r1 from bg.at Hr1.out (Ne.symm gr))
 have Ho2 := hid (own_at Ho1.out bg (fun i hi he => go.out (he ▸ hi)))
 have T2 := hid (But.trans' T1.out bg (fun i hi he => by have := hgw.out; omega))
 have Tw2 := hid (Nat.le_trans Tw1.out bg.size)
 clear bg
 generalize w1.setCell ⟨g, 1, none⟩ (.string v1) = w2 at Hg2 Hx2 Hr2 Ho2 T2 Tw2 ⊢
 refine (Hc2.out w2 _ _ _ _ _ _ _ _ _ _ _ _ _ Hx2.out Hr2.out).mono ?_
 rintro e2 w3 ⟨uv, rfl, hv2, hx2, h2, b2⟩
 obtain ⟨av, cv, rfl⟩ := own_slice hv2
 have Hr3 := hid h2
 have Hx3 := hid hx2
 have Hg3 := hid ((b2.block g (heap_lt Hg2.out) (fun h => h.elim gr gx)).trans Hg2.out)
 have Ho3 := hid (own_at Ho2.out b2 (fun i hi he => he.elim (fun he => n5.out (he ▸ hi)) (fun he => n3.out (he ▸ hi))))
 have gl := Nat.lt_of_lt_of_le (heap_lt Hg2.out) (Nat.le_refl _)
 have Hv3 := hid hv2
 have vlb := hid (Nat.le_trans (Nat.le_trans hbase T0.out.size) (show w0.heap.size ≤ w2.heap.size from Tw2.out))
 have T3 := hid (T2.out.trans b2)
 have Tw3 := hid (show w0.heap.size ≤ w3.heap.size from Nat.le_trans Tw2.out b2.size)
 have vlw := hid T2.out.size
 clear h2 hx2 b2 hv2
 have kg := cell_of Hg3.out 2
 have fg := free_of Hg3.out 2
 have q12 := cell_of Hx3.out 12
 have q12b : (w3.setCell ⟨g, 2, none⟩ (.slice av vs.length cv)).cell? ⟨xb, 12, none⟩ = some (.pointer (some ⟨rb, 0, none⟩)) := cell_of ((Rb.set (w := w3) g 2 (.slice av vs.length cv)).at Hx3.out (Ne.symm gx)) 12
 go_wp2_with fail
 clear kg fg q12 q12b
 have bg := Rb.set (w := w3) g 2 (.slice av vs.length cv)
 have Hg4 : Hid ((w3.setCell ⟨g, 2, none⟩ (.slice av vs.length cv)).heap[g]? = some (.cells #[.int .u64 k, .string v1, .slice av vs.length cv] 103 (0, 0))) := setCell_at Hg3.out 2 _
 have Hx4 : Hid (RnC (w3.setCell ⟨g, 2, none⟩ (.slice av vs.length cv)) xb (U s.pos) (U s.done) (U s.made) vp (.slice ak s.insts.length ck) vt vj vr vs_ vk vl vm rb (odd || vb)) := bg.at Hx3.out (Ne.symm gx)
 have Hr4 := hid (show IsR 92 (w3.setCell ⟨g, 2, none⟩ (.slice av vs.length cv)) rb r2 from bg.at Hr3.out (Ne.symm gr))
 have Ho4 := hid (own_at Ho3.out bg (fun i hi he => go.out (he ▸ hi)))
 have T4 := hid (But.trans' T3.out bg (fun i hi he => by have := hgw.out; omega))
 have Tw4 := hid (Nat.le_trans Tw3.out bg.size)
 have Hv4 := hid (own_rb Hv3.out bg gl)
 clear bg
 generalize w3.setCell ⟨g, 2, none⟩ (.slice av vs.length cv) = w4 at Hg4 Hx4 Hr4 Ho4 T4 Tw4 Hv4 ⊢
 have m6 := hid (fun b (h : ownB (.slice ak s.insts.length ck) b) => Nat.lt_of_lt_of_le (n6.out b h) T4.out.size)
 have mb : base ≤ w4.heap.size := Nat.le_trans hbase T4.out.size
 have HQ1 := hid (fun w' (hb : (Ps.relC (fun b => ownB (.slice ak s.insts.length ck) b) (fun b _ => b = xb ∨ b = g)).G w4 w') => And.intro (hb.2 xb 4 _ (.inl rfl) (cell_of Hx4.out 4)) (And.intro (hb.2 g 0 _ (.inr rfl) (cell_of Hg4.out 0)) (And.intro (hb.2 g 1 _ (.inr rfl) (cell_of Hg4.out 1)) (hb.2 g 2 _ (.inr rfl) (cell_of Hg4.out 2)))))
 refine Ps.wp_par (Ps.relC (fun b => ownB (.slice ak s.insts.length ck) b) (fun b _ => b = xb ∨ b = g)) (fun W => True ∧ W.ownsRow base 103 3 (.slice ak s.insts.length ck) s.insts.length css.flatten) (false :: false :: false :: false :: false :: false :: false :: false :: true :: []) _ (.fix ?_ :: .fix ?_ :: .fix ?_ :: .fix ?_ :: .fix ?_ :: .fix ?_ :: .fix ?_ :: .new (Ps.rowN 3 ?_ ?_ w4.heap.size) :: .st (some (s.insts.length + 1)) (fun _ _ => True) (fun u W => True ∧ W.ownsRow base 103 3 u (s.insts.length + 1) (css.flatten ++ [.int .u64 k, .string v1, .slice av vs.length cv])) :: []) (by kernel_rfl) (by kernel_rfl) (by simp only [List.length_cons, List.length_nil, List.drop_succ_cons, List.drop_zero, List.drop_nil]; with_reducible rfl) rfl (fun _ _ _ _ _ => ⟨fun h => h, fun h => h⟩) (fun _ _ h hb => ⟨trivial, own_below h.2 hb⟩) (⟨trivial, Ho4.out⟩) ?_
 rotate_left 9
 iterate 7
  first
   | (refine Ps.par_skip (a' := ?_) (by rfl) (by rfl) ?_ ?_ ?_; rotate_left 1; with_reducible rfl; (simp only [lays]; with_reducible rfl))
   | (refine Ps.par_run (a' := ?_) (by rfl) (by rfl) (fun w' hb hn => ?_) ?_ ?_; rotate_left 1; (obtain ⟨q4, g0, g1, g2⟩ := HQ1.out w' hb; go_simp; (try simp (disch := omega) only [nrm, toNatUp, iteOmega]); first | with_reducible rfl | (go_simp; with_reducible rfl)); (simp only [lays]; with_reducible rfl))
 refine Ps.par_row (a' := ?ap2k7) (m := ?mp2k7) (T := ?Tp2k7) (cs := ?cp2k7) (r := ?rp2k7) (fun b h => m6.out b h) (by rfl) (by rfl) (fun w' hb hn => ?hp2k7) (fun w' => ?ep2k7) ?np2k7 ?vp2k7 ?lp2k7 ?xp2k7 (fun u => ?pp2k7) (fun u => ?gp2k7)
 case hp2k7 => (obtain ⟨q4, g0, g1, g2⟩ := HQ1.out w' hb; go_simp; (try simp (disch := omega) only [nrm, toNatUp, iteOmega]); with_reducible rfl)
 case ep2k7 => with_reducible rfl
 case np2k7 => with_reducible rfl
 case vp2k7 => with_reducible rfl
 case lp2k7 => simp only [List.length_cons, List.length_nil]
 case xp2k7 => (unfold maxLen; omega)
 case pp2k7 => (simp only [lays]; with_reducible rfl)
 refine Ps.par_app (a' := ?ap3k8) (A := fun W => True) 24 103 Tryz.underlying24 info_insts rfl (by decide) mb (by unfold maxLen; omega) (by omega) (by simp [Value.oneCell']) (fun _ _ _ _ _ => trivial) (fun _ _ _ _ => trivial) (fun _ h => h) (fun b i hs hb => by rcases hs with rfl | rfl; exact n3.out hb; exact go.out hb) (by rfl) rfl rfl rfl rfl (fun w' hb hn => ?xp3k8) (fun u => ?pp3k8) (fun u hu8 => ?gp3k8)
 case xp3k8 => (exact (Ps.need_head hn (by kernel_rfl)).1)
 case pp3k8 => (simp only [lays]; with_reducible rfl)
 obtain ⟨au8, cu8, rfl⟩ := hu8
 refine Ps.par_end (fun w9 hb9 hf9 hr9 => ?_)
 try refine Ps.wpList_none ?_
 have Hx9 : RnC w9 xb (U s.pos) (U s.done) (U s.made) vp (.slice ak s.insts.length ck) vt vj vr vs_ vk vl vm rb (odd || vb) := (hb9.1.block xb (heap_lt Hx4.out) n3.out).trans Hx4.out
 have Hr9 := hid ((hb9.1.block rb (heap_lt Hr4.out) n5.out).trans Hr4.out)
 have T8 : TyBut base [92, 89, 103] w w4 := T4.out.mono (fun i _ hi => hi.elim (fun h => h ▸ ⟨_, _, _, Hr.out, by decide, hbr⟩) (fun h => h ▸ ⟨_, _, _, Hx.out, by decide, hbx⟩))
 have T9 : TyBut base [92, 89, 103] w w9 := T8.trans' hb9.1 (fun i hi ho => own_ty Hown.out (by decide) ho)
 have Ho9 := hid hr9.2
 have Hv9 := hid (ownsRow_base (own_at Hv4.out hb9.1 (own_own_ne Hv4.out Ho4.out (by decide))) vlb.out)
 have k9 := cell_of Hx9 4
 have f9 := free_of Hx9 4
 clear hb9 hf9 hr9
 go_wp2
 have hs9 : RnC (w9.setCell ⟨xb, 4, none⟩ (.slice au8 (s.insts.length + 1) cu8)) xb (U s.pos) (U s.done) (U s.made) vp (.slice au8 (s.insts.length + 1) cu8) vt vj vr vs_ vk vl vm rb (odd || vb) := setCell_at Hx9 4 (.slice au8 (s.insts.length + 1) cu8)
 have T10 : TyBut base [89] w9 (w9.setCell ⟨xb, 4, none⟩ (.slice au8 (s.insts.length + 1) cu8)) := TyBut.set Hx9 (by decide) hbx 4 _
 generalize w9.setCell ⟨xb, 4, none⟩ (.slice au8 (s.insts.length + 1) cu8) = w10 at hs9 T10 ⊢
 have T : TyBut base [92, 89, 103] w w10 := T9.trans (T10.weak (by decide))
 have hL := HL.out
 go_end0
 refine ⟨rfl, ⟨vp, (.slice au8 (s.insts.length + 1) cu8), vt, vj, vr, vs_, vk, vl, vm, by exact hs9, ?_⟩, T10.at Hr9.out (by decide), T.weak (by decide)⟩
 exact ⟨hL.procs.keep DepV.ost T (by decide) (by decide) (by decide), (LOwn.snoc A1.out A2.out (fun i cs x hc hx => InstV.ost _ _ _ _ _ _ (by decide) (by decide) (A3.out i cs x hc hx) T9.kept) ⟨rfl, by simp [Value.oneCell']⟩ (show InstV.ow w9 base _ ⟨k, v1, vs⟩ from ⟨_, rfl, Hv9.out⟩) Ho9.out).keep InstV.ost T10 (by decide) (by decide) (by decide), hL.tokens.keep TokV.ost T (by decide) (by decide) (by decide), hL.jobs.keep JobV.ost T (by decide) (by decide) (by decide), hL.timers.keep TimV.ost T (by decide) (by decide) (by decide), hL.subs.keep SubV.ost T (by decide) (by decide) (by decide), hL.kept.keep KeptV.ost T (by decide) (by decide) (by decide), hL.listed.keep LisV.ost T (by decide) (by decide) (by decide), hL.msgs.keep MsgV.ost T (by decide) (by decide) (by decide)⟩
theorem one_j (xb rb k : Nat) (node : Int) (odd : Bool) (s : StateV) (r : RdV) (w : World) (base : Nat) (hbase : base ≤ w.heap.size) (hbx : base ≤ xb) (hbr : base ≤ rb) (hs : RnB w base xb rb s odd) (hr : IsR 92 w rb r)
  (hsz : r.s.size ≤ 1099511627776) (hk : k < 18446744073709551616) (hno : I64 node) (hl : s.jobs.length ≤ 2097152) :
  Calls Tryz.prog 40 #[.pointer (some ⟨xb, 0, none⟩), .int .u8 106, .int .u64 k] w fun e w' => e = .returned (.tuple #[]) ∧ RnB w' base xb rb (stepJ k s r).s (odd || (stepJ k s r).bad) ∧ IsR 92 w' rb (stepJ k s r).r ∧ TyBut base refTs w w' := by
 obtain ⟨hno1, hno2⟩ := hno
 unfold stepJ
 dsimp only
 have Hc1 : Hid (∀ W : World, W.cell? ⟨xb, 12, none⟩ = some (.pointer (some ⟨rb, 0, none⟩)) → IsR 92 W rb r → Calls Tryz.prog 39 #[.pointer (some ⟨rb, 0, none⟩)] W fun e w' => e = .returned (.int .u64 (uintR r).1) ∧ IsR 92 w' rb (uintR r).2 ∧ Rb rb W w') := fun W _ hR => rrUint_any rb r W hR (by omega)
 have hz1 := uintR_size r
 have hv1 := uintR_lt r
 revert Hc1 hz1 hv1
 generalize uintR r = p1
 obtain ⟨v1, r1⟩ := p1
 intro Hc1 hz1 hv1
 dsimp only at Hc1 hz1 hv1 ⊢
 have Hc2 : Hid (∀ W : World, W.cell? ⟨xb, 12, none⟩ = some (.pointer (some ⟨rb, 0, none⟩)) → IsR 92 W rb r1 → Calls Tryz.prog 38 #[.pointer (some ⟨xb, 0, none⟩)] W fun e w' => e = .returned (.string (textR 16384 r1).1) ∧ IsR 92 w' rb (textR 16384 r1).2 ∧ Rb rb W w') := fun W hX hR => refText_any xb rb r1 W hX hR (by omega)
 have hz2 := textR_sz 16384 r1
 have hv2 : True := trivial
 revert Hc2 hz2 hv2
 generalize textR 16384 r1 = p2
 obtain ⟨v2, r2⟩ := p2
 intro Hc2 hz2 hv2
 dsimp only at Hc2 hz2 hv2 ⊢
 have Hc3 : Hid (∀ W : World, W.cell? ⟨xb, 12, none⟩ = some (.pointer (some ⟨rb, 0, none⟩)) → IsR 92 W rb r2 → Calls Tryz.prog 106 #[.pointer (some ⟨rb, 0, none⟩)] W fun e w' => e = .returned (.int .i64 (intR r2).1) ∧ IsR 92 w' rb (intR r2).2 ∧ Rb rb W w') := fun W _ hR => rrInt_any rb r2 W hR (by omega)
 have hz3 := intR_size r2
 have hv3 := intR_in r2
 revert Hc3 hz3 hv3
 generalize intR r2 = p3
 obtain ⟨v3, r3⟩ := p3
 intro Hc3 hz3 hv3
 dsimp only at Hc3 hz3 hv3 ⊢
 obtain ⟨hv3a, hv3b⟩ := hv3
 have Hc4 : Hid (∀ W : World, W.cell? ⟨xb, 12, none⟩ = some (.pointer (some ⟨rb, 0, none⟩)) → IsR 92 W rb r3 → Calls Tryz.prog 38 #[.pointer (some ⟨xb, 0, none⟩)] W fun e w' => e = .returned (.string (textR 16384 r3).1) ∧ IsR 92 w' rb (textR 16384 r3).2 ∧ Rb rb W w') := fun W hX hR => refText_any xb rb r3 W hX hR (by omega)
 have hz4 := textR_sz 16384 r3
 have hv4 : True := trivial
 revert Hc4 hz4 hv4
 generalize textR 16384 r3 = p4
 obtain ⟨v4, r4⟩ := p4
 intro Hc4 hz4 hv4
 dsimp only at Hc4 hz4 hv4 ⊢
 have Hc5 : Hid (∀ W : World, W.cell? ⟨xb, 12, none⟩ = some (.pointer (some ⟨rb, 0, none⟩)) → IsR 92 W rb r4 → Calls Tryz.prog 106 #[.pointer (some ⟨rb, 0, none⟩)] W fun e w' => e = .returned (.int .i64 (intR r4).1) ∧ IsR 92 w' rb (intR r4).2 ∧ Rb rb W w') := fun W _ hR => rrInt_any rb r4 W hR (by omega)
 have hz5 := intR_size r4
 have hv5 := intR_in r4
 revert Hc5 hz5 hv5
 generalize intR r4 = p5
 obtain ⟨v5, r5⟩ := p5
 intro Hc5 hz5 hv5
 dsimp only at Hc5 hz5 hv5 ⊢
 obtain ⟨hv5a, hv5b⟩ := hv5
 obtain ⟨vp, vi, vt, vj, vr, vs_, vk, vl, vm, hx, hL⟩ := hs
 obtain ⟨css, a1, a2, a3, hown⟩ := hL.jobs
 obtain ⟨ak, ck, rfl⟩ := own_slice hown
 have HL := hid hL
 have Hown := hid hown
 have Hx := hid hx
 have Hr := hid hr
 have n1 : xb ≠ rb := ty_ne hx hr (by decide)
 have n3 := hid (own_ne hown hx (by decide))
 have n5 := hid (own_ne hown hr (by decide))
 have n6 := hid (own_lt hown)
 have l1 := heap_lt hx
 have l3 := heap_lt hr
 have A1 := hid a1
 have A2 := hid a2
 have A3 := hid a3
 clear hx hr hown hL a1 a2 a3
 go_enter Tryz.func40, Tryz.ntmps40
 have q12 : (w.alloc (.cells #[.int .u64 k, .int .u64 0, .string ⟨#[]⟩, .int .i64 0, .string ⟨#[]⟩, .int .i64 0] 107)).cell? ⟨xb, 12, none⟩ = some (.pointer (some ⟨rb, 0, none⟩)) := cell_of ((alloc_old _ l1).trans Hx.out) 12
 go_wp2_with fail
 clear q12
 obtain ⟨g, hgd⟩ : ∃ g, g = w.heap.size := ⟨_, rfl⟩
 have Hg0 := hid (show (w.alloc (.cells #[.int .u64 k, .int .u64 0, .string ⟨#[]⟩, .int .i64 0, .string ⟨#[]⟩, .int .i64 0] 107)).heap[g]? = some (.cells #[.int .u64 k, .int .u64 0, .string ⟨#[]⟩, .int .i64 0, .string ⟨#[]⟩, .int .i64 0] 107 (0, 0)) from hgd ▸ alloc_new w _)
 have Hx0 : Hid (RnC (w.alloc (.cells #[.int .u64 k, .int .u64 0, .string ⟨#[]⟩, .int .i64 0, .string ⟨#[]⟩, .int .i64 0] 107)) xb (U s.pos) (U s.done) (U s.made) vp vi vt (.slice ak s.jobs.length ck) vr vs_ vk vl vm rb odd) := (alloc_old _ l1).trans Hx.out
 have Hr0 := hid (show IsR 92 (w.alloc (.cells #[.int .u64 k, .int .u64 0, .string ⟨#[]⟩, .int .i64 0, .string ⟨#[]⟩, .int .i64 0] 107)) rb r from (alloc_old _ l3).trans Hr.out)
 have Ho0 := hid (own_below Hown.out ((Below.refl _ w).alloc (Nat.le_refl _) (.cells #[.int .u64 k, .int .u64 0, .string ⟨#[]⟩, .int .i64 0, .string ⟨#[]⟩, .int .i64 0] 107)))
 have T0 := hid (show But (fun b => b = rb ∨ b = xb) w (w.alloc (.cells #[.int .u64 k, .int .u64 0, .string ⟨#[]⟩, .int .i64 0, .string ⟨#[]⟩, .int .i64 0] 107)) from But.of ((Below.refl _ w).alloc (Nat.le_refl _) _))
 have gr : g ≠ rb := by omega
 have gx : g ≠ xb := by omega
 have go := hid (show ¬ ownB (.slice ak s.jobs.length ck) g from fun h => by have := n6.out g h; omega)
 have hgw := hid (Nat.le_of_eq hgd.symm)
 try rw [← hgd]
 generalize w.alloc (.cells #[.int .u64 k, .int .u64 0, .string ⟨#[]⟩, .int .i64 0, .string ⟨#[]⟩, .int .i64 0] 107) = w0 at Hg0 Hx0 Hr0 Ho0 T0 ⊢
 clear hgd
 refine (Hc1.out w0 (cell_of Hx0.out 12) Hr0.out).mono ?_
 rintro e1 w1 ⟨rfl, h2, b2⟩
 have Hr1 := hid h2
 have Hx1 : Hid (RnC w1 xb (U s.pos) (U s.done) (U s.made) vp vi vt (.slice ak s.jobs.length ck) vr vs_ vk vl vm rb odd) := b2.at Hx0.out n1
 have Hg1 := hid (b2.at Hg0.out gr)
 have Ho1 := hid (own_at Ho0.out b2 (fun i hi he => n5.out (he ▸ hi)))
 have T1 := hid (T0.out.trans (b2.mono (fun _ _ h => .inl h)))
 have Tw1 := hid (show w0.heap.size ≤ w1.heap.size from b2.size)
 clear h2 b2
 have kg := cell_of Hg1.out 1
 have fg := free_of Hg1.out 1
 have q12 := cell_of Hx1.out 12
 have q12b : (w1.setCell ⟨g, 1, none⟩ (.int .u64 v1)).cell? ⟨xb, 12, none⟩ = some (.pointer (some ⟨rb, 0, none⟩)) := cell_of ((Rb.set (w := w1) g 1 (.int .u64 v1)).at Hx1.out (Ne.symm gx)) 12
 go_wp2_with fail
 clear kg fg q12 q12b
 have bg := Rb.set (w := w1) g 1 (.int .u64 v1)
 have Hg2 : Hid ((w1.setCell ⟨g, 1, none⟩ (.int .u64 v1)).heap[g]? = some (.cells #[.int .u64 k, .int .u64 v1, .string ⟨#[]⟩, .int .i64 0, .string ⟨#[]⟩, .int .i64 0] 107 (0, 0))) := setCell_at Hg1.out 1 _
 have Hx2 : Hid (RnC (w1.setCell ⟨g, 1, none⟩ (.int .u64 v1)) xb (U s.pos) (U s.done) (U s.made) vp vi vt (.slice ak s.jobs.length ck) vr vs_ vk vl vm rb odd) := bg.at Hx1.out (Ne.symm gx)
 have Hr2 := hid (show IsR 92 (w1.setCell ⟨g, 1, none⟩ (.int .u64 v1)) rb r1 from bg.at Hr1.out (Ne.symm gr))
 have Ho2 := hid (own_at Ho1.out bg (fun i hi he => go.out (he ▸ hi)))
 have T2 := hid (But.trans' T1.out bg (fun i hi he => by have := hgw.out; omega))
 have Tw2 := hid (Nat.le_trans Tw1.out bg.size)
 clear bg
 generalize w1.setCell ⟨g, 1, none⟩ (.int .u64 v1) = w2 at Hg2 Hx2 Hr2 Ho2 T2 Tw2 ⊢
 refine (Hc2.out w2 (cell_of Hx2.out 12) Hr2.out).mono ?_
 rintro e2 w3 ⟨rfl, h2, b2⟩
 have Hr3 := hid h2
 have Hx3 : Hid (RnC w3 xb (U s.pos) (U s.done) (U s.made) vp vi vt (.slice ak s.jobs.length ck) vr vs_ vk vl vm rb odd) := b2.at Hx2.out n1
 have Hg3 := hid (b2.at Hg2.out gr)
 have Ho3 := hid (own_at Ho2.out b2 (fun i hi he => n5.out (he ▸ hi)))
 have T3 := hid (T2.out.trans (b2.mono (fun _ _ h => .inl h)))
 have Tw3 := hid (show w0.heap.size ≤ w3.heap.size from Nat.le_trans Tw2.out b2.size)
 clear h2 b2
 have kg := cell_of Hg3.out 2
 have fg := free_of Hg3.out 2
 have q12 := cell_of Hx3.out 12
 have q12b : (w3.setCell ⟨g, 2, none⟩ (.string v2)).cell? ⟨xb, 12, none⟩ = some (.pointer (some ⟨rb, 0, none⟩)) := cell_of ((Rb.set (w := w3) g 2 (.string v2)).at Hx3.out (Ne.symm gx)) 12
 go_wp2_with fail
 clear kg fg q12 q12b
 have bg := Rb.set (w := w3) g 2 (.string v2)
 have Hg4 : Hid ((w3.setCell ⟨g, 2, none⟩ (.string v2)).heap[g]? = some (.cells #[.int .u64 k, .int .u64 v1, .string v2, .int .i64 0, .string ⟨#[]⟩, .int .i64 0] 107 (0, 0))) := setCell_at Hg3.out 2 _
 have Hx4 : Hid (RnC (w3.setCell ⟨g, 2, none⟩ (.string v2)) xb (U s.pos) (U s.done) (U s.made) vp vi vt (.slice ak s.jobs.length ck) vr vs_ vk vl vm rb odd) := bg.at Hx3.out (Ne.symm gx)
 have Hr4 := hid (show IsR 92 (w3.setCell ⟨g, 2, none⟩ (.string v2)) rb r2 from bg.at Hr3.out (Ne.symm gr))
 have Ho4 := hid (own_at Ho3.out bg (fun i hi he => go.out (he ▸ hi)))
 have T4 := hid (But.trans' T3.out bg (fun i hi he => by have := hgw.out; omega))
 have Tw4 := hid (Nat.le_trans Tw3.out bg.size)
 clear bg
 generalize w3.setCell ⟨g, 2, none⟩ (.string v2) = w4 at Hg4 Hx4 Hr4 Ho4 T4 Tw4 ⊢
 refine (Hc3.out w4 (cell_of Hx4.out 12) Hr4.out).mono ?_
 rintro e3 w5 ⟨rfl, h2, b2⟩
 have Hr5 := hid h2
 have Hx5 : Hid (RnC w5 xb (U s.pos) (U s.done) (U s.made) vp vi vt (.slice ak s.jobs.length ck) vr vs_ vk vl vm rb odd) := b2.at Hx4.out n1
 have Hg5 := hid (b2.at Hg4.out gr)
 have Ho5 := hid (own_at Ho4.out b2 (fun i hi he => n5.out (he ▸ hi)))
 have T5 := hid (T4.out.trans (b2.mono (fun _ _ h => .inl h)))
 have Tw5 := hid (show w0.heap.size ≤ w5.heap.size from Nat.le_trans Tw4.out b2.size)
 clear h2 b2
 have kg := cell_of Hg5.out 3
 have fg := free_of Hg5.out 3
 have q12 := cell_of Hx5.out 12
 have q12b : (w5.setCell ⟨g, 3, none⟩ (.int .i64 v3)).cell? ⟨xb, 12, none⟩ = some (.pointer (some ⟨rb, 0, none⟩)) := cell_of ((Rb.set (w := w5) g 3 (.int .i64 v3)).at Hx5.out (Ne.symm gx)) 12
 go_wp2_with fail
 clear kg fg q12 q12b
 have bg := Rb.set (w := w5) g 3 (.int .i64 v3)
 have Hg6 : Hid ((w5.setCell ⟨g, 3, none⟩ (.int .i64 v3)).heap[g]? = some (.cells #[.int .u64 k, .int .u64 v1, .string v2, .int .i64 v3, .string ⟨#[]⟩, .int .i64 0] 107 (0, 0))) := setCell_at Hg5.out 3 _
 have Hx6 : Hid (RnC (w5.setCell ⟨g, 3, none⟩ (.int .i64 v3)) xb (U s.pos) (U s.done) (U s.made) vp vi vt (.slice ak s.jobs.length ck) vr vs_ vk vl vm rb odd) := bg.at Hx5.out (Ne.symm gx)
 have Hr6 := hid (show IsR 92 (w5.setCell ⟨g, 3, none⟩ (.int .i64 v3)) rb r3 from bg.at Hr5.out (Ne.symm gr))
 have Ho6 := hid (own_at Ho5.out bg (fun i hi he => go.out (he ▸ hi)))
 have T6 := hid (But.trans' T5.out bg (fun i hi he => by have := hgw.out; omega))
 have Tw6 := hid (Nat.le_trans Tw5.out bg.size)
 clear bg
 generalize w5.setCell ⟨g, 3, none⟩ (.int .i64 v3) = w6 at Hg6 Hx6 Hr6 Ho6 T6 Tw6 ⊢
 refine (Hc4.out w6 (cell_of Hx6.out 12) Hr6.out).mono ?_
 rintro e4 w7 ⟨rfl, h2, b2⟩
 have Hr7 := hid h2
 have Hx7 : Hid (RnC w7 xb (U s.pos) (U s.done) (U s.made) vp vi vt (.slice ak s.jobs.length ck) vr vs_ vk vl vm rb odd) := b2.at Hx6.out n1
 have Hg7 := hid (b2.at Hg6.out gr)
 have Ho7 := hid (own_at Ho6.out b2 (fun i hi he => n5.out (he ▸ hi)))
 have T7 := hid (T6.out.trans (b2.mono (fun _ _ h => .inl h)))
 have Tw7 := hid (show w0.heap.size ≤ w7.heap.size from Nat.le_trans Tw6.out b2.size)
 clear h2 b2
 have kg := cell_of Hg7.out 4
 have fg := free_of Hg7.out 4
 have q12 := cell_of Hx7.out 12
 have q12b : (w7.setCell ⟨g, 4, none⟩ (.string v4)).cell? ⟨xb, 12, none⟩ = some (.pointer (some ⟨rb, 0, none⟩)) := cell_of ((Rb.set (w := w7) g 4 (.string v4)).at Hx7.out (Ne.symm gx)) 12
 go_wp2_with fail
 clear kg fg q12 q12b
 have bg := Rb.set (w := w7) g 4 (.string v4)
 have Hg8 : Hid ((w7.setCell ⟨g, 4, none⟩ (.string v4)).heap[g]? = some (.cells #[.int .u64 k, .int .u64 v1, .string v2, .int .i64 v3, .string v4, .int .i64 0] 107 (0, 0))) := setCell_at Hg7.out 4 _
 have Hx8 : Hid (RnC (w7.setCell ⟨g, 4, none⟩ (.string v4)) xb (U s.pos) (U s.done) (U s.made) vp vi vt (.slice ak s.jobs.length ck) vr vs_ vk vl vm rb odd) := bg.at Hx7.out (Ne.symm gx)
 have Hr8 := hid (show IsR 92 (w7.setCell ⟨g, 4, none⟩ (.string v4)) rb r4 from bg.at Hr7.out (Ne.symm gr))
 have Ho8 := hid (own_at Ho7.out bg (fun i hi he => go.out (he ▸ hi)))
 have T8 := hid (But.trans' T7.out bg (fun i hi he => by have := hgw.out; omega))
 have Tw8 := hid (Nat.le_trans Tw7.out bg.size)
 clear bg
 generalize w7.setCell ⟨g, 4, none⟩ (.string v4) = w8 at Hg8 Hx8 Hr8 Ho8 T8 Tw8 ⊢
 refine (Hc5.out w8 (cell_of Hx8.out 12) Hr8.out).mono ?_
 rintro e5 w9 ⟨rfl, h2, b2⟩
 have Hr9 := hid h2
 have Hx9 : Hid (RnC w9 xb (U s.pos) (U s.done) (U s.made) vp vi vt (.slice ak s.jobs.length ck) vr vs_ vk vl vm rb odd) := b2.at Hx8.out n1
 have Hg9 := hid (b2.at Hg8.out gr)
 have Ho9 := hid (own_at Ho8.out b2 (fun i hi he => n5.out (he ▸ hi)))
 have T9 := hid (T8.out.trans (b2.mono (fun _ _ h => .inl h)))
 have Tw9 := hid (show w0.heap.size ≤ w9.heap.size from Nat.le_trans Tw8.out b2.size)
 clear h2 b2
 have kg := cell_of Hg9.out 5
 have fg := free_of Hg9.out 5
 have q12 := cell_of Hx9.out 12
 have q12b : (w9.setCell ⟨g, 5, none⟩ (.int .i64 v5)).cell? ⟨xb, 12, none⟩ = some (.pointer (some ⟨rb, 0, none⟩)) := cell_of ((Rb.set (w := w9) g 5 (.int .i64 v5)).at Hx9.out (Ne.symm gx)) 12
 go_wp2_with fail
 clear kg fg q12 q12b
 have bg := Rb.set (w := w9) g 5 (.int .i64 v5)
 have Hg10 : Hid ((w9.setCell ⟨g, 5, none⟩ (.int .i64 v5)).heap[g]? = some (.cells #[.int .u64 k, .int .u64 v1, .string v2, .int .i64 v3, .string v4, .int .i64 v5] 107 (0, 0))) := setCell_at Hg9.out 5 _
 have Hx10 : Hid (RnC (w9.setCell ⟨g, 5, none⟩ (.int .i64 v5)) xb (U s.pos) (U s.done) (U s.made) vp vi vt (.slice ak s.jobs.length ck) vr vs_ vk vl vm rb odd) := bg.at Hx9.out (Ne.symm gx)
 have Hr10 := hid (show IsR 92 (w9.setCell ⟨g, 5, none⟩ (.int .i64 v5)) rb r5 from bg.at Hr9.out (Ne.symm gr))
 have Ho10 := hid (own_at Ho9.out bg (fun i hi he => go.out (he ▸ hi)))
 have T10 := hid (But.trans' T9.out bg (fun i hi he => by have := hgw.out; omega))
 have Tw10 := hid (Nat.le_trans Tw9.out bg.size)
 clear bg
 generalize w9.setCell ⟨g, 5, none⟩ (.int .i64 v5) = w10 at Hg10 Hx10 Hr10 Ho10 T10 Tw10 ⊢
 have m6 := hid (fun b (h : ownB (.slice ak s.jobs.length ck) b) => Nat.lt_of_lt_of_le (n6.out b h) T10.out.size)
 have mb : base ≤ w10.heap.size := Nat.le_trans hbase T10.out.size
 have HQ4 := hid (fun w' (hb : (Ps.relC (fun b => ownB (.slice ak s.jobs.length ck) b) (fun b _ => b = xb ∨ b = g)).G w10 w') => And.intro (hb.2 xb 6 _ (.inl rfl) (cell_of Hx10.out 6)) (And.intro (hb.2 g 0 _ (.inr rfl) (cell_of Hg10.out 0)) (And.intro (hb.2 g 1 _ (.inr rfl) (cell_of Hg10.out 1)) (And.intro (hb.2 g 2 _ (.inr rfl) (cell_of Hg10.out 2)) (And.intro (hb.2 g 3 _ (.inr rfl) (cell_of Hg10.out 3)) (And.intro (hb.2 g 4 _ (.inr rfl) (cell_of Hg10.out 4)) (hb.2 g 5 _ (.inr rfl) (cell_of Hg10.out 5))))))))
 refine Ps.wp_par (Ps.relC (fun b => ownB (.slice ak s.jobs.length ck) b) (fun b _ => b = xb ∨ b = g)) (fun W => True ∧ W.ownsRow base 107 6 (.slice ak s.jobs.length ck) s.jobs.length css.flatten) (false :: false :: false :: false :: false :: false :: false :: false :: true :: []) _ (.fix ?_ :: .fix ?_ :: .fix ?_ :: .fix ?_ :: .fix ?_ :: .fix ?_ :: .fix ?_ :: .new (Ps.rowN 6 ?_ ?_ w10.heap.size) :: .st (some (s.jobs.length + 1)) (fun _ _ => True) (fun u W => True ∧ W.ownsRow base 107 6 u (s.jobs.length + 1) (css.flatten ++ [.int .u64 k, .int .u64 v1, .string v2, .int .i64 v3, .string v4, .int .i64 v5])) :: []) (by kernel_rfl) (by kernel_rfl) (by simp only [List.length_cons, List.length_nil, List.drop_succ_cons, List.drop_zero, List.drop_nil]; with_reducible rfl) rfl (fun _ _ _ _ _ => ⟨fun h => h, fun h => h⟩) (fun _ _ h hb => ⟨trivial, own_below h.2 hb⟩) (⟨trivial, Ho10.out⟩) ?_
 rotate_left 9
 iterate 7
  first
   | (refine Ps.par_skip (a' := ?_) (by rfl) (by rfl) ?_ ?_ ?_; rotate_left 1; with_reducible rfl; (simp only [lays]; with_reducible rfl))
   | (refine Ps.par_run (a' := ?_) (by rfl) (by rfl) (fun w' hb hn => ?_) ?_ ?_; rotate_left 1; (obtain ⟨q6, g0, g1, g2, g3, g4, g5⟩ := HQ4.out w' hb; go_simp; (try simp (disch := omega) only [nrm, toNatUp, iteOmega]); first | with_reducible rfl | (go_simp; with_reducible rfl)); (simp only [lays]; with_reducible rfl))
 refine Ps.par_row (a' := ?ap5k7) (m := ?mp5k7) (T := ?Tp5k7) (cs := ?cp5k7) (r := ?rp5k7) (fun b h => m6.out b h) (by rfl) (by rfl) (fun w' hb hn => ?hp5k7) (fun w' => ?ep5k7) ?np5k7 ?vp5k7 ?lp5k7 ?xp5k7 (fun u => ?pp5k7) (fun u => ?gp5k7)
 case hp5k7 => (obtain ⟨q6, g0, g1, g2, g3, g4, g5⟩ := HQ4.out w' hb; go_simp; (try simp (disch := omega) only [nrm, toNatUp, iteOmega]); with_reducible rfl)
 case ep5k7 => with_reducible rfl
 case np5k7 => with_reducible rfl
 case vp5k7 => with_reducible rfl
 case lp5k7 => simp only [List.length_cons, List.length_nil]
 case xp5k7 => (unfold maxLen; omega)
 case pp5k7 => (simp only [lays]; with_reducible rfl)
 refine Ps.par_app (a' := ?ap6k8) (A := fun W => True) 26 107 Tryz.underlying26 info_jobs rfl (by decide) mb (by unfold maxLen; omega) (by omega) (by simp [Value.oneCell']) (fun _ _ _ _ _ => trivial) (fun _ _ _ _ => trivial) (fun _ h => h) (fun b i hs hb => by rcases hs with rfl | rfl; exact n3.out hb; exact go.out hb) (by rfl) rfl rfl rfl rfl (fun w' hb hn => ?xp6k8) (fun u => ?pp6k8) (fun u hu8 => ?gp6k8)
 case xp6k8 => (exact (Ps.need_head hn (by kernel_rfl)).1)
 case pp6k8 => (simp only [lays]; with_reducible rfl)
 obtain ⟨au8, cu8, rfl⟩ := hu8
 refine Ps.par_end (fun w9 hb9 hf9 hr9 => ?_)
 try refine Ps.wpList_none ?_
 have Hx9 : RnC w9 xb (U s.pos) (U s.done) (U s.made) vp vi vt (.slice ak s.jobs.length ck) vr vs_ vk vl vm rb odd := (hb9.1.block xb (heap_lt Hx10.out) n3.out).trans Hx10.out
 have Hr9 := hid ((hb9.1.block rb (heap_lt Hr10.out) n5.out).trans Hr10.out)
 have T8 : TyBut base [92, 89, 107] w w10 := T10.out.mono (fun i _ hi => hi.elim (fun h => h ▸ ⟨_, _, _, Hr.out, by decide, hbr⟩) (fun h => h ▸ ⟨_, _, _, Hx.out, by decide, hbx⟩))
 have T9 : TyBut base [92, 89, 107] w w9 := T8.trans' hb9.1 (fun i hi ho => own_ty Hown.out (by decide) ho)
 have Ho9 := hid hr9.2
 have k9 := cell_of Hx9 6
 have f9 := free_of Hx9 6
 clear hb9 hf9 hr9
 go_wp2
 have hs9 : RnC (w9.setCell ⟨xb, 6, none⟩ (.slice au8 (s.jobs.length + 1) cu8)) xb (U s.pos) (U s.done) (U s.made) vp vi vt (.slice au8 (s.jobs.length + 1) cu8) vr vs_ vk vl vm rb odd := setCell_at Hx9 6 (.slice au8 (s.jobs.length + 1) cu8)
 have T10 : TyBut base [89] w9 (w9.setCell ⟨xb, 6, none⟩ (.slice au8 (s.jobs.length + 1) cu8)) := TyBut.set Hx9 (by decide) hbx 6 _
 generalize w9.setCell ⟨xb, 6, none⟩ (.slice au8 (s.jobs.length + 1) cu8) = w10 at hs9 T10 ⊢
 have T : TyBut base [92, 89, 107] w w10 := T9.trans (T10.weak (by decide))
 have hL := HL.out
 go_end0
 refine ⟨rfl, ⟨vp, vi, vt, (.slice au8 (s.jobs.length + 1) cu8), vr, vs_, vk, vl, vm, by rw [Bool.or_false]; exact hs9, ?_⟩, T10.at Hr9.out (by decide), T.weak (by decide)⟩
 exact ⟨hL.procs.keep DepV.ost T (by decide) (by decide) (by decide), hL.insts.keep InstV.ost T (by decide) (by decide) (by decide), hL.tokens.keep TokV.ost T (by decide) (by decide) (by decide), (LOwn.snoc A1.out A2.out (fun i cs x hc hx => JobV.ost _ _ _ _ _ _ (by decide) (by decide) (A3.out i cs x hc hx) T9.kept) ⟨rfl, by simp [Value.oneCell']⟩ rfl Ho9.out).keep JobV.ost T10 (by decide) (by decide) (by decide), hL.timers.keep TimV.ost T (by decide) (by decide) (by decide), hL.subs.keep SubV.ost T (by decide) (by decide) (by decide), hL.kept.keep KeptV.ost T (by decide) (by decide) (by decide), hL.listed.keep LisV.ost T (by decide) (by decide) (by decide), hL.msgs.keep MsgV.ost T (by decide) (by decide) (by decide)⟩
theorem one_t (xb rb k : Nat) (node : Int) (odd : Bool) (s : StateV) (r : RdV) (w : World) (base : Nat) (hbase : base ≤ w.heap.size) (hbx : base ≤ xb) (hbr : base ≤ rb) (hs : RnB w base xb rb s odd) (hr : IsR 92 w rb r)
  (hsz : r.s.size ≤ 1099511627776) (hk : k < 18446744073709551616) (hno : I64 node) (hl : s.tokens.length ≤ 2097152) :
  Calls Tryz.prog 40 #[.pointer (some ⟨xb, 0, none⟩), .int .u8 116, .int .u64 k] w fun e w' => e = .returned (.tuple #[]) ∧ RnB w' base xb rb (stepT k s r).s (odd || (stepT k s r).bad) ∧ IsR 92 w' rb (stepT k s r).r ∧ TyBut base refTs w w' := by
 obtain ⟨hno1, hno2⟩ := hno
 unfold stepT
 dsimp only
 have Hc1 : Hid (∀ W : World, W.cell? ⟨xb, 12, none⟩ = some (.pointer (some ⟨rb, 0, none⟩)) → IsR 92 W rb r → Calls Tryz.prog 39 #[.pointer (some ⟨rb, 0, none⟩)] W fun e w' => e = .returned (.int .u64 (uintR r).1) ∧ IsR 92 w' rb (uintR r).2 ∧ Rb rb W w') := fun W _ hR => rrUint_any rb r W hR (by omega)
 have hz1 := uintR_size r
 have hv1 := uintR_lt r
 revert Hc1 hz1 hv1
 generalize uintR r = p1
 obtain ⟨v1, r1⟩ := p1
 intro Hc1 hz1 hv1
 dsimp only at Hc1 hz1 hv1 ⊢
 have Hc2 : Hid (∀ W : World, W.cell? ⟨xb, 12, none⟩ = some (.pointer (some ⟨rb, 0, none⟩)) → IsR 92 W rb r1 → Calls Tryz.prog 39 #[.pointer (some ⟨rb, 0, none⟩)] W fun e w' => e = .returned (.int .u64 (uintR r1).1) ∧ IsR 92 w' rb (uintR r1).2 ∧ Rb rb W w') := fun W _ hR => rrUint_any rb r1 W hR (by omega)
 have hz2 := uintR_size r1
 have hv2 := uintR_lt r1
 revert Hc2 hz2 hv2
 generalize uintR r1 = p2
 obtain ⟨v2, r2⟩ := p2
 intro Hc2 hz2 hv2
 dsimp only at Hc2 hz2 hv2 ⊢
 have Hc3 : Hid (∀ W : World, W.cell? ⟨xb, 12, none⟩ = some (.pointer (some ⟨rb, 0, none⟩)) → IsR 92 W rb r2 → Calls Tryz.prog 106 #[.pointer (some ⟨rb, 0, none⟩)] W fun e w' => e = .returned (.int .i64 (intR r2).1) ∧ IsR 92 w' rb (intR r2).2 ∧ Rb rb W w') := fun W _ hR => rrInt_any rb r2 W hR (by omega)
 have hz3 := intR_size r2
 have hv3 := intR_in r2
 revert Hc3 hz3 hv3
 generalize intR r2 = p3
 obtain ⟨v3, r3⟩ := p3
 intro Hc3 hz3 hv3
 dsimp only at Hc3 hz3 hv3 ⊢
 obtain ⟨hv3a, hv3b⟩ := hv3
 have Hc4 : Hid (∀ W : World, W.cell? ⟨xb, 12, none⟩ = some (.pointer (some ⟨rb, 0, none⟩)) → IsR 92 W rb r3 → Calls Tryz.prog 106 #[.pointer (some ⟨rb, 0, none⟩)] W fun e w' => e = .returned (.int .i64 (intR r3).1) ∧ IsR 92 w' rb (intR r3).2 ∧ Rb rb W w') := fun W _ hR => rrInt_any rb r3 W hR (by omega)
 have hz4 := intR_size r3
 have hv4 := intR_in r3
 revert Hc4 hz4 hv4
 generalize intR r3 = p4
 obtain ⟨v4, r4⟩ := p4
 intro Hc4 hz4 hv4
 dsimp only at Hc4 hz4 hv4 ⊢
 obtain ⟨hv4a, hv4b⟩ := hv4
 have Hc5 : Hid (∀ W : World, W.cell? ⟨xb, 12, none⟩ = some (.pointer (some ⟨rb, 0, none⟩)) → IsR 92 W rb r4 → Calls Tryz.prog 38 #[.pointer (some ⟨xb, 0, none⟩)] W fun e w' => e = .returned (.string (textR 16384 r4).1) ∧ IsR 92 w' rb (textR 16384 r4).2 ∧ Rb rb W w') := fun W hX hR => refText_any xb rb r4 W hX hR (by omega)
 have hz5 := textR_sz 16384 r4
 have hv5 : True := trivial
 revert Hc5 hz5 hv5
 generalize textR 16384 r4 = p5
 obtain ⟨v5, r5⟩ := p5
 intro Hc5 hz5 hv5
 dsimp only at Hc5 hz5 hv5 ⊢
 obtain ⟨vp, vi, vt, vj, vr, vs_, vk, vl, vm, hx, hL⟩ := hs
 obtain ⟨css, a1, a2, a3, hown⟩ := hL.tokens
 obtain ⟨ak, ck, rfl⟩ := own_slice hown
 have HL := hid hL
 have Hown := hid hown
 have Hx := hid hx
 have Hr := hid hr
 have n1 : xb ≠ rb := ty_ne hx hr (by decide)
 have n3 := hid (own_ne hown hx (by decide))
 have n5 := hid (own_ne hown hr (by decide))
 have n6 := hid (own_lt hown)
 have l1 := heap_lt hx
 have l3 := heap_lt hr
 have A1 := hid a1
 have A2 := hid a2
 have A3 := hid a3
 clear hx hr hown hL a1 a2 a3
 go_enter Tryz.func40, Tryz.ntmps40
 have q12 : (w.alloc (.cells #[.int .u64 k, .int .u64 0, .int .u64 0, .int .i64 0, .int .i64 0, .string ⟨#[]⟩] 105)).cell? ⟨xb, 12, none⟩ = some (.pointer (some ⟨rb, 0, none⟩)) := cell_of ((alloc_old _ l1).trans Hx.out) 12
 go_wp2_with fail
 clear q12
 obtain ⟨g, hgd⟩ : ∃ g, g = w.heap.size := ⟨_, rfl⟩
 have Hg0 := hid (show (w.alloc (.cells #[.int .u64 k, .int .u64 0, .int .u64 0, .int .i64 0, .int .i64 0, .string ⟨#[]⟩] 105)).heap[g]? = some (.cells #[.int .u64 k, .int .u64 0, .int .u64 0, .int .i64 0, .int .i64 0, .string ⟨#[]⟩] 105 (0, 0)) from hgd ▸ alloc_new w _)
 have Hx0 : Hid (RnC (w.alloc (.cells #[.int .u64 k, .int .u64 0, .int .u64 0, .int .i64 0, .int .i64 0, .string ⟨#[]⟩] 105)) xb (U s.pos) (U s.done) (U s.made) vp vi (.slice ak s.tokens.length ck) vj vr vs_ vk vl vm rb odd) := (alloc_old _ l1).trans Hx.out
 have Hr0 := hid (show IsR 92 (w.alloc (.cells #[.int .u64 k, .int .u64 0, .int .u64 0, .int .i64 0, .int .i64 0, .string ⟨#[]⟩] 105)) rb r from (alloc_old _ l3).trans Hr.out)
 have Ho0 := hid (own_below Hown.out ((Below.refl _ w).alloc (Nat.le_refl _) (.cells #[.int .u64 k, .int .u64 0, .int .u64 0, .int .i64 0, .int .i64 0, .string ⟨#[]⟩] 105)))
 have T0 := hid (show But (fun b => b = rb ∨ b = xb) w (w.alloc (.cells #[.int .u64 k, .int .u64 0, .int .u64 0, .int .i64 0, .int .i64 0, .string ⟨#[]⟩] 105)) from But.of ((Below.refl _ w).alloc (Nat.le_refl _) _))
 have gr : g ≠ rb := by omega
 have gx : g ≠ xb := by omega
 have go := hid (show ¬ ownB (.slice ak s.tokens.length ck) g from fun h => by have := n6.out g h; omega)
 have hgw := hid (Nat.le_of_eq hgd.symm)
 try rw [← hgd]
 generalize w.alloc (.cells #[.int .u64 k, .int .u64 0, .int .u64 0, .int .i64 0, .int .i64 0, .string ⟨#[]⟩] 105) = w0 at Hg0 Hx0 Hr0 Ho0 T0 ⊢
 clear hgd
 refine (Hc1.out w0 (cell_of Hx0.out 12) Hr0.out).mono ?_
 rintro e1 w1 ⟨rfl, h2, b2⟩
 have Hr1 := hid h2
 have Hx1 : Hid (RnC w1 xb (U s.pos) (U s.done) (U s.made) vp vi (.slice ak s.tokens.length ck) vj vr vs_ vk vl vm rb odd) := b2.at Hx0.out n1
 have Hg1 := hid (b2.at Hg0.out gr)
 have Ho1 := hid (own_at Ho0.out b2 (fun i hi he => n5.out (he ▸ hi)))
 have T1 := hid (T0.out.trans (b2.mono (fun _ _ h => .inl h)))
 have Tw1 := hid (show w0.heap.size ≤ w1.heap.size from b2.size)
 clear h2 b2
 have kg := cell_of Hg1.out 1
 have fg := free_of Hg1.out 1
 have q12 := cell_of Hx1.out 12
 have q12b : (w1.setCell ⟨g, 1, none⟩ (.int .u64 v1)).cell? ⟨xb, 12, none⟩ = some (.pointer (some ⟨rb, 0, none⟩)) := cell_of ((Rb.set (w := w1) g 1 (.int .u64 v1)).at Hx1.out (Ne.symm gx)) 12
 go_wp2_with fail
 clear kg fg q12 q12b
 have bg := Rb.set (w := w1) g 1 (.int .u64 v1)
 have Hg2 : Hid ((w1.setCell ⟨g, 1, none⟩ (.int .u64 v1)).heap[g]? = some (.cells #[.int .u64 k, .int .u64 v1, .int .u64 0, .int .i64 0, .int .i64 0, .string ⟨#[]⟩] 105 (0, 0))) := setCell_at Hg1.out 1 _
 have Hx2 : Hid (RnC (w1.setCell ⟨g, 1, none⟩ (.int .u64 v1)) xb (U s.pos) (U s.done) (U s.made) vp vi (.slice ak s.tokens.length ck) vj vr vs_ vk vl vm rb odd) := bg.at Hx1.out (Ne.symm gx)
 have Hr2 := hid (show IsR 92 (w1.setCell ⟨g, 1, none⟩ (.int .u64 v1)) rb r1 from bg.at Hr1.out (Ne.symm gr))
 have Ho2 := hid (own_at Ho1.out bg (fun i hi he => go.out (he ▸ hi)))
 have T2 := hid (But.trans' T1.out bg (fun i hi he => by have := hgw.out; omega))
 have Tw2 := hid (Nat.le_trans Tw1.out bg.size)
 clear bg
 generalize w1.setCell ⟨g, 1, none⟩ (.int .u64 v1) = w2 at Hg2 Hx2 Hr2 Ho2 T2 Tw2 ⊢
 refine (Hc2.out w2 (cell_of Hx2.out 12) Hr2.out).mono ?_
 rintro e2 w3 ⟨rfl, h2, b2⟩
 have Hr3 := hid h2
 have Hx3 : Hid (RnC w3 xb (U s.pos) (U s.done) (U s.made) vp vi (.slice ak s.tokens.length ck) vj vr vs_ vk vl vm rb odd) := b2.at Hx2.out n1
 have Hg3 := hid (b2.at Hg2.out gr)
 have Ho3 := hid (own_at Ho2.out b2 (fun i hi he => n5.out (he ▸ hi)))
 have T3 := hid (T2.out.trans (b2.mono (fun _ _ h => .inl h)))
 have Tw3 := hid (show w0.heap.size ≤ w3.heap.size from Nat.le_trans Tw2.out b2.size)
 clear h2 b2
 have kg := cell_of Hg3.out 2
 have fg := free_of Hg3.out 2
 have q12 := cell_of Hx3.out 12
 have q12b : (w3.setCell ⟨g, 2, none⟩ (.int .u64 v2)).cell? ⟨xb, 12, none⟩ = some (.pointer (some ⟨rb, 0, none⟩)) := cell_of ((Rb.set (w := w3) g 2 (.int .u64 v2)).at Hx3.out (Ne.symm gx)) 12
 go_wp2_with fail
 clear kg fg q12 q12b
 have bg := Rb.set (w := w3) g 2 (.int .u64 v2)
 have Hg4 : Hid ((w3.setCell ⟨g, 2, none⟩ (.int .u64 v2)).heap[g]? = some (.cells #[.int .u64 k, .int .u64 v1, .int .u64 v2, .int .i64 0, .int .i64 0, .string ⟨#[]⟩] 105 (0, 0))) := setCell_at Hg3.out 2 _
 have Hx4 : Hid (RnC (w3.setCell ⟨g, 2, none⟩ (.int .u64 v2)) xb (U s.pos) (U s.done) (U s.made) vp vi (.slice ak s.tokens.length ck) vj vr vs_ vk vl vm rb odd) := bg.at Hx3.out (Ne.symm gx)
 have Hr4 := hid (show IsR 92 (w3.setCell ⟨g, 2, none⟩ (.int .u64 v2)) rb r2 from bg.at Hr3.out (Ne.symm gr))
 have Ho4 := hid (own_at Ho3.out bg (fun i hi he => go.out (he ▸ hi)))
 have T4 := hid (But.trans' T3.out bg (fun i hi he => by have := hgw.out; omega))
 have Tw4 := hid (Nat.le_trans Tw3.out bg.size)
 clear bg
 generalize w3.setCell ⟨g, 2, none⟩ (.int .u64 v2) = w4 at Hg4 Hx4 Hr4 Ho4 T4 Tw4 ⊢
 refine (Hc3.out w4 (cell_of Hx4.out 12) Hr4.out).mono ?_
 rintro e3 w5 ⟨rfl, h2, b2⟩
 have Hr5 := hid h2
 have Hx5 : Hid (RnC w5 xb (U s.pos) (U s.done) (U s.made) vp vi (.slice ak s.tokens.length ck) vj vr vs_ vk vl vm rb odd) := b2.at Hx4.out n1
 have Hg5 := hid (b2.at Hg4.out gr)
 have Ho5 := hid (own_at Ho4.out b2 (fun i hi he => n5.out (he ▸ hi)))
 have T5 := hid (T4.out.trans (b2.mono (fun _ _ h => .inl h)))
 have Tw5 := hid (show w0.heap.size ≤ w5.heap.size from Nat.le_trans Tw4.out b2.size)
 clear h2 b2
 have kg := cell_of Hg5.out 3
 have fg := free_of Hg5.out 3
 have q12 := cell_of Hx5.out 12
 have q12b : (w5.setCell ⟨g, 3, none⟩ (.int .i64 v3)).cell? ⟨xb, 12, none⟩ = some (.pointer (some ⟨rb, 0, none⟩)) := cell_of ((Rb.set (w := w5) g 3 (.int .i64 v3)).at Hx5.out (Ne.symm gx)) 12
 go_wp2_with fail
 clear kg fg q12 q12b
 have bg := Rb.set (w := w5) g 3 (.int .i64 v3)
 have Hg6 : Hid ((w5.setCell ⟨g, 3, none⟩ (.int .i64 v3)).heap[g]? = some (.cells #[.int .u64 k, .int .u64 v1, .int .u64 v2, .int .i64 v3, .int .i64 0, .string ⟨#[]⟩] 105 (0, 0))) := setCell_at Hg5.out 3 _
 have Hx6 : Hid (RnC (w5.setCell ⟨g, 3, none⟩ (.int .i64 v3)) xb (U s.pos) (U s.done) (U s.made) vp vi (.slice ak s.tokens.length ck) vj vr vs_ vk vl vm rb odd) := bg.at Hx5.out (Ne.symm gx)
 have Hr6 := hid (show IsR 92 (w5.setCell ⟨g, 3, none⟩ (.int .i64 v3)) rb r3 from bg.at Hr5.out (Ne.symm gr))
 have Ho6 := hid (own_at Ho5.out bg (fun i hi he => go.out (he ▸ hi)))
 have T6 := hid (But.trans' T5.out bg (fun i hi he => by have := hgw.out; omega))
 have Tw6 := hid (Nat.le_trans Tw5.out bg.size)
 clear bg
 generalize w5.setCell ⟨g, 3, none⟩ (.int .i64 v3) = w6 at Hg6 Hx6 Hr6 Ho6 T6 Tw6 ⊢
 refine (Hc4.out w6 (cell_of Hx6.out 12) Hr6.out).mono ?_
 rintro e4 w7 ⟨rfl, h2, b2⟩
 have Hr7 := hid h2
 have Hx7 : Hid (RnC w7 xb (U s.pos) (U s.done) (U s.made) vp vi (.slice ak s.tokens.length ck) vj vr vs_ vk vl vm rb odd) := b2.at Hx6.out n1
 have Hg7 := hid (b2.at Hg6.out gr)
 have Ho7 := hid (own_at Ho6.out b2 (fun i hi he => n5.out (he ▸ hi)))
 have T7 := hid (T6.out.trans (b2.mono (fun _ _ h => .inl h)))
 have Tw7 := hid (show w0.heap.size ≤ w7.heap.size from Nat.le_trans Tw6.out b2.size)
 clear h2 b2
 have kg := cell_of Hg7.out 4
 have fg := free_of Hg7.out 4
 have q12 := cell_of Hx7.out 12
 have q12b : (w7.setCell ⟨g, 4, none⟩ (.int .i64 v4)).cell? ⟨xb, 12, none⟩ = some (.pointer (some ⟨rb, 0, none⟩)) := cell_of ((Rb.set (w := w7) g 4 (.int .i64 v4)).at Hx7.out (Ne.symm gx)) 12
 go_wp2_with fail
 clear kg fg q12 q12b
 have bg := Rb.set (w := w7) g 4 (.int .i64 v4)
 have Hg8 : Hid ((w7.setCell ⟨g, 4, none⟩ (.int .i64 v4)).heap[g]? = some (.cells #[.int .u64 k, .int .u64 v1, .int .u64 v2, .int .i64 v3, .int .i64 v4, .string ⟨#[]⟩] 105 (0, 0))) := setCell_at Hg7.out 4 _
 have Hx8 : Hid (RnC (w7.setCell ⟨g, 4, none⟩ (.int .i64 v4)) xb (U s.pos) (U s.done) (U s.made) vp vi (.slice ak s.tokens.length ck) vj vr vs_ vk vl vm rb odd) := bg.at Hx7.out (Ne.symm gx)
 have Hr8 := hid (show IsR 92 (w7.setCell ⟨g, 4, none⟩ (.int .i64 v4)) rb r4 from bg.at Hr7.out (Ne.symm gr))
 have Ho8 := hid (own_at Ho7.out bg (fun i hi he => go.out (he ▸ hi)))
 have T8 := hid (But.trans' T7.out bg (fun i hi he => by have := hgw.out; omega))
 have Tw8 := hid (Nat.le_trans Tw7.out bg.size)
 clear bg
 generalize w7.setCell ⟨g, 4, none⟩ (.int .i64 v4) = w8 at Hg8 Hx8 Hr8 Ho8 T8 Tw8 ⊢
 refine (Hc5.out w8 (cell_of Hx8.out 12) Hr8.out).mono ?_
 rintro e5 w9 ⟨rfl, h2, b2⟩
 have Hr9 := hid h2
 have Hx9 : Hid (RnC w9 xb (U s.pos) (U s.done) (U s.made) vp vi (.slice ak s.tokens.length ck) vj vr vs_ vk vl vm rb odd) := b2.at Hx8.out n1
 have Hg9 := hid (b2.at Hg8.out gr)
 have Ho9 := hid (own_at Ho8.out b2 (fun i hi he => n5.out (he ▸ hi)))
 have T9 := hid (T8.out.trans (b2.mono (fun _ _ h => .inl h)))
 have Tw9 := hid (show w0.heap.size ≤ w9.heap.size from Nat.le_trans Tw8.out b2.size)
 clear h2 b2
 have kg := cell_of Hg9.out 5
 have fg := free_of Hg9.out 5
 have q12 := cell_of Hx9.out 12
 have q12b : (w9.setCell ⟨g, 5, none⟩ (.string v5)).cell? ⟨xb, 12, none⟩ = some (.pointer (some ⟨rb, 0, none⟩)) := cell_of ((Rb.set (w := w9) g 5 (.string v5)).at Hx9.out (Ne.symm gx)) 12
 go_wp2_with fail
 clear kg fg q12 q12b
 have bg := Rb.set (w := w9) g 5 (.string v5)
 have Hg10 : Hid ((w9.setCell ⟨g, 5, none⟩ (.string v5)).heap[g]? = some (.cells #[.int .u64 k, .int .u64 v1, .int .u64 v2, .int .i64 v3, .int .i64 v4, .string v5] 105 (0, 0))) := setCell_at Hg9.out 5 _
 have Hx10 : Hid (RnC (w9.setCell ⟨g, 5, none⟩ (.string v5)) xb (U s.pos) (U s.done) (U s.made) vp vi (.slice ak s.tokens.length ck) vj vr vs_ vk vl vm rb odd) := bg.at Hx9.out (Ne.symm gx)
 have Hr10 := hid (show IsR 92 (w9.setCell ⟨g, 5, none⟩ (.string v5)) rb r5 from bg.at Hr9.out (Ne.symm gr))
 have Ho10 := hid (own_at Ho9.out bg (fun i hi he => go.out (he ▸ hi)))
 have T10 := hid (But.trans' T9.out bg (fun i hi he => by have := hgw.out; omega))
 have Tw10 := hid (Nat.le_trans Tw9.out bg.size)
 clear bg
 generalize w9.setCell ⟨g, 5, none⟩ (.string v5) = w10 at Hg10 Hx10 Hr10 Ho10 T10 Tw10 ⊢
 have m6 := hid (fun b (h : ownB (.slice ak s.tokens.length ck) b) => Nat.lt_of_lt_of_le (n6.out b h) T10.out.size)
 have mb : base ≤ w10.heap.size := Nat.le_trans hbase T10.out.size
 have HQ7 := hid (fun w' (hb : (Ps.relC (fun b => ownB (.slice ak s.tokens.length ck) b) (fun b _ => b = xb ∨ b = g)).G w10 w') => And.intro (hb.2 xb 5 _ (.inl rfl) (cell_of Hx10.out 5)) (And.intro (hb.2 g 0 _ (.inr rfl) (cell_of Hg10.out 0)) (And.intro (hb.2 g 1 _ (.inr rfl) (cell_of Hg10.out 1)) (And.intro (hb.2 g 2 _ (.inr rfl) (cell_of Hg10.out 2)) (And.intro (hb.2 g 3 _ (.inr rfl) (cell_of Hg10.out 3)) (And.intro (hb.2 g 4 _ (.inr rfl) (cell_of Hg10.out 4)) (hb.2 g 5 _ (.inr rfl) (cell_of Hg10.out 5))))))))
 refine Ps.wp_par (Ps.relC (fun b => ownB (.slice ak s.tokens.length ck) b) (fun b _ => b = xb ∨ b = g)) (fun W => True ∧ W.ownsRow base 105 6 (.slice ak s.tokens.length ck) s.tokens.length css.flatten) (false :: false :: false :: false :: false :: false :: false :: false :: true :: []) _ (.fix ?_ :: .fix ?_ :: .fix ?_ :: .fix ?_ :: .fix ?_ :: .fix ?_ :: .fix ?_ :: .new (Ps.rowN 6 ?_ ?_ w10.heap.size) :: .st (some (s.tokens.length + 1)) (fun _ _ => True) (fun u W => True ∧ W.ownsRow base 105 6 u (s.tokens.length + 1) (css.flatten ++ [.int .u64 k, .int .u64 v1, .int .u64 v2, .int .i64 v3, .int .i64 v4, .string v5])) :: []) (by kernel_rfl) (by kernel_rfl) (by simp only [List.length_cons, List.length_nil, List.drop_succ_cons, List.drop_zero, List.drop_nil]; with_reducible rfl) rfl (fun _ _ _ _ _ => ⟨fun h => h, fun h => h⟩) (fun _ _ h hb => ⟨trivial, own_below h.2 hb⟩) (⟨trivial, Ho10.out⟩) ?_
 rotate_left 9
 iterate 7
  first
   | (refine Ps.par_skip (a' := ?_) (by rfl) (by rfl) ?_ ?_ ?_; rotate_left 1; with_reducible rfl; (simp only [lays]; with_reducible rfl))
   | (refine Ps.par_run (a' := ?_) (by rfl) (by rfl) (fun w' hb hn => ?_) ?_ ?_; rotate_left 1; (obtain ⟨q5, g0, g1, g2, g3, g4, g5⟩ := HQ7.out w' hb; go_simp; (try simp (disch := omega) only [nrm, toNatUp, iteOmega]); first | with_reducible rfl | (go_simp; with_reducible rfl)); (simp only [lays]; with_reducible rfl))
 refine Ps.par_row (a' := ?ap8k7) (m := ?mp8k7) (T := ?Tp8k7) (cs := ?cp8k7) (r := ?rp8k7) (fun b h => m6.out b h) (by rfl) (by rfl) (fun w' hb hn => ?hp8k7) (fun w' => ?ep8k7) ?np8k7 ?vp8k7 ?lp8k7 ?xp8k7 (fun u => ?pp8k7) (fun u => ?gp8k7)
 case hp8k7 => (obtain ⟨q5, g0, g1, g2, g3, g4, g5⟩ := HQ7.out w' hb; go_simp; (try simp (disch := omega) only [nrm, toNatUp, iteOmega]); with_reducible rfl)
 case ep8k7 => with_reducible rfl
 case np8k7 => with_reducible rfl
 case vp8k7 => with_reducible rfl
 case lp8k7 => simp only [List.length_cons, List.length_nil]
 case xp8k7 => (unfold maxLen; omega)
 case pp8k7 => (simp only [lays]; with_reducible rfl)
 refine Ps.par_app (a' := ?ap9k8) (A := fun W => True) 25 105 Tryz.underlying25 info_tokens rfl (by decide) mb (by unfold maxLen; omega) (by omega) (by simp [Value.oneCell']) (fun _ _ _ _ _ => trivial) (fun _ _ _ _ => trivial) (fun _ h => h) (fun b i hs hb => by rcases hs with rfl | rfl; exact n3.out hb; exact go.out hb) (by rfl) rfl rfl rfl rfl (fun w' hb hn => ?xp9k8) (fun u => ?pp9k8) (fun u hu8 => ?gp9k8)
 case xp9k8 => (exact (Ps.need_head hn (by kernel_rfl)).1)
 case pp9k8 => (simp only [lays]; with_reducible rfl)
 obtain ⟨au8, cu8, rfl⟩ := hu8
 refine Ps.par_end (fun w9 hb9 hf9 hr9 => ?_)
 try refine Ps.wpList_none ?_
 have Hx9 : RnC w9 xb (U s.pos) (U s.done) (U s.made) vp vi (.slice ak s.tokens.length ck) vj vr vs_ vk vl vm rb odd := (hb9.1.block xb (heap_lt Hx10.out) n3.out).trans Hx10.out
 have Hr9 := hid ((hb9.1.block rb (heap_lt Hr10.out) n5.out).trans Hr10.out)
 have T8 : TyBut base [92, 89, 105] w w10 := T10.out.mono (fun i _ hi => hi.elim (fun h => h ▸ ⟨_, _, _, Hr.out, by decide, hbr⟩) (fun h => h ▸ ⟨_, _, _, Hx.out, by decide, hbx⟩))
 have T9 : TyBut base [92, 89, 105] w w9 := T8.trans' hb9.1 (fun i hi ho => own_ty Hown.out (by decide) ho)
 have Ho9 := hid hr9.2
 have k9 := cell_of Hx9 5
 have f9 := free_of Hx9 5
 clear hb9 hf9 hr9
 go_wp2
 have hs9 : RnC (w9.setCell ⟨xb, 5, none⟩ (.slice au8 (s.tokens.length + 1) cu8)) xb (U s.pos) (U s.done) (U s.made) vp vi (.slice au8 (s.tokens.length + 1) cu8) vj vr vs_ vk vl vm rb odd := setCell_at Hx9 5 (.slice au8 (s.tokens.length + 1) cu8)
 have T10 : TyBut base [89] w9 (w9.setCell ⟨xb, 5, none⟩ (.slice au8 (s.tokens.length + 1) cu8)) := TyBut.set Hx9 (by decide) hbx 5 _
 generalize w9.setCell ⟨xb, 5, none⟩ (.slice au8 (s.tokens.length + 1) cu8) = w10 at hs9 T10 ⊢
 have T : TyBut base [92, 89, 105] w w10 := T9.trans (T10.weak (by decide))
 have hL := HL.out
 go_end0
 refine ⟨rfl, ⟨vp, vi, (.slice au8 (s.tokens.length + 1) cu8), vj, vr, vs_, vk, vl, vm, by rw [Bool.or_false]; exact hs9, ?_⟩, T10.at Hr9.out (by decide), T.weak (by decide)⟩
 exact ⟨hL.procs.keep DepV.ost T (by decide) (by decide) (by decide), hL.insts.keep InstV.ost T (by decide) (by decide) (by decide), (LOwn.snoc A1.out A2.out (fun i cs x hc hx => TokV.ost _ _ _ _ _ _ (by decide) (by decide) (A3.out i cs x hc hx) T9.kept) ⟨rfl, by simp [Value.oneCell']⟩ rfl Ho9.out).keep TokV.ost T10 (by decide) (by decide) (by decide), hL.jobs.keep JobV.ost T (by decide) (by decide) (by decide), hL.timers.keep TimV.ost T (by decide) (by decide) (by decide), hL.subs.keep SubV.ost T (by decide) (by decide) (by decide), hL.kept.keep KeptV.ost T (by decide) (by decide) (by decide), hL.listed.keep LisV.ost T (by decide) (by decide) (by decide), hL.msgs.keep MsgV.ost T (by decide) (by decide) (by decide)⟩
theorem two_l (xb rb k : Nat) (node : Int) (odd : Bool) (s : StateV) (r : RdV) (w : World) (base : Nat) (hbase : base ≤ w.heap.size) (hbx : base ≤ xb) (hbr : base ≤ rb) (hs : RnB w base xb rb s odd) (hr : IsR 92 w rb r)
  (hsz : r.s.size ≤ 1099511627776) (hk : k < 18446744073709551616) (hno : I64 node) (hl : s.listed.length ≤ 2097152) :
  Calls Tryz.prog 42 #[.pointer (some ⟨xb, 0, none⟩), .int .u8 108, .int .u64 k, .int .i64 node] w fun e w' => e = .returned (.tuple #[]) ∧ RnB w' base xb rb (stepL k node s r).s (odd || (stepL k node s r).bad) ∧ IsR 92 w' rb (stepL k node s r).r ∧ TyBut base refTs w w' := by
 obtain ⟨hno1, hno2⟩ := hno
 unfold stepL
 dsimp only
 have Hc1 : Hid (∀ W : World, W.cell? ⟨xb, 12, none⟩ = some (.pointer (some ⟨rb, 0, none⟩)) → IsR 92 W rb r → Calls Tryz.prog 39 #[.pointer (some ⟨rb, 0, none⟩)] W fun e w' => e = .returned (.int .u64 (uintR r).1) ∧ IsR 92 w' rb (uintR r).2 ∧ Rb rb W w') := fun W _ hR => rrUint_any rb r W hR (by omega)
 have hz1 := uintR_size r
 have hv1 := uintR_lt r
 revert Hc1 hz1 hv1
 generalize uintR r = p1
 obtain ⟨v1, r1⟩ := p1
 intro Hc1 hz1 hv1
 dsimp only at Hc1 hz1 hv1 ⊢
 have Hc2 : Hid (∀ W : World, W.cell? ⟨xb, 12, none⟩ = some (.pointer (some ⟨rb, 0, none⟩)) → IsR 92 W rb r1 → Calls Tryz.prog 38 #[.pointer (some ⟨xb, 0, none⟩)] W fun e w' => e = .returned (.string (textR 16384 r1).1) ∧ IsR 92 w' rb (textR 16384 r1).2 ∧ Rb rb W w') := fun W hX hR => refText_any xb rb r1 W hX hR (by omega)
 have hz2 := textR_sz 16384 r1
 have hv2 : True := trivial
 revert Hc2 hz2 hv2
 generalize textR 16384 r1 = p2
 obtain ⟨v2, r2⟩ := p2
 intro Hc2 hz2 hv2
 dsimp only at Hc2 hz2 hv2 ⊢
 have Hc3 : Hid (∀ W : World, W.cell? ⟨xb, 12, none⟩ = some (.pointer (some ⟨rb, 0, none⟩)) → IsR 92 W rb r2 → Calls Tryz.prog 38 #[.pointer (some ⟨xb, 0, none⟩)] W fun e w' => e = .returned (.string (textR 16384 r2).1) ∧ IsR 92 w' rb (textR 16384 r2).2 ∧ Rb rb W w') := fun W hX hR => refText_any xb rb r2 W hX hR (by omega)
 have hz3 := textR_sz 16384 r2
 have hv3 : True := trivial
 revert Hc3 hz3 hv3
 generalize textR 16384 r2 = p3
 obtain ⟨v3, r3⟩ := p3
 intro Hc3 hz3 hv3
 dsimp only at Hc3 hz3 hv3 ⊢
 have Hc4 : Hid (∀ W : World, W.cell? ⟨xb, 12, none⟩ = some (.pointer (some ⟨rb, 0, none⟩)) → IsR 92 W rb r3 → Calls Tryz.prog 39 #[.pointer (some ⟨rb, 0, none⟩)] W fun e w' => e = .returned (.int .u64 (uintR r3).1) ∧ IsR 92 w' rb (uintR r3).2 ∧ Rb rb W w') := fun W _ hR => rrUint_any rb r3 W hR (by omega)
 have hz4 := uintR_size r3
 have hv4 := uintR_lt r3
 revert Hc4 hz4 hv4
 generalize uintR r3 = p4
 obtain ⟨v4, r4⟩ := p4
 intro Hc4 hz4 hv4
 dsimp only at Hc4 hz4 hv4 ⊢
 have Hc5 : Hid (∀ (W : World) (c0 c1 c2 c3 c4 c5 c6 c7 c8 c9 c10 c11 : Value) (od : Bool), RnC W xb c0 c1 c2 c3 c4 c5 c6 c7 c8 c9 c10 c11 rb od → IsR 92 W rb r4 → Calls Tryz.prog 107 #[.pointer (some ⟨xb, 0, none⟩)] W fun e w' => ∃ v, e = .returned v ∧ VarsOwn w' W.heap.size v (varsOf r4) ∧ RnC w' xb c0 c1 c2 c3 c4 c5 c6 c7 c8 c9 c10 c11 rb (od || varsBad r4) ∧ IsR 92 w' rb (takeVars r4).2 ∧ But (fun b => b = rb ∨ b = xb) W w') := fun W c0 c1 c2 c3 c4 c5 c6 c7 c8 c9 c10 c11 od hX hR => refVars_any xb c0 c1 c2 c3 c4 c5 c6 c7 c8 c9 c10 c11 rb od r4 W hX hR (by omega)
 have hz5 := takeVars_size r4
 revert Hc5 hz5
 generalize varsOf r4 = vs
 generalize varsBad r4 = vb
 generalize (takeVars r4).2 = r5
 intro Hc5 hz5
 obtain ⟨vp, vi, vt, vj, vr, vs_, vk, vl, vm, hx, hL⟩ := hs
 obtain ⟨css, a1, a2, a3, hown⟩ := hL.listed
 obtain ⟨ak, ck, rfl⟩ := own_slice hown
 have HL := hid hL
 have Hown := hid hown
 have Hx := hid hx
 have Hr := hid hr
 have n1 : xb ≠ rb := ty_ne hx hr (by decide)
 have n3 := hid (own_ne hown hx (by decide))
 have n5 := hid (own_ne hown hr (by decide))
 have n6 := hid (own_lt hown)
 have l1 := heap_lt hx
 have l3 := heap_lt hr
 have A1 := hid a1
 have A2 := hid a2
 have A3 := hid a3
 clear hx hr hown hL a1 a2 a3
 go_enter Tryz.func42, Tryz.ntmps42
 have q12 : (w.alloc (.cells #[.int .u64 k, .int .u64 0, .int .i64 node, .string ⟨#[]⟩, .string ⟨#[]⟩, .int .u64 0, .slice none 0 0] 115)).cell? ⟨xb, 12, none⟩ = some (.pointer (some ⟨rb, 0, none⟩)) := cell_of ((alloc_old _ l1).trans Hx.out) 12
 go_wp2_with fail
 clear q12
 obtain ⟨g, hgd⟩ : ∃ g, g = w.heap.size := ⟨_, rfl⟩
 have Hg0 := hid (show (w.alloc (.cells #[.int .u64 k, .int .u64 0, .int .i64 node, .string ⟨#[]⟩, .string ⟨#[]⟩, .int .u64 0, .slice none 0 0] 115)).heap[g]? = some (.cells #[.int .u64 k, .int .u64 0, .int .i64 node, .string ⟨#[]⟩, .string ⟨#[]⟩, .int .u64 0, .slice none 0 0] 115 (0, 0)) from hgd ▸ alloc_new w _)
 have Hx0 : Hid (RnC (w.alloc (.cells #[.int .u64 k, .int .u64 0, .int .i64 node, .string ⟨#[]⟩, .string ⟨#[]⟩, .int .u64 0, .slice none 0 0] 115)) xb (U s.pos) (U s.done) (U s.made) vp vi vt vj vr vs_ vk (.slice ak s.listed.length ck) vm rb odd) := (alloc_old _ l1).trans Hx.out
 have Hr0 := hid (show IsR 92 (w.alloc (.cells #[.int .u64 k, .int .u64 0, .int .i64 node, .string ⟨#[]⟩, .string ⟨#[]⟩, .int .u64 0, .slice none 0 0] 115)) rb r from (alloc_old _ l3).trans Hr.out)
 have Ho0 := hid (own_below Hown.out ((Below.refl _ w).alloc (Nat.le_refl _) (.cells #[.int .u64 k, .int .u64 0, .int .i64 node, .string ⟨#[]⟩, .string ⟨#[]⟩, .int .u64 0, .slice none 0 0] 115)))
 have T0 := hid (show But (fun b => b = rb ∨ b = xb) w (w.alloc (.cells #[.int .u64 k, .int .u64 0, .int .i64 node, .string ⟨#[]⟩, .string ⟨#[]⟩, .int .u64 0, .slice none 0 0] 115)) from But.of ((Below.refl _ w).alloc (Nat.le_refl _) _))
 have gr : g ≠ rb := by omega
 have gx : g ≠ xb := by omega
 have go := hid (show ¬ ownB (.slice ak s.listed.length ck) g from fun h => by have := n6.out g h; omega)
 have hgw := hid (Nat.le_of_eq hgd.symm)
 try rw [← hgd]
 generalize w.alloc (.cells #[.int .u64 k, .int .u64 0, .int .i64 node, .string ⟨#[]⟩, .string ⟨#[]⟩, .int .u64 0, .slice none 0 0] 115) = w0 at Hg0 Hx0 Hr0 Ho0 T0 ⊢
 clear hgd
 refine (Hc1.out w0 (cell_of Hx0.out 12) Hr0.out).mono ?_
 rintro e1 w1 ⟨rfl, h2, b2⟩
 have Hr1 := hid h2
 have Hx1 : Hid (RnC w1 xb (U s.pos) (U s.done) (U s.made) vp vi vt vj vr vs_ vk (.slice ak s.listed.length ck) vm rb odd) := b2.at Hx0.out n1
 have Hg1 := hid (b2.at Hg0.out gr)
 have Ho1 := hid (own_at Ho0.out b2 (fun i hi he => n5.out (he ▸ hi)))
 have T1 := hid (T0.out.trans (b2.mono (fun _ _ h => .inl h)))
 have Tw1 := hid (show w0.heap.size ≤ w1.heap.size from b2.size)
 clear h2 b2
 have kg := cell_of Hg1.out 1
 have fg := free_of Hg1.out 1
 have q12 := cell_of Hx1.out 12
 have q12b : (w1.setCell ⟨g, 1, none⟩ (.int .u64 v1)).cell? ⟨xb, 12, none⟩ = some (.pointer (some ⟨rb, 0, none⟩)) := cell_of ((Rb.set (w := w1) g 1 (.int .u64 v1)).at Hx1.out (Ne.symm gx)) 12
 go_wp2_with fail
 clear kg fg q12 q12b
 have bg := Rb.set (w := w1) g 1 (.int .u64 v1)
 have Hg2 : Hid ((w1.setCell ⟨g, 1, none⟩ (.int .u64 v1)).heap[g]? = some (.cells #[.int .u64 k, .int .u64 v1, .int .i64 node, .string ⟨#[]⟩, .string ⟨#[]⟩, .int .u64 0, .slice none 0 0] 115 (0, 0))) := setCell_at Hg1.out 1 _
 have Hx2 : Hid (RnC (w1.setCell ⟨g, 1, none⟩ (.int .u64 v1)) xb (U s.pos) (U s.done) (U s.made) vp vi vt vj vr vs_ vk (.slice ak s.listed.length ck) vm rb odd) := bg.at Hx1.out (Ne.symm gx)
 have Hr2 := hid (show IsR 92 (w1.setCell ⟨g, 1, none⟩ (.int .u64 v1)) rb r1 from bg.at Hr1.out (Ne.symm gr))
 have Ho2 := hid (own_at Ho1.out bg (fun i hi he => go.out (he ▸ hi)))
 have T2 := hid (But.trans' T1.out bg (fun i hi he => by have := hgw.out; omega))
 have Tw2 := hid (Nat.le_trans Tw1.out bg.size)
 clear bg
 generalize w1.setCell ⟨g, 1, none⟩ (.int .u64 v1) = w2 at Hg2 Hx2 Hr2 Ho2 T2 Tw2 ⊢
 refine (Hc2.out w2 (cell_of Hx2.out 12) Hr2.out).mono ?_
 rintro e2 w3 ⟨rfl, h2, b2⟩
 have Hr3 := hid h2
 have Hx3 : Hid (RnC w3 xb (U s.pos) (U s.done) (U s.made) vp vi vt vj vr vs_ vk (.slice ak s.listed.length ck) vm rb odd) := b2.at Hx2.out n1
 have Hg3 := hid (b2.at Hg2.out gr)
 have Ho3 := hid (own_at Ho2.out b2 (fun i hi he => n5.out (he ▸ hi)))
 have T3 := hid (T2.out.trans (b2.mono (fun _ _ h => .inl h)))
 have Tw3 := hid (show w0.heap.size ≤ w3.heap.size from Nat.le_trans Tw2.out b2.size)
 clear h2 b2
 have kg := cell_of Hg3.out 3
 have fg := free_of Hg3.out 3
 have q12 := cell_of Hx3.out 12
 have q12b : (w3.setCell ⟨g, 3, none⟩ (.string v2)).cell? ⟨xb, 12, none⟩ = some (.pointer (some ⟨rb, 0, none⟩)) := cell_of ((Rb.set (w := w3) g 3 (.string v2)).at Hx3.out (Ne.symm gx)) 12
 go_wp2_with fail
 clear kg fg q12 q12b
 have bg := Rb.set (w := w3) g 3 (.string v2)
 have Hg4 : Hid ((w3.setCell ⟨g, 3, none⟩ (.string v2)).heap[g]? = some (.cells #[.int .u64 k, .int .u64 v1, .int .i64 node, .string v2, .string ⟨#[]⟩, .int .u64 0, .slice none 0 0] 115 (0, 0))) := setCell_at Hg3.out 3 _
 have Hx4 : Hid (RnC (w3.setCell ⟨g, 3, none⟩ (.string v2)) xb (U s.pos) (U s.done) (U s.made) vp vi vt vj vr vs_ vk (.slice ak s.listed.length ck) vm rb odd) := bg.at Hx3.out (Ne.symm gx)
 have Hr4 := hid (show IsR 92 (w3.setCell ⟨g, 3, none⟩ (.string v2)) rb r2 from bg.at Hr3.out (Ne.symm gr))
 have Ho4 := hid (own_at Ho3.out bg (fun i hi he => go.out (he ▸ hi)))
 have T4 := hid (But.trans' T3.out bg (fun i hi he => by have := hgw.out; omega))
 have Tw4 := hid (Nat.le_trans Tw3.out bg.size)
 clear bg
 generalize w3.setCell ⟨g, 3, none⟩ (.string v2) = w4 at Hg4 Hx4 Hr4 Ho4 T4 Tw4 ⊢
 refine (Hc3.out w4 (cell_of Hx4.out 12) Hr4.out).mono ?_
 rintro e3 w5 ⟨rfl, h2, b2⟩
 have Hr5 := hid h2
 have Hx5 : Hid (RnC w5 xb (U s.pos) (U s.done) (U s.made) vp vi vt vj vr vs_ vk (.slice ak s.listed.length ck) vm rb odd) := b2.at Hx4.out n1
 have Hg5 := hid (b2.at Hg4.out gr)
 have Ho5 := hid (own_at Ho4.out b2 (fun i hi he => n5.out (he ▸ hi)))
 have T5 := hid (T4.out.trans (b2.mono (fun _ _ h => .inl h)))
 have Tw5 := hid (show w0.heap.size ≤ w5.heap.size from Nat.le_trans Tw4.out b2.size)
 clear h2 b2
 have kg := cell_of Hg5.out 4
 have fg := free_of Hg5.out 4
 have q12 := cell_of Hx5.out 12
 have q12b : (w5.setCell ⟨g, 4, none⟩ (.string v3)).cell? ⟨xb, 12, none⟩ = some (.pointer (some ⟨rb, 0, none⟩)) := cell_of ((Rb.set (w := w5) g 4 (.string v3)).at Hx5.out (Ne.symm gx)) 12
 go_wp2_with fail
 clear kg fg q12 q12b
 have bg := Rb.set (w := w5) g 4 (.string v3)
 have Hg6 : Hid ((w5.setCell ⟨g, 4, none⟩ (.string v3)).heap[g]? = some (.cells #[.int .u64 k, .int .u64 v1, .int .i64 node, .string v2, .string v3, .int .u64 0, .slice none 0 0] 115 (0, 0))) := setCell_at Hg5.out 4 _
 have Hx6 : Hid (RnC (w5.setCell ⟨g, 4, none⟩ (.string v3)) xb (U s.pos) (U s.done) (U s.made) vp vi vt vj vr vs_ vk (.slice ak s.listed.length ck) vm rb odd) := bg.at Hx5.out (Ne.symm gx)
 have Hr6 := hid (show IsR 92 (w5.setCell ⟨g, 4, none⟩ (.string v3)) rb r3 from bg.at Hr5.out (Ne.symm gr))
 have Ho6 := hid (own_at Ho5.out bg (fun i hi he => go.out (he ▸ hi)))
 have T6 := hid (But.trans' T5.out bg (fun i hi he => by have := hgw.out; omega))
 have Tw6 := hid (Nat.le_trans Tw5.out bg.size)
 clear bg
 generalize w5.setCell ⟨g, 4, none⟩ (.string v3) = w6 at Hg6 Hx6 Hr6 Ho6 T6 Tw6 ⊢
 refine (Hc4.out w6 (cell_of Hx6.out 12) Hr6.out).mono ?_
 rintro e4 w7 ⟨rfl, h2, b2⟩
 have Hr7 := hid h2
 have Hx7 : Hid (RnC w7 xb (U s.pos) (U s.done) (U s.made) vp vi vt vj vr vs_ vk (.slice ak s.listed.length ck) vm rb odd) := b2.at Hx6.out n1
 have Hg7 := hid (b2.at Hg6.out gr)
 have Ho7 := hid (own_at Ho6.out b2 (fun i hi he => n5.out (he ▸ hi)))
 have T7 := hid (T6.out.trans (b2.mono (fun _ _ h => .inl h)))
 have Tw7 := hid (show w0.heap.size ≤ w7.heap.size from Nat.le_trans Tw6.out b2.size)
 clear h2 b2
 have kg := cell_of Hg7.out 5
 have fg := free_of Hg7.out 5
 have q12 := cell_of Hx7.out 12
 have q12b : (w7.setCell ⟨g, 5, none⟩ (.int .u64 v4)).cell? ⟨xb, 12, none⟩ = some (.pointer (some ⟨rb, 0, none⟩)) := cell_of ((Rb.set (w := w7) g 5 (.int .u64 v4)).at Hx7.out (Ne.symm gx)) 12
 go_wp2_with fail
 clear kg fg q12 q12b
 have bg := Rb.set (w := w7) g 5 (.int .u64 v4)
 have Hg8 : Hid ((w7.setCell ⟨g, 5, none⟩ (.int .u64 v4)).heap[g]? = some (.cells #[.int .u64 k, .int .u64 v1, .int .i64 node, .string v2, .string v3, .int .u64 v4, .slice none 0 0] 115 (0, 0))) := setCell_at Hg7.out 5 _
 have Hx8 : Hid (RnC (w7.setCell ⟨g, 5, none⟩ (.int .u64 v4)) xb (U s.pos) (U s.done) (U s.made) vp vi vt vj vr vs_ vk (.slice ak s.listed.length ck) vm rb odd) := bg.at Hx7.out (Ne.symm gx)
 have Hr8 := hid (show IsR 92 (w7.setCell ⟨g, 5, none⟩ (.int .u64 v4)) rb r4 from bg.at Hr7.out (Ne.symm gr))
 have Ho8 := hid (own_at Ho7.out bg (fun i hi he => go.out (he ▸ hi)))
 have T8 := hid (But.trans' T7.out bg (fun i hi he => by have := hgw.out; omega))
 have Tw8 := hid (Nat.le_trans Tw7.out bg.size)
 clear bg
 generalize w7.setCell ⟨g, 5, none⟩ (.int .u64 v4) = w8 at Hg8 Hx8 Hr8 Ho8 T8 Tw8 ⊢
 refine (Hc5.out w8 _ _ _ _ _ _ _ _ _ _ _ _ _ Hx8.out Hr8.out).mono ?_
 rintro e5 w9 ⟨uv, rfl, hv2, hx2, h2, b2⟩
 obtain ⟨av, cv, rfl⟩ := own_slice hv2
 have Hr9 := hid h2
 have Hx9 := hid hx2
 have Hg9 := hid ((b2.block g (heap_lt Hg8.out) (fun h => h.elim gr gx)).trans Hg8.out)
 have Ho9 := hid (own_at Ho8.out b2 (fun i hi he => he.elim (fun he => n5.out (he ▸ hi)) (fun he => n3.out (he ▸ hi))))
 have gl := Nat.lt_of_lt_of_le (heap_lt Hg8.out) (Nat.le_refl _)
 have Hv9 := hid hv2
 have vlb := hid (Nat.le_trans (Nat.le_trans hbase T0.out.size) (show w0.heap.size ≤ w8.heap.size from Tw8.out))
 have T9 := hid (T8.out.trans b2)
 have Tw9 := hid (show w0.heap.size ≤ w9.heap.size from Nat.le_trans Tw8.out b2.size)
 have vlw := hid T8.out.size
 clear h2 hx2 b2 hv2
 have kg := cell_of Hg9.out 6
 have fg := free_of Hg9.out 6
 have q12 := cell_of Hx9.out 12
 have q12b : (w9.setCell ⟨g, 6, none⟩ (.slice av vs.length cv)).cell? ⟨xb, 12, none⟩ = some (.pointer (some ⟨rb, 0, none⟩)) := cell_of ((Rb.set (w := w9) g 6 (.slice av vs.length cv)).at Hx9.out (Ne.symm gx)) 12
 go_wp2_with fail
 clear kg fg q12 q12b
 have bg := Rb.set (w := w9) g 6 (.slice av vs.length cv)
 have Hg10 : Hid ((w9.setCell ⟨g, 6, none⟩ (.slice av vs.length cv)).heap[g]? = some (.cells #[.int .u64 k, .int .u64 v1, .int .i64 node, .string v2, .string v3, .int .u64 v4, .slice av vs.length cv] 115 (0, 0))) := setCell_at Hg9.out 6 _
 have Hx10 : Hid (RnC (w9.setCell ⟨g, 6, none⟩ (.slice av vs.length cv)) xb (U s.pos) (U s.done) (U s.made) vp vi vt vj vr vs_ vk (.slice ak s.listed.length ck) vm rb (odd || vb)) := bg.at Hx9.out (Ne.symm gx)
 have Hr10 := hid (show IsR 92 (w9.setCell ⟨g, 6, none⟩ (.slice av vs.length cv)) rb r5 from bg.at Hr9.out (Ne.symm gr))
 have Ho10 := hid (own_at Ho9.out bg (fun i hi he => go.out (he ▸ hi)))
 have T10 := hid (But.trans' T9.out bg (fun i hi he => by have := hgw.out; omega))
 have Tw10 := hid (Nat.le_trans Tw9.out bg.size)
 have Hv10 := hid (own_rb Hv9.out bg gl)
 clear bg
 generalize w9.setCell ⟨g, 6, none⟩ (.slice av vs.length cv) = w10 at Hg10 Hx10 Hr10 Ho10 T10 Tw10 Hv10 ⊢
 have m6 := hid (fun b (h : ownB (.slice ak s.listed.length ck) b) => Nat.lt_of_lt_of_le (n6.out b h) T10.out.size)
 have mb : base ≤ w10.heap.size := Nat.le_trans hbase T10.out.size
 have HQ10 := hid (fun w' (hb : (Ps.relC (fun b => ownB (.slice ak s.listed.length ck) b) (fun b _ => b = xb ∨ b = g)).G w10 w') => And.intro (hb.2 xb 10 _ (.inl rfl) (cell_of Hx10.out 10)) (And.intro (hb.2 g 0 _ (.inr rfl) (cell_of Hg10.out 0)) (And.intro (hb.2 g 1 _ (.inr rfl) (cell_of Hg10.out 1)) (And.intro (hb.2 g 2 _ (.inr rfl) (cell_of Hg10.out 2)) (And.intro (hb.2 g 3 _ (.inr rfl) (cell_of Hg10.out 3)) (And.intro (hb.2 g 4 _ (.inr rfl) (cell_of Hg10.out 4)) (And.intro (hb.2 g 5 _ (.inr rfl) (cell_of Hg10.out 5)) (hb.2 g 6 _ (.inr rfl) (cell_of Hg10.out 6)))))))))
 refine Ps.wp_par (Ps.relC (fun b => ownB (.slice ak s.listed.length ck) b) (fun b _ => b = xb ∨ b = g)) (fun W => True ∧ W.ownsRow base 115 7 (.slice ak s.listed.length ck) s.listed.length css.flatten) (false :: false :: false :: false :: false :: false :: false :: false :: true :: []) _ (.fix ?_ :: .fix ?_ :: .fix ?_ :: .fix ?_ :: .fix ?_ :: .fix ?_ :: .fix ?_ :: .new (Ps.rowN 7 ?_ ?_ w10.heap.size) :: .st (some (s.listed.length + 1)) (fun _ _ => True) (fun u W => True ∧ W.ownsRow base 115 7 u (s.listed.length + 1) (css.flatten ++ [.int .u64 k, .int .u64 v1, .int .i64 node, .string v2, .string v3, .int .u64 v4, .slice av vs.length cv])) :: []) (by kernel_rfl) (by kernel_rfl) (by simp only [List.length_cons, List.length_nil, List.drop_succ_cons, List.drop_zero, List.drop_nil]; with_reducible rfl) rfl (fun _ _ _ _ _ => ⟨fun h => h, fun h => h⟩) (fun _ _ h hb => ⟨trivial, own_below h.2 hb⟩) (⟨trivial, Ho10.out⟩) ?_
 rotate_left 9
 iterate 7
  first
   | (refine Ps.par_skip (a' := ?_) (by rfl) (by rfl) ?_ ?_ ?_; rotate_left 1; with_reducible rfl; (simp only [lays]; with_reducible rfl))
   | (refine Ps.par_run (a' := ?_) (by rfl) (by rfl) (fun w' hb hn => ?_) ?_ ?_; rotate_left 1; (obtain ⟨q10, g0, g1, g2, g3, g4, g5, g6⟩ := HQ10.out w' hb; go_simp; (try simp (disch := omega) only [nrm, toNatUp, iteOmega]); first | with_reducible rfl | (go_simp; with_reducible rfl)); (simp only [lays]; with_reducible rfl))
 refine Ps.par_row (a' := ?ap11k7) (m := ?mp11k7) (T := ?Tp11k7) (cs := ?cp11k7) (r := ?rp11k7) (fun b h => m6.out b h) (by rfl) (by rfl) (fun w' hb hn => ?hp11k7) (fun w' => ?ep11k7) ?np11k7 ?vp11k7 ?lp11k7 ?xp11k7 (fun u => ?pp11k7) (fun u => ?gp11k7)
 case hp11k7 => (obtain ⟨q10, g0, g1, g2, g3, g4, g5, g6⟩ := HQ10.out w' hb; go_simp; (try simp (disch := omega) only [nrm, toNatUp, iteOmega]); with_reducible rfl)
 case ep11k7 => with_reducible rfl
 case np11k7 => with_reducible rfl
 case vp11k7 => with_reducible rfl
 case lp11k7 => simp only [List.length_cons, List.length_nil]
 case xp11k7 => (unfold maxLen; omega)
 case pp11k7 => (simp only [lays]; with_reducible rfl)
 refine Ps.par_app (a' := ?ap12k8) (A := fun W => True) 30 115 Tryz.underlying30 info_listed rfl (by decide) mb (by unfold maxLen; omega) (by omega) (by simp [Value.oneCell']) (fun _ _ _ _ _ => trivial) (fun _ _ _ _ => trivial) (fun _ h => h) (fun b i hs hb => by rcases hs with rfl | rfl; exact n3.out hb; exact go.out hb) (by rfl) rfl rfl rfl rfl (fun w' hb hn => ?xp12k8) (fun u => ?pp12k8) (fun u hu8 => ?gp12k8)
 case xp12k8 => (exact (Ps.need_head hn (by kernel_rfl)).1)
 case pp12k8 => (simp only [lays]; with_reducible rfl)
 obtain ⟨au8, cu8, rfl⟩ := hu8
 refine Ps.par_end (fun w9 hb9 hf9 hr9 => ?_)
 try refine Ps.wpList_none ?_
 have Hx9 : RnC w9 xb (U s.pos) (U s.done) (U s.made) vp vi vt vj vr vs_ vk (.slice ak s.listed.length ck) vm rb (odd || vb) := (hb9.1.block xb (heap_lt Hx10.out) n3.out).trans Hx10.out
 have Hr9 := hid ((hb9.1.block rb (heap_lt Hr10.out) n5.out).trans Hr10.out)
 have T8 : TyBut base [92, 89, 115] w w10 := T10.out.mono (fun i _ hi => hi.elim (fun h => h ▸ ⟨_, _, _, Hr.out, by decide, hbr⟩) (fun h => h ▸ ⟨_, _, _, Hx.out, by decide, hbx⟩))
 have T9 : TyBut base [92, 89, 115] w w9 := T8.trans' hb9.1 (fun i hi ho => own_ty Hown.out (by decide) ho)
 have Ho9 := hid hr9.2
 have Hv9 := hid (ownsRow_base (own_at Hv10.out hb9.1 (own_own_ne Hv10.out Ho10.out (by decide))) vlb.out)
 have k9 := cell_of Hx9 10
 have f9 := free_of Hx9 10
 clear hb9 hf9 hr9
 go_wp2
 have hs9 : RnC (w9.setCell ⟨xb, 10, none⟩ (.slice au8 (s.listed.length + 1) cu8)) xb (U s.pos) (U s.done) (U s.made) vp vi vt vj vr vs_ vk (.slice au8 (s.listed.length + 1) cu8) vm rb (odd || vb) := setCell_at Hx9 10 (.slice au8 (s.listed.length + 1) cu8)
 have T10 : TyBut base [89] w9 (w9.setCell ⟨xb, 10, none⟩ (.slice au8 (s.listed.length + 1) cu8)) := TyBut.set Hx9 (by decide) hbx 10 _
 generalize w9.setCell ⟨xb, 10, none⟩ (.slice au8 (s.listed.length + 1) cu8) = w10 at hs9 T10 ⊢
 have T : TyBut base [92, 89, 115] w w10 := T9.trans (T10.weak (by decide))
 have hL := HL.out
 go_end0
 refine ⟨rfl, ⟨vp, vi, vt, vj, vr, vs_, vk, (.slice au8 (s.listed.length + 1) cu8), vm, by exact hs9, ?_⟩, T10.at Hr9.out (by decide), T.weak (by decide)⟩
 exact ⟨hL.procs.keep DepV.ost T (by decide) (by decide) (by decide), hL.insts.keep InstV.ost T (by decide) (by decide) (by decide), hL.tokens.keep TokV.ost T (by decide) (by decide) (by decide), hL.jobs.keep JobV.ost T (by decide) (by decide) (by decide), hL.timers.keep TimV.ost T (by decide) (by decide) (by decide), hL.subs.keep SubV.ost T (by decide) (by decide) (by decide), hL.kept.keep KeptV.ost T (by decide) (by decide) (by decide), (LOwn.snoc A1.out A2.out (fun i cs x hc hx => LisV.ost _ _ _ _ _ _ (by decide) (by decide) (A3.out i cs x hc hx) T9.kept) ⟨rfl, by simp [Value.oneCell']⟩ (show LisV.ow w9 base _ ⟨k, v1, node, v2, v3, v4, vs⟩ from ⟨_, rfl, Hv9.out⟩) Ho9.out).keep LisV.ost T10 (by decide) (by decide) (by decide), hL.msgs.keep MsgV.ost T (by decide) (by decide) (by decide)⟩
theorem two_k (xb rb k : Nat) (node : Int) (odd : Bool) (s : StateV) (r : RdV) (w : World) (base : Nat) (hbase : base ≤ w.heap.size) (hbx : base ≤ xb) (hbr : base ≤ rb) (hs : RnB w base xb rb s odd) (hr : IsR 92 w rb r)
  (hsz : r.s.size ≤ 1099511627776) (hk : k < 18446744073709551616) (hno : I64 node) (hl : s.kept.length ≤ 2097152) :
  Calls Tryz.prog 42 #[.pointer (some ⟨xb, 0, none⟩), .int .u8 107, .int .u64 k, .int .i64 node] w fun e w' => e = .returned (.tuple #[]) ∧ RnB w' base xb rb (stepK k node s r).s (odd || (stepK k node s r).bad) ∧ IsR 92 w' rb (stepK k node s r).r ∧ TyBut base refTs w w' := by
 obtain ⟨hno1, hno2⟩ := hno
 unfold stepK
 dsimp only
 have Hc1 : Hid (∀ W : World, W.cell? ⟨xb, 12, none⟩ = some (.pointer (some ⟨rb, 0, none⟩)) → IsR 92 W rb r → Calls Tryz.prog 39 #[.pointer (some ⟨rb, 0, none⟩)] W fun e w' => e = .returned (.int .u64 (uintR r).1) ∧ IsR 92 w' rb (uintR r).2 ∧ Rb rb W w') := fun W _ hR => rrUint_any rb r W hR (by omega)
 have hz1 := uintR_size r
 have hv1 := uintR_lt r
 revert Hc1 hz1 hv1
 generalize uintR r = p1
 obtain ⟨v1, r1⟩ := p1
 intro Hc1 hz1 hv1
 dsimp only at Hc1 hz1 hv1 ⊢
 obtain ⟨vp, vi, vt, vj, vr, vs_, vk, vl, vm, hx, hL⟩ := hs
 obtain ⟨css, a1, a2, a3, hown⟩ := hL.kept
 obtain ⟨ak, ck, rfl⟩ := own_slice hown
 have HL := hid hL
 have Hown := hid hown
 have Hx := hid hx
 have Hr := hid hr
 have n1 : xb ≠ rb := ty_ne hx hr (by decide)
 have n3 := hid (own_ne hown hx (by decide))
 have n5 := hid (own_ne hown hr (by decide))
 have n6 := hid (own_lt hown)
 have l1 := heap_lt hx
 have l3 := heap_lt hr
 have A1 := hid a1
 have A2 := hid a2
 have A3 := hid a3
 clear hx hr hown hL a1 a2 a3
 go_enter Tryz.func42, Tryz.ntmps42
 go_wp2_with fail
 refine Ps.wp_par (Ps.relC (fun b => b = rb ∨ ownB (.slice ak s.kept.length ck) b) (fun b _ => b = xb)) (fun W => IsR 92 W rb r ∧ W.ownsRow base 113 3 (.slice ak s.kept.length ck) s.kept.length css.flatten) (false :: false :: false :: false :: false :: false :: false :: false :: false :: false :: false :: false :: true :: false :: false :: true :: []) _ (.fix ?_ :: .fix ?_ :: .fix ?_ :: .fix ?_ :: .fix ?_ :: .fix ?_ :: .fix ?_ :: .fix ?_ :: .fix ?_ :: .fix ?_ :: .fix ?_ :: .fix ?_ :: .sf (.int .u64 v1) (fun W => IsR 92 W rb r1 ∧ W.ownsRow base 113 3 (.slice ak s.kept.length ck) s.kept.length css.flatten) :: .fix ?_ :: .new (Ps.rowN 3 ?_ ?_ w.heap.size) :: .st (some (s.kept.length + 1)) (fun _ _ => True) (fun u W => IsR 92 W rb r1 ∧ W.ownsRow base 113 3 u (s.kept.length + 1) (css.flatten ++ [U k, U v1, I node])) :: []) (by kernel_rfl) (by kernel_rfl) (by simp only [List.length_cons, List.length_nil, List.drop_succ_cons, List.drop_zero, List.drop_nil]; with_reducible rfl) rfl (fun _ _ _ _ _ => ⟨fun h => h, fun h => h⟩) (fun _ _ h hb => ⟨h.1.grow hb, own_below h.2 hb⟩) (⟨Hr.out, Hown.out⟩) ?_
 rotate_left 15
 iterate 12
  first
   | (refine Ps.par_skip (a' := ?_) (by rfl) (by rfl) ?_ ?_ ?_; rotate_left 1; with_reducible rfl; (simp only [lays]; with_reducible rfl))
   | (refine Ps.par_run (a' := ?_) (by rfl) (by rfl) (fun w' hb hn => ?_) ?_ ?_; rotate_left 1; (have q12 := hb.2 xb 12 _ rfl (cell_of Hx.out 12); have q9 := hb.2 xb 9 _ rfl (cell_of Hx.out 9); go_simp; (try simp (disch := omega) only [nrm, toNatUp, iteOmega]); first | with_reducible rfl | (go_simp; with_reducible rfl)); (simp only [lays]; with_reducible rfl))
 refine Ps.par_sf (a' := ?_) (f := ?_) (args := ?_) (by rfl) (by rfl) (fun w' => ?_) (fun _ _ h hb => ⟨h.1.grow hb, own_below h.2 hb⟩) (fun w' hb hn hr => ?_) ?_ ?_; rotate_left 3; (go_simp; constructor <;> with_reducible rfl); (exact (Hc1.out w' (hb.2 xb 12 _ rfl (cell_of Hx.out 12)) hr.1).mono (fun e w2 ⟨he, h2, b2⟩ => ⟨he, ⟨b2.mono (fun _ _ h => .inl h), fun b i v hs hc => But.cell b2 hc (by subst hs; exact n1)⟩, h2, own_at hr.2 b2 (fun g hg he => n5.out (he ▸ hg))⟩)); (simp only [lays]; with_reducible rfl)
 iterate 1
  first
   | (refine Ps.par_skip (a' := ?_) (by rfl) (by rfl) ?_ ?_ ?_; rotate_left 1; with_reducible rfl; (simp only [lays]; with_reducible rfl))
   | (refine Ps.par_run (a' := ?_) (by rfl) (by rfl) (fun w' hb hn => ?_) ?_ ?_; rotate_left 1; (have q12 := hb.2 xb 12 _ rfl (cell_of Hx.out 12); have q9 := hb.2 xb 9 _ rfl (cell_of Hx.out 9); go_simp; (try simp (disch := omega) only [nrm, toNatUp, iteOmega]); first | with_reducible rfl | (go_simp; with_reducible rfl)); (simp only [lays]; with_reducible rfl))
 refine Ps.par_row (a' := ?ap14k14) (m := ?mp14k14) (T := ?Tp14k14) (cs := ?cp14k14) (r := ?rp14k14) (fun b h => h.elim (fun h => by omega) (n6.out b)) (by rfl) (by rfl) (fun w' hb hn => ?hp14k14) (fun w' => ?ep14k14) ?np14k14 ?vp14k14 ?lp14k14 ?xp14k14 (fun u => ?pp14k14) (fun u => ?gp14k14)
 case hp14k14 => (have q12 := hb.2 xb 12 _ rfl (cell_of Hx.out 12); have q9 := hb.2 xb 9 _ rfl (cell_of Hx.out 9); go_simp; (try simp (disch := omega) only [nrm, toNatUp, iteOmega]); with_reducible rfl)
 case ep14k14 => with_reducible rfl
 case np14k14 => with_reducible rfl
 case vp14k14 => with_reducible rfl
 case lp14k14 => simp only [List.length_cons, List.length_nil]
 case xp14k14 => (unfold maxLen; omega)
 case pp14k14 => (simp only [lays]; with_reducible rfl)
 refine Ps.par_app (a' := ?ap15k15) (A := fun W => IsR 92 W rb r1) 29 113 Tryz.underlying29 info_kept rfl (by decide) hbase (by unfold maxLen; omega) (by omega) (by simp [Value.oneCell']) (fun _ _ h ho hb => (hb.block rb (heap_lt h) n5.out).trans h) (fun _ _ h hb => h.grow hb) (fun _ h => .inr h) (fun b i hs hb => by subst hs; exact n3.out hb) (by rfl) rfl rfl rfl rfl (fun w' hb hn => ?xp15k15) (fun u => ?pp15k15) (fun u hu15 => ?gp15k15)
 case xp15k15 => (exact (Ps.need_head hn (by kernel_rfl)).1)
 case pp15k15 => (simp only [lays]; with_reducible rfl)
 obtain ⟨au15, cu15, rfl⟩ := hu15
 refine Ps.par_end (fun w9 hb9 hf9 hr9 => ?_)
 try refine Ps.wpList_none ?_
 have T9 : TyBut base [92, 89, 113] w w9 := hb9.1.mono (fun i _ hi => hi.elim (fun h => h ▸ ⟨_, _, _, Hr.out, by decide, hbr⟩) (fun h => own_ty Hown.out (by decide) h))
 have Hx9 : RnC w9 xb (U s.pos) (U s.done) (U s.made) vp vi vt vj vr vs_ (.slice ak s.kept.length ck) vl vm rb odd := (hb9.1.block xb (heap_lt Hx.out) (fun h => h.elim n1 n3.out)).trans Hx.out
 have Hr9 := hid hr9.1
 have Ho9 := hid hr9.2
 have k9 := cell_of Hx9 9
 have f9 := free_of Hx9 9
 clear hb9 hf9 hr9
 go_wp2
 have hs9 : RnC (w9.setCell ⟨xb, 9, none⟩ (.slice au15 (s.kept.length + 1) cu15)) xb (U s.pos) (U s.done) (U s.made) vp vi vt vj vr vs_ (.slice au15 (s.kept.length + 1) cu15) vl vm rb odd := setCell_at Hx9 9 (.slice au15 (s.kept.length + 1) cu15)
 have T10 : TyBut base [89] w9 (w9.setCell ⟨xb, 9, none⟩ (.slice au15 (s.kept.length + 1) cu15)) := TyBut.set Hx9 (by decide) hbx 9 _
 generalize w9.setCell ⟨xb, 9, none⟩ (.slice au15 (s.kept.length + 1) cu15) = w10 at hs9 T10 ⊢
 have T : TyBut base [92, 89, 113] w w10 := T9.trans (T10.weak (by decide))
 have hL := HL.out
 go_end0
 refine ⟨rfl, ⟨vp, vi, vt, vj, vr, vs_, (.slice au15 (s.kept.length + 1) cu15), vl, vm, by rw [Bool.or_false]; exact hs9, ?_⟩, T10.at Hr9.out (by decide), T.weak (by decide)⟩
 exact ⟨hL.procs.keep DepV.ost T (by decide) (by decide) (by decide), hL.insts.keep InstV.ost T (by decide) (by decide) (by decide), hL.tokens.keep TokV.ost T (by decide) (by decide) (by decide), hL.jobs.keep JobV.ost T (by decide) (by decide) (by decide), hL.timers.keep TimV.ost T (by decide) (by decide) (by decide), hL.subs.keep SubV.ost T (by decide) (by decide) (by decide), (LOwn.snoc A1.out A2.out (fun i cs x hc hx => KeptV.ost _ _ _ _ _ _ (by decide) (by decide) (A3.out i cs x hc hx) T9.kept) ⟨rfl, by simp [Value.oneCell']⟩ rfl Ho9.out).keep KeptV.ost T10 (by decide) (by decide) (by decide), hL.listed.keep LisV.ost T (by decide) (by decide) (by decide), hL.msgs.keep MsgV.ost T (by decide) (by decide) (by decide)⟩
theorem two_r (xb rb k : Nat) (node : Int) (odd : Bool) (s : StateV) (r : RdV) (w : World) (base : Nat) (hbase : base ≤ w.heap.size) (hbx : base ≤ xb) (hbr : base ≤ rb) (hs : RnB w base xb rb s odd) (hr : IsR 92 w rb r)
  (hsz : r.s.size ≤ 1099511627776) (hk : k < 18446744073709551616) (hno : I64 node) (hl : s.timers.length ≤ 2097152) :
  Calls Tryz.prog 42 #[.pointer (some ⟨xb, 0, none⟩), .int .u8 114, .int .u64 k, .int .i64 node] w fun e w' => e = .returned (.tuple #[]) ∧ RnB w' base xb rb (stepR k node s r).s (odd || (stepR k node s r).bad) ∧ IsR 92 w' rb (stepR k node s r).r ∧ TyBut base refTs w w' := by
 obtain ⟨hno1, hno2⟩ := hno
 unfold stepR
 dsimp only
 have Hc1 : Hid (∀ W : World, W.cell? ⟨xb, 12, none⟩ = some (.pointer (some ⟨rb, 0, none⟩)) → IsR 92 W rb r → Calls Tryz.prog 106 #[.pointer (some ⟨rb, 0, none⟩)] W fun e w' => e = .returned (.int .i64 (intR r).1) ∧ IsR 92 w' rb (intR r).2 ∧ Rb rb W w') := fun W _ hR => rrInt_any rb r W hR (by omega)
 have hz1 := intR_size r
 have hv1 := intR_in r
 revert Hc1 hz1 hv1
 generalize intR r = p1
 obtain ⟨v1, r1⟩ := p1
 intro Hc1 hz1 hv1
 dsimp only at Hc1 hz1 hv1 ⊢
 obtain ⟨hv1a, hv1b⟩ := hv1
 obtain ⟨vp, vi, vt, vj, vr, vs_, vk, vl, vm, hx, hL⟩ := hs
 obtain ⟨css, a1, a2, a3, hown⟩ := hL.timers
 obtain ⟨ak, ck, rfl⟩ := own_slice hown
 have HL := hid hL
 have Hown := hid hown
 have Hx := hid hx
 have Hr := hid hr
 have n1 : xb ≠ rb := ty_ne hx hr (by decide)
 have n3 := hid (own_ne hown hx (by decide))
 have n5 := hid (own_ne hown hr (by decide))
 have n6 := hid (own_lt hown)
 have l1 := heap_lt hx
 have l3 := heap_lt hr
 have A1 := hid a1
 have A2 := hid a2
 have A3 := hid a3
 clear hx hr hown hL a1 a2 a3
 go_enter Tryz.func42, Tryz.ntmps42
 go_wp2_with fail
 refine Ps.wp_par (Ps.relC (fun b => b = rb ∨ ownB (.slice ak s.timers.length ck) b) (fun b _ => b = xb)) (fun W => IsR 92 W rb r ∧ W.ownsRow base 109 3 (.slice ak s.timers.length ck) s.timers.length css.flatten) (false :: false :: false :: false :: false :: false :: false :: false :: false :: false :: false :: false :: true :: false :: false :: true :: []) _ (.fix ?_ :: .fix ?_ :: .fix ?_ :: .fix ?_ :: .fix ?_ :: .fix ?_ :: .fix ?_ :: .fix ?_ :: .fix ?_ :: .fix ?_ :: .fix ?_ :: .fix ?_ :: .sf (.int .i64 v1) (fun W => IsR 92 W rb r1 ∧ W.ownsRow base 109 3 (.slice ak s.timers.length ck) s.timers.length css.flatten) :: .fix ?_ :: .new (Ps.rowN 3 ?_ ?_ w.heap.size) :: .st (some (s.timers.length + 1)) (fun _ _ => True) (fun u W => IsR 92 W rb r1 ∧ W.ownsRow base 109 3 u (s.timers.length + 1) (css.flatten ++ [U k, I node, I v1])) :: []) (by kernel_rfl) (by kernel_rfl) (by simp only [List.length_cons, List.length_nil, List.drop_succ_cons, List.drop_zero, List.drop_nil]; with_reducible rfl) rfl (fun _ _ _ _ _ => ⟨fun h => h, fun h => h⟩) (fun _ _ h hb => ⟨h.1.grow hb, own_below h.2 hb⟩) (⟨Hr.out, Hown.out⟩) ?_
 rotate_left 15
 iterate 12
  first
   | (refine Ps.par_skip (a' := ?_) (by rfl) (by rfl) ?_ ?_ ?_; rotate_left 1; with_reducible rfl; (simp only [lays]; with_reducible rfl))
   | (refine Ps.par_run (a' := ?_) (by rfl) (by rfl) (fun w' hb hn => ?_) ?_ ?_; rotate_left 1; (have q12 := hb.2 xb 12 _ rfl (cell_of Hx.out 12); have q7 := hb.2 xb 7 _ rfl (cell_of Hx.out 7); go_simp; (try simp (disch := omega) only [nrm, toNatUp, iteOmega]); first | with_reducible rfl | (go_simp; with_reducible rfl)); (simp only [lays]; with_reducible rfl))
 refine Ps.par_sf (a' := ?_) (f := ?_) (args := ?_) (by rfl) (by rfl) (fun w' => ?_) (fun _ _ h hb => ⟨h.1.grow hb, own_below h.2 hb⟩) (fun w' hb hn hr => ?_) ?_ ?_; rotate_left 3; (go_simp; constructor <;> with_reducible rfl); (exact (Hc1.out w' (hb.2 xb 12 _ rfl (cell_of Hx.out 12)) hr.1).mono (fun e w2 ⟨he, h2, b2⟩ => ⟨he, ⟨b2.mono (fun _ _ h => .inl h), fun b i v hs hc => But.cell b2 hc (by subst hs; exact n1)⟩, h2, own_at hr.2 b2 (fun g hg he => n5.out (he ▸ hg))⟩)); (simp only [lays]; with_reducible rfl)
 iterate 1
  first
   | (refine Ps.par_skip (a' := ?_) (by rfl) (by rfl) ?_ ?_ ?_; rotate_left 1; with_reducible rfl; (simp only [lays]; with_reducible rfl))
   | (refine Ps.par_run (a' := ?_) (by rfl) (by rfl) (fun w' hb hn => ?_) ?_ ?_; rotate_left 1; (have q12 := hb.2 xb 12 _ rfl (cell_of Hx.out 12); have q7 := hb.2 xb 7 _ rfl (cell_of Hx.out 7); go_simp; (try simp (disch := omega) only [nrm, toNatUp, iteOmega]); first | with_reducible rfl | (go_simp; with_reducible rfl)); (simp only [lays]; with_reducible rfl))
 refine Ps.par_row (a' := ?ap17k14) (m := ?mp17k14) (T := ?Tp17k14) (cs := ?cp17k14) (r := ?rp17k14) (fun b h => h.elim (fun h => by omega) (n6.out b)) (by rfl) (by rfl) (fun w' hb hn => ?hp17k14) (fun w' => ?ep17k14) ?np17k14 ?vp17k14 ?lp17k14 ?xp17k14 (fun u => ?pp17k14) (fun u => ?gp17k14)
 case hp17k14 => (have q12 := hb.2 xb 12 _ rfl (cell_of Hx.out 12); have q7 := hb.2 xb 7 _ rfl (cell_of Hx.out 7); go_simp; (try simp (disch := omega) only [nrm, toNatUp, iteOmega]); with_reducible rfl)
 case ep17k14 => with_reducible rfl
 case np17k14 => with_reducible rfl
 case vp17k14 => with_reducible rfl
 case lp17k14 => simp only [List.length_cons, List.length_nil]
 case xp17k14 => (unfold maxLen; omega)
 case pp17k14 => (simp only [lays]; with_reducible rfl)
 refine Ps.par_app (a' := ?ap18k15) (A := fun W => IsR 92 W rb r1) 27 109 Tryz.underlying27 info_timers rfl (by decide) hbase (by unfold maxLen; omega) (by omega) (by simp [Value.oneCell']) (fun _ _ h ho hb => (hb.block rb (heap_lt h) n5.out).trans h) (fun _ _ h hb => h.grow hb) (fun _ h => .inr h) (fun b i hs hb => by subst hs; exact n3.out hb) (by rfl) rfl rfl rfl rfl (fun w' hb hn => ?xp18k15) (fun u => ?pp18k15) (fun u hu15 => ?gp18k15)
 case xp18k15 => (exact (Ps.need_head hn (by kernel_rfl)).1)
 case pp18k15 => (simp only [lays]; with_reducible rfl)
 obtain ⟨au15, cu15, rfl⟩ := hu15
 refine Ps.par_end (fun w9 hb9 hf9 hr9 => ?_)
 try refine Ps.wpList_none ?_
 have T9 : TyBut base [92, 89, 109] w w9 := hb9.1.mono (fun i _ hi => hi.elim (fun h => h ▸ ⟨_, _, _, Hr.out, by decide, hbr⟩) (fun h => own_ty Hown.out (by decide) h))
 have Hx9 : RnC w9 xb (U s.pos) (U s.done) (U s.made) vp vi vt vj (.slice ak s.timers.length ck) vs_ vk vl vm rb odd := (hb9.1.block xb (heap_lt Hx.out) (fun h => h.elim n1 n3.out)).trans Hx.out
 have Hr9 := hid hr9.1
 have Ho9 := hid hr9.2
 have k9 := cell_of Hx9 7
 have f9 := free_of Hx9 7
 clear hb9 hf9 hr9
 go_wp2
 have hs9 : RnC (w9.setCell ⟨xb, 7, none⟩ (.slice au15 (s.timers.length + 1) cu15)) xb (U s.pos) (U s.done) (U s.made) vp vi vt vj (.slice au15 (s.timers.length + 1) cu15) vs_ vk vl vm rb odd := setCell_at Hx9 7 (.slice au15 (s.timers.length + 1) cu15)
 have T10 : TyBut base [89] w9 (w9.setCell ⟨xb, 7, none⟩ (.slice au15 (s.timers.length + 1) cu15)) := TyBut.set Hx9 (by decide) hbx 7 _
 generalize w9.setCell ⟨xb, 7, none⟩ (.slice au15 (s.timers.length + 1) cu15) = w10 at hs9 T10 ⊢
 have T : TyBut base [92, 89, 109] w w10 := T9.trans (T10.weak (by decide))
 have hL := HL.out
 go_end0
 refine ⟨rfl, ⟨vp, vi, vt, vj, (.slice au15 (s.timers.length + 1) cu15), vs_, vk, vl, vm, by rw [Bool.or_false]; exact hs9, ?_⟩, T10.at Hr9.out (by decide), T.weak (by decide)⟩
 exact ⟨hL.procs.keep DepV.ost T (by decide) (by decide) (by decide), hL.insts.keep InstV.ost T (by decide) (by decide) (by decide), hL.tokens.keep TokV.ost T (by decide) (by decide) (by decide), hL.jobs.keep JobV.ost T (by decide) (by decide) (by decide), (LOwn.snoc A1.out A2.out (fun i cs x hc hx => TimV.ost _ _ _ _ _ _ (by decide) (by decide) (A3.out i cs x hc hx) T9.kept) ⟨rfl, by simp [Value.oneCell']⟩ rfl Ho9.out).keep TimV.ost T10 (by decide) (by decide) (by decide), hL.subs.keep SubV.ost T (by decide) (by decide) (by decide), hL.kept.keep KeptV.ost T (by decide) (by decide) (by decide), hL.listed.keep LisV.ost T (by decide) (by decide) (by decide), hL.msgs.keep MsgV.ost T (by decide) (by decide) (by decide)⟩
theorem two_s (xb rb k : Nat) (node : Int) (odd : Bool) (s : StateV) (r : RdV) (w : World) (base : Nat) (hbase : base ≤ w.heap.size) (hbx : base ≤ xb) (hbr : base ≤ rb) (hs : RnB w base xb rb s odd) (hr : IsR 92 w rb r)
  (hsz : r.s.size ≤ 1099511627776) (hk : k < 18446744073709551616) (hno : I64 node) (hl : s.subs.length ≤ 2097152) :
  Calls Tryz.prog 42 #[.pointer (some ⟨xb, 0, none⟩), .int .u8 115, .int .u64 k, .int .i64 node] w fun e w' => e = .returned (.tuple #[]) ∧ RnB w' base xb rb (stepS k node s r).s (odd || (stepS k node s r).bad) ∧ IsR 92 w' rb (stepS k node s r).r ∧ TyBut base refTs w w' := by
 obtain ⟨hno1, hno2⟩ := hno
 unfold stepS
 dsimp only
 have Hc1 : Hid (∀ W : World, W.cell? ⟨xb, 12, none⟩ = some (.pointer (some ⟨rb, 0, none⟩)) → IsR 92 W rb r → Calls Tryz.prog 39 #[.pointer (some ⟨rb, 0, none⟩)] W fun e w' => e = .returned (.int .u64 (uintR r).1) ∧ IsR 92 w' rb (uintR r).2 ∧ Rb rb W w') := fun W _ hR => rrUint_any rb r W hR (by omega)
 have hz1 := uintR_size r
 have hv1 := uintR_lt r
 revert Hc1 hz1 hv1
 generalize uintR r = p1
 obtain ⟨v1, r1⟩ := p1
 intro Hc1 hz1 hv1
 dsimp only at Hc1 hz1 hv1 ⊢
 have Hc2 : Hid (∀ W : World, W.cell? ⟨xb, 12, none⟩ = some (.pointer (some ⟨rb, 0, none⟩)) → IsR 92 W rb r1 → Calls Tryz.prog 38 #[.pointer (some ⟨xb, 0, none⟩)] W fun e w' => e = .returned (.string (textR 16384 r1).1) ∧ IsR 92 w' rb (textR 16384 r1).2 ∧ Rb rb W w') := fun W hX hR => refText_any xb rb r1 W hX hR (by omega)
 have hz2 := textR_sz 16384 r1
 have hv2 : True := trivial
 revert Hc2 hz2 hv2
 generalize textR 16384 r1 = p2
 obtain ⟨v2, r2⟩ := p2
 intro Hc2 hz2 hv2
 dsimp only at Hc2 hz2 hv2 ⊢
 have Hc3 : Hid (∀ W : World, W.cell? ⟨xb, 12, none⟩ = some (.pointer (some ⟨rb, 0, none⟩)) → IsR 92 W rb r2 → Calls Tryz.prog 38 #[.pointer (some ⟨xb, 0, none⟩)] W fun e w' => e = .returned (.string (textR 16384 r2).1) ∧ IsR 92 w' rb (textR 16384 r2).2 ∧ Rb rb W w') := fun W hX hR => refText_any xb rb r2 W hX hR (by omega)
 have hz3 := textR_sz 16384 r2
 have hv3 : True := trivial
 revert Hc3 hz3 hv3
 generalize textR 16384 r2 = p3
 obtain ⟨v3, r3⟩ := p3
 intro Hc3 hz3 hv3
 dsimp only at Hc3 hz3 hv3 ⊢
 have Hc4 : Hid (∀ W : World, W.cell? ⟨xb, 12, none⟩ = some (.pointer (some ⟨rb, 0, none⟩)) → IsR 92 W rb r3 → Calls Tryz.prog 106 #[.pointer (some ⟨rb, 0, none⟩)] W fun e w' => e = .returned (.int .i64 (intR r3).1) ∧ IsR 92 w' rb (intR r3).2 ∧ Rb rb W w') := fun W _ hR => rrInt_any rb r3 W hR (by omega)
 have hz4 := intR_size r3
 have hv4 := intR_in r3
 revert Hc4 hz4 hv4
 generalize intR r3 = p4
 obtain ⟨v4, r4⟩ := p4
 intro Hc4 hz4 hv4
 dsimp only at Hc4 hz4 hv4 ⊢
 obtain ⟨hv4a, hv4b⟩ := hv4
 obtain ⟨vp, vi, vt, vj, vr, vs_, vk, vl, vm, hx, hL⟩ := hs
 obtain ⟨css, a1, a2, a3, hown⟩ := hL.subs
 obtain ⟨ak, ck, rfl⟩ := own_slice hown
 have HL := hid hL
 have Hown := hid hown
 have Hx := hid hx
 have Hr := hid hr
 have n1 : xb ≠ rb := ty_ne hx hr (by decide)
 have n3 := hid (own_ne hown hx (by decide))
 have n5 := hid (own_ne hown hr (by decide))
 have n6 := hid (own_lt hown)
 have l1 := heap_lt hx
 have l3 := heap_lt hr
 have A1 := hid a1
 have A2 := hid a2
 have A3 := hid a3
 clear hx hr hown hL a1 a2 a3
 go_enter Tryz.func42, Tryz.ntmps42
 have q12 : (w.alloc (.cells #[.int .u64 k, .int .u64 0, .int .i64 node, .string ⟨#[]⟩, .string ⟨#[]⟩, .bool false] 111)).cell? ⟨xb, 12, none⟩ = some (.pointer (some ⟨rb, 0, none⟩)) := cell_of ((alloc_old _ l1).trans Hx.out) 12
 go_wp2_with fail
 clear q12
 obtain ⟨g, hgd⟩ : ∃ g, g = w.heap.size := ⟨_, rfl⟩
 have Hg0 := hid (show (w.alloc (.cells #[.int .u64 k, .int .u64 0, .int .i64 node, .string ⟨#[]⟩, .string ⟨#[]⟩, .bool false] 111)).heap[g]? = some (.cells #[.int .u64 k, .int .u64 0, .int .i64 node, .string ⟨#[]⟩, .string ⟨#[]⟩, .bool false] 111 (0, 0)) from hgd ▸ alloc_new w _)
 have Hx0 : Hid (RnC (w.alloc (.cells #[.int .u64 k, .int .u64 0, .int .i64 node, .string ⟨#[]⟩, .string ⟨#[]⟩, .bool false] 111)) xb (U s.pos) (U s.done) (U s.made) vp vi vt vj vr (.slice ak s.subs.length ck) vk vl vm rb odd) := (alloc_old _ l1).trans Hx.out
 have Hr0 := hid (show IsR 92 (w.alloc (.cells #[.int .u64 k, .int .u64 0, .int .i64 node, .string ⟨#[]⟩, .string ⟨#[]⟩, .bool false] 111)) rb r from (alloc_old _ l3).trans Hr.out)
 have Ho0 := hid (own_below Hown.out ((Below.refl _ w).alloc (Nat.le_refl _) (.cells #[.int .u64 k, .int .u64 0, .int .i64 node, .string ⟨#[]⟩, .string ⟨#[]⟩, .bool false] 111)))
 have T0 := hid (show But (fun b => b = rb ∨ b = xb) w (w.alloc (.cells #[.int .u64 k, .int .u64 0, .int .i64 node, .string ⟨#[]⟩, .string ⟨#[]⟩, .bool false] 111)) from But.of ((Below.refl _ w).alloc (Nat.le_refl _) _))
 have gr : g ≠ rb := by omega
 have gx : g ≠ xb := by omega
 have go := hid (show ¬ ownB (.slice ak s.subs.length ck) g from fun h => by have := n6.out g h; omega)
 have hgw := hid (Nat.le_of_eq hgd.symm)
 try rw [← hgd]
 generalize w.alloc (.cells #[.int .u64 k, .int .u64 0, .int .i64 node, .string ⟨#[]⟩, .string ⟨#[]⟩, .bool false] 111) = w0 at Hg0 Hx0 Hr0 Ho0 T0 ⊢
 clear hgd
 refine (Hc1.out w0 (cell_of Hx0.out 12) Hr0.out).mono ?_
 rintro e1 w1 ⟨rfl, h2, b2⟩
 have Hr1 := hid h2
 have Hx1 : Hid (RnC w1 xb (U s.pos) (U s.done) (U s.made) vp vi vt vj vr (.slice ak s.subs.length ck) vk vl vm rb odd) := b2.at Hx0.out n1
 have Hg1 := hid (b2.at Hg0.out gr)
 have Ho1 := hid (own_at Ho0.out b2 (fun i hi he => n5.out (he ▸ hi)))
 have T1 := hid (T0.out.trans (b2.mono (fun _ _ h => .inl h)))
 have Tw1 := hid (show w0.heap.size ≤ w1.heap.size from b2.size)
 clear h2 b2
 have kg := cell_of Hg1.out 1
 have fg := free_of Hg1.out 1
 have q12 := cell_of Hx1.out 12
 have q12b : (w1.setCell ⟨g, 1, none⟩ (.int .u64 v1)).cell? ⟨xb, 12, none⟩ = some (.pointer (some ⟨rb, 0, none⟩)) := cell_of ((Rb.set (w := w1) g 1 (.int .u64 v1)).at Hx1.out (Ne.symm gx)) 12
 go_wp2_with fail
 clear kg fg q12 q12b
 have bg := Rb.set (w := w1) g 1 (.int .u64 v1)
 have Hg2 : Hid ((w1.setCell ⟨g, 1, none⟩ (.int .u64 v1)).heap[g]? = some (.cells #[.int .u64 k, .int .u64 v1, .int .i64 node, .string ⟨#[]⟩, .string ⟨#[]⟩, .bool false] 111 (0, 0))) := setCell_at Hg1.out 1 _
 have Hx2 : Hid (RnC (w1.setCell ⟨g, 1, none⟩ (.int .u64 v1)) xb (U s.pos) (U s.done) (U s.made) vp vi vt vj vr (.slice ak s.subs.length ck) vk vl vm rb odd) := bg.at Hx1.out (Ne.symm gx)
 have Hr2 := hid (show IsR 92 (w1.setCell ⟨g, 1, none⟩ (.int .u64 v1)) rb r1 from bg.at Hr1.out (Ne.symm gr))
 have Ho2 := hid (own_at Ho1.out bg (fun i hi he => go.out (he ▸ hi)))
 have T2 := hid (But.trans' T1.out bg (fun i hi he => by have := hgw.out; omega))
 have Tw2 := hid (Nat.le_trans Tw1.out bg.size)
 clear bg
 generalize w1.setCell ⟨g, 1, none⟩ (.int .u64 v1) = w2 at Hg2 Hx2 Hr2 Ho2 T2 Tw2 ⊢
 refine (Hc2.out w2 (cell_of Hx2.out 12) Hr2.out).mono ?_
 rintro e2 w3 ⟨rfl, h2, b2⟩
 have Hr3 := hid h2
 have Hx3 : Hid (RnC w3 xb (U s.pos) (U s.done) (U s.made) vp vi vt vj vr (.slice ak s.subs.length ck) vk vl vm rb odd) := b2.at Hx2.out n1
 have Hg3 := hid (b2.at Hg2.out gr)
 have Ho3 := hid (own_at Ho2.out b2 (fun i hi he => n5.out (he ▸ hi)))
 have T3 := hid (T2.out.trans (b2.mono (fun _ _ h => .inl h)))
 have Tw3 := hid (show w0.heap.size ≤ w3.heap.size from Nat.le_trans Tw2.out b2.size)
 clear h2 b2
 have kg := cell_of Hg3.out 3
 have fg := free_of Hg3.out 3
 have q12 := cell_of Hx3.out 12
 have q12b : (w3.setCell ⟨g, 3, none⟩ (.string v2)).cell? ⟨xb, 12, none⟩ = some (.pointer (some ⟨rb, 0, none⟩)) := cell_of ((Rb.set (w := w3) g 3 (.string v2)).at Hx3.out (Ne.symm gx)) 12
 go_wp2_with fail
 clear kg fg q12 q12b
 have bg := Rb.set (w := w3) g 3 (.string v2)
 have Hg4 : Hid ((w3.setCell ⟨g, 3, none⟩ (.string v2)).heap[g]? = some (.cells #[.int .u64 k, .int .u64 v1, .int .i64 node, .string v2, .string ⟨#[]⟩, .bool false] 111 (0, 0))) := setCell_at Hg3.out 3 _
 have Hx4 : Hid (RnC (w3.setCell ⟨g, 3, none⟩ (.string v2)) xb (U s.pos) (U s.done) (U s.made) vp vi vt vj vr (.slice ak s.subs.length ck) vk vl vm rb odd) := bg.at Hx3.out (Ne.symm gx)
 have Hr4 := hid (show IsR 92 (w3.setCell ⟨g, 3, none⟩ (.string v2)) rb r2 from bg.at Hr3.out (Ne.symm gr))
 have Ho4 := hid (own_at Ho3.out bg (fun i hi he => go.out (he ▸ hi)))
 have T4 := hid (But.trans' T3.out bg (fun i hi he => by have := hgw.out; omega))
 have Tw4 := hid (Nat.le_trans Tw3.out bg.size)
 clear bg
 generalize w3.setCell ⟨g, 3, none⟩ (.string v2) = w4 at Hg4 Hx4 Hr4 Ho4 T4 Tw4 ⊢
 refine (Hc3.out w4 (cell_of Hx4.out 12) Hr4.out).mono ?_
 rintro e3 w5 ⟨rfl, h2, b2⟩
 have Hr5 := hid h2
 have Hx5 : Hid (RnC w5 xb (U s.pos) (U s.done) (U s.made) vp vi vt vj vr (.slice ak s.subs.length ck) vk vl vm rb odd) := b2.at Hx4.out n1
 have Hg5 := hid (b2.at Hg4.out gr)
 have Ho5 := hid (own_at Ho4.out b2 (fun i hi he => n5.out (he ▸ hi)))
 have T5 := hid (T4.out.trans (b2.mono (fun _ _ h => .inl h)))
 have Tw5 := hid (show w0.heap.size ≤ w5.heap.size from Nat.le_trans Tw4.out b2.size)
 clear h2 b2
 have kg := cell_of Hg5.out 4
 have fg := free_of Hg5.out 4
 have q12 := cell_of Hx5.out 12
 have q12b : (w5.setCell ⟨g, 4, none⟩ (.string v3)).cell? ⟨xb, 12, none⟩ = some (.pointer (some ⟨rb, 0, none⟩)) := cell_of ((Rb.set (w := w5) g 4 (.string v3)).at Hx5.out (Ne.symm gx)) 12
 go_wp2_with fail
 clear kg fg q12 q12b
 have bg := Rb.set (w := w5) g 4 (.string v3)
 have Hg6 : Hid ((w5.setCell ⟨g, 4, none⟩ (.string v3)).heap[g]? = some (.cells #[.int .u64 k, .int .u64 v1, .int .i64 node, .string v2, .string v3, .bool false] 111 (0, 0))) := setCell_at Hg5.out 4 _
 have Hx6 : Hid (RnC (w5.setCell ⟨g, 4, none⟩ (.string v3)) xb (U s.pos) (U s.done) (U s.made) vp vi vt vj vr (.slice ak s.subs.length ck) vk vl vm rb odd) := bg.at Hx5.out (Ne.symm gx)
 have Hr6 := hid (show IsR 92 (w5.setCell ⟨g, 4, none⟩ (.string v3)) rb r3 from bg.at Hr5.out (Ne.symm gr))
 have Ho6 := hid (own_at Ho5.out bg (fun i hi he => go.out (he ▸ hi)))
 have T6 := hid (But.trans' T5.out bg (fun i hi he => by have := hgw.out; omega))
 have Tw6 := hid (Nat.le_trans Tw5.out bg.size)
 clear bg
 generalize w5.setCell ⟨g, 4, none⟩ (.string v3) = w6 at Hg6 Hx6 Hr6 Ho6 T6 Tw6 ⊢
 refine (Hc4.out w6 (cell_of Hx6.out 12) Hr6.out).mono ?_
 rintro e4 w7 ⟨rfl, h2, b2⟩
 have Hr7 := hid h2
 have Hx7 : Hid (RnC w7 xb (U s.pos) (U s.done) (U s.made) vp vi vt vj vr (.slice ak s.subs.length ck) vk vl vm rb odd) := b2.at Hx6.out n1
 have Hg7 := hid (b2.at Hg6.out gr)
 have Ho7 := hid (own_at Ho6.out b2 (fun i hi he => n5.out (he ▸ hi)))
 have T7 := hid (T6.out.trans (b2.mono (fun _ _ h => .inl h)))
 clear h2 b2
 have kg := cell_of Hg7.out 5
 have fg := free_of Hg7.out 5
 have kx := cell_of Hx7.out 13
 have fx := free_of Hx7.out 13
 have bg := Rb.set (w := w7) g 5 (.bool (v4 == 1))
 have bx := Rb.set (w := w7.setCell ⟨g, 5, none⟩ (.bool (v4 == 1))) xb 13 (.bool (odd || (v4 != 0 && v4 != 1)))
 have kx2 : (w7.setCell ⟨g, 5, none⟩ (.bool (v4 == 1))).cell? ⟨xb, 13, none⟩ = some (.bool odd) := cell_of (bg.at Hx7.out (Ne.symm gx)) 13
 clear kx2
 have Hx8 : Hid (RnC ((w7.setCell ⟨g, 5, none⟩ (.bool (v4 == 1))).setCell ⟨xb, 13, none⟩ (.bool (odd || (v4 != 0 && v4 != 1)))) xb (U s.pos) (U s.done) (U s.made) vp vi vt vj vr (.slice ak s.subs.length ck) vk vl vm rb (odd || (v4 != 0 && v4 != 1))) := setCell_at (bg.at Hx7.out (Ne.symm gx)) 13 _
 have Hg8 : Hid (((w7.setCell ⟨g, 5, none⟩ (.bool (v4 == 1))).setCell ⟨xb, 13, none⟩ (.bool (odd || (v4 != 0 && v4 != 1)))).heap[g]? = some (.cells #[.int .u64 k, .int .u64 v1, .int .i64 node, .string v2, .string v3, .bool (v4 == 1)] 111 (0, 0))) := bx.at (setCell_at Hg7.out 5 _) gx
 have Hr8 := hid (show IsR 92 ((w7.setCell ⟨g, 5, none⟩ (.bool (v4 == 1))).setCell ⟨xb, 13, none⟩ (.bool (odd || (v4 != 0 && v4 != 1)))) rb r4 from bx.at (bg.at Hr7.out (Ne.symm gr)) (Ne.symm n1))
 have Ho8 := hid (own_at (own_at Ho7.out bg (fun i hi he => go.out (he ▸ hi))) bx (fun i hi he => n3.out (he ▸ hi)))
 have T8 := hid ((But.trans' T7.out bg (fun i hi he => by have := hgw.out; omega)).trans (bx.mono (fun _ _ h => .inr h)))
 clear bg bx
 cases odd with
 | true =>
  go_wp2_with fail
  simp only [Bool.true_or] at Hx8 Hg8 Hr8 Ho8 T8 ⊢
  generalize (w7.setCell ⟨g, 5, none⟩ (.bool (v4 == 1))).setCell ⟨xb, 13, none⟩ (.bool true) = w8 at Hx8 Hg8 Hr8 Ho8 T8 ⊢
  clear kg fg kx fx
  have m6 := hid (fun b (h : ownB (.slice ak s.subs.length ck) b) => Nat.lt_of_lt_of_le (n6.out b h) T8.out.size)
  have mb : base ≤ w8.heap.size := Nat.le_trans hbase T8.out.size
  have HQ19 := hid (fun w' (hb : (Ps.relC (fun b => ownB (.slice ak s.subs.length ck) b) (fun b _ => b = xb ∨ b = g)).G w8 w') => And.intro (hb.2 xb 8 _ (.inl rfl) (cell_of Hx8.out 8)) (And.intro (hb.2 g 0 _ (.inr rfl) (cell_of Hg8.out 0)) (And.intro (hb.2 g 1 _ (.inr rfl) (cell_of Hg8.out 1)) (And.intro (hb.2 g 2 _ (.inr rfl) (cell_of Hg8.out 2)) (And.intro (hb.2 g 3 _ (.inr rfl) (cell_of Hg8.out 3)) (And.intro (hb.2 g 4 _ (.inr rfl) (cell_of Hg8.out 4)) (hb.2 g 5 _ (.inr rfl) (cell_of Hg8.out 5))))))))
  refine Ps.wp_par (Ps.relC (fun b => ownB (.slice ak s.subs.length ck) b) (fun b _ => b = xb ∨ b = g)) (fun W => True ∧ W.ownsRow base 111 6 (.slice ak s.subs.length ck) s.subs.length css.flatten) (false :: false :: false :: false :: false :: false :: false :: false :: true :: []) _ (.fix ?_ :: .fix ?_ :: .fix ?_ :: .fix ?_ :: .fix ?_ :: .fix ?_ :: .fix ?_ :: .new (Ps.rowN 6 ?_ ?_ w8.heap.size) :: .st (some (s.subs.length + 1)) (fun _ _ => True) (fun u W => True ∧ W.ownsRow base 111 6 u (s.subs.length + 1) (css.flatten ++ [.int .u64 k, .int .u64 v1, .int .i64 node, .string v2, .string v3, .bool (v4 == 1)])) :: []) (by kernel_rfl) (by kernel_rfl) (by simp only [List.length_cons, List.length_nil, List.drop_succ_cons, List.drop_zero, List.drop_nil]; with_reducible rfl) rfl (fun _ _ _ _ _ => ⟨fun h => h, fun h => h⟩) (fun _ _ h hb => ⟨trivial, own_below h.2 hb⟩) (⟨trivial, Ho8.out⟩) ?_
  rotate_left 9
  iterate 7
   first
    | (refine Ps.par_skip (a' := ?_) (by rfl) (by rfl) ?_ ?_ ?_; rotate_left 1; with_reducible rfl; (simp only [lays]; with_reducible rfl))
    | (refine Ps.par_run (a' := ?_) (by rfl) (by rfl) (fun w' hb hn => ?_) ?_ ?_; rotate_left 1; (obtain ⟨q8, g0, g1, g2, g3, g4, g5⟩ := HQ19.out w' hb; go_simp; (try simp (disch := omega) only [nrm, toNatUp, iteOmega]); first | with_reducible rfl | (go_simp; with_reducible rfl)); (simp only [lays]; with_reducible rfl))
  refine Ps.par_row (a' := ?ap20k7) (m := ?mp20k7) (T := ?Tp20k7) (cs := ?cp20k7) (r := ?rp20k7) (fun b h => m6.out b h) (by rfl) (by rfl) (fun w' hb hn => ?hp20k7) (fun w' => ?ep20k7) ?np20k7 ?vp20k7 ?lp20k7 ?xp20k7 (fun u => ?pp20k7) (fun u => ?gp20k7)
  case hp20k7 => (obtain ⟨q8, g0, g1, g2, g3, g4, g5⟩ := HQ19.out w' hb; go_simp; (try simp (disch := omega) only [nrm, toNatUp, iteOmega]); with_reducible rfl)
  case ep20k7 => with_reducible rfl
  case np20k7 => with_reducible rfl
  case vp20k7 => with_reducible rfl
  case lp20k7 => simp only [List.length_cons, List.length_nil]
  case xp20k7 => (unfold maxLen; omega)
  case pp20k7 => (simp only [lays]; with_reducible rfl)
  refine Ps.par_app (a' := ?ap21k8) (A := fun W => True) 28 111 Tryz.underlying28 info_subs rfl (by decide) mb (by unfold maxLen; omega) (by omega) (by simp [Value.oneCell']) (fun _ _ _ _ _ => trivial) (fun _ _ _ _ => trivial) (fun _ h => h) (fun b i hs hb => by rcases hs with rfl | rfl; exact n3.out hb; exact go.out hb) (by rfl) rfl rfl rfl rfl (fun w' hb hn => ?xp21k8) (fun u => ?pp21k8) (fun u hu8 => ?gp21k8)
  case xp21k8 => (exact (Ps.need_head hn (by kernel_rfl)).1)
  case pp21k8 => (simp only [lays]; with_reducible rfl)
  obtain ⟨au8, cu8, rfl⟩ := hu8
  refine Ps.par_end (fun w9 hb9 hf9 hr9 => ?_)
  try refine Ps.wpList_none ?_
  have Hx9 : RnC w9 xb (U s.pos) (U s.done) (U s.made) vp vi vt vj vr (.slice ak s.subs.length ck) vk vl vm rb true := (hb9.1.block xb (heap_lt Hx8.out) n3.out).trans Hx8.out
  have Hr9 := hid ((hb9.1.block rb (heap_lt Hr8.out) n5.out).trans Hr8.out)
  have T8 : TyBut base [92, 89, 111] w w8 := T8.out.mono (fun i _ hi => hi.elim (fun h => h ▸ ⟨_, _, _, Hr.out, by decide, hbr⟩) (fun h => h ▸ ⟨_, _, _, Hx.out, by decide, hbx⟩))
  have T9 : TyBut base [92, 89, 111] w w9 := T8.trans' hb9.1 (fun i hi ho => own_ty Hown.out (by decide) ho)
  have Ho9 := hid hr9.2
  have k9 := cell_of Hx9 8
  have f9 := free_of Hx9 8
  clear hb9 hf9 hr9
  go_wp2
  have hs9 : RnC (w9.setCell ⟨xb, 8, none⟩ (.slice au8 (s.subs.length + 1) cu8)) xb (U s.pos) (U s.done) (U s.made) vp vi vt vj vr (.slice au8 (s.subs.length + 1) cu8) vk vl vm rb true := setCell_at Hx9 8 (.slice au8 (s.subs.length + 1) cu8)
  have T10 : TyBut base [89] w9 (w9.setCell ⟨xb, 8, none⟩ (.slice au8 (s.subs.length + 1) cu8)) := TyBut.set Hx9 (by decide) hbx 8 _
  generalize w9.setCell ⟨xb, 8, none⟩ (.slice au8 (s.subs.length + 1) cu8) = w10 at hs9 T10 ⊢
  have T : TyBut base [92, 89, 111] w w10 := T9.trans (T10.weak (by decide))
  have hL := HL.out
  go_end0
  refine ⟨rfl, ⟨vp, vi, vt, vj, vr, (.slice au8 (s.subs.length + 1) cu8), vk, vl, vm, by exact hs9, ?_⟩, T10.at Hr9.out (by decide), T.weak (by decide)⟩
  exact ⟨hL.procs.keep DepV.ost T (by decide) (by decide) (by decide), hL.insts.keep InstV.ost T (by decide) (by decide) (by decide), hL.tokens.keep TokV.ost T (by decide) (by decide) (by decide), hL.jobs.keep JobV.ost T (by decide) (by decide) (by decide), hL.timers.keep TimV.ost T (by decide) (by decide) (by decide), (LOwn.snoc A1.out A2.out (fun i cs x hc hx => SubV.ost _ _ _ _ _ _ (by decide) (by decide) (A3.out i cs x hc hx) T9.kept) ⟨rfl, by simp [Value.oneCell']⟩ rfl Ho9.out).keep SubV.ost T10 (by decide) (by decide) (by decide), hL.kept.keep KeptV.ost T (by decide) (by decide) (by decide), hL.listed.keep LisV.ost T (by decide) (by decide) (by decide), hL.msgs.keep MsgV.ost T (by decide) (by decide) (by decide)⟩
 | false =>
  by_cases hc_0 : v4 = 0
  ·
   have tok := trivial
   have e1 : (v4 == 1) = false := by rw [hc_0]; rfl
   have e0 : (v4 != 0) = false := by rw [hc_0]; rfl
   have en1 : (v4 != 1) = true := by rw [hc_0]; rfl
   have hodd := hid (show (false || (v4 != 0 && v4 != 1)) = false by rw [e0, en1]; rfl)
   have hop := hid e1
   simp only [hodd.out, e1] at Hx8 Hg8 Hr8 Ho8 T8
   clear hc_0
   go_wp2_with fail
   generalize (w7.setCell ⟨g, 5, none⟩ (.bool false)).setCell ⟨xb, 13, none⟩ (.bool false) = w8 at Hx8 Hg8 Hr8 Ho8 T8 ⊢
   clear e1 e0 en1 kg fg kx fx
   have m6 := hid (fun b (h : ownB (.slice ak s.subs.length ck) b) => Nat.lt_of_lt_of_le (n6.out b h) T8.out.size)
   have mb : base ≤ w8.heap.size := Nat.le_trans hbase T8.out.size
   have HQ22 := hid (fun w' (hb : (Ps.relC (fun b => ownB (.slice ak s.subs.length ck) b) (fun b _ => b = xb ∨ b = g)).G w8 w') => And.intro (hb.2 xb 8 _ (.inl rfl) (cell_of Hx8.out 8)) (And.intro (hb.2 g 0 _ (.inr rfl) (cell_of Hg8.out 0)) (And.intro (hb.2 g 1 _ (.inr rfl) (cell_of Hg8.out 1)) (And.intro (hb.2 g 2 _ (.inr rfl) (cell_of Hg8.out 2)) (And.intro (hb.2 g 3 _ (.inr rfl) (cell_of Hg8.out 3)) (And.intro (hb.2 g 4 _ (.inr rfl) (cell_of Hg8.out 4)) (hb.2 g 5 _ (.inr rfl) (cell_of Hg8.out 5))))))))
   refine Ps.wp_par (Ps.relC (fun b => ownB (.slice ak s.subs.length ck) b) (fun b _ => b = xb ∨ b = g)) (fun W => True ∧ W.ownsRow base 111 6 (.slice ak s.subs.length ck) s.subs.length css.flatten) (false :: false :: false :: false :: false :: false :: false :: false :: true :: []) _ (.fix ?_ :: .fix ?_ :: .fix ?_ :: .fix ?_ :: .fix ?_ :: .fix ?_ :: .fix ?_ :: .new (Ps.rowN 6 ?_ ?_ w8.heap.size) :: .st (some (s.subs.length + 1)) (fun _ _ => True) (fun u W => True ∧ W.ownsRow base 111 6 u (s.subs.length + 1) (css.flatten ++ [.int .u64 k, .int .u64 v1, .int .i64 node, .string v2, .string v3, .bool false])) :: []) (by kernel_rfl) (by kernel_rfl) (by simp only [List.length_cons, List.length_nil, List.drop_succ_cons, List.drop_zero, List.drop_nil]; with_reducible rfl) rfl (fun _ _ _ _ _ => ⟨fun h => h, fun h => h⟩) (fun _ _ h hb => ⟨trivial, own_below h.2 hb⟩) (⟨trivial, Ho8.out⟩) ?_
   rotate_left 9
   iterate 7
    first
     | (refine Ps.par_skip (a' := ?_) (by rfl) (by rfl) ?_ ?_ ?_; rotate_left 1; with_reducible rfl; (simp only [lays]; with_reducible rfl))
     | (refine Ps.par_run (a' := ?_) (by rfl) (by rfl) (fun w' hb hn => ?_) ?_ ?_; rotate_left 1; (obtain ⟨q8, g0, g1, g2, g3, g4, g5⟩ := HQ22.out w' hb; go_simp; (try simp (disch := omega) only [nrm, toNatUp, iteOmega]); first | with_reducible rfl | (go_simp; with_reducible rfl)); (simp only [lays]; with_reducible rfl))
   refine Ps.par_row (a' := ?ap23k7) (m := ?mp23k7) (T := ?Tp23k7) (cs := ?cp23k7) (r := ?rp23k7) (fun b h => m6.out b h) (by rfl) (by rfl) (fun w' hb hn => ?hp23k7) (fun w' => ?ep23k7) ?np23k7 ?vp23k7 ?lp23k7 ?xp23k7 (fun u => ?pp23k7) (fun u => ?gp23k7)
   case hp23k7 => (obtain ⟨q8, g0, g1, g2, g3, g4, g5⟩ := HQ22.out w' hb; go_simp; (try simp (disch := omega) only [nrm, toNatUp, iteOmega]); with_reducible rfl)
   case ep23k7 => with_reducible rfl
   case np23k7 => with_reducible rfl
   case vp23k7 => with_reducible rfl
   case lp23k7 => simp only [List.length_cons, List.length_nil]
   case xp23k7 => (unfold maxLen; omega)
   case pp23k7 => (simp only [lays]; with_reducible rfl)
   refine Ps.par_app (a' := ?ap24k8) (A := fun W => True) 28 111 Tryz.underlying28 info_subs rfl (by decide) mb (by unfold maxLen; omega) (by omega) (by simp [Value.oneCell']) (fun _ _ _ _ _ => trivial) (fun _ _ _ _ => trivial) (fun _ h => h) (fun b i hs hb => by rcases hs with rfl | rfl; exact n3.out hb; exact go.out hb) (by rfl) rfl rfl rfl rfl (fun w' hb hn => ?xp24k8) (fun u => ?pp24k8) (fun u hu8 => ?gp24k8)
   case xp24k8 => (exact (Ps.need_head hn (by kernel_rfl)).1)
   case pp24k8 => (simp only [lays]; with_reducible rfl)
   obtain ⟨au8, cu8, rfl⟩ := hu8
   refine Ps.par_end (fun w9 hb9 hf9 hr9 => ?_)
   try refine Ps.wpList_none ?_
   have Hx9 : RnC w9 xb (U s.pos) (U s.done) (U s.made) vp vi vt vj vr (.slice ak s.subs.length ck) vk vl vm rb false := (hb9.1.block xb (heap_lt Hx8.out) n3.out).trans Hx8.out
   have Hr9 := hid ((hb9.1.block rb (heap_lt Hr8.out) n5.out).trans Hr8.out)
   have T8 : TyBut base [92, 89, 111] w w8 := T8.out.mono (fun i _ hi => hi.elim (fun h => h ▸ ⟨_, _, _, Hr.out, by decide, hbr⟩) (fun h => h ▸ ⟨_, _, _, Hx.out, by decide, hbx⟩))
   have T9 : TyBut base [92, 89, 111] w w9 := T8.trans' hb9.1 (fun i hi ho => own_ty Hown.out (by decide) ho)
   have Ho9 := hid hr9.2
   have k9 := cell_of Hx9 8
   have f9 := free_of Hx9 8
   clear hb9 hf9 hr9
   go_wp2
   have hs9 : RnC (w9.setCell ⟨xb, 8, none⟩ (.slice au8 (s.subs.length + 1) cu8)) xb (U s.pos) (U s.done) (U s.made) vp vi vt vj vr (.slice au8 (s.subs.length + 1) cu8) vk vl vm rb false := setCell_at Hx9 8 (.slice au8 (s.subs.length + 1) cu8)
   have T10 : TyBut base [89] w9 (w9.setCell ⟨xb, 8, none⟩ (.slice au8 (s.subs.length + 1) cu8)) := TyBut.set Hx9 (by decide) hbx 8 _
   generalize w9.setCell ⟨xb, 8, none⟩ (.slice au8 (s.subs.length + 1) cu8) = w10 at hs9 T10 ⊢
   have T : TyBut base [92, 89, 111] w w10 := T9.trans (T10.weak (by decide))
   have hL := HL.out
   go_end0
   refine ⟨rfl, ⟨vp, vi, vt, vj, vr, (.slice au8 (s.subs.length + 1) cu8), vk, vl, vm, by rw [hodd.out]; exact hs9, ?_⟩, T10.at Hr9.out (by decide), T.weak (by decide)⟩
   exact ⟨hL.procs.keep DepV.ost T (by decide) (by decide) (by decide), hL.insts.keep InstV.ost T (by decide) (by decide) (by decide), hL.tokens.keep TokV.ost T (by decide) (by decide) (by decide), hL.jobs.keep JobV.ost T (by decide) (by decide) (by decide), hL.timers.keep TimV.ost T (by decide) (by decide) (by decide), (LOwn.snoc A1.out A2.out (fun i cs x hc hx => SubV.ost _ _ _ _ _ _ (by decide) (by decide) (A3.out i cs x hc hx) T9.kept) ⟨rfl, by simp [Value.oneCell']⟩ (show SubV.ow w9 base _ ⟨k, v1, node, v2, v3, v4 == 1⟩ from by unfold SubV.ow; rw [hop.out]) Ho9.out).keep SubV.ost T10 (by decide) (by decide) (by decide), hL.kept.keep KeptV.ost T (by decide) (by decide) (by decide), hL.listed.keep LisV.ost T (by decide) (by decide) (by decide), hL.msgs.keep MsgV.ost T (by decide) (by decide) (by decide)⟩
  by_cases hc_1 : v4 = 1
  ·
   have tok := trivial
   have e1 : (v4 == 1) = true := by rw [hc_1]; rfl
   have e0 : (v4 != 0) = true := by rw [hc_1]; rfl
   have en1 : (v4 != 1) = false := by rw [hc_1]; rfl
   have hodd := hid (show (false || (v4 != 0 && v4 != 1)) = false by rw [e0, en1]; rfl)
   have hop := hid e1
   simp only [hodd.out, e1] at Hx8 Hg8 Hr8 Ho8 T8
   clear hc_1
   go_wp2_with fail
   generalize (w7.setCell ⟨g, 5, none⟩ (.bool true)).setCell ⟨xb, 13, none⟩ (.bool false) = w8 at Hx8 Hg8 Hr8 Ho8 T8 ⊢
   clear e1 e0 en1 kg fg kx fx
   have m6 := hid (fun b (h : ownB (.slice ak s.subs.length ck) b) => Nat.lt_of_lt_of_le (n6.out b h) T8.out.size)
   have mb : base ≤ w8.heap.size := Nat.le_trans hbase T8.out.size
   have HQ25 := hid (fun w' (hb : (Ps.relC (fun b => ownB (.slice ak s.subs.length ck) b) (fun b _ => b = xb ∨ b = g)).G w8 w') => And.intro (hb.2 xb 8 _ (.inl rfl) (cell_of Hx8.out 8)) (And.intro (hb.2 g 0 _ (.inr rfl) (cell_of Hg8.out 0)) (And.intro (hb.2 g 1 _ (.inr rfl) (cell_of Hg8.out 1)) (And.intro (hb.2 g 2 _ (.inr rfl) (cell_of Hg8.out 2)) (And.intro (hb.2 g 3 _ (.inr rfl) (cell_of Hg8.out 3)) (And.intro (hb.2 g 4 _ (.inr rfl) (cell_of Hg8.out 4)) (hb.2 g 5 _ (.inr rfl) (cell_of Hg8.out 5))))))))
   refine Ps.wp_par (Ps.relC (fun b => ownB (.slice ak s.subs.length ck) b) (fun b _ => b = xb ∨ b = g)) (fun W => True ∧ W.ownsRow base 111 6 (.slice ak s.subs.length ck) s.subs.length css.flatten) (false :: false :: false :: false :: false :: false :: false :: false :: true :: []) _ (.fix ?_ :: .fix ?_ :: .fix ?_ :: .fix ?_ :: .fix ?_ :: .fix ?_ :: .fix ?_ :: .new (Ps.rowN 6 ?_ ?_ w8.heap.size) :: .st (some (s.subs.length + 1)) (fun _ _ => True) (fun u W => True ∧ W.ownsRow base 111 6 u (s.subs.length + 1) (css.flatten ++ [.int .u64 k, .int .u64 v1, .int .i64 node, .string v2, .string v3, .bool true])) :: []) (by kernel_rfl) (by kernel_rfl) (by simp only [List.length_cons, List.length_nil, List.drop_succ_cons, List.drop_zero, List.drop_nil]; with_reducible rfl) rfl (fun _ _ _ _ _ => ⟨fun h => h, fun h => h⟩) (fun _ _ h hb => ⟨trivial, own_below h.2 hb⟩) (⟨trivial, Ho8.out⟩) ?_
   rotate_left 9
   iterate 7
    first
     | (refine Ps.par_skip (a' := ?_) (by rfl) (by rfl) ?_ ?_ ?_; rotate_left 1; with_reducible rfl; (simp only [lays]; with_reducible rfl))
     | (refine Ps.par_run (a' := ?_) (by rfl) (by rfl) (fun w' hb hn => ?_) ?_ ?_; rotate_left 1; (obtain ⟨q8, g0, g1, g2, g3, g4, g5⟩ := HQ25.out w' hb; go_simp; (try simp (disch := omega) only [nrm, toNatUp, iteOmega]); first | with_reducible rfl | (go_simp; with_reducible rfl)); (simp only [lays]; with_reducible rfl))
   refine Ps.par_row (a' := ?ap26k7) (m := ?mp26k7) (T := ?Tp26k7) (cs := ?cp26k7) (r := ?rp26k7) (fun b h => m6.out b h) (by rfl) (by rfl) (fun w' hb hn => ?hp26k7) (fun w' => ?ep26k7) ?np26k7 ?vp26k7 ?lp26k7 ?xp26k7 (fun u => ?pp26k7) (fun u => ?gp26k7)
   case hp26k7 => (obtain ⟨q8, g0, g1, g2, g3, g4, g5⟩ := HQ25.out w' hb; go_simp; (try simp (disch := omega) only [nrm, toNatUp, iteOmega]); with_reducible rfl)
   case ep26k7 => with_reducible rfl
   case np26k7 => with_reducible rfl
   case vp26k7 => with_reducible rfl
   case lp26k7 => simp only [List.length_cons, List.length_nil]
   case xp26k7 => (unfold maxLen; omega)
   case pp26k7 => (simp only [lays]; with_reducible rfl)
   refine Ps.par_app (a' := ?ap27k8) (A := fun W => True) 28 111 Tryz.underlying28 info_subs rfl (by decide) mb (by unfold maxLen; omega) (by omega) (by simp [Value.oneCell']) (fun _ _ _ _ _ => trivial) (fun _ _ _ _ => trivial) (fun _ h => h) (fun b i hs hb => by rcases hs with rfl | rfl; exact n3.out hb; exact go.out hb) (by rfl) rfl rfl rfl rfl (fun w' hb hn => ?xp27k8) (fun u => ?pp27k8) (fun u hu8 => ?gp27k8)
   case xp27k8 => (exact (Ps.need_head hn (by kernel_rfl)).1)
   case pp27k8 => (simp only [lays]; with_reducible rfl)
   obtain ⟨au8, cu8, rfl⟩ := hu8
   refine Ps.par_end (fun w9 hb9 hf9 hr9 => ?_)
   try refine Ps.wpList_none ?_
   have Hx9 : RnC w9 xb (U s.pos) (U s.done) (U s.made) vp vi vt vj vr (.slice ak s.subs.length ck) vk vl vm rb false := (hb9.1.block xb (heap_lt Hx8.out) n3.out).trans Hx8.out
   have Hr9 := hid ((hb9.1.block rb (heap_lt Hr8.out) n5.out).trans Hr8.out)
   have T8 : TyBut base [92, 89, 111] w w8 := T8.out.mono (fun i _ hi => hi.elim (fun h => h ▸ ⟨_, _, _, Hr.out, by decide, hbr⟩) (fun h => h ▸ ⟨_, _, _, Hx.out, by decide, hbx⟩))
   have T9 : TyBut base [92, 89, 111] w w9 := T8.trans' hb9.1 (fun i hi ho => own_ty Hown.out (by decide) ho)
   have Ho9 := hid hr9.2
   have k9 := cell_of Hx9 8
   have f9 := free_of Hx9 8
   clear hb9 hf9 hr9
   go_wp2
   have hs9 : RnC (w9.setCell ⟨xb, 8, none⟩ (.slice au8 (s.subs.length + 1) cu8)) xb (U s.pos) (U s.done) (U s.made) vp vi vt vj vr (.slice au8 (s.subs.length + 1) cu8) vk vl vm rb false := setCell_at Hx9 8 (.slice au8 (s.subs.length + 1) cu8)
   have T10 : TyBut base [89] w9 (w9.setCell ⟨xb, 8, none⟩ (.slice au8 (s.subs.length + 1) cu8)) := TyBut.set Hx9 (by decide) hbx 8 _
   generalize w9.setCell ⟨xb, 8, none⟩ (.slice au8 (s.subs.length + 1) cu8) = w10 at hs9 T10 ⊢
   have T : TyBut base [92, 89, 111] w w10 := T9.trans (T10.weak (by decide))
   have hL := HL.out
   go_end0
   refine ⟨rfl, ⟨vp, vi, vt, vj, vr, (.slice au8 (s.subs.length + 1) cu8), vk, vl, vm, by rw [hodd.out]; exact hs9, ?_⟩, T10.at Hr9.out (by decide), T.weak (by decide)⟩
   exact ⟨hL.procs.keep DepV.ost T (by decide) (by decide) (by decide), hL.insts.keep InstV.ost T (by decide) (by decide) (by decide), hL.tokens.keep TokV.ost T (by decide) (by decide) (by decide), hL.jobs.keep JobV.ost T (by decide) (by decide) (by decide), hL.timers.keep TimV.ost T (by decide) (by decide) (by decide), (LOwn.snoc A1.out A2.out (fun i cs x hc hx => SubV.ost _ _ _ _ _ _ (by decide) (by decide) (A3.out i cs x hc hx) T9.kept) ⟨rfl, by simp [Value.oneCell']⟩ (show SubV.ow w9 base _ ⟨k, v1, node, v2, v3, v4 == 1⟩ from by unfold SubV.ow; rw [hop.out]) Ho9.out).keep SubV.ost T10 (by decide) (by decide) (by decide), hL.kept.keep KeptV.ost T (by decide) (by decide) (by decide), hL.listed.keep LisV.ost T (by decide) (by decide) (by decide), hL.msgs.keep MsgV.ost T (by decide) (by decide) (by decide)⟩
  ·
   have tok := trivial
   have e1 : (v4 == 1) = false := by simpa using hc_1
   have e0 : (v4 != 0) = true := by simpa using hc_0
   have en1 : (v4 != 1) = true := by simpa using hc_1
   have hodd := hid (show (false || (v4 != 0 && v4 != 1)) = true by rw [e0, en1]; rfl)
   have hop := hid e1
   simp only [hodd.out, e1] at Hx8 Hg8 Hr8 Ho8 T8
   clear hc_0 hc_1
   go_wp2_with fail
   generalize (w7.setCell ⟨g, 5, none⟩ (.bool false)).setCell ⟨xb, 13, none⟩ (.bool true) = w8 at Hx8 Hg8 Hr8 Ho8 T8 ⊢
   clear e1 e0 en1 kg fg kx fx
   have m6 := hid (fun b (h : ownB (.slice ak s.subs.length ck) b) => Nat.lt_of_lt_of_le (n6.out b h) T8.out.size)
   have mb : base ≤ w8.heap.size := Nat.le_trans hbase T8.out.size
   have HQ28 := hid (fun w' (hb : (Ps.relC (fun b => ownB (.slice ak s.subs.length ck) b) (fun b _ => b = xb ∨ b = g)).G w8 w') => And.intro (hb.2 xb 8 _ (.inl rfl) (cell_of Hx8.out 8)) (And.intro (hb.2 g 0 _ (.inr rfl) (cell_of Hg8.out 0)) (And.intro (hb.2 g 1 _ (.inr rfl) (cell_of Hg8.out 1)) (And.intro (hb.2 g 2 _ (.inr rfl) (cell_of Hg8.out 2)) (And.intro (hb.2 g 3 _ (.inr rfl) (cell_of Hg8.out 3)) (And.intro (hb.2 g 4 _ (.inr rfl) (cell_of Hg8.out 4)) (hb.2 g 5 _ (.inr rfl) (cell_of Hg8.out 5))))))))
   refine Ps.wp_par (Ps.relC (fun b => ownB (.slice ak s.subs.length ck) b) (fun b _ => b = xb ∨ b = g)) (fun W => True ∧ W.ownsRow base 111 6 (.slice ak s.subs.length ck) s.subs.length css.flatten) (false :: false :: false :: false :: false :: false :: false :: false :: true :: []) _ (.fix ?_ :: .fix ?_ :: .fix ?_ :: .fix ?_ :: .fix ?_ :: .fix ?_ :: .fix ?_ :: .new (Ps.rowN 6 ?_ ?_ w8.heap.size) :: .st (some (s.subs.length + 1)) (fun _ _ => True) (fun u W => True ∧ W.ownsRow base 111 6 u (s.subs.length + 1) (css.flatten ++ [.int .u64 k, .int .u64 v1, .int .i64 node, .string v2, .string v3, .bool false])) :: []) (by kernel_rfl) (by kernel_rfl) (by simp only [List.length_cons, List.length_nil, List.drop_succ_cons, List.drop_zero, List.drop_nil]; with_reducible rfl) rfl (fun _ _ _ _ _ => ⟨fun h => h, fun h => h⟩) (fun _ _ h hb => ⟨trivial, own_below h.2 hb⟩) (⟨trivial, Ho8.out⟩) ?_
   rotate_left 9
   iterate 7
    first
     | (refine Ps.par_skip (a' := ?_) (by rfl) (by rfl) ?_ ?_ ?_; rotate_left 1; with_reducible rfl; (simp only [lays]; with_reducible rfl))
     | (refine Ps.par_run (a' := ?_) (by rfl) (by rfl) (fun w' hb hn => ?_) ?_ ?_; rotate_left 1; (obtain ⟨q8, g0, g1, g2, g3, g4, g5⟩ := HQ28.out w' hb; go_simp; (try simp (disch := omega) only [nrm, toNatUp, iteOmega]); first | with_reducible rfl | (go_simp; with_reducible rfl)); (simp only [lays]; with_reducible rfl))
   refine Ps.par_row (a' := ?ap29k7) (m := ?mp29k7) (T := ?Tp29k7) (cs := ?cp29k7) (r := ?rp29k7) (fun b h => m6.out b h) (by rfl) (by rfl) (fun w' hb hn => ?hp29k7) (fun w' => ?ep29k7) ?np29k7 ?vp29k7 ?lp29k7 ?xp29k7 (fun u => ?pp29k7) (fun u => ?gp29k7)
   case hp29k7 => (obtain ⟨q8, g0, g1, g2, g3, g4, g5⟩ := HQ28.out w' hb; go_simp; (try simp (disch := omega) only [nrm, toNatUp, iteOmega]); with_reducible rfl)
   case ep29k7 => with_reducible rfl
   case np29k7 => with_reducible rfl
   case vp29k7 => with_reducible rfl
   case lp29k7 => simp only [List.length_cons, List.length_nil]
   case xp29k7 => (unfold maxLen; omega)
   case pp29k7 => (simp only [lays]; with_reducible rfl)
   refine Ps.par_app (a' := ?ap30k8) (A := fun W => True) 28 111 Tryz.underlying28 info_subs rfl (by decide) mb (by unfold maxLen; omega) (by omega) (by simp [Value.oneCell']) (fun _ _ _ _ _ => trivial) (fun _ _ _ _ => trivial) (fun _ h => h) (fun b i hs hb => by rcases hs with rfl | rfl; exact n3.out hb; exact go.out hb) (by rfl) rfl rfl rfl rfl (fun w' hb hn => ?xp30k8) (fun u => ?pp30k8) (fun u hu8 => ?gp30k8)
   case xp30k8 => (exact (Ps.need_head hn (by kernel_rfl)).1)
   case pp30k8 => (simp only [lays]; with_reducible rfl)
   obtain ⟨au8, cu8, rfl⟩ := hu8
   refine Ps.par_end (fun w9 hb9 hf9 hr9 => ?_)
   try refine Ps.wpList_none ?_
   have Hx9 : RnC w9 xb (U s.pos) (U s.done) (U s.made) vp vi vt vj vr (.slice ak s.subs.length ck) vk vl vm rb true := (hb9.1.block xb (heap_lt Hx8.out) n3.out).trans Hx8.out
   have Hr9 := hid ((hb9.1.block rb (heap_lt Hr8.out) n5.out).trans Hr8.out)
   have T8 : TyBut base [92, 89, 111] w w8 := T8.out.mono (fun i _ hi => hi.elim (fun h => h ▸ ⟨_, _, _, Hr.out, by decide, hbr⟩) (fun h => h ▸ ⟨_, _, _, Hx.out, by decide, hbx⟩))
   have T9 : TyBut base [92, 89, 111] w w9 := T8.trans' hb9.1 (fun i hi ho => own_ty Hown.out (by decide) ho)
   have Ho9 := hid hr9.2
   have k9 := cell_of Hx9 8
   have f9 := free_of Hx9 8
   clear hb9 hf9 hr9
   go_wp2
   have hs9 : RnC (w9.setCell ⟨xb, 8, none⟩ (.slice au8 (s.subs.length + 1) cu8)) xb (U s.pos) (U s.done) (U s.made) vp vi vt vj vr (.slice au8 (s.subs.length + 1) cu8) vk vl vm rb true := setCell_at Hx9 8 (.slice au8 (s.subs.length + 1) cu8)
   have T10 : TyBut base [89] w9 (w9.setCell ⟨xb, 8, none⟩ (.slice au8 (s.subs.length + 1) cu8)) := TyBut.set Hx9 (by decide) hbx 8 _
   generalize w9.setCell ⟨xb, 8, none⟩ (.slice au8 (s.subs.length + 1) cu8) = w10 at hs9 T10 ⊢
   have T : TyBut base [92, 89, 111] w w10 := T9.trans (T10.weak (by decide))
   have hL := HL.out
   go_end0
   refine ⟨rfl, ⟨vp, vi, vt, vj, vr, (.slice au8 (s.subs.length + 1) cu8), vk, vl, vm, by rw [hodd.out]; exact hs9, ?_⟩, T10.at Hr9.out (by decide), T.weak (by decide)⟩
   exact ⟨hL.procs.keep DepV.ost T (by decide) (by decide) (by decide), hL.insts.keep InstV.ost T (by decide) (by decide) (by decide), hL.tokens.keep TokV.ost T (by decide) (by decide) (by decide), hL.jobs.keep JobV.ost T (by decide) (by decide) (by decide), hL.timers.keep TimV.ost T (by decide) (by decide) (by decide), (LOwn.snoc A1.out A2.out (fun i cs x hc hx => SubV.ost _ _ _ _ _ _ (by decide) (by decide) (A3.out i cs x hc hx) T9.kept) ⟨rfl, by simp [Value.oneCell']⟩ (show SubV.ow w9 base _ ⟨k, v1, node, v2, v3, v4 == 1⟩ from by unfold SubV.ow; rw [hop.out]) Ho9.out).keep SubV.ost T10 (by decide) (by decide) (by decide), hL.kept.keep KeptV.ost T (by decide) (by decide) (by decide), hL.listed.keep LisV.ost T (by decide) (by decide) (by decide), hL.msgs.keep MsgV.ost T (by decide) (by decide) (by decide)⟩
theorem one_g (xb rb k : Nat) (node : Int) (odd : Bool) (s : StateV) (r : RdV) (w : World) (base : Nat) (hbase : base ≤ w.heap.size) (hbx : base ≤ xb) (hbr : base ≤ rb) (hs : RnB w base xb rb s odd) (hr : IsR 92 w rb r)
  (hsz : r.s.size ≤ 1099511627776) (hk : k < 18446744073709551616) (hno : I64 node) (hl : s.msgs.length ≤ 2097152) :
  Calls Tryz.prog 40 #[.pointer (some ⟨xb, 0, none⟩), .int .u8 103, .int .u64 k] w fun e w' => e = .returned (.tuple #[]) ∧ RnB w' base xb rb (stepG k s r).s (odd || (stepG k s r).bad) ∧ IsR 92 w' rb (stepG k s r).r ∧ TyBut base refTs w w' := by
 obtain ⟨hno1, hno2⟩ := hno
 unfold stepG
 dsimp only
 have Hc1 : Hid (∀ W : World, W.cell? ⟨xb, 12, none⟩ = some (.pointer (some ⟨rb, 0, none⟩)) → IsR 92 W rb r → Calls Tryz.prog 38 #[.pointer (some ⟨xb, 0, none⟩)] W fun e w' => e = .returned (.string (textR 16384 r).1) ∧ IsR 92 w' rb (textR 16384 r).2 ∧ Rb rb W w') := fun W hX hR => refText_any xb rb r W hX hR (by omega)
 have hz1 := textR_sz 16384 r
 have hv1 : True := trivial
 revert Hc1 hz1 hv1
 generalize textR 16384 r = p1
 obtain ⟨v1, r1⟩ := p1
 intro Hc1 hz1 hv1
 dsimp only at Hc1 hz1 hv1 ⊢
 have Hc2 : Hid (∀ W : World, W.cell? ⟨xb, 12, none⟩ = some (.pointer (some ⟨rb, 0, none⟩)) → IsR 92 W rb r1 → Calls Tryz.prog 38 #[.pointer (some ⟨xb, 0, none⟩)] W fun e w' => e = .returned (.string (textR 16384 r1).1) ∧ IsR 92 w' rb (textR 16384 r1).2 ∧ Rb rb W w') := fun W hX hR => refText_any xb rb r1 W hX hR (by omega)
 have hz2 := textR_sz 16384 r1
 have hv2 : True := trivial
 revert Hc2 hz2 hv2
 generalize textR 16384 r1 = p2
 obtain ⟨v2, r2⟩ := p2
 intro Hc2 hz2 hv2
 dsimp only at Hc2 hz2 hv2 ⊢
 have Hc3 : Hid (∀ W : World, W.cell? ⟨xb, 12, none⟩ = some (.pointer (some ⟨rb, 0, none⟩)) → IsR 92 W rb r2 → Calls Tryz.prog 38 #[.pointer (some ⟨xb, 0, none⟩)] W fun e w' => e = .returned (.string (textR 16384 r2).1) ∧ IsR 92 w' rb (textR 16384 r2).2 ∧ Rb rb W w') := fun W hX hR => refText_any xb rb r2 W hX hR (by omega)
 have hz3 := textR_sz 16384 r2
 have hv3 : True := trivial
 revert Hc3 hz3 hv3
 generalize textR 16384 r2 = p3
 obtain ⟨v3, r3⟩ := p3
 intro Hc3 hz3 hv3
 dsimp only at Hc3 hz3 hv3 ⊢
 have Hc4 : Hid (∀ W : World, W.cell? ⟨xb, 12, none⟩ = some (.pointer (some ⟨rb, 0, none⟩)) → IsR 92 W rb r3 → Calls Tryz.prog 106 #[.pointer (some ⟨rb, 0, none⟩)] W fun e w' => e = .returned (.int .i64 (intR r3).1) ∧ IsR 92 w' rb (intR r3).2 ∧ Rb rb W w') := fun W _ hR => rrInt_any rb r3 W hR (by omega)
 have hz4 := intR_size r3
 have hv4 := intR_in r3
 revert Hc4 hz4 hv4
 generalize intR r3 = p4
 obtain ⟨v4, r4⟩ := p4
 intro Hc4 hz4 hv4
 dsimp only at Hc4 hz4 hv4 ⊢
 obtain ⟨hv4a, hv4b⟩ := hv4
 have Hc5 : Hid (∀ (W : World) (c0 c1 c2 c3 c4 c5 c6 c7 c8 c9 c10 c11 : Value) (od : Bool), RnC W xb c0 c1 c2 c3 c4 c5 c6 c7 c8 c9 c10 c11 rb od → IsR 92 W rb r4 → Calls Tryz.prog 107 #[.pointer (some ⟨xb, 0, none⟩)] W fun e w' => ∃ v, e = .returned v ∧ VarsOwn w' W.heap.size v (varsOf r4) ∧ RnC w' xb c0 c1 c2 c3 c4 c5 c6 c7 c8 c9 c10 c11 rb (od || varsBad r4) ∧ IsR 92 w' rb (takeVars r4).2 ∧ But (fun b => b = rb ∨ b = xb) W w') := fun W c0 c1 c2 c3 c4 c5 c6 c7 c8 c9 c10 c11 od hX hR => refVars_any xb c0 c1 c2 c3 c4 c5 c6 c7 c8 c9 c10 c11 rb od r4 W hX hR (by omega)
 have hz5 := takeVars_size r4
 revert Hc5 hz5
 generalize varsOf r4 = vs
 generalize varsBad r4 = vb
 generalize (takeVars r4).2 = r5
 intro Hc5 hz5
 unfold takeInsts
 have Hc6 : Hid (∀ W : World, W.cell? ⟨xb, 12, none⟩ = some (.pointer (some ⟨rb, 0, none⟩)) → IsR 92 W rb r5 → Calls Tryz.prog 39 #[.pointer (some ⟨rb, 0, none⟩)] W fun e w' => e = .returned (.int .u64 (uintR r5).1) ∧ IsR 92 w' rb (uintR r5).2 ∧ Rb rb W w') := fun W _ hR => rrUint_any rb r5 W hR (by omega)
 have hz6 := uintR_size r5
 have hv6 := uintR_lt r5
 revert Hc6 hz6 hv6
 generalize uintR r5 = p6
 obtain ⟨v6, r6⟩ := p6
 intro Hc6 hz6 hv6
 dsimp only at Hc6 hz6 hv6 ⊢
 generalize hE : instsL v6 r6 [] = p7
 obtain ⟨ns, r7⟩ := p7
 have HE := hid hE
 clear hE
 dsimp only
 obtain ⟨vp, vi, vt, vj, vr, vs_, vk, vl, vm, hx, hL⟩ := hs
 obtain ⟨css, a1, a2, a3, hown⟩ := hL.msgs
 obtain ⟨ak, ck, rfl⟩ := own_slice hown
 have HL := hid hL
 have Hown := hid hown
 have Hx := hid hx
 have Hr := hid hr
 have n1 : xb ≠ rb := ty_ne hx hr (by decide)
 have n3 := hid (own_ne hown hx (by decide))
 have n5 := hid (own_ne hown hr (by decide))
 have n6 := hid (own_lt hown)
 have l1 := heap_lt hx
 have l3 := heap_lt hr
 have A1 := hid a1
 have A2 := hid a2
 have A3 := hid a3
 clear hx hr hown hL a1 a2 a3
 go_enter Tryz.func40, Tryz.ntmps40
 have q12 : (w.alloc (.cells #[.int .u64 k, .string ⟨#[]⟩, .string ⟨#[]⟩, .string ⟨#[]⟩, .int .i64 0, .slice none 0 0, .slice none 0 0] 118)).cell? ⟨xb, 12, none⟩ = some (.pointer (some ⟨rb, 0, none⟩)) := cell_of ((alloc_old _ l1).trans Hx.out) 12
 go_wp2_with fail
 clear q12
 obtain ⟨g, hgd⟩ : ∃ g, g = w.heap.size := ⟨_, rfl⟩
 have Hg0 := hid (show (w.alloc (.cells #[.int .u64 k, .string ⟨#[]⟩, .string ⟨#[]⟩, .string ⟨#[]⟩, .int .i64 0, .slice none 0 0, .slice none 0 0] 118)).heap[g]? = some (.cells #[.int .u64 k, .string ⟨#[]⟩, .string ⟨#[]⟩, .string ⟨#[]⟩, .int .i64 0, .slice none 0 0, .slice none 0 0] 118 (0, 0)) from hgd ▸ alloc_new w _)
 have Hx0 : Hid (RnC (w.alloc (.cells #[.int .u64 k, .string ⟨#[]⟩, .string ⟨#[]⟩, .string ⟨#[]⟩, .int .i64 0, .slice none 0 0, .slice none 0 0] 118)) xb (U s.pos) (U s.done) (U s.made) vp vi vt vj vr vs_ vk vl (.slice ak s.msgs.length ck) rb odd) := (alloc_old _ l1).trans Hx.out
 have Hr0 := hid (show IsR 92 (w.alloc (.cells #[.int .u64 k, .string ⟨#[]⟩, .string ⟨#[]⟩, .string ⟨#[]⟩, .int .i64 0, .slice none 0 0, .slice none 0 0] 118)) rb r from (alloc_old _ l3).trans Hr.out)
 have Ho0 := hid (own_below Hown.out ((Below.refl _ w).alloc (Nat.le_refl _) (.cells #[.int .u64 k, .string ⟨#[]⟩, .string ⟨#[]⟩, .string ⟨#[]⟩, .int .i64 0, .slice none 0 0, .slice none 0 0] 118)))
 have T0 := hid (show But (fun b => b = rb ∨ b = xb) w (w.alloc (.cells #[.int .u64 k, .string ⟨#[]⟩, .string ⟨#[]⟩, .string ⟨#[]⟩, .int .i64 0, .slice none 0 0, .slice none 0 0] 118)) from But.of ((Below.refl _ w).alloc (Nat.le_refl _) _))
 have gr : g ≠ rb := by omega
 have gx : g ≠ xb := by omega
 have go := hid (show ¬ ownB (.slice ak s.msgs.length ck) g from fun h => by have := n6.out g h; omega)
 have hgw := hid (Nat.le_of_eq hgd.symm)
 try rw [← hgd]
 generalize w.alloc (.cells #[.int .u64 k, .string ⟨#[]⟩, .string ⟨#[]⟩, .string ⟨#[]⟩, .int .i64 0, .slice none 0 0, .slice none 0 0] 118) = w0 at Hg0 Hx0 Hr0 Ho0 T0 ⊢
 clear hgd
 refine (Hc1.out w0 (cell_of Hx0.out 12) Hr0.out).mono ?_
 rintro e1 w1 ⟨rfl, h2, b2⟩
 have Hr1 := hid h2
 have Hx1 : Hid (RnC w1 xb (U s.pos) (U s.done) (U s.made) vp vi vt vj vr vs_ vk vl (.slice ak s.msgs.length ck) rb odd) := b2.at Hx0.out n1
 have Hg1 := hid (b2.at Hg0.out gr)
 have Ho1 := hid (own_at Ho0.out b2 (fun i hi he => n5.out (he ▸ hi)))
 have T1 := hid (T0.out.trans (b2.mono (fun _ _ h => .inl h)))
 have Tw1 := hid (show w0.heap.size ≤ w1.heap.size from b2.size)
 clear h2 b2
 have kg := cell_of Hg1.out 1
 have fg := free_of Hg1.out 1
 have q12 := cell_of Hx1.out 12
 have q12b : (w1.setCell ⟨g, 1, none⟩ (.string v1)).cell? ⟨xb, 12, none⟩ = some (.pointer (some ⟨rb, 0, none⟩)) := cell_of ((Rb.set (w := w1) g 1 (.string v1)).at Hx1.out (Ne.symm gx)) 12
 go_wp2_with fail
 clear kg fg q12 q12b
 have bg := Rb.set (w := w1) g 1 (.string v1)
 have Hg2 : Hid ((w1.setCell ⟨g, 1, none⟩ (.string v1)).heap[g]? = some (.cells #[.int .u64 k, .string v1, .string ⟨#[]⟩, .string ⟨#[]⟩, .int .i64 0, .slice none 0 0, .slice none 0 0] 118 (0, 0))) := setCell_at Hg1.out 1 _
 have Hx2 : Hid (RnC (w1.setCell ⟨g, 1, none⟩ (.string v1)) xb (U s.pos) (U s.done) (U s.made) vp vi vt vj vr vs_ vk vl (.slice ak s.msgs.length ck) rb odd) := bg.at Hx1.out (Ne.symm gx)
 have Hr2 := hid (show IsR 92 (w1.setCell ⟨g, 1, none⟩ (.string v1)) rb r1 from bg.at Hr1.out (Ne.symm gr))
 have Ho2 := hid (own_at Ho1.out bg (fun i hi he => go.out (he ▸ hi)))
 have T2 := hid (But.trans' T1.out bg (fun i hi he => by have := hgw.out; omega))
 have Tw2 := hid (Nat.le_trans Tw1.out bg.size)
 clear bg
 generalize w1.setCell ⟨g, 1, none⟩ (.string v1) = w2 at Hg2 Hx2 Hr2 Ho2 T2 Tw2 ⊢
 refine (Hc2.out w2 (cell_of Hx2.out 12) Hr2.out).mono ?_
 rintro e2 w3 ⟨rfl, h2, b2⟩
 have Hr3 := hid h2
 have Hx3 : Hid (RnC w3 xb (U s.pos) (U s.done) (U s.made) vp vi vt vj vr vs_ vk vl (.slice ak s.msgs.length ck) rb odd) := b2.at Hx2.out n1
 have Hg3 := hid (b2.at Hg2.out gr)
 have Ho3 := hid (own_at Ho2.out b2 (fun i hi he => n5.out (he ▸ hi)))
 have T3 := hid (T2.out.trans (b2.mono (fun _ _ h => .inl h)))
 have Tw3 := hid (show w0.heap.size ≤ w3.heap.size from Nat.le_trans Tw2.out b2.size)
 clear h2 b2
 have kg := cell_of Hg3.out 2
 have fg := free_of Hg3.out 2
 have q12 := cell_of Hx3.out 12
 have q12b : (w3.setCell ⟨g, 2, none⟩ (.string v2)).cell? ⟨xb, 12, none⟩ = some (.pointer (some ⟨rb, 0, none⟩)) := cell_of ((Rb.set (w := w3) g 2 (.string v2)).at Hx3.out (Ne.symm gx)) 12
 go_wp2_with fail
 clear kg fg q12 q12b
 have bg := Rb.set (w := w3) g 2 (.string v2)
 have Hg4 : Hid ((w3.setCell ⟨g, 2, none⟩ (.string v2)).heap[g]? = some (.cells #[.int .u64 k, .string v1, .string v2, .string ⟨#[]⟩, .int .i64 0, .slice none 0 0, .slice none 0 0] 118 (0, 0))) := setCell_at Hg3.out 2 _
 have Hx4 : Hid (RnC (w3.setCell ⟨g, 2, none⟩ (.string v2)) xb (U s.pos) (U s.done) (U s.made) vp vi vt vj vr vs_ vk vl (.slice ak s.msgs.length ck) rb odd) := bg.at Hx3.out (Ne.symm gx)
 have Hr4 := hid (show IsR 92 (w3.setCell ⟨g, 2, none⟩ (.string v2)) rb r2 from bg.at Hr3.out (Ne.symm gr))
 have Ho4 := hid (own_at Ho3.out bg (fun i hi he => go.out (he ▸ hi)))
 have T4 := hid (But.trans' T3.out bg (fun i hi he => by have := hgw.out; omega))
 have Tw4 := hid (Nat.le_trans Tw3.out bg.size)
 clear bg
 generalize w3.setCell ⟨g, 2, none⟩ (.string v2) = w4 at Hg4 Hx4 Hr4 Ho4 T4 Tw4 ⊢
 refine (Hc3.out w4 (cell_of Hx4.out 12) Hr4.out).mono ?_
 rintro e3 w5 ⟨rfl, h2, b2⟩
 have Hr5 := hid h2
 have Hx5 : Hid (RnC w5 xb (U s.pos) (U s.done) (U s.made) vp vi vt vj vr vs_ vk vl (.slice ak s.msgs.length ck) rb odd) := b2.at Hx4.out n1
 have Hg5 := hid (b2.at Hg4.out gr)
 have Ho5 := hid (own_at Ho4.out b2 (fun i hi he => n5.out (he ▸ hi)))
 have T5 := hid (T4.out.trans (b2.mono (fun _ _ h => .inl h)))
 have Tw5 := hid (show w0.heap.size ≤ w5.heap.size from Nat.le_trans Tw4.out b2.size)
 clear h2 b2
 have kg := cell_of Hg5.out 3
 have fg := free_of Hg5.out 3
 have q12 := cell_of Hx5.out 12
 have q12b : (w5.setCell ⟨g, 3, none⟩ (.string v3)).cell? ⟨xb, 12, none⟩ = some (.pointer (some ⟨rb, 0, none⟩)) := cell_of ((Rb.set (w := w5) g 3 (.string v3)).at Hx5.out (Ne.symm gx)) 12
 go_wp2_with fail
 clear kg fg q12 q12b
 have bg := Rb.set (w := w5) g 3 (.string v3)
 have Hg6 : Hid ((w5.setCell ⟨g, 3, none⟩ (.string v3)).heap[g]? = some (.cells #[.int .u64 k, .string v1, .string v2, .string v3, .int .i64 0, .slice none 0 0, .slice none 0 0] 118 (0, 0))) := setCell_at Hg5.out 3 _
 have Hx6 : Hid (RnC (w5.setCell ⟨g, 3, none⟩ (.string v3)) xb (U s.pos) (U s.done) (U s.made) vp vi vt vj vr vs_ vk vl (.slice ak s.msgs.length ck) rb odd) := bg.at Hx5.out (Ne.symm gx)
 have Hr6 := hid (show IsR 92 (w5.setCell ⟨g, 3, none⟩ (.string v3)) rb r3 from bg.at Hr5.out (Ne.symm gr))
 have Ho6 := hid (own_at Ho5.out bg (fun i hi he => go.out (he ▸ hi)))
 have T6 := hid (But.trans' T5.out bg (fun i hi he => by have := hgw.out; omega))
 have Tw6 := hid (Nat.le_trans Tw5.out bg.size)
 clear bg
 generalize w5.setCell ⟨g, 3, none⟩ (.string v3) = w6 at Hg6 Hx6 Hr6 Ho6 T6 Tw6 ⊢
 refine (Hc4.out w6 (cell_of Hx6.out 12) Hr6.out).mono ?_
 rintro e4 w7 ⟨rfl, h2, b2⟩
 have Hr7 := hid h2
 have Hx7 : Hid (RnC w7 xb (U s.pos) (U s.done) (U s.made) vp vi vt vj vr vs_ vk vl (.slice ak s.msgs.length ck) rb odd) := b2.at Hx6.out n1
 have Hg7 := hid (b2.at Hg6.out gr)
 have Ho7 := hid (own_at Ho6.out b2 (fun i hi he => n5.out (he ▸ hi)))
 have T7 := hid (T6.out.trans (b2.mono (fun _ _ h => .inl h)))
 have Tw7 := hid (show w0.heap.size ≤ w7.heap.size from Nat.le_trans Tw6.out b2.size)
 clear h2 b2
 have kg := cell_of Hg7.out 4
 have fg := free_of Hg7.out 4
 have q12 := cell_of Hx7.out 12
 have q12b : (w7.setCell ⟨g, 4, none⟩ (.int .i64 v4)).cell? ⟨xb, 12, none⟩ = some (.pointer (some ⟨rb, 0, none⟩)) := cell_of ((Rb.set (w := w7) g 4 (.int .i64 v4)).at Hx7.out (Ne.symm gx)) 12
 go_wp2_with fail
 clear kg fg q12 q12b
 have bg := Rb.set (w := w7) g 4 (.int .i64 v4)
 have Hg8 : Hid ((w7.setCell ⟨g, 4, none⟩ (.int .i64 v4)).heap[g]? = some (.cells #[.int .u64 k, .string v1, .string v2, .string v3, .int .i64 v4, .slice none 0 0, .slice none 0 0] 118 (0, 0))) := setCell_at Hg7.out 4 _
 have Hx8 : Hid (RnC (w7.setCell ⟨g, 4, none⟩ (.int .i64 v4)) xb (U s.pos) (U s.done) (U s.made) vp vi vt vj vr vs_ vk vl (.slice ak s.msgs.length ck) rb odd) := bg.at Hx7.out (Ne.symm gx)
 have Hr8 := hid (show IsR 92 (w7.setCell ⟨g, 4, none⟩ (.int .i64 v4)) rb r4 from bg.at Hr7.out (Ne.symm gr))
 have Ho8 := hid (own_at Ho7.out bg (fun i hi he => go.out (he ▸ hi)))
 have T8 := hid (But.trans' T7.out bg (fun i hi he => by have := hgw.out; omega))
 have Tw8 := hid (Nat.le_trans Tw7.out bg.size)
 clear bg
 generalize w7.setCell ⟨g, 4, none⟩ (.int .i64 v4) = w8 at Hg8 Hx8 Hr8 Ho8 T8 Tw8 ⊢
 refine (Hc5.out w8 _ _ _ _ _ _ _ _ _ _ _ _ _ Hx8.out Hr8.out).mono ?_
 rintro e5 w9 ⟨uv, rfl, hv2, hx2, h2, b2⟩
 obtain ⟨av, cv, rfl⟩ := own_slice hv2
 have Hr9 := hid h2
 have Hx9 := hid hx2
 have Hg9 := hid ((b2.block g (heap_lt Hg8.out) (fun h => h.elim gr gx)).trans Hg8.out)
 have Ho9 := hid (own_at Ho8.out b2 (fun i hi he => he.elim (fun he => n5.out (he ▸ hi)) (fun he => n3.out (he ▸ hi))))
 have gl := Nat.lt_of_lt_of_le (heap_lt Hg8.out) (Nat.le_refl _)
 have Hv9 := hid hv2
 have vlb := hid (Nat.le_trans (Nat.le_trans hbase T0.out.size) (show w0.heap.size ≤ w8.heap.size from Tw8.out))
 have T9 := hid (T8.out.trans b2)
 have Tw9 := hid (show w0.heap.size ≤ w9.heap.size from Nat.le_trans Tw8.out b2.size)
 have vlw := hid T8.out.size
 clear h2 hx2 b2 hv2
 have kg := cell_of Hg9.out 5
 have fg := free_of Hg9.out 5
 have q12 := cell_of Hx9.out 12
 have q12b : (w9.setCell ⟨g, 5, none⟩ (.slice av vs.length cv)).cell? ⟨xb, 12, none⟩ = some (.pointer (some ⟨rb, 0, none⟩)) := cell_of ((Rb.set (w := w9) g 5 (.slice av vs.length cv)).at Hx9.out (Ne.symm gx)) 12
 go_wp2_with fail
 clear kg fg q12 q12b
 have bg := Rb.set (w := w9) g 5 (.slice av vs.length cv)
 have Hg10 : Hid ((w9.setCell ⟨g, 5, none⟩ (.slice av vs.length cv)).heap[g]? = some (.cells #[.int .u64 k, .string v1, .string v2, .string v3, .int .i64 v4, .slice av vs.length cv, .slice none 0 0] 118 (0, 0))) := setCell_at Hg9.out 5 _
 have Hx10 : Hid (RnC (w9.setCell ⟨g, 5, none⟩ (.slice av vs.length cv)) xb (U s.pos) (U s.done) (U s.made) vp vi vt vj vr vs_ vk vl (.slice ak s.msgs.length ck) rb (odd || vb)) := bg.at Hx9.out (Ne.symm gx)
 have Hr10 := hid (show IsR 92 (w9.setCell ⟨g, 5, none⟩ (.slice av vs.length cv)) rb r5 from bg.at Hr9.out (Ne.symm gr))
 have Ho10 := hid (own_at Ho9.out bg (fun i hi he => go.out (he ▸ hi)))
 have T10 := hid (But.trans' T9.out bg (fun i hi he => by have := hgw.out; omega))
 have Tw10 := hid (Nat.le_trans Tw9.out bg.size)
 have Hv10 := hid (own_rb Hv9.out bg gl)
 clear bg
 generalize w9.setCell ⟨g, 5, none⟩ (.slice av vs.length cv) = w10 at Hg10 Hx10 Hr10 Ho10 T10 Tw10 Hv10 ⊢
 refine (Hc6.out w10 (cell_of Hx10.out 12) Hr10.out).mono ?_
 rintro e6 w11 ⟨rfl, h2, b2⟩
 have Hr11 := hid h2
 have Hx11 : Hid (RnC w11 xb (U s.pos) (U s.done) (U s.made) vp vi vt vj vr vs_ vk vl (.slice ak s.msgs.length ck) rb (odd || vb)) := b2.at Hx10.out n1
 have Hg11 := hid (b2.at Hg10.out gr)
 have Ho11 := hid (own_at Ho10.out b2 (fun i hi he => n5.out (he ▸ hi)))
 have Hv11 := hid (own_at Hv10.out b2 (fun i hi he => by have := (Hv10.out.lt i hi).1; have := vlw.out; subst he; omega))
 have T11 := hid (T10.out.trans (b2.mono (fun _ _ h => .inl h)))
 clear h2 b2
 have Hv11x := hid (show VarsOwn w11 w.heap.size (.slice av vs.length cv) vs from ownsRow_base Hv11.out vlw.out)
 have hz6b : r6.s.size ≤ 1099511627776 := by omega
 go_wp2
 go_loopw [8] (fun i wr => ∃ (m j : Nat) (r' : RdV) (l : List Nat) (lv : Value), i = .int .u64 j ∧ j + m = v6 ∧ r'.s.size ≤ 1099511627776 ∧ Hid (instsL m r' l = (ns, r7) ∧ (r'.e = 0 → l.length + r'.s.size ≤ 1099511627776) ∧ wr.ownsRow w.heap.size 22 1 lv l.length (natsV l) ∧ IsR 92 wr rb r' ∧ RnC wr xb (U s.pos) (U s.done) (U s.made) vp vi vt vj vr vs_ vk vl (.slice ak s.msgs.length ck) rb (odd || vb) ∧ wr.heap[g]? = some (.cells #[.int .u64 k, .string v1, .string v2, .string v3, .int .i64 v4, .slice av vs.length cv, lv] 118 (0, 0)) ∧ wr.ownsRow base 118 7 (.slice ak s.msgs.length ck) s.msgs.length css.flatten ∧ VarsOwn wr w.heap.size (.slice av vs.length cv) vs ∧ But (fun b => b = rb ∨ b = xb) w wr)) (fun i _ => v6 - (intOf i).toNat)
 case atStart => exact ⟨v6, 0, r6, [], .slice none 0 0, rfl, by omega, hz6b, HE.out, fun _ => by simp; omega, ⟨rfl, .inl ⟨rfl, rfl⟩⟩, Hr11.out, Hx11.out, Hg11.out, Ho11.out, Hv11x.out, T11.out⟩
 case round =>
  obtain ⟨m, j, r', l, lv, rfl, hj, hrs, hR⟩ := hrel
  obtain ⟨hE, hlen, hown, hr, hx, hg, ho, hv, hT⟩ := hR.out
  obtain ⟨al, cl, rfl⟩ := own_slice hown
  replace hE := hid hE
  replace hlen := hid hlen
  replace hown := hid hown
  replace hr := hid hr
  replace hx := hid hx
  replace hg := hid hg
  replace ho := hid ho
  replace hv := hid hv
  replace hT := hid hT
  clear hR
  have q12 := cell_of hx.out 12
  have qe := hr.out.c1
  by_cases h0 : m = 0
  ·
   subst h0
   obtain ⟨rfl, rfl⟩ : l = ns ∧ r' = r7 := by have := hE.out; simpa [instsL] using this
   have hjv : decide ((j : Int) < (v6 : Int)) = false := by simp; omega
   go_wp2_with fail
   clear hjv hlen hE
   have Hx12 := hx
   have Hr12 := hr
   have Hg12 := hg
   have Ho12 := ho
   have T12 := hT
   have Hi12 := hown
   have Hv12 := hv
   clear hx hr hg ho hT hown hv qe q12
   generalize hwr : wr = w12 at Hx12 Hr12 Hg12 Ho12 T12 Hi12 Hv12 ⊢
   clear hwr
   have gi := Hi12
   have m6 := hid (fun b (h : ownB (.slice ak s.msgs.length ck) b) => Nat.lt_of_lt_of_le (n6.out b h) T12.out.size)
   have mb : base ≤ w12.heap.size := Nat.le_trans hbase T12.out.size
   have HQ31 := hid (fun w' (hb : (Ps.relC (fun b => ownB (.slice ak s.msgs.length ck) b) (fun b _ => b = xb ∨ b = g)).G w12 w') => And.intro (hb.2 xb 11 _ (.inl rfl) (cell_of Hx12.out 11)) (And.intro (hb.2 g 0 _ (.inr rfl) (cell_of Hg12.out 0)) (And.intro (hb.2 g 1 _ (.inr rfl) (cell_of Hg12.out 1)) (And.intro (hb.2 g 2 _ (.inr rfl) (cell_of Hg12.out 2)) (And.intro (hb.2 g 3 _ (.inr rfl) (cell_of Hg12.out 3)) (And.intro (hb.2 g 4 _ (.inr rfl) (cell_of Hg12.out 4)) (And.intro (hb.2 g 5 _ (.inr rfl) (cell_of Hg12.out 5)) (hb.2 g 6 _ (.inr rfl) (cell_of Hg12.out 6)))))))))
   refine Ps.wp_par (Ps.relC (fun b => ownB (.slice ak s.msgs.length ck) b) (fun b _ => b = xb ∨ b = g)) (fun W => True ∧ W.ownsRow base 118 7 (.slice ak s.msgs.length ck) s.msgs.length css.flatten) (false :: false :: false :: false :: false :: false :: false :: false :: true :: []) _ (.fix ?_ :: .fix ?_ :: .fix ?_ :: .fix ?_ :: .fix ?_ :: .fix ?_ :: .fix ?_ :: .new (Ps.rowN 7 ?_ ?_ w12.heap.size) :: .st (some (s.msgs.length + 1)) (fun _ _ => True) (fun u W => True ∧ W.ownsRow base 118 7 u (s.msgs.length + 1) (css.flatten ++ [.int .u64 k, .string v1, .string v2, .string v3, .int .i64 v4, .slice av vs.length cv, .slice al l.length cl])) :: []) (by kernel_rfl) (by kernel_rfl) (by simp only [List.length_cons, List.length_nil, List.drop_succ_cons, List.drop_zero, List.drop_nil]; with_reducible rfl) rfl (fun _ _ _ _ _ => ⟨fun h => h, fun h => h⟩) (fun _ _ h hb => ⟨trivial, own_below h.2 hb⟩) (⟨trivial, Ho12.out⟩) ?_
   rotate_left 9
   iterate 7
    first
     | (refine Ps.par_skip (a' := ?_) (by rfl) (by rfl) ?_ ?_ ?_; rotate_left 1; with_reducible rfl; (simp only [lays]; with_reducible rfl))
     | (refine Ps.par_run (a' := ?_) (by rfl) (by rfl) (fun w' hb hn => ?_) ?_ ?_; rotate_left 1; (obtain ⟨q11, g0, g1, g2, g3, g4, g5, g6⟩ := HQ31.out w' hb; go_simp; (try simp (disch := omega) only [nrm, toNatUp, iteOmega]); first | with_reducible rfl | (go_simp; with_reducible rfl)); (simp only [lays]; with_reducible rfl))
   refine Ps.par_row (a' := ?ap32k7) (m := ?mp32k7) (T := ?Tp32k7) (cs := ?cp32k7) (r := ?rp32k7) (fun b h => m6.out b h) (by rfl) (by rfl) (fun w' hb hn => ?hp32k7) (fun w' => ?ep32k7) ?np32k7 ?vp32k7 ?lp32k7 ?xp32k7 (fun u => ?pp32k7) (fun u => ?gp32k7)
   case hp32k7 => (obtain ⟨q11, g0, g1, g2, g3, g4, g5, g6⟩ := HQ31.out w' hb; go_simp; (try simp (disch := omega) only [nrm, toNatUp, iteOmega]); with_reducible rfl)
   case ep32k7 => with_reducible rfl
   case np32k7 => with_reducible rfl
   case vp32k7 => with_reducible rfl
   case lp32k7 => simp only [List.length_cons, List.length_nil]
   case xp32k7 => (unfold maxLen; omega)
   case pp32k7 => (simp only [lays]; with_reducible rfl)
   refine Ps.par_app (a' := ?ap33k8) (A := fun W => True) 31 118 Tryz.underlying31 info_msgs rfl (by decide) mb (by unfold maxLen; omega) (by omega) (by simp [Value.oneCell']) (fun _ _ _ _ _ => trivial) (fun _ _ _ _ => trivial) (fun _ h => h) (fun b i hs hb => by rcases hs with rfl | rfl; exact n3.out hb; exact go.out hb) (by rfl) rfl rfl rfl rfl (fun w' hb hn => ?xp33k8) (fun u => ?pp33k8) (fun u hu8 => ?gp33k8)
   case xp33k8 => (exact (Ps.need_head hn (by kernel_rfl)).1)
   case pp33k8 => (simp only [lays]; with_reducible rfl)
   obtain ⟨au8, cu8, rfl⟩ := hu8
   refine Ps.par_end (fun w9 hb9 hf9 hr9 => ?_)
   try refine Ps.wpList_none ?_
   have Hx9 : RnC w9 xb (U s.pos) (U s.done) (U s.made) vp vi vt vj vr vs_ vk vl (.slice ak s.msgs.length ck) rb (odd || vb) := (hb9.1.block xb (heap_lt Hx12.out) n3.out).trans Hx12.out
   have Hr9 := hid ((hb9.1.block rb (heap_lt Hr12.out) n5.out).trans Hr12.out)
   have T8 : TyBut base [92, 89, 118] w w12 := T12.out.mono (fun i _ hi => hi.elim (fun h => h ▸ ⟨_, _, _, Hr.out, by decide, hbr⟩) (fun h => h ▸ ⟨_, _, _, Hx.out, by decide, hbx⟩))
   have T9 : TyBut base [92, 89, 118] w w9 := T8.trans' hb9.1 (fun i hi ho => own_ty Hown.out (by decide) ho)
   have Ho9 := hid hr9.2
   have Hv9 := hid (ownsRow_base (own_at Hv12.out hb9.1 (own_own_ne Hv12.out Ho12.out (by decide))) hbase)
   have Hi9 := hid (ownsRow_base (own_at Hi12.out hb9.1 (own_own_ne Hi12.out Ho12.out (by decide))) hbase)
   have k9 := cell_of Hx9 11
   have f9 := free_of Hx9 11
   clear hb9 hf9 hr9
   go_wp2
   have hs9 : RnC (w9.setCell ⟨xb, 11, none⟩ (.slice au8 (s.msgs.length + 1) cu8)) xb (U s.pos) (U s.done) (U s.made) vp vi vt vj vr vs_ vk vl (.slice au8 (s.msgs.length + 1) cu8) rb (odd || vb) := setCell_at Hx9 11 (.slice au8 (s.msgs.length + 1) cu8)
   have T10 : TyBut base [89] w9 (w9.setCell ⟨xb, 11, none⟩ (.slice au8 (s.msgs.length + 1) cu8)) := TyBut.set Hx9 (by decide) hbx 11 _
   generalize w9.setCell ⟨xb, 11, none⟩ (.slice au8 (s.msgs.length + 1) cu8) = w10 at hs9 T10 ⊢
   have T : TyBut base [92, 89, 118] w w10 := T9.trans (T10.weak (by decide))
   have hL := HL.out
   go_end0
   refine ⟨rfl, ⟨vp, vi, vt, vj, vr, vs_, vk, vl, (.slice au8 (s.msgs.length + 1) cu8), by exact hs9, ?_⟩, T10.at Hr9.out (by decide), T.weak (by decide)⟩
   exact ⟨hL.procs.keep DepV.ost T (by decide) (by decide) (by decide), hL.insts.keep InstV.ost T (by decide) (by decide) (by decide), hL.tokens.keep TokV.ost T (by decide) (by decide) (by decide), hL.jobs.keep JobV.ost T (by decide) (by decide) (by decide), hL.timers.keep TimV.ost T (by decide) (by decide) (by decide), hL.subs.keep SubV.ost T (by decide) (by decide) (by decide), hL.kept.keep KeptV.ost T (by decide) (by decide) (by decide), hL.listed.keep LisV.ost T (by decide) (by decide) (by decide), (LOwn.snoc A1.out A2.out (fun i cs x hc hx => MsgV.ost _ _ _ _ _ _ (by decide) (by decide) (A3.out i cs x hc hx) T9.kept) ⟨rfl, by simp [Value.oneCell']⟩ (show MsgV.ow w9 base _ ⟨k, v1, v2, v3, v4, vs, l⟩ from ⟨_, _, rfl, Hv9.out, Hi9.out⟩) Ho9.out).keep MsgV.ost T10 (by decide) (by decide) (by decide)⟩
  ·
   have hjv : decide ((j : Int) < (v6 : Int)) = true := by simp; omega
   obtain ⟨m', rfl⟩ : ∃ m', m = m' + 1 := ⟨m - 1, by omega⟩
   by_cases he : r'.e = 0
   ·
    have he' : (r'.e == 0) = true := by simpa using he
    have hl2 := hlen.out he
    replace hE := hid ((if_pos he : instsL (m' + 1) r' l = instsL m' (uintR r').2 (l ++ [(uintR r').1])).symm.trans hE.out)
    have hless := hid (uintR_less r')
    have hz2 := uintR_size r'
    have hv2' := uintR_lt r'
    have Hc9 := hid (fun W h => rrUint_any rb r' W h (by omega))
    clear he
    go_wp2_with fail
    clear hjv he' qe q12 hlen
    revert hE hless hz2 hv2' Hc9
    generalize uintR r' = p
    obtain ⟨uu, r2⟩ := p
    intro hE hless hz2 hv2' Hc9
    dsimp only at hE hless hz2 hv2' Hc9
    have nl := hid (own_ne hown.out hr.out (by decide))
    have nlx := hid (own_ne hown.out hx.out (by decide))
    have nlg := hid (own_ne hown.out hg.out (by decide))
    have nll := hid (own_lt hown.out)
    have hlr := heap_lt hr.out
    have hww := hT.out.size
    refine Ps.wp_par (Ps.relC (fun b => b = rb ∨ ownB (.slice al l.length cl) b) (fun b _ => b = xb ∨ b = g)) (fun W => IsR 92 W rb r' ∧ W.ownsRow w.heap.size 22 1 (.slice al l.length cl) l.length (natsV l)) (false :: false :: false :: false :: false :: false :: true :: false :: true :: []) _ (.fix ?_ :: .fix ?_ :: .fix ?_ :: .fix ?_ :: .fix ?_ :: .fix ?_ :: .sf (.int .u64 uu) (fun W => IsR 92 W rb r2 ∧ W.ownsRow w.heap.size 22 1 (.slice al l.length cl) l.length (natsV l)) :: .new (Ps.rowN 1 ?_ ?_ wr.heap.size) :: .st (some (l.length + 1)) (fun _ _ => True) (fun u' W => IsR 92 W rb r2 ∧ W.ownsRow w.heap.size 22 1 u' (l.length + 1) (natsV l ++ [U uu])) :: []) (by kernel_rfl) (by kernel_rfl) (by simp only [List.length_cons, List.length_nil, List.drop_succ_cons, List.drop_zero, List.drop_nil]; with_reducible rfl) rfl (fun _ _ _ _ _ => ⟨fun h => h, fun h => h⟩) (fun _ _ h hb => ⟨h.1.grow hb, own_below h.2 hb⟩) (⟨hr.out, hown.out⟩) ?_
    rotate_left 8
    iterate 6
     first
      | (refine Ps.par_skip (a' := ?_) (by rfl) (by rfl) ?_ ?_ ?_; rotate_left 1; with_reducible rfl; (simp only [lays]; with_reducible rfl))
      | (refine Ps.par_run (a' := ?_) (by rfl) (by rfl) (fun w' hb hn => ?_) ?_ ?_; rotate_left 1; (have q12 := hb.2 xb 12 _ (.inl rfl) (cell_of hx.out 12); have q6 := hb.2 g 6 _ (.inr rfl) (cell_of hg.out 6); go_simp; (try simp (disch := omega) only [nrm, toNatUp, iteOmega]); first | with_reducible rfl | (go_simp; with_reducible rfl)); (simp only [lays]; with_reducible rfl))
    refine Ps.par_sf (a' := ?_) (f := ?_) (args := ?_) (by rfl) (by rfl) (fun w' => ?_) (fun _ _ h hb => ⟨h.1.grow hb, own_below h.2 hb⟩) (fun w' hb hn hr => ?_) ?_ ?_; rotate_left 3; (go_simp; constructor <;> with_reducible rfl); (exact (Hc9.out w' hr.1).mono (fun e w2 ⟨he, h2, b2⟩ => ⟨he, ⟨b2.mono (fun _ _ h => .inl h), fun b i v hs hc => But.cell b2 hc (by rcases hs with rfl | rfl; exact n1; exact gr)⟩, h2, own_at hr.2 b2 (fun g hg he => nl.out (he ▸ hg))⟩)); (simp only [lays]; with_reducible rfl)
    refine Ps.par_row (a' := ?ap35k7) (m := ?mp35k7) (T := ?Tp35k7) (cs := ?cp35k7) (r := ?rp35k7) (fun b h => h.elim (fun h => by omega) (nll.out b)) (by rfl) (by rfl) (fun w' hb hn => ?hp35k7) (fun w' => ?ep35k7) ?np35k7 ?vp35k7 ?lp35k7 ?xp35k7 (fun u => ?pp35k7) (fun u => ?gp35k7)
    case hp35k7 => (have q12 := hb.2 xb 12 _ (.inl rfl) (cell_of hx.out 12); have q6 := hb.2 g 6 _ (.inr rfl) (cell_of hg.out 6); go_simp; (try simp (disch := omega) only [nrm, toNatUp, iteOmega]); with_reducible rfl)
    case ep35k7 => with_reducible rfl
    case np35k7 => with_reducible rfl
    case vp35k7 => with_reducible rfl
    case lp35k7 => simp only [List.length_cons, List.length_nil]
    case xp35k7 => (unfold maxLen; omega)
    case pp35k7 => (simp only [lays]; with_reducible rfl)
    refine Ps.par_app (a' := ?ap36k8) (A := fun W => IsR 92 W rb r2) 116 22 Tryz.underlying116 info_u64 rfl (by decide) hww (by unfold maxLen; omega) (by omega) (by simp [Value.oneCell']) (fun _ _ h ho hb => (hb.block rb (heap_lt h) nl.out).trans h) (fun _ _ h hb => h.grow hb) (fun _ h => .inr h) (fun b i hs hb => by rcases hs with rfl | rfl; exact nlx.out hb; exact nlg.out hb) (by rfl) rfl rfl rfl rfl (fun w' hb hn => ?xp36k8) (fun u => ?pp36k8) (fun u hu8 => ?gp36k8)
    case xp36k8 => (exact (Ps.need_head hn (by kernel_rfl)).1)
    case pp36k8 => (simp only [lays]; with_reducible rfl)
    obtain ⟨au8, cu8, rfl⟩ := hu8
    refine Ps.par_end (fun w9 hb9 hf9 hr9 => ?_)
    try refine Ps.wpList_none ?_
    have hbb := hb9.1
    replace hbb := hid hbb
    have hx9 : Hid (RnC w9 xb (U s.pos) (U s.done) (U s.made) vp vi vt vj vr vs_ vk vl (.slice ak s.msgs.length ck) rb (odd || vb)) := (hbb.out.block xb (heap_lt hx.out) (fun h => h.elim n1 nlx.out)).trans hx.out
    have hg9 := hid ((hbb.out.block g (heap_lt hg.out) (fun h => h.elim gr nlg.out)).trans hg.out)
    have ho9 := hid (own_at ho.out hbb.out (fun i hi he => he.elim (fun he => n5.out (he ▸ hi)) (fun he => own_own_ne ho.out hown.out (by decide) i hi he)))
    have hv9 := hid (own_at hv.out hbb.out (fun i hi he => he.elim (fun he => by have := (hv.out.lt i hi).1; omega) (fun he => own_own_ne hv.out hown.out (by decide) i hi he)))
    have hT9 := hid (But.trans' hT.out hbb.out (fun i hi he => he.elim .inl (fun he => by have := (hown.out.lt i he).1; omega)))
    have hr9a := hid hr9.1
    have hi9 := hid hr9.2
    have kg := cell_of hg9.out 6
    have fg := free_of hg9.out 6
    clear hb9 hf9 hr9 hbb
    go_wp2_with fail
    have bg := Rb.set (w := w9) g 6 (.slice au8 (l.length + 1) cu8)
    have go2 : ¬ ownB (.slice au8 (l.length + 1) cu8) g := own_ne hi9.out hg9.out (by decide)
    refine ⟨⟨m', j + 1, r2, l ++ [uu], .slice au8 (l.length + 1) cu8, by simp, by omega, by omega, hE.out, fun he => by have := hless.out he; simp; omega, by simpa [natsV_snoc] using own_at hi9.out bg (fun i hi he => go2 (he ▸ hi)), bg.at hr9a.out (Ne.symm gr), bg.at hx9.out (Ne.symm gx), setCell_at hg9.out 6 _, own_at ho9.out bg (fun i hi he => go.out (he ▸ hi)), own_at hv9.out bg (fun i hi he => own_ne hv9.out hg9.out (by decide) (he ▸ hi)), But.trans' hT9.out bg (fun i hi he => by have := hgw.out; omega)⟩, by simp [intOf]; omega⟩
   ·
    have he' : (r'.e == 0) = false := by simpa using he
    obtain ⟨rfl, rfl⟩ : l = ns ∧ r' = r7 := by have := (if_neg he : instsL (m' + 1) r' l = (l, r')).symm.trans hE.out; simpa using this
    clear he
    go_wp2_with fail
    clear hjv hlen hE he'
    have Hx12 := hx
    have Hr12 := hr
    have Hg12 := hg
    have Ho12 := ho
    have T12 := hT
    have Hi12 := hown
    have Hv12 := hv
    clear hx hr hg ho hT hown hv qe q12
    generalize hwr : wr = w12 at Hx12 Hr12 Hg12 Ho12 T12 Hi12 Hv12 ⊢
    clear hwr
    have gi := Hi12
    have m6 := hid (fun b (h : ownB (.slice ak s.msgs.length ck) b) => Nat.lt_of_lt_of_le (n6.out b h) T12.out.size)
    have mb : base ≤ w12.heap.size := Nat.le_trans hbase T12.out.size
    have HQ37 := hid (fun w' (hb : (Ps.relC (fun b => ownB (.slice ak s.msgs.length ck) b) (fun b _ => b = xb ∨ b = g)).G w12 w') => And.intro (hb.2 xb 11 _ (.inl rfl) (cell_of Hx12.out 11)) (And.intro (hb.2 g 0 _ (.inr rfl) (cell_of Hg12.out 0)) (And.intro (hb.2 g 1 _ (.inr rfl) (cell_of Hg12.out 1)) (And.intro (hb.2 g 2 _ (.inr rfl) (cell_of Hg12.out 2)) (And.intro (hb.2 g 3 _ (.inr rfl) (cell_of Hg12.out 3)) (And.intro (hb.2 g 4 _ (.inr rfl) (cell_of Hg12.out 4)) (And.intro (hb.2 g 5 _ (.inr rfl) (cell_of Hg12.out 5)) (hb.2 g 6 _ (.inr rfl) (cell_of Hg12.out 6)))))))))
    refine Ps.wp_par (Ps.relC (fun b => ownB (.slice ak s.msgs.length ck) b) (fun b _ => b = xb ∨ b = g)) (fun W => True ∧ W.ownsRow base 118 7 (.slice ak s.msgs.length ck) s.msgs.length css.flatten) (false :: false :: false :: false :: false :: false :: false :: false :: true :: []) _ (.fix ?_ :: .fix ?_ :: .fix ?_ :: .fix ?_ :: .fix ?_ :: .fix ?_ :: .fix ?_ :: .new (Ps.rowN 7 ?_ ?_ w12.heap.size) :: .st (some (s.msgs.length + 1)) (fun _ _ => True) (fun u W => True ∧ W.ownsRow base 118 7 u (s.msgs.length + 1) (css.flatten ++ [.int .u64 k, .string v1, .string v2, .string v3, .int .i64 v4, .slice av vs.length cv, .slice al l.length cl])) :: []) (by kernel_rfl) (by kernel_rfl) (by simp only [List.length_cons, List.length_nil, List.drop_succ_cons, List.drop_zero, List.drop_nil]; with_reducible rfl) rfl (fun _ _ _ _ _ => ⟨fun h => h, fun h => h⟩) (fun _ _ h hb => ⟨trivial, own_below h.2 hb⟩) (⟨trivial, Ho12.out⟩) ?_
    rotate_left 9
    iterate 7
     first
      | (refine Ps.par_skip (a' := ?_) (by rfl) (by rfl) ?_ ?_ ?_; rotate_left 1; with_reducible rfl; (simp only [lays]; with_reducible rfl))
      | (refine Ps.par_run (a' := ?_) (by rfl) (by rfl) (fun w' hb hn => ?_) ?_ ?_; rotate_left 1; (obtain ⟨q11, g0, g1, g2, g3, g4, g5, g6⟩ := HQ37.out w' hb; go_simp; (try simp (disch := omega) only [nrm, toNatUp, iteOmega]); first | with_reducible rfl | (go_simp; with_reducible rfl)); (simp only [lays]; with_reducible rfl))
    refine Ps.par_row (a' := ?ap38k7) (m := ?mp38k7) (T := ?Tp38k7) (cs := ?cp38k7) (r := ?rp38k7) (fun b h => m6.out b h) (by rfl) (by rfl) (fun w' hb hn => ?hp38k7) (fun w' => ?ep38k7) ?np38k7 ?vp38k7 ?lp38k7 ?xp38k7 (fun u => ?pp38k7) (fun u => ?gp38k7)
    case hp38k7 => (obtain ⟨q11, g0, g1, g2, g3, g4, g5, g6⟩ := HQ37.out w' hb; go_simp; (try simp (disch := omega) only [nrm, toNatUp, iteOmega]); with_reducible rfl)
    case ep38k7 => with_reducible rfl
    case np38k7 => with_reducible rfl
    case vp38k7 => with_reducible rfl
    case lp38k7 => simp only [List.length_cons, List.length_nil]
    case xp38k7 => (unfold maxLen; omega)
    case pp38k7 => (simp only [lays]; with_reducible rfl)
    refine Ps.par_app (a' := ?ap39k8) (A := fun W => True) 31 118 Tryz.underlying31 info_msgs rfl (by decide) mb (by unfold maxLen; omega) (by omega) (by simp [Value.oneCell']) (fun _ _ _ _ _ => trivial) (fun _ _ _ _ => trivial) (fun _ h => h) (fun b i hs hb => by rcases hs with rfl | rfl; exact n3.out hb; exact go.out hb) (by rfl) rfl rfl rfl rfl (fun w' hb hn => ?xp39k8) (fun u => ?pp39k8) (fun u hu8 => ?gp39k8)
    case xp39k8 => (exact (Ps.need_head hn (by kernel_rfl)).1)
    case pp39k8 => (simp only [lays]; with_reducible rfl)
    obtain ⟨au8, cu8, rfl⟩ := hu8
    refine Ps.par_end (fun w9 hb9 hf9 hr9 => ?_)
    try refine Ps.wpList_none ?_
    have Hx9 : RnC w9 xb (U s.pos) (U s.done) (U s.made) vp vi vt vj vr vs_ vk vl (.slice ak s.msgs.length ck) rb (odd || vb) := (hb9.1.block xb (heap_lt Hx12.out) n3.out).trans Hx12.out
    have Hr9 := hid ((hb9.1.block rb (heap_lt Hr12.out) n5.out).trans Hr12.out)
    have T8 : TyBut base [92, 89, 118] w w12 := T12.out.mono (fun i _ hi => hi.elim (fun h => h ▸ ⟨_, _, _, Hr.out, by decide, hbr⟩) (fun h => h ▸ ⟨_, _, _, Hx.out, by decide, hbx⟩))
    have T9 : TyBut base [92, 89, 118] w w9 := T8.trans' hb9.1 (fun i hi ho => own_ty Hown.out (by decide) ho)
    have Ho9 := hid hr9.2
    have Hv9 := hid (ownsRow_base (own_at Hv12.out hb9.1 (own_own_ne Hv12.out Ho12.out (by decide))) hbase)
    have Hi9 := hid (ownsRow_base (own_at Hi12.out hb9.1 (own_own_ne Hi12.out Ho12.out (by decide))) hbase)
    have k9 := cell_of Hx9 11
    have f9 := free_of Hx9 11
    clear hb9 hf9 hr9
    go_wp2
    have hs9 : RnC (w9.setCell ⟨xb, 11, none⟩ (.slice au8 (s.msgs.length + 1) cu8)) xb (U s.pos) (U s.done) (U s.made) vp vi vt vj vr vs_ vk vl (.slice au8 (s.msgs.length + 1) cu8) rb (odd || vb) := setCell_at Hx9 11 (.slice au8 (s.msgs.length + 1) cu8)
    have T10 : TyBut base [89] w9 (w9.setCell ⟨xb, 11, none⟩ (.slice au8 (s.msgs.length + 1) cu8)) := TyBut.set Hx9 (by decide) hbx 11 _
    generalize w9.setCell ⟨xb, 11, none⟩ (.slice au8 (s.msgs.length + 1) cu8) = w10 at hs9 T10 ⊢
    have T : TyBut base [92, 89, 118] w w10 := T9.trans (T10.weak (by decide))
    have hL := HL.out
    go_end0
    refine ⟨rfl, ⟨vp, vi, vt, vj, vr, vs_, vk, vl, (.slice au8 (s.msgs.length + 1) cu8), by exact hs9, ?_⟩, T10.at Hr9.out (by decide), T.weak (by decide)⟩
    exact ⟨hL.procs.keep DepV.ost T (by decide) (by decide) (by decide), hL.insts.keep InstV.ost T (by decide) (by decide) (by decide), hL.tokens.keep TokV.ost T (by decide) (by decide) (by decide), hL.jobs.keep JobV.ost T (by decide) (by decide) (by decide), hL.timers.keep TimV.ost T (by decide) (by decide) (by decide), hL.subs.keep SubV.ost T (by decide) (by decide) (by decide), hL.kept.keep KeptV.ost T (by decide) (by decide) (by decide), hL.listed.keep LisV.ost T (by decide) (by decide) (by decide), (LOwn.snoc A1.out A2.out (fun i cs x hc hx => MsgV.ost _ _ _ _ _ _ (by decide) (by decide) (A3.out i cs x hc hx) T9.kept) ⟨rfl, by simp [Value.oneCell']⟩ (show MsgV.ow w9 base _ ⟨k, v1, v2, v3, v4, vs, l⟩ from ⟨_, _, rfl, Hv9.out, Hi9.out⟩) Ho9.out).keep MsgV.ost T10 (by decide) (by decide) (by decide)⟩
end Go.Proofs.YthikijlbclckdaaGreat
