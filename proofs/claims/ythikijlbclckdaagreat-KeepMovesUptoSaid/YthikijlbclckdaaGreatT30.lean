/- Keep: contracts (Cr). -/
import Derived.Test.YthikijlbclckdaaGreatT20
import Derived.Test.YthikijlbclckdaaGreatT21
import Derived.Test.YthikijlbclckdaaGreatT29
namespace Go.Proofs.YthikijlbclckdaaGreat
set_option maxRecDepth 100000
set_option maxHeartbeats 40000000
set_option linter.unusedSimpArgs false
set_option linter.unusedVariables false
open Go.IntWalk Go.RowKit
theorem doF_len (c : ChgV) (a : List RowV × Bool) (x : RowV) : (doF c a x).1.length + (if (doF c a x).2 = true then 0 else 1) ≤ a.1.length + (if a.2 = true then 0 else 1) + 1 := by
 unfold doF
 split
 ·
  omega
 ·
  split
  ·
   rename_i h
   rw [h.1]
   simp
  ·
   simp only [List.length_append, List.length_cons, List.length_nil]
   omega
theorem doL_len (c : ChgV) (l : List RowV) : (doL c l).1.length + (if (doL c l).2 = true then 0 else 1) ≤ l.length + 1 := by
 suffices h : ∀ (l : List RowV) (a : List RowV × Bool), (l.foldl (doF c) a).1.length + (if (l.foldl (doF c) a).2 = true then 0 else 1) ≤ a.1.length + (if a.2 = true then 0 else 1) + l.length by
  have h2 := h l ([], c.gone)
  unfold doL
  refine Nat.le_trans h2 ?_
  simp only [List.length_nil]
  split <;> omega
 intro l
 induction l with
 | nil => intro a; exact Nat.le_refl _
 | cons x l ih =>
  intro a
  rw [List.foldl_cons, List.length_cons]
  have h1 := ih (doF c a x)
  have h2 := doF_len c a x
  omega
theorem doOne_len (l : List RowV) (c : ChgV) : (doOne l c).length ≤ l.length + 1 := by
 have h := doL_len c l
 unfold doOne
 split
 ·
  omega
 ·
  rename_i h2
  rw [if_neg h2] at h
  simp only [List.length_append, List.length_cons, List.length_nil]
  omega
theorem moves_len : ∀ (cs : List ChgV) (l : List RowV), (cs.foldl doOne l).length ≤ l.length + cs.length
 | [], _ => Nat.le_refl _
 | c :: cs, l => by
  rw [List.foldl_cons, List.length_cons]
  have h1 := moves_len cs (doOne l c)
  have h2 := doOne_len l c
  omega
theorem keepMoves_any (sa sb : StateV) (hoa : StateOk sa) (hob : StateOk sb) (hmany : (rows sb).length ≤ 2097152) (ca cb : List Value) (vp vi vt vj vr vs vk vl vm up ui ut uj ur us uk ul um : Value) (w : World) (ha : StateAt w ca sa vp vi vt vj vr vs vk vl vm) (hb : StateAt w cb sb up ui ut uj ur us uk ul um) :
  Calls Tryz.prog 8 #[.agg ca.toArray, .agg cb.toArray] w fun e w' => e = .returned (.bool true) ∧ Below w.heap.size w w' := by
 have HA := hid ha
 have HB := hid hb
 have Hoa := hid hoa
 have Hob := hid hob
 obtain ⟨hcs, hp, hi, ht, hj, hr, hs, hk, hl, hm⟩ := ha
 obtain ⟨xap, xcp, rfl, -⟩ := hp
 obtain ⟨xai, xci, rfl, -⟩ := hi
 obtain ⟨xat, xct, rfl, -⟩ := ht
 obtain ⟨xaj, xcj, rfl, -⟩ := hj
 obtain ⟨xar, xcr, rfl, -⟩ := hr
 obtain ⟨xas, xcs, rfl, -⟩ := hs
 obtain ⟨xak, xck, rfl, -⟩ := hk
 obtain ⟨xal, xcl, rfl, -⟩ := hl
 obtain ⟨xam, xcm, rfl, -⟩ := hm
 subst hcs
 obtain ⟨hcs, hp, hi, ht, hj, hr, hs, hk, hl, hm⟩ := hb
 obtain ⟨yap, ycp, rfl, -⟩ := hp
 obtain ⟨yai, yci, rfl, -⟩ := hi
 obtain ⟨yat, yct, rfl, -⟩ := ht
 obtain ⟨yaj, ycj, rfl, -⟩ := hj
 obtain ⟨yar, ycr, rfl, -⟩ := hr
 obtain ⟨yas, ycs, rfl, -⟩ := hs
 obtain ⟨yak, yck, rfl, -⟩ := hk
 obtain ⟨yal, ycl, rfl, -⟩ := hl
 obtain ⟨yam, ycm, rfl, -⟩ := hm
 subst hcs
 clear hoa hob
 go_enter Tryz.func8, Tryz.ntmps8
 go_wp2_with fail
 obtain ⟨w0, hw0, g1, g2, bl0, sz0⟩ := alloc2 w (.cells #[U sa.pos, U sa.done, U sa.made, .slice xap sa.procs.length xcp, .slice xai sa.insts.length xci, .slice xat sa.tokens.length xct, .slice xaj sa.jobs.length xcj, .slice xar sa.timers.length xcr, .slice xas sa.subs.length xcs, .slice xak sa.kept.length xck, .slice xal sa.listed.length xcl, .slice xam sa.msgs.length xcm] 33) (.cells #[U sb.pos, U sb.done, U sb.made, .slice yap sb.procs.length ycp, .slice yai sb.insts.length yci, .slice yat sb.tokens.length yct, .slice yaj sb.jobs.length ycj, .slice yar sb.timers.length ycr, .slice yas sb.subs.length ycs, .slice yak sb.kept.length yck, .slice yal sb.listed.length ycl, .slice yam sb.msgs.length ycm] 33)
 try rw [← hw0]
 have X0 := hid g1
 have Y0 := hid g2
 have B0 := hid bl0
 clear g1 g2 bl0 hw0 sz0
 refine (shown_any w0).mono ?_
 rintro e w1 ⟨rfl, b1⟩
 have X1 := hid ((b1.block w.heap.size (heap_lt X0.out)).trans X0.out)
 have Y1 := hid ((b1.block (w.heap.size + 1) (heap_lt Y0.out)).trans Y0.out)
 have B1 := hid (B0.out.trans (b1.mono B0.out.size))
 clear b1 X0 Y0 B0
 obtain ⟨k0, k1, k2, k3, k4, k5, k6, k7, k8, k9, k10, k11⟩ := cells12 X1.out
 have l0 := cell_of Y1.out 0
 have l1 := cell_of Y1.out 1
 have l2 := cell_of Y1.out 2
 have l3 := cell_of Y1.out 3
 have l4 := cell_of Y1.out 4
 have l5 := cell_of Y1.out 5
 have l6 := cell_of Y1.out 6
 have l7 := cell_of Y1.out 7
 have l8 := cell_of Y1.out 8
 have l9 := cell_of Y1.out 9
 have l10 := cell_of Y1.out 10
 have l11 := cell_of Y1.out 11
 go_wp2_with fail
 refine (rsmay_any sa Hoa.out [U sa.pos, U sa.done, U sa.made, .slice xap sa.procs.length xcp, .slice xai sa.insts.length xci, .slice xat sa.tokens.length xct, .slice xaj sa.jobs.length xcj, .slice xar sa.timers.length xcr, .slice xas sa.subs.length xcs, .slice xak sa.kept.length xck, .slice xal sa.listed.length xcl, .slice xam sa.msgs.length xcm] _ _ _ _ _ _ _ _ _ w1 (HA.out.grow B1.out)).mono ?_
 rintro e w2 ⟨rfl, b2⟩
 have X2 := hid ((b2.block w.heap.size (heap_lt X1.out)).trans X1.out)
 have Y2 := hid ((b2.block (w.heap.size + 1) (heap_lt Y1.out)).trans Y1.out)
 have B2 := hid (B1.out.trans (b2.mono B1.out.size))
 clear b2 X1 Y1 B1 k0 k1 k2 k3 k4 k5 k6 k7 k8 k9 k10 k11 l0 l1 l2 l3 l4 l5 l6 l7 l8 l9 l10 l11
 obtain ⟨k0, k1, k2, k3, k4, k5, k6, k7, k8, k9, k10, k11⟩ := cells12 X2.out
 have l0 := cell_of Y2.out 0
 have l1 := cell_of Y2.out 1
 have l2 := cell_of Y2.out 2
 have l3 := cell_of Y2.out 3
 have l4 := cell_of Y2.out 4
 have l5 := cell_of Y2.out 5
 have l6 := cell_of Y2.out 6
 have l7 := cell_of Y2.out 7
 have l8 := cell_of Y2.out 8
 have l9 := cell_of Y2.out 9
 have l10 := cell_of Y2.out 10
 have l11 := cell_of Y2.out 11
 go_wp2_with fail
 refine (rsmay_any sb Hob.out [U sb.pos, U sb.done, U sb.made, .slice yap sb.procs.length ycp, .slice yai sb.insts.length yci, .slice yat sb.tokens.length yct, .slice yaj sb.jobs.length ycj, .slice yar sb.timers.length ycr, .slice yas sb.subs.length ycs, .slice yak sb.kept.length yck, .slice yal sb.listed.length ycl, .slice yam sb.msgs.length ycm] _ _ _ _ _ _ _ _ _ w2 (HB.out.grow B2.out)).mono ?_
 rintro e w3 ⟨rfl, b3⟩
 have X3 := hid ((b3.block w.heap.size (heap_lt X2.out)).trans X2.out)
 have Y3 := hid ((b3.block (w.heap.size + 1) (heap_lt Y2.out)).trans Y2.out)
 have B3 := hid (B2.out.trans (b3.mono B2.out.size))
 clear b3 X2 Y2 B2 k0 k1 k2 k3 k4 k5 k6 k7 k8 k9 k10 k11 l0 l1 l2 l3 l4 l5 l6 l7 l8 l9 l10 l11
 cases hma : mayB sa with
 | false =>
  go_wp2
  go_ret
  exact ⟨rfl, B3.out⟩
 | true =>
 cases hmb : mayB sb with
 | false =>
  go_wp2
  go_ret
  exact ⟨rfl, B3.out⟩
 | true =>
 have hua := up_adj (rows sa) (fun i r q hr hq => rows_rise hma hr hq)
 have hub := up_adj (rows sb) (fun i r q hr hq => rows_rise hmb hr hq)
 have hla : (rows sa).length ≤ 4194304 := rows_len Hoa.out
 have hlb : (rows sb).length ≤ 4194304 := rows_len Hob.out
 have hza := hid (rowsSz sa Hoa.out)
 have hzb := hid (rowsSz sb Hob.out)
 have hch : Hid (chgS (rows sa) sb = mergeC (rows sa) (rows sb)) := by show _ = _; unfold chgS; rw [if_pos hmb, up_ris hua]
 obtain ⟨k0, k1, k2, k3, k4, k5, k6, k7, k8, k9, k10, k11⟩ := cells12 X3.out
 have l0 := cell_of Y3.out 0
 have l1 := cell_of Y3.out 1
 have l2 := cell_of Y3.out 2
 have l3 := cell_of Y3.out 3
 have l4 := cell_of Y3.out 4
 have l5 := cell_of Y3.out 5
 have l6 := cell_of Y3.out 6
 have l7 := cell_of Y3.out 7
 have l8 := cell_of Y3.out 8
 have l9 := cell_of Y3.out 9
 have l10 := cell_of Y3.out 10
 have l11 := cell_of Y3.out 11
 go_wp2_with fail
 refine (srows_any sa Hoa.out [U sa.pos, U sa.done, U sa.made, .slice xap sa.procs.length xcp, .slice xai sa.insts.length xci, .slice xat sa.tokens.length xct, .slice xaj sa.jobs.length xcj, .slice xar sa.timers.length xcr, .slice xas sa.subs.length xcs, .slice xak sa.kept.length xck, .slice xal sa.listed.length xcl, .slice xam sa.msgs.length xcm] _ _ _ _ _ _ _ _ _ w3 (HA.out.grow B3.out)).mono ?_
 rintro e w4 ⟨lc, v, rfl, hlc, hv, b4⟩
 have X4 := hid ((b4.block w.heap.size (heap_lt X3.out)).trans X3.out)
 have Y4 := hid ((b4.block (w.heap.size + 1) (heap_lt Y3.out)).trans Y3.out)
 have B4 := hid (B3.out.trans (b4.mono B3.out.size))
 rw [toldS_yes hma] at hv
 have Hlc := hid hlc
 have Hv := hid hv
 clear b4 hlc hv X3 Y3 B3 k0 k1 k2 k3 k4 k5 k6 k7 k8 k9 k10 k11 l0 l1 l2 l3 l4 l5 l6 l7 l8 l9 l10 l11
 go_wp2_with fail
 refine (told_any lc _ v w4 Hlc.out Hv.out hla).mono ?_
 rintro e w5 ⟨u1, rfl, hf1, b5⟩
 have X5 := hid ((b5.block w.heap.size (heap_lt X4.out)).trans X4.out)
 have Y5 := hid ((b5.block (w.heap.size + 1) (heap_lt Y4.out)).trans Y4.out)
 have B5 := hid (B4.out.trans (b5.mono B4.out.size))
 have F5 := hid hf1
 clear b5 Hlc Hv X4 Y4 B4
 have hnone : Hid (chgS (rows sa) sa = []) := by show _ = _; unfold chgS; rw [if_pos hma, up_ris hua]; exact merge_self _
 have hly := heap_lt Y5.out
 have hlx := heap_lt X5.out
 have l0 := cell_of Y5.out 0
 have l1 := cell_of Y5.out 1
 have l2 := cell_of Y5.out 2
 have l3 := cell_of Y5.out 3
 have l4 := cell_of Y5.out 4
 have l5 := cell_of Y5.out 5
 have l6 := cell_of Y5.out 6
 have l7 := cell_of Y5.out 7
 have l8 := cell_of Y5.out 8
 have l9 := cell_of Y5.out 9
 have l10 := cell_of Y5.out 10
 have l11 := cell_of Y5.out 11
 go_wp2_with fail
 refine wp_par (fun _ => False) (fun _ => True) (List.replicate 4 false) _ [.fix ?_, .new (fun u W => ∃ kb vb, u = overV kb vb ∧ OverAt W kb vb (rows sa)), .fix ?_, .new (chgF (chgS (rows sa) sb))] (by kernel_rfl) (by kernel_rfl) (by simp only [List.length_replicate, List.drop_succ_cons, List.drop_zero, List.drop_nil]; with_reducible rfl) rfl (fun _ _ _ _ _ => ⟨fun h => h, fun h => h⟩) (fun _ _ h _ => h) trivial ?_
 rotate_left 2
 iterate 1
  first
   | (refine par_skip (a' := ?_) (by rfl) (by rfl) ?_ ?_ ?_; rotate_left 1; with_reducible rfl; (simp only [lays]; with_reducible rfl))
   | (refine par_run (a' := ?_) (by rfl) (by rfl) (fun w' hb hn => ?_) ?_ ?_; rotate_left 1; (have hc := hb.cells; go_simp; (try simp (disch := omega) only [nrm, toNatUp, iteOmega]); first | with_reducible rfl | (go_simp; with_reducible rfl)); (simp only [lays]; with_reducible rfl))
 refine par_callF (a' := ?a239k1) (f := ?f239k1) (args := ?r239k1) (by rfl) (by rfl) (fun w' => ?e239k1) (over_st (rows sa)) (fun w' hb hn => ?h239k1) (fun u => ?p239k1) (fun u => ?g239k1)
 case e239k1 => (go_simp; constructor <;> with_reducible rfl)
 case h239k1 => (exact (over_any (rows sa) (by omega) _ w' (rowsF_st _ _ _ _ F5.out hb.grow)).mono (fun e w2 h => by obtain ⟨kb, vb, he, ho, hb⟩ := h; exact ⟨_, he, ⟨kb, vb, rfl, ho⟩, hb⟩))
 case p239k1 => (simp only [lays]; with_reducible rfl)
 iterate 1
  first
   | (refine par_skip (a' := ?_) (by rfl) (by rfl) ?_ ?_ ?_; rotate_left 1; with_reducible rfl; (simp only [lays]; with_reducible rfl))
   | (refine par_run (a' := ?_) (by rfl) (by rfl) (fun w' hb hn => ?_) ?_ ?_; rotate_left 1; (have hc := hb.cells; go_simp; (try simp (disch := omega) only [nrm, toNatUp, iteOmega]); first | with_reducible rfl | (go_simp; with_reducible rfl)); (simp only [lays]; with_reducible rfl))
 refine par_callF (a' := ?a247k3) (f := ?f247k3) (args := ?r247k3) (by rfl) (by rfl) (fun w' => ?e247k3) (chgF_st _) (fun w' hb hn => ?h247k3) (fun u => ?p247k3) (fun u => ?g247k3)
 case e247k3 => (go_simp; constructor <;> with_reducible rfl)
 case h247k3 => ((obtain ⟨kb, vb, rfl, ho⟩ := need_head hn (by kernel_rfl); exact schanges_any kb vb (rows sa) hla hza.out sb Hob.out [U sb.pos, U sb.done, U sb.made, .slice yap sb.procs.length ycp, .slice yai sb.insts.length yci, .slice yat sb.tokens.length yct, .slice yaj sb.jobs.length ycj, .slice yar sb.timers.length ycr, .slice yas sb.subs.length ycs, .slice yak sb.kept.length yck, .slice yal sb.listed.length ycl, .slice yam sb.msgs.length ycm] _ _ _ _ _ _ _ _ _ w' ho (HB.out.grow (B5.out.trans (hb.grow.mono B5.out.size)))))
 case p247k3 => (simp only [lays]; with_reducible rfl)
 refine par_end (fun w9 hb9 hf9 _ => ?_)
 replace hb9 := hb9.grow
 try refine wpList_none ?_
 have X9 := hid ((hb9.block w.heap.size (heap_lt X5.out)).trans X5.out)
 have Y9 := hid ((hb9.block (w.heap.size + 1) (heap_lt Y5.out)).trans Y5.out)
 have B9 := hid (B5.out.trans (hb9.mono B5.out.size))
 have F9 := hid (rowsF_st _ _ _ _ F5.out hb9)
 simp only [List.forall_mem_cons] at hf9
 obtain ⟨gA, -⟩ := hf9
 rw [hch.out] at gA
 have GA := hid gA
 clear hb9 gA X5 Y5 B5 F5 hly hlx l0 l1 l2 l3 l4 l5 l6 l7 l8 l9 l10 l11
 obtain ⟨w10, rfl⟩ : ∃ w10 : World, w10 = w9 := ⟨_, rfl⟩
 have hlx := heap_lt X9.out
 obtain ⟨k0, k1, k2, k3, k4, k5, k6, k7, k8, k9, k10, k11⟩ := cells12 X9.out
 go_wp2_with fail
 refine wp_par (fun _ => False) (fun _ => True) (List.replicate 4 false) _ [.fix ?_, .new (fun u W => ∃ kb vb, u = overV kb vb ∧ OverAt W kb vb (rows sa)), .fix ?_, .new (chgF (chgS (rows sa) sa))] (by kernel_rfl) (by kernel_rfl) (by simp only [List.length_replicate, List.drop_succ_cons, List.drop_zero, List.drop_nil]; with_reducible rfl) rfl (fun _ _ _ _ _ => ⟨fun h => h, fun h => h⟩) (fun _ _ h _ => h) trivial ?_
 rotate_left 2
 iterate 1
  first
   | (refine par_skip (a' := ?_) (by rfl) (by rfl) ?_ ?_ ?_; rotate_left 1; with_reducible rfl; (simp only [lays]; with_reducible rfl))
   | (refine par_run (a' := ?_) (by rfl) (by rfl) (fun w' hb hn => ?_) ?_ ?_; rotate_left 1; (have hc := hb.cells; go_simp; (try simp (disch := omega) only [nrm, toNatUp, iteOmega]); first | with_reducible rfl | (go_simp; with_reducible rfl)); (simp only [lays]; with_reducible rfl))
 refine par_callF (a' := ?a284k1) (f := ?f284k1) (args := ?r284k1) (by rfl) (by rfl) (fun w' => ?e284k1) (over_st (rows sa)) (fun w' hb hn => ?h284k1) (fun u => ?p284k1) (fun u => ?g284k1)
 case e284k1 => (go_simp; constructor <;> with_reducible rfl)
 case h284k1 => (exact (over_any (rows sa) (by omega) _ w' (rowsF_st _ _ _ _ F9.out hb.grow)).mono (fun e w2 h => by obtain ⟨kb, vb, he, ho, hb⟩ := h; exact ⟨_, he, ⟨kb, vb, rfl, ho⟩, hb⟩))
 case p284k1 => (simp only [lays]; with_reducible rfl)
 iterate 1
  first
   | (refine par_skip (a' := ?_) (by rfl) (by rfl) ?_ ?_ ?_; rotate_left 1; with_reducible rfl; (simp only [lays]; with_reducible rfl))
   | (refine par_run (a' := ?_) (by rfl) (by rfl) (fun w' hb hn => ?_) ?_ ?_; rotate_left 1; (have hc := hb.cells; go_simp; (try simp (disch := omega) only [nrm, toNatUp, iteOmega]); first | with_reducible rfl | (go_simp; with_reducible rfl)); (simp only [lays]; with_reducible rfl))
 refine par_callF (a' := ?a292k3) (f := ?f292k3) (args := ?r292k3) (by rfl) (by rfl) (fun w' => ?e292k3) (chgF_st _) (fun w' hb hn => ?h292k3) (fun u => ?p292k3) (fun u => ?g292k3)
 case e292k3 => (go_simp; constructor <;> with_reducible rfl)
 case h292k3 => ((obtain ⟨kb, vb, rfl, ho⟩ := need_head hn (by kernel_rfl); exact schanges_any kb vb (rows sa) hla hza.out sa Hoa.out [U sa.pos, U sa.done, U sa.made, .slice xap sa.procs.length xcp, .slice xai sa.insts.length xci, .slice xat sa.tokens.length xct, .slice xaj sa.jobs.length xcj, .slice xar sa.timers.length xcr, .slice xas sa.subs.length xcs, .slice xak sa.kept.length xck, .slice xal sa.listed.length xcl, .slice xam sa.msgs.length xcm] _ _ _ _ _ _ _ _ _ w' ho (HA.out.grow (B9.out.trans (hb.grow.mono B9.out.size)))))
 case p292k3 => (simp only [lays]; with_reducible rfl)
 refine par_end (fun w9 hb9 hf9 _ => ?_)
 replace hb9 := hb9.grow
 try refine wpList_none ?_
 have X11 := hid ((hb9.block w.heap.size (heap_lt X9.out)).trans X9.out)
 have Y11 := hid ((hb9.block (w.heap.size + 1) (heap_lt Y9.out)).trans Y9.out)
 have B11 := hid (B9.out.trans (hb9.mono B9.out.size))
 have F11 := hid (rowsF_st _ _ _ _ F9.out hb9)
 have GA11 := hid (chgF_st _ _ _ _ GA.out hb9)
 simp only [List.forall_mem_cons] at hf9
 obtain ⟨gN, -⟩ := hf9
 rw [hnone.out] at gN
 obtain ⟨an, cn, rfl, -⟩ := gN
 have gA := GA11.out
 obtain ⟨aa, cc, rfl, -⟩ := gA
 clear hb9 X9 Y9 B9 F9 GA hlx k0 k1 k2 k3 k4 k5 k6 k7 k8 k9 k10 k11
 obtain ⟨w12, rfl⟩ : ∃ w12 : World, w12 = w9 := ⟨_, rfl⟩
 have hml : (mergeC (rows sa) (rows sb)).length ≤ 8388608 := Nat.le_trans (merge_len _ _) (by omega)
 have hks : Hid (∀ c ∈ mergeC (rows sa) (rows sb), c.key.size ≤ 4611686018427387904) := fun c hc => by
  rcases (merge_mem _ _ hua hub c).1 hc with ⟨y, hy, rfl, -⟩ | ⟨x, hx, rfl, -⟩
  ·
   exact (hzb.out y hy).1
  ·
   exact (hza.out x hx).1
 have hmv : Hid ((mergeC (rows sa) (rows sb)).foldl doOne (rows sa) = rows sb) := moves hua hub
 clear hua hub hch hnone
 generalize mergeC (rows sa) (rows sb) = M at GA11 hml hks hmv ⊢
 generalize rows sa = A at F11 hla hza hmv ⊢
 go_wp2_with fail
 go_loopw [8, 11] (fun vl vi wr => ∃ i : Nat, i ≤ M.length ∧ vi = .int .i64 i ∧ Hid (rowsF ((M.take i).foldl doOne A) vl wr ∧ Below w12.heap.size w12 wr)) (fun _ vi _ => M.length - (intOf vi).toNat)
 case atStart => exact ⟨0, Nat.zero_le _, rfl, ⟨F11.out, Below.refl _ _⟩⟩
 case round =>
  obtain ⟨wo, rfl⟩ : ∃ wo : World, wo = wr := ⟨_, rfl⟩
  obtain ⟨i, hi, rfl, hR⟩ := hrel
  by_cases hlt : i < M.length
  ·
   obtain ⟨⟨key, cS, cg⟩, hx⟩ : ∃ x, M[i]? = some x := ⟨_, List.getElem?_eq_getElem hlt⟩
   obtain ⟨b, off, cap', he, z0, z1, z2⟩ := chg_at (GA11.out.grow hR.out.2) hx
   cases he
   dsimp only at z0 z1 z2
   have hbo := World.block_lt_of_cell? wo _ z0
   dsimp only at hbo
   have hkc := hks.out _ (List.mem_of_getElem? hx)
   dsimp only at hkc
   have hstep : Hid ((M.take (i + 1)).foldl doOne A = doOne ((M.take i).foldl doOne A) ⟨key, cS, cg⟩) := by show _ = _; rw [take_snoc hx, List.foldl_append]; rfl
   have hLl := moves_len (M.take i) A
   rw [List.length_take] at hLl
   have FL := hid hR.out.1
   have RB := hid hR.out.2
   have Z0 := hid z0
   have Z1 := hid z1
   clear hR hx
   generalize (M.take i).foldl doOne A = L at FL hstep hLl
   have fl := FL.out
   obtain ⟨aL, cL, rfl, -⟩ := fl
   go_wp2_with fail
   clear z0 z1 z2
   go_loopw [12, 13, 14] (fun vn vd vk wr => ∃ k : Nat, k ≤ L.length ∧ vk = .int .i64 k ∧ vd = .bool (doL ⟨key, cS, cg⟩ (L.take k)).2 ∧ Hid (wr.ownsRow wo.heap.size 46 2 vn (doL ⟨key, cS, cg⟩ (L.take k)).1.length (rowsC (doL ⟨key, cS, cg⟩ (L.take k)).1) ∧ Below wo.heap.size wo wr)) (fun _ _ vk _ => L.length - (intOf vk).toNat)
   case atStart => exact ⟨0, Nat.zero_le _, rfl, rfl, ⟨⟨rfl, .inl ⟨rfl, rfl⟩⟩, Below.refl _ _⟩⟩
   case round =>
    obtain ⟨wi, rfl⟩ : ∃ wi : World, wi = wr := ⟨_, rfl⟩
    obtain ⟨k, hk, rfl, rfl, hQ⟩ := hrel
    have hdl := doL_len ⟨key, cS, cg⟩ (L.take k)
    rw [List.length_take] at hdl
    have KO := hid hQ.out.1
    have BB := hid hQ.out.2
    have c0 := (BB.out.cell (p := ⟨b, off + i * 3, none⟩) hbo).trans Z0.out
    have c1 := (BB.out.cell (p := ⟨b, off + i * 3 + 1, none⟩) hbo).trans Z1.out
    have hbw := Nat.lt_of_lt_of_le hbo BB.out.size
    by_cases hkl : k < L.length
    ·
     obtain ⟨⟨xk, xv⟩, hy⟩ : ∃ x, L[k]? = some x := ⟨_, List.getElem?_eq_getElem hkl⟩
     obtain ⟨b1, off1, cap1, he, e0, e1⟩ := rows_at FL.out hy
     cases he
     dsimp only at e0 e1
     have hb1o := World.block_lt_of_cell? wo _ e0
     dsimp only at hb1o
     have E0 := hid e0
     have E1 := hid e1
     clear e0 e1
     have d0 := (BB.out.cell (p := ⟨b1, off1 + k * 2, none⟩) hb1o).trans E0.out
     have d1 := (BB.out.cell (p := ⟨b1, off1 + k * 2 + 1, none⟩) hb1o).trans E1.out
     have hb1w := Nat.lt_of_lt_of_le hb1o BB.out.size
     have hds : doL ⟨key, cS, cg⟩ (L.take (k + 1)) = doF ⟨key, cS, cg⟩ (doL ⟨key, cS, cg⟩ (L.take k)) (xk, xv) := by rw [take_snoc hy, doL_snoc]
     have hless : ∀ W, Calls Tryz.prog 17 #[.string key, .string xk] W fun e w' => e = .returned (.bool (ltS key xk)) ∧ Below W.heap.size W w' := fun W => (less_any key xk W hkc).mono (fun e w2 h => by obtain ⟨he, n, hn⟩ := h; subst hn; exact ⟨he, below_drewN (Below.refl _ _) n⟩)
     have Hless := hid hless
     clear hQ hy hless
     generalize doL ⟨key, cS, cg⟩ (L.take k) = q at hds hdl KO ⊢
     obtain ⟨acc, dn⟩ := q
     dsimp only at hds hdl KO ⊢
     have hal : acc.length ≤ k + 1 := by omega
     clear hdl
     unfold doF at hds
     dsimp only at hds
     obtain ⟨ak, ck, rfl⟩ := own_slice KO.out
     by_cases hke : xk = key
     ·
      subst hke
      rw [if_pos rfl] at hds
      have Hds := hid hds
      have hbq := beq_self_eq_true xk.toList
      clear hds
      go_wp2_with fail
      refine wp_par (fun _ => False) (fun _ => True) (List.replicate 11 false) _ [.fix ?_, .fix ?_, .fix ?_, .fix ?_, .fix ?_, .fix ?_, .fix ?_, .fix ?_, .fix ?_, .fix ?_, .fix (.bool true)] (by kernel_rfl) (by kernel_rfl) (by simp only [List.length_replicate, List.drop_succ_cons, List.drop_zero, List.drop_nil]; with_reducible rfl) rfl (fun _ _ _ _ _ => ⟨fun h => h, fun h => h⟩) (fun _ _ h _ => h) trivial ?_
      rotate_left 10
      iterate 10
       first
        | (refine par_skip (a' := ?_) (by rfl) (by rfl) ?_ ?_ ?_; rotate_left 1; with_reducible rfl; (simp only [lays]; with_reducible rfl))
        | (refine par_run (a' := ?_) (by rfl) (by rfl) (fun w' hb hn => ?_) ?_ ?_; rotate_left 1; (have hc := hb.cells; go_simp; (try simp (disch := omega) only [nrm, toNatUp, iteOmega]); first | with_reducible rfl | (go_simp; with_reducible rfl)); (simp only [lays]; with_reducible rfl))
      refine par_run (a' := ?a399k10) (by rfl) (by rfl) (fun w' hb hn => ?h399k10) ?p399k10 ?g399k10
      case h399k10 => (have hc := hb.cells; go_simp; (try simp (disch := omega) only [nrm, toNatUp, iteOmega]); (first | done | simp))
      case p399k10 => (simp only [lays]; with_reducible rfl)
      refine par_end (fun w9 hb9 hf9 _ => ?_)
      replace hb9 := hb9.grow
      try refine wpList_none ?_
      replace KO := hid (own_below KO.out hb9)
      replace BB := hid (BB.out.trans (hb9.mono BB.out.size))
      clear hb9
      obtain ⟨w15, rfl⟩ : ∃ w15 : World, w15 = w9 := ⟨_, rfl⟩
      replace c0 := (BB.out.cell (p := ⟨b, off + i * 3, none⟩) hbo).trans Z0.out
      replace c1 := (BB.out.cell (p := ⟨b, off + i * 3 + 1, none⟩) hbo).trans Z1.out
      replace d0 := (BB.out.cell (p := ⟨b1, off1 + k * 2, none⟩) hb1o).trans E0.out
      replace d1 := (BB.out.cell (p := ⟨b1, off1 + k * 2 + 1, none⟩) hb1o).trans E1.out
      replace hbw := Nat.lt_of_lt_of_le hbo BB.out.size
      replace hb1w := Nat.lt_of_lt_of_le hb1o BB.out.size
      go_wp2
      go_roundw
      case rel => exact ⟨k + 1, by omega, by go_num, by rw [Hds.out], ⟨by rw [Hds.out]; exact KO.out, BB.out⟩⟩
      case measure => simp [intOf]; omega
     ·
      rw [if_neg hke] at hds
      have hbn : (xk.toList == key.toList) = false := beq_eq_false_iff_ne.2 (fun e => hke (by rw [Lib.toList_data, Lib.toList_data] at e; exact ByteArray.ext (Array.toList_inj.1 e)))
      go_wp2_with fail
      refine wp_par (fun _ => False) (fun _ => True) (List.replicate 11 false) _ [.fix ?_, .fix ?_, .fix ?_, .fix ?_, .fix ?_, .fix ?_, .fix ?_, .fix ?_, .fix ?_, .fix ?_, .fix (.bool false)] (by kernel_rfl) (by kernel_rfl) (by simp only [List.length_replicate, List.drop_succ_cons, List.drop_zero, List.drop_nil]; with_reducible rfl) rfl (fun _ _ _ _ _ => ⟨fun h => h, fun h => h⟩) (fun _ _ h _ => h) trivial ?_
      rotate_left 10
      iterate 10
       first
        | (refine par_skip (a' := ?_) (by rfl) (by rfl) ?_ ?_ ?_; rotate_left 1; with_reducible rfl; (simp only [lays]; with_reducible rfl))
        | (refine par_run (a' := ?_) (by rfl) (by rfl) (fun w' hb hn => ?_) ?_ ?_; rotate_left 1; (have hc := hb.cells; go_simp; (try simp (disch := omega) only [nrm, toNatUp, iteOmega]); first | with_reducible rfl | (go_simp; with_reducible rfl)); (simp only [lays]; with_reducible rfl))
      refine par_run (a' := ?a428k10) (by rfl) (by rfl) (fun w' hb hn => ?h428k10) ?p428k10 ?g428k10
      case h428k10 => (have hc := hb.cells; go_simp; (try simp (disch := omega) only [nrm, toNatUp, iteOmega]); (first | done | simp [hbn]))
      case p428k10 => (simp only [lays]; with_reducible rfl)
      refine par_end (fun w9 hb9 hf9 _ => ?_)
      replace hb9 := hb9.grow
      try refine wpList_none ?_
      replace KO := hid (own_below KO.out hb9)
      replace BB := hid (BB.out.trans (hb9.mono BB.out.size))
      clear hb9
      obtain ⟨w15, rfl⟩ : ∃ w15 : World, w15 = w9 := ⟨_, rfl⟩
      replace c0 := (BB.out.cell (p := ⟨b, off + i * 3, none⟩) hbo).trans Z0.out
      replace c1 := (BB.out.cell (p := ⟨b, off + i * 3 + 1, none⟩) hbo).trans Z1.out
      replace d0 := (BB.out.cell (p := ⟨b1, off1 + k * 2, none⟩) hb1o).trans E0.out
      replace d1 := (BB.out.cell (p := ⟨b1, off1 + k * 2 + 1, none⟩) hb1o).trans E1.out
      replace hbw := Nat.lt_of_lt_of_le hbo BB.out.size
      replace hb1w := Nat.lt_of_lt_of_le hb1o BB.out.size
      go_wp2_with fail
      refine wp_par (fun _ => False) (fun _ => True) (List.replicate 12 false) _ [.fix ?_, .fix ?_, .fix ?_, .fix ?_, .fix ?_, .fix ?_, .fix ?_, .fix ?_, .fix ?_, .fix ?_, .fix ?_, .fix ?_] (by kernel_rfl) (by kernel_rfl) (by simp only [List.length_replicate, List.drop_succ_cons, List.drop_zero, List.drop_nil]; with_reducible rfl) rfl (fun _ _ _ _ _ => ⟨fun h => h, fun h => h⟩) (fun _ _ h _ => h) trivial ?_
      rotate_left 12
      iterate 10
       first
        | (refine par_skip (a' := ?_) (by rfl) (by rfl) ?_ ?_ ?_; rotate_left 1; with_reducible rfl; (simp only [lays]; with_reducible rfl))
        | (refine par_run (a' := ?_) (by rfl) (by rfl) (fun w' hb hn => ?_) ?_ ?_; rotate_left 1; (have hc := hb.cells; go_simp; (try simp (disch := omega) only [nrm, toNatUp, iteOmega]); first | with_reducible rfl | (go_simp; with_reducible rfl)); (simp only [lays]; with_reducible rfl))
      refine par_call (a' := ?_) (f := ?_) (args := ?_) (by rfl) (by rfl) (fun w' => ?_) (fun w' hb hn => ?_) ?_ ?_; rotate_left 3; (go_simp; constructor <;> with_reducible rfl); (exact Hless.out w'); (simp only [lays]; with_reducible rfl)
      iterate 1
       first
        | (refine par_skip (a' := ?_) (by rfl) (by rfl) ?_ ?_ ?_; rotate_left 1; with_reducible rfl; (simp only [lays]; with_reducible rfl))
        | (refine par_run (a' := ?_) (by rfl) (by rfl) (fun w' hb hn => ?_) ?_ ?_; rotate_left 1; (have hc := hb.cells; go_simp; (try simp (disch := omega) only [nrm, toNatUp, iteOmega]); first | with_reducible rfl | (go_simp; with_reducible rfl)); (simp only [lays]; with_reducible rfl))
      refine par_end (fun w9 hb9 hf9 _ => ?_)
      replace hb9 := hb9.grow
      try refine wpList_none ?_
      replace KO := hid (own_below KO.out hb9)
      replace BB := hid (BB.out.trans (hb9.mono BB.out.size))
      clear hb9
      obtain ⟨w16, rfl⟩ : ∃ w16 : World, w16 = w9 := ⟨_, rfl⟩
      replace c0 := (BB.out.cell (p := ⟨b, off + i * 3, none⟩) hbo).trans Z0.out
      replace c1 := (BB.out.cell (p := ⟨b, off + i * 3 + 1, none⟩) hbo).trans Z1.out
      replace d0 := (BB.out.cell (p := ⟨b1, off1 + k * 2, none⟩) hb1o).trans E0.out
      replace d1 := (BB.out.cell (p := ⟨b1, off1 + k * 2 + 1, none⟩) hb1o).trans E1.out
      replace hbw := Nat.lt_of_lt_of_le hbo BB.out.size
      replace hb1w := Nat.lt_of_lt_of_le hb1o BB.out.size
      have hcases : (dn = false ∧ ltS key xk = true) ∨ ¬ (dn = false ∧ ltS key xk = true) := Classical.em _
      rcases hcases with ⟨rfl, hlts⟩ | hno
      ·
       rw [if_pos ⟨rfl, hlts⟩] at hds
       have Hd1 := hid (congrArg Prod.fst hds)
       have Hd2 := hid (congrArg Prod.snd hds)
       rw [hlts]
       clear hds
       go_wp2_with fail
       have P0 := hid c0
       have P1 := hid c1
       have nl := hid (own_lt KO.out)
       have nb := hid (show ¬ ownB (.slice ak acc.length ck) b from fun hh => by have := (KO.out.lt b hh).1; omega)
       have hws2 := BB.out.size
       refine Ps.wp_par (Ps.relC (fun x => ownB (.slice ak acc.length ck) x) (fun x _ => x = b)) (fun W => True ∧ W.ownsRow wo.heap.size 46 2 (.slice ak acc.length ck) acc.length (rowsC acc)) (false :: false :: false :: false :: false :: false :: false :: false :: false :: false :: false :: false :: false :: false :: true :: []) _ (.fix ?_ :: .fix ?_ :: .fix ?_ :: .fix ?_ :: .fix ?_ :: .fix ?_ :: .fix ?_ :: .fix ?_ :: .fix ?_ :: .fix ?_ :: .fix ?_ :: .fix ?_ :: .fix ?_ :: .new (Ps.rowN 2 ?_ ?_ w16.heap.size) :: .st (some (acc.length + 1)) (fun _ _ => True) (fun u W => True ∧ W.ownsRow wo.heap.size 46 2 u (acc.length + 1) (rowsC acc ++ [.string key, .string cS])) :: []) (by kernel_rfl) (by kernel_rfl) (by simp only [List.length_cons, List.length_nil, List.drop_succ_cons, List.drop_zero, List.drop_nil]; with_reducible rfl) rfl (fun _ _ _ _ _ => ⟨fun h => h, fun h => h⟩) (fun _ _ h hb => ⟨trivial, own_below h.2 hb⟩) (⟨trivial, KO.out⟩) ?_
       rotate_left 15
       iterate 13
        first
         | (refine Ps.par_skip (a' := ?_) (by rfl) (by rfl) ?_ ?_ ?_; rotate_left 1; with_reducible rfl; (simp only [lays]; with_reducible rfl))
         | (refine Ps.par_run (a' := ?_) (by rfl) (by rfl) (fun w' hb hn => ?_) ?_ ?_; rotate_left 1; (have q0 := hb.2 b _ _ rfl P0.out; have q1 := hb.2 b _ _ rfl P1.out; go_simp; (try simp (disch := omega) only [nrm, toNatUp, iteOmega]); first | with_reducible rfl | (go_simp; with_reducible rfl)); (simp only [lays]; with_reducible rfl))
       refine Ps.par_row (a' := ?ap1k13) (m := ?mp1k13) (T := ?Tp1k13) (cs := ?cp1k13) (r := ?rp1k13) (fun x h => nl.out x h) (by rfl) (by rfl) (fun w' hb hn => ?hp1k13) (fun w' => ?ep1k13) ?np1k13 ?vp1k13 ?lp1k13 ?xp1k13 (fun u => ?pp1k13) (fun u => ?gp1k13)
       case hp1k13 => (have q0 := hb.2 b _ _ rfl P0.out; have q1 := hb.2 b _ _ rfl P1.out; go_simp; (try simp (disch := omega) only [nrm, toNatUp, iteOmega]); with_reducible rfl)
       case ep1k13 => with_reducible rfl
       case np1k13 => with_reducible rfl
       case vp1k13 => with_reducible rfl
       case lp1k13 => simp only [List.length_cons, List.length_nil]
       case xp1k13 => (unfold maxLen; omega)
       case pp1k13 => (simp only [lays]; with_reducible rfl)
       refine Ps.par_app (a' := ?ap2k14) (A := fun W => True) 35 46 Tryz.underlying35 infoT rfl (by decide) hws2 (by unfold maxLen; omega) (by omega) (by simp [Value.oneCell']) (fun _ _ _ _ _ => trivial) (fun _ _ _ _ => trivial) (fun _ h => h) (fun x i hs hb => by subst hs; exact nb.out hb) (by rfl) rfl rfl rfl rfl (fun w' hb hn => ?xp2k14) (fun u => ?pp2k14) (fun u hu14 => ?gp2k14)
       case xp2k14 => (exact (Ps.need_head hn (by kernel_rfl)).1)
       case pp2k14 => (simp only [lays]; with_reducible rfl)
       obtain ⟨au14, cu14, rfl⟩ := hu14
       refine Ps.par_end (fun w9 hb9 hf9 hr9 => ?_)
       try refine Ps.wpList_none ?_
       have B9 : Below wo.heap.size wo w9 := ((But.of (w := wo) BB.out).trans' hb9.1 (F := fun _ => False) (fun k hk ho => by have := (KO.out.lt k ho).1; omega)).grow
       have O9 := hid hr9.2
       have KO1 := hr9.2
       rw [show rowsC acc ++ [.string key, .string cS] = rowsC (acc ++ [(key, cS)]) from (rowsC_snoc acc (key, cS)).symm] at KO1
       clear hb9 hf9 hr9 KO BB c0 c1 d0 d1 P0 P1 nl nb hws2
       have BB := hid B9
       have KO := hid KO1
       clear B9 KO1
       have d0 := (BB.out.cell (p := ⟨b1, off1 + k * 2, none⟩) hb1o).trans E0.out
       have d1 := (BB.out.cell (p := ⟨b1, off1 + k * 2 + 1, none⟩) hb1o).trans E1.out
       replace hb1w := Nat.lt_of_lt_of_le hb1o BB.out.size
       have hws2 := BB.out.size
       go_wp2_with (at_builtin; refine app1k 35 46 Tryz.underlying35 infoT rfl (by decide) KO.out hws2 (by unfold maxLen; omega) (by omega) rfl rfl rfl rfl rfl rfl (by simp [Value.oneCell']) ?_; intro v1 w8 hown8 hb8 hg8)
       have O8 := hid hown8
       have B8 : Hid (Below wo.heap.size wo w8) := ((But.of (w := wo) BB.out).trans' hb8 (F := fun _ => False) (fun k hk ho => by have := (KO.out.lt k ho).1; omega)).grow
       clear hown8 hb8 hg8
       obtain ⟨ak2, ck2, rfl⟩ := own_slice O8.out
       go_wp2
       refine ⟨⟨_, _, _, ?rel, rfl, rfl, rfl⟩, ?measure⟩
       case rel => exact ⟨k + 1, by omega, by go_num, by rw [Hd2.out], ⟨by rw [Hd1.out, rowsC_snoc, List.length_append, List.length_append]; exact O8.out, B8.out⟩⟩
       case measure => simp [intOf]; omega
      ·
       rw [if_neg hno] at hds
       have Hd1 := hid (congrArg Prod.fst hds)
       have Hd2 := hid (congrArg Prod.snd hds)
       clear hds
       cases dn with
       | true =>
        have hws2 := BB.out.size
        go_wp2_with (at_builtin; refine app1k 35 46 Tryz.underlying35 infoT rfl (by decide) KO.out hws2 (by unfold maxLen; omega) (by omega) rfl rfl rfl rfl rfl rfl (by simp [Value.oneCell']) ?_; intro v1 w8 hown8 hb8 hg8)
        have O8 := hid hown8
        have B8 : Hid (Below wo.heap.size wo w8) := ((But.of (w := wo) BB.out).trans' hb8 (F := fun _ => False) (fun k hk ho => by have := (KO.out.lt k ho).1; omega)).grow
        clear hown8 hb8 hg8
        obtain ⟨ak2, ck2, rfl⟩ := own_slice O8.out
        go_wp2
        refine ⟨⟨_, _, _, ?rel, rfl, rfl, rfl⟩, ?measure⟩
        case rel => exact ⟨k + 1, by omega, by go_num, by rw [Hd2.out], ⟨by rw [Hd1.out, rowsC_snoc, List.length_append]; exact O8.out, B8.out⟩⟩
        case measure => simp [intOf]; omega
       | false =>
        have hlts : ltS key xk = false := by cases h : ltS key xk with | true => exact absurd ⟨rfl, h⟩ hno | false => rfl
        rw [hlts]
        have hws2 := BB.out.size
        go_wp2_with (at_builtin; refine app1k 35 46 Tryz.underlying35 infoT rfl (by decide) KO.out hws2 (by unfold maxLen; omega) (by omega) rfl rfl rfl rfl rfl rfl (by simp [Value.oneCell']) ?_; intro v1 w8 hown8 hb8 hg8)
        have O8 := hid hown8
        have B8 : Hid (Below wo.heap.size wo w8) := ((But.of (w := wo) BB.out).trans' hb8 (F := fun _ => False) (fun k hk ho => by have := (KO.out.lt k ho).1; omega)).grow
        clear hown8 hb8 hg8
        obtain ⟨ak2, ck2, rfl⟩ := own_slice O8.out
        go_wp2
        refine ⟨⟨_, _, _, ?rel, rfl, rfl, rfl⟩, ?measure⟩
        case rel => exact ⟨k + 1, by omega, by go_num, by rw [Hd2.out], ⟨by rw [Hd1.out, rowsC_snoc, List.length_append]; exact O8.out, B8.out⟩⟩
        case measure => simp [intOf]; omega
    ·
     obtain rfl : k = L.length := by omega
     have RB9 := hid (RB.out.trans (BB.out.mono RB.out.size))
     clear hQ
     generalize hq : doL ⟨key, cS, cg⟩ (L.take L.length) = q at hdl KO ⊢
     rw [List.take_length] at hq
     obtain ⟨acc, dn⟩ := q
     dsimp only at hdl KO ⊢
     have hal : acc.length ≤ L.length + 1 := by omega
     clear hdl
     obtain ⟨ak, ck, rfl⟩ := own_slice KO.out
     cases dn with
     | true =>
      have hone : Hid (doOne L ⟨key, cS, cg⟩ = acc) := by show _ = _; unfold doOne; rw [hq]; rfl
      have F := hid (FlatAt.of_own KO.out)
      clear hq
      go_wp2
      refine ⟨⟨i + 1, by omega, by go_num, ⟨by rw [hstep.out, hone.out]; exact F.out, RB9.out⟩⟩, ?measure⟩
      case measure => simp [intOf]; omega
     | false =>
      have hone : Hid (doOne L ⟨key, cS, cg⟩ = acc ++ [(key, cS)]) := by show _ = _; unfold doOne; rw [hq]; rfl
      clear hq
      obtain ⟨w16, rfl⟩ : ∃ w16 : World, w16 = wi := ⟨_, rfl⟩
      go_wp2_with fail
      have P0 := hid c0
      have P1 := hid c1
      have nl := hid (own_lt KO.out)
      have nb := hid (show ¬ ownB (.slice ak acc.length ck) b from fun hh => by have := (KO.out.lt b hh).1; omega)
      have hws2 := BB.out.size
      refine Ps.wp_par (Ps.relC (fun x => ownB (.slice ak acc.length ck) x) (fun x _ => x = b)) (fun W => True ∧ W.ownsRow wo.heap.size 46 2 (.slice ak acc.length ck) acc.length (rowsC acc)) (false :: false :: false :: false :: false :: false :: false :: false :: false :: false :: false :: false :: false :: false :: true :: []) _ (.fix ?_ :: .fix ?_ :: .fix ?_ :: .fix ?_ :: .fix ?_ :: .fix ?_ :: .fix ?_ :: .fix ?_ :: .fix ?_ :: .fix ?_ :: .fix ?_ :: .fix ?_ :: .fix ?_ :: .new (Ps.rowN 2 ?_ ?_ w16.heap.size) :: .st (some (acc.length + 1)) (fun _ _ => True) (fun u W => True ∧ W.ownsRow wo.heap.size 46 2 u (acc.length + 1) (rowsC acc ++ [.string key, .string cS])) :: []) (by kernel_rfl) (by kernel_rfl) (by simp only [List.length_cons, List.length_nil, List.drop_succ_cons, List.drop_zero, List.drop_nil]; with_reducible rfl) rfl (fun _ _ _ _ _ => ⟨fun h => h, fun h => h⟩) (fun _ _ h hb => ⟨trivial, own_below h.2 hb⟩) (⟨trivial, KO.out⟩) ?_
      rotate_left 15
      iterate 13
       first
        | (refine Ps.par_skip (a' := ?_) (by rfl) (by rfl) ?_ ?_ ?_; rotate_left 1; with_reducible rfl; (simp only [lays]; with_reducible rfl))
        | (refine Ps.par_run (a' := ?_) (by rfl) (by rfl) (fun w' hb hn => ?_) ?_ ?_; rotate_left 1; (have q0 := hb.2 b _ _ rfl P0.out; have q1 := hb.2 b _ _ rfl P1.out; go_simp; (try simp (disch := omega) only [nrm, toNatUp, iteOmega]); first | with_reducible rfl | (go_simp; with_reducible rfl)); (simp only [lays]; with_reducible rfl))
      refine Ps.par_row (a' := ?ap3k13) (m := ?mp3k13) (T := ?Tp3k13) (cs := ?cp3k13) (r := ?rp3k13) (fun x h => nl.out x h) (by rfl) (by rfl) (fun w' hb hn => ?hp3k13) (fun w' => ?ep3k13) ?np3k13 ?vp3k13 ?lp3k13 ?xp3k13 (fun u => ?pp3k13) (fun u => ?gp3k13)
      case hp3k13 => (have q0 := hb.2 b _ _ rfl P0.out; have q1 := hb.2 b _ _ rfl P1.out; go_simp; (try simp (disch := omega) only [nrm, toNatUp, iteOmega]); with_reducible rfl)
      case ep3k13 => with_reducible rfl
      case np3k13 => with_reducible rfl
      case vp3k13 => with_reducible rfl
      case lp3k13 => simp only [List.length_cons, List.length_nil]
      case xp3k13 => (unfold maxLen; omega)
      case pp3k13 => (simp only [lays]; with_reducible rfl)
      refine Ps.par_app (a' := ?ap4k14) (A := fun W => True) 35 46 Tryz.underlying35 infoT rfl (by decide) hws2 (by unfold maxLen; omega) (by omega) (by simp [Value.oneCell']) (fun _ _ _ _ _ => trivial) (fun _ _ _ _ => trivial) (fun _ h => h) (fun x i hs hb => by subst hs; exact nb.out hb) (by rfl) rfl rfl rfl rfl (fun w' hb hn => ?xp4k14) (fun u => ?pp4k14) (fun u hu14 => ?gp4k14)
      case xp4k14 => (exact (Ps.need_head hn (by kernel_rfl)).1)
      case pp4k14 => (simp only [lays]; with_reducible rfl)
      obtain ⟨au14, cu14, rfl⟩ := hu14
      refine Ps.par_end (fun w9 hb9 hf9 hr9 => ?_)
      try refine Ps.wpList_none ?_
      have B9 : Below wo.heap.size wo w9 := ((But.of (w := wo) BB.out).trans' hb9.1 (F := fun _ => False) (fun k hk ho => by have := (KO.out.lt k ho).1; omega)).grow
      have KO1 := hr9.2
      rw [show rowsC acc ++ [.string key, .string cS] = rowsC (acc ++ [(key, cS)]) from (rowsC_snoc acc (key, cS)).symm] at KO1
      have F := hid (FlatAt.of_own KO1)
      have RB8 := hid (RB.out.trans (B9.mono RB.out.size))
      clear hb9 hf9 hr9 KO BB c0 c1 P0 P1 nl nb hws2 KO1 B9
      go_wp2
      refine ⟨⟨i + 1, by omega, by go_num, ⟨by rw [hstep.out, hone.out]; unfold rowsF; rw [List.length_append]; exact F.out, RB8.out⟩⟩, ?measure⟩
      case measure => simp [intOf]; omega
  ·
   obtain rfl : i = M.length := by omega
   have hF := hR.out.1
   rw [List.take_length, hmv.out] at hF
   have FF := hid hF
   have XB := hid ((hR.out.2.block w.heap.size (heap_lt X11.out)).trans X11.out)
   have YB := hid ((hR.out.2.block (w.heap.size + 1) (heap_lt Y11.out)).trans Y11.out)
   have BA := hid (B11.out.trans (hR.out.2.mono B11.out.size))
   have Hback := hid (read_back sb Hob.out hmb)
   have Hszs := hid (rows_szs sb hmb)
   clear hF hR X11 Y11 B11 F11 GA11 hks hmv hza hzb
   go_wp2_with fail
   refine (over_any (rows sb) (by omega) _ wo FF.out).mono ?_
   rintro e w13 ⟨kb, vb, rfl, hov, b13⟩
   have Hov := hid hov
   have Y13 := hid ((b13.block (w.heap.size + 1) (heap_lt YB.out)).trans YB.out)
   have B13 := hid (BA.out.trans (b13.mono BA.out.size))
   clear b13 hov XB YB BA FF
   go_wp2_with fail
   refine (sread_any kb vb (rows sb) w13 Hov.out Hszs.out hmany).mono ?_
   rintro e w15 ⟨v1, rfl, hR1, b15⟩
   have Y15 := hid ((b15.block (w.heap.size + 1) (heap_lt Y13.out)).trans Y13.out)
   have B15 := hid (B13.out.trans (b15.mono B13.out.size))
   unfold ReadT at hR1
   rw [Hback.out] at hR1
   dsimp only at hR1
   obtain ⟨cs1, zp, zi, zt, zj, zr, zs, zk, zl, zm, rfl, hs1⟩ := hR1
   have hc1 := hs1.cells
   subst hc1
   have Hs1 := hid hs1
   clear b15 Y13 B13 Hov
   obtain ⟨-, hp, hi, ht, hj, hr, hs, hk, hl, hm⟩ := hs1
   obtain ⟨zap, zcp, rfl, -⟩ := hp
   obtain ⟨zai, zci, rfl, -⟩ := hi
   obtain ⟨zat, zct, rfl, -⟩ := ht
   obtain ⟨zaj, zcj, rfl, -⟩ := hj
   obtain ⟨zar, zcr, rfl, -⟩ := hr
   obtain ⟨zas, zcs, rfl, -⟩ := hs
   obtain ⟨zak, zck, rfl, -⟩ := hk
   obtain ⟨zal, zcl, rfl, -⟩ := hl
   obtain ⟨zam, zcm, rfl, -⟩ := hm
   have A1 := (Below.refl _ w15).alloc (Nat.le_refl _) (.cells #[U sb.pos, U sb.done, U sb.made, .slice zap sb.procs.length zcp, .slice zai sb.insts.length zci, .slice zat sb.tokens.length zct, .slice zaj sb.jobs.length zcj, .slice zar sb.timers.length zcr, .slice zas sb.subs.length zcs, .slice zak sb.kept.length zck, .slice zal sb.listed.length zcl, .slice zam sb.msgs.length zcm] 33)
   have Y16 := hid ((A1.block _ (heap_lt Y15.out)).trans Y15.out)
   have Z16 := hid (alloc_new w15 (.cells #[U sb.pos, U sb.done, U sb.made, .slice zap sb.procs.length zcp, .slice zai sb.insts.length zci, .slice zat sb.tokens.length zct, .slice zaj sb.jobs.length zcj, .slice zar sb.timers.length zcr, .slice zas sb.subs.length zcs, .slice zak sb.kept.length zck, .slice zal sb.listed.length zcl, .slice zam sb.msgs.length zcm] 33))
   have B16 := hid (B15.out.trans (A1.mono B15.out.size))
   have S16 := hid (Hs1.out.grow A1)
   clear A1 Hs1 Y15 B15
   obtain ⟨k0, k1, k2, k3, k4, k5, k6, k7, k8, k9, k10, k11⟩ := cells12 Y16.out
   have l0 := cell_of Z16.out 0
   have l1 := cell_of Z16.out 1
   have l2 := cell_of Z16.out 2
   have l3 := cell_of Z16.out 3
   have l4 := cell_of Z16.out 4
   have l5 := cell_of Z16.out 5
   have l6 := cell_of Z16.out 6
   have l7 := cell_of Z16.out 7
   have l8 := cell_of Z16.out 8
   have l9 := cell_of Z16.out 9
   have l10 := cell_of Z16.out 10
   have l11 := cell_of Z16.out 11
   have hz7 := heap_lt Y16.out
   have hz8 := heap_lt Z16.out
   go_wp2_with fail
   clear k0 k1 k2 k3 k4 k5 k6 k7 k8 k9 k10 k11 l0 l1 l2 l3 l4 l5 l6 l7 l8 l9 l10 l11 hz7 hz8
   refine (same13_any sb _ _ _ _ _ _ _ _ _ _ _ _ _ _ _ _ _ _ _ _ _ S16.out (HB.out.grow B16.out)).mono ?_
   rintro e w17 ⟨rfl, b17⟩
   have B17 := hid (B16.out.trans (b17.mono B16.out.size))
   clear b17 Y16 Z16 S16 B16
   go_wp2
   go_ret
   exact ⟨rfl, B17.out⟩
end Go.Proofs.YthikijlbclckdaaGreat
