/- Keep: contracts (Gk). -/
import Derived.Test.YtjkbfoeakeoeiaaGreatV10
namespace Go.Proofs.YtjkbfoeakeoeiaaGreat
set_option maxRecDepth 100000
set_option maxHeartbeats 40000000
set_option linter.unusedSimpArgs false
set_option linter.unusedVariables false
open Go.IntWalk Go.RowKit
theorem elem0 {α : Type} {R : World → List Value → α → Prop} {k n : Nat} {w : World} {a : Option Addr} {c : Nat} {l : List α} {x : α} (h : ListAt R k w (.slice a n c) l) (hx : l[0]? = some x) :
    ∃ b off cs, a = some ⟨b, off, none⟩ ∧ cs.length = k ∧ R w cs x ∧ ∀ j u, cs[j]? = some u → w.cell? ⟨b, off + j, none⟩ = some u := by
  obtain ⟨a', c', hv, h1, h2, h3⟩ := h
  cases hv
  obtain ⟨b, off, cs, ha, hl, hr, hc⟩ := h3 0 x hx
  refine ⟨b, off, cs, ha, hl, hr, fun j u hu => ?_⟩
  have := hc j u hu
  rwa [Nat.zero_mul, Nat.add_zero] at this
theorem evSending_do_any (S : Nat → Prop) (w : World) (s : StateV) (r : RecV) (cs rc : List Value) (hS : ∀ b, S b → b < w.heap.size) (hs : StAt S w cs s) (hrec : RecAt S w rc r) (hl1 : s.listed.length ≤ 1) (hm1 : s.msgs.length ≤ 1) (x : LisV) (m : MsgV) (hx : s.listed.find? (ofLis r) = some x) (hm : s.msgs.find? (ofMsg r) = some m) (hlen : m.vars.length ≤ 1048576) (hins : m.insts.length ≤ 1000) :
    Calls Tryz.prog 105 #[.agg cs.toArray, .agg rc.toArray] w fun e w' => ∃ cs', e = .returned (.agg cs'.toArray) ∧ StAt S w' cs' (evSending s r) ∧ Below w.heap.size w w' := by
  have E : Hid (evSending s r = { s with pos := s.pos, done := s.done, made := s.made, listed := changeBy (ofLis r) (fun y => { y with msg := r.key2, vars := m.vars }) s.listed, msgs := changeBy (ofMsg r) (fun y => { y with insts := y.insts ++ [x.inst] }) s.msgs }) := by
    show _ = _
    unfold evSending
    rw [hx, hm]
  have hiL := idxOf_one hl1 hx
  have hiM := idxOf_one hm1 hm
  have EL := hid hiL.1
  have EM := hid hiM.1
  have hL0 : s.listed[0]? = some x := by rw [hiL.2.1]; rfl
  have hM0 : s.msgs[0]? = some m := by rw [hiM.2.1]; rfl
  have hLl : 0 < s.listed.length := by rw [hiL.2.1]; simp
  have hMl : 0 < s.msgs.length := by rw [hiM.2.1]; simp
  have HLE := hid hiL.2.1
  have HME := hid hiM.2.1
  have HL0 := hid hL0
  have HM0 := hid hM0
  clear hx hm hiL hiM hL0 hM0
  obtain ⟨vp, vi, vt, vj, vr, vs, vk, vl, vm, hs⟩ := hs
  have Hs := hid hs
  obtain ⟨hcs, hp, hi, ht, hj, hr, hs, hk, hl, hm⟩ := hs
  obtain ⟨xap, xcp, rfl, -⟩ := hp
  obtain ⟨xai, xci, rfl, -⟩ := hi
  obtain ⟨xat, xct, rfl, -⟩ := ht
  obtain ⟨xaj, xcj, rfl, -⟩ := hj
  obtain ⟨xar, xcr, rfl, -⟩ := hr
  obtain ⟨xas, xcs, rfl, -⟩ := hs
  obtain ⟨xak, xck, rfl, -⟩ := hk
  obtain ⟨xal, xcl, rfl, -⟩ := hl
  obtain ⟨xam, xcm, rfl, -⟩ := hm
  subst hcs
  obtain ⟨rv, hrc, hrv⟩ := hrec
  subst hrc
  have Hrv := hid hrv
  obtain ⟨ra, rk, rfl, -⟩ := hrv
  obtain ⟨bl, ofl, csl, rfl, -, ⟨lv, rfl, -⟩, hcl⟩ := elem0 Hs.out.listed HL0.out
  obtain ⟨bm, ofm, csm, rfl, -, ⟨mv, mu, rfl, hmv, -⟩, hcm⟩ := elem0 Hs.out.msgs HM0.out
  have HQ1 := hid (sans_cell (hcl 1 _ rfl)).1
  have HQ5 := hid (sans_cell (hcm 5 _ rfl)).1
  have HMV := hid hmv
  obtain ⟨ma, mc, rfl, -⟩ := hmv
  clear hcl hcm
  go_enter Tryz.func105, Tryz.ntmps105
  go_wp2_with fail
  refine wp_box3 ?_
  intro W0 h0 h1 h2 B0 hz
  obtain ⟨k0, k1, k2, k3, k4, k5, k6, k7, k8, k9, k10, k11⟩ := cells12 h0.out
  obtain ⟨r0, r1, r2, r3, r4, r5, r6, r7, r8, r9, r10, r11, r12⟩ := cells13 h1.out
  have hT := hidB_lt (k := 3) hS (show w.heap.size + 3 ≤ W0.heap.size by omega)
  have hsee : Sees (sans S w) (sans (hidB S w.heap.size 3) W0) := sees_grow B0.out (fun b => hidB_old b)
  have HL := hid (Hs.out.listed.sees LisV.sees hsee)
  have HM := hid (Hs.out.msgs.sees MsgV.sees hsee)
  refine wp_par (fun _ => False) (fun _ => True) (List.replicate 12 false) _ [.fix ?_, .fix ?_, .fix ?_, .new (RecBox r (.slice ra r.vars.length rk) 211), .fix ?_, .fix ?_, .fix ?_, .fix ?_, .new (RecBox r (.slice ra r.vars.length rk) 212), .fix ?_, .fix ?_, .fix ?_] (by kernel_rfl) (by kernel_rfl) (by simp only [List.length_replicate, List.drop_succ_cons, List.drop_zero, List.drop_nil]; with_reducible rfl) rfl (fun _ _ _ _ _ => ⟨fun h => h, fun h => h⟩) (fun _ _ h _ => h) trivial ?_
  rotate_left 10
  iterate 3
    first
      | (refine par_skip (a' := ?_) (by rfl) (by rfl) ?_ ?_ ?_; rotate_left 1; with_reducible rfl; (simp only [Act.put, List.setIfInBounds_toArray, List.set_cons_zero, List.set_cons_succ]; with_reducible rfl))
      | (refine par_run (a' := ?_) (by rfl) (by rfl) (fun w' hb hn => ?_) ?_ ?_; rotate_left 1; (have hc := hb.cells; first | (go_simp; (try simp (disch := omega) only [IntWalk.i64_in, IntWalk.i32_in, IntWalk.u64_in, IntWalk.u8_in, IntWalk.u32_in, toNatUp, iteOmega]); with_reducible rfl) | (go_simp; (try simp (disch := omega) only [IntWalk.i64_in, IntWalk.i32_in, IntWalk.u64_in, IntWalk.u8_in, IntWalk.u32_in, toNatUp, iteOmega]); go_simp; with_reducible rfl)); (simp only [Act.put, List.setIfInBounds_toArray, List.set_cons_zero, List.set_cons_succ]; with_reducible rfl))
  refine par_callF (a' := ?a73k3) (f := ?f73k3) (args := ?r73k3) (by rfl) (by rfl) (fun w' => ?e73k3) (RecBox.st _ _ _) (fun w' hb hn => ?h73k3) (fun u => ?p73k3) (fun u => ?g73k3)
  case e73k3 => (go_simp; constructor <;> with_reducible rfl)
  case h73k3 => (exact ofListed_box w' r _)
  case p73k3 => (simp only [Act.put, List.setIfInBounds_toArray, List.set_cons_zero, List.set_cons_succ]; with_reducible rfl)
  refine par_call (a' := ?_) (f := ?_) (args := ?_) (by rfl) (by rfl) (fun w' => ?_) (fun w' hb hn => ?_) ?_ ?_; rotate_left 3; (go_simp; constructor <;> with_reducible rfl); ((obtain ⟨pb, rfl, hpb⟩ := need_head hn (by kernel_rfl); have h := idxLis_list (S := hidB S w.heap.size 3) w' (HL.out.grow LisV.st (sans_grow hb.grow)) sees_refl _ #[.pointer (some ⟨pb, 0, none⟩)] (enters_of Tryz.func211 (by kernel_rfl) rfl) (ofLis r) (fun W x cs _ hx hb => by obtain ⟨v, rfl, -⟩ := hx; exact ofLis_cl W x v r _ pb (keep_at hb hpb)); rw [EL.out] at h; exact h)); (simp only [Act.put, List.setIfInBounds_toArray, List.set_cons_zero, List.set_cons_succ]; with_reducible rfl)
  iterate 3
    first
      | (refine par_skip (a' := ?_) (by rfl) (by rfl) ?_ ?_ ?_; rotate_left 1; with_reducible rfl; (simp only [Act.put, List.setIfInBounds_toArray, List.set_cons_zero, List.set_cons_succ]; with_reducible rfl))
      | (refine par_run (a' := ?_) (by rfl) (by rfl) (fun w' hb hn => ?_) ?_ ?_; rotate_left 1; (have hc := hb.cells; first | (go_simp; (try simp (disch := omega) only [IntWalk.i64_in, IntWalk.i32_in, IntWalk.u64_in, IntWalk.u8_in, IntWalk.u32_in, toNatUp, iteOmega]); with_reducible rfl) | (go_simp; (try simp (disch := omega) only [IntWalk.i64_in, IntWalk.i32_in, IntWalk.u64_in, IntWalk.u8_in, IntWalk.u32_in, toNatUp, iteOmega]); go_simp; with_reducible rfl)); (simp only [Act.put, List.setIfInBounds_toArray, List.set_cons_zero, List.set_cons_succ]; with_reducible rfl))
  refine par_callF (a' := ?a82k8) (f := ?f82k8) (args := ?r82k8) (by rfl) (by rfl) (fun w' => ?e82k8) (RecBox.st _ _ _) (fun w' hb hn => ?h82k8) (fun u => ?p82k8) (fun u => ?g82k8)
  case e82k8 => (go_simp; constructor <;> with_reducible rfl)
  case h82k8 => (exact ofMessage_box w' r _)
  case p82k8 => (simp only [Act.put, List.setIfInBounds_toArray, List.set_cons_zero, List.set_cons_succ]; with_reducible rfl)
  refine par_call (a' := ?_) (f := ?_) (args := ?_) (by rfl) (by rfl) (fun w' => ?_) (fun w' hb hn => ?_) ?_ ?_; rotate_left 3; (go_simp; constructor <;> with_reducible rfl); ((obtain ⟨pb, rfl, hpb⟩ := need_head hn (by kernel_rfl); have h := idxMsg_list (S := hidB S w.heap.size 3) w' (HM.out.grow MsgV.st (sans_grow hb.grow)) sees_refl _ #[.pointer (some ⟨pb, 0, none⟩)] (enters_of Tryz.func212 (by kernel_rfl) rfl) (ofMsg r) (fun W x cs _ hx hb => by obtain ⟨v, u, rfl, -⟩ := hx; exact ofMsg_cl W x v u r _ pb (keep_at hb hpb)); rw [EM.out] at h; exact h)); (simp only [Act.put, List.setIfInBounds_toArray, List.set_cons_zero, List.set_cons_succ]; with_reducible rfl)
  iterate 2
    first
      | (refine par_skip (a' := ?_) (by rfl) (by rfl) ?_ ?_ ?_; rotate_left 1; with_reducible rfl; (simp only [Act.put, List.setIfInBounds_toArray, List.set_cons_zero, List.set_cons_succ]; with_reducible rfl))
      | (refine par_run (a' := ?_) (by rfl) (by rfl) (fun w' hb hn => ?_) ?_ ?_; rotate_left 1; (have hc := hb.cells; first | (go_simp; (try simp (disch := omega) only [IntWalk.i64_in, IntWalk.i32_in, IntWalk.u64_in, IntWalk.u8_in, IntWalk.u32_in, toNatUp, iteOmega]); with_reducible rfl) | (go_simp; (try simp (disch := omega) only [IntWalk.i64_in, IntWalk.i32_in, IntWalk.u64_in, IntWalk.u8_in, IntWalk.u32_in, toNatUp, iteOmega]); go_simp; with_reducible rfl)); (simp only [Act.put, List.setIfInBounds_toArray, List.set_cons_zero, List.set_cons_succ]; with_reducible rfl))
  refine par_end (fun w9 hb9 hf9 _ => ?_)
  replace hb9 := hb9.grow
  try refine wpList_none ?_
  have B9 := hid (B0.out.trans (hb9.mono B0.out.size))
  have hz9 := hb9.size
  have g0 := hid (keep_at hb9 h0.out)
  have g1 := hid (keep_at hb9 h1.out)
  have g2 := hid (keep_at hb9 h2.out)
  have hT9 := hid_lt hT hb9
  have HL9 := hid (HL.out.grow LisV.st (sans_grow hb9))
  have HM9 := hid (HM.out.grow MsgV.st (sans_grow hb9))
  have HV9 := hid ((HMV.out.sees hsee).below (sans_grow hb9))
  clear hf9 hb9 k0 k1 k2 k3 k4 k5 k6 k7 k8 k9 k10 k11 r0 r1 r2 r3 r4 r5 r6 r7 r8 r9 r10 r11 r12 h0 h1 h2
  obtain ⟨w1, rfl⟩ : ∃ w1 : World, w1 = w9 := ⟨_, rfl⟩
  have K10 := hid (cell_of g0.out 10)
  have K11 := hid (cell_of g0.out 11)
  have hlb := World.block_lt_of_cell? w _ HQ1.out
  have hmb := World.block_lt_of_cell? w _ HQ5.out
  dsimp only at hlb hmb
  have HX1 := hid ((B9.out.cell (p := ⟨bl, ofl + 1, none⟩) hlb).trans HQ1.out)
  have HX5 := hid ((B9.out.cell (p := ⟨bm, ofm + 5, none⟩) hmb).trans HQ5.out)
  have hsz1 := B9.out.size
  have hg0l := heap_lt g0.out
  go_wp2_with fail
  refine Ps.wp_par (Ps.relU w1.heap.size 22) (Ps.NoT w1.heap.size 22) (false :: false :: false :: false :: false :: false :: false :: false :: false :: false :: false :: false :: true :: false :: true :: []) _ (.fix ?_ :: .fix ?_ :: .fix ?_ :: .fix ?_ :: .fix ?_ :: .fix ?_ :: .fix ?_ :: .fix ?_ :: .fix ?_ :: .fix ?_ :: .fix ?_ :: .fix ?_ :: .st (none) (Ps.PtrT w1.heap.size 22) (fun u W => ∃ g, u = .pointer (some ⟨g, 0, none⟩) ∧ Ps.OnlyT w1.heap.size 22 g (.int .u64 0) W) :: .new (fun u W => ∃ g, u = .pointer (some ⟨g, 0, none⟩) ∧ w1.heap.size ≤ g ∧ W.heap[g]? = some (.cells #[.slice none 0 0] 47 (0, 0))) :: .sf undef (fun W => ∃ g, Ps.OnlyT w1.heap.size 22 g (U x.inst) W) :: []) (by kernel_rfl) (by kernel_rfl) (by simp only [List.length_cons, List.length_nil, List.drop_succ_cons, List.drop_zero, List.drop_nil]; with_reducible rfl) rfl (fun _ _ _ _ _ => ⟨fun h => h, fun h => h⟩) (fun _ _ h hb => h.st hb) (Ps.NoT.start w1 _) ?_
  rotate_left 12
  iterate 12
    first
      | (refine Ps.par_skip (a' := ?_) (by rfl) (by rfl) ?_ ?_ ?_; rotate_left 1; with_reducible rfl; (simp only [Act.put, List.setIfInBounds_toArray, List.set_cons_zero, List.set_cons_succ]; with_reducible rfl))
      | (refine Ps.par_run (a' := ?_) (by rfl) (by rfl) (fun w' hb hn => ?_) ?_ ?_; rotate_left 1; (have hB := Ps.relU.below hb (Nat.le_refl _); have q0 := (hB.cell (p := ⟨w.heap.size, 10, none⟩) hg0l).trans K10.out; have q1 := (hB.cell (p := ⟨w.heap.size, 11, none⟩) hg0l).trans K11.out; have q2 := (hB.cell (p := ⟨bl, ofl + 1, none⟩) (Nat.lt_of_lt_of_le hlb hsz1)).trans HX1.out; have q3 := (hB.cell (p := ⟨bm, ofm + 5, none⟩) (Nat.lt_of_lt_of_le hmb hsz1)).trans HX5.out; first | (go_simp; (try simp (disch := omega) only [IntWalk.i64_in, IntWalk.i32_in, IntWalk.u64_in, IntWalk.u8_in, IntWalk.u32_in, toNatUp, iteOmega]); with_reducible rfl) | (go_simp; (try simp (disch := omega) only [IntWalk.i64_in, IntWalk.i32_in, IntWalk.u64_in, IntWalk.u8_in, IntWalk.u32_in, toNatUp, iteOmega]); go_simp; with_reducible rfl)); (simp only [Act.put, List.setIfInBounds_toArray, List.set_cons_zero, List.set_cons_succ]; with_reducible rfl))
  refine Ps.par_str (a' := ?ap1k12) (by rfl) (by rfl) (Ps.PtrT.st) (fun _ _ _ ⟨g, hu, h⟩ hb => ⟨g, hu, h.st hb⟩) (fun w' hb hn hr => ?hp1k12) (fun u => ?pp1k12) (fun u12 hu12 => ?gp1k12)
  case hp1k12 => (have hB := Ps.relU.below hb (Nat.le_refl _); exact ⟨.pointer (some ⟨w'.heap.size, 0, none⟩), w'.alloc (.cells #[.int .u64 0] 22), (by go_simp; try with_reducible rfl), trivial, ⟨_, rfl, hB.size, _, alloc_new _ _, _, _, rfl⟩, Ps.relU.of' box1_b, ⟨_, rfl, hr.new hB.size⟩⟩)
  case pp1k12 => (simp only [Act.put, List.setIfInBounds_toArray, List.set_cons_zero, List.set_cons_succ]; with_reducible rfl)
  refine Ps.par_valN (a' := ?ap2k13) (by rfl) (by rfl) (fun _ _ _ ⟨g, hu, h1, h2⟩ hb => ⟨g, hu, h1, hb.2.2.2.2.1 g _ h2 (.inr (fun ⟨cs, fr, e⟩ => by injection e with _ e2 _; exact absurd e2 (by decide)))⟩) (fun w' hb hn => ?hp2k13) (fun u => ?pp2k13) (fun u => ?gp2k13)
  case hp2k13 => (have hB := Ps.relU.below hb (Nat.le_refl _); exact ⟨.pointer (some ⟨w'.heap.size, 0, none⟩), w'.alloc (.cells #[.slice none 0 0] 47), (by go_simp; try with_reducible rfl), ⟨_, rfl, hB.size, alloc_new _ _⟩, Ps.newN (by decide)⟩)
  case pp2k13 => (simp only [Act.put, List.setIfInBounds_toArray, List.set_cons_zero, List.set_cons_succ]; with_reducible rfl)
  refine Ps.par_sfs (a' := ?ap3k14) (by rfl) (by rfl) (fun _ _ ⟨g, h⟩ hb => ⟨g, h.st hb⟩) (fun w' hb hn hr => ?hp3k14) (by rfl) ?pp3k14 ?gp3k14
  case hp3k14 => (obtain ⟨g, rfl, hg⟩ := hr; have k := cell_of hg.2.1 0; have f := free_of hg.2.1 0; exact ⟨w'.setCell ⟨g, 0, none⟩ (U x.inst), (by go_simp; try with_reducible rfl), Ps.relU.set hg.1 hg.2.1 0 _, ⟨g, hg.set _⟩⟩)
  case pp3k14 => with_reducible rfl
  refine Ps.par_end (fun w9 hb9 hf9 hr9 => ?_)
  try refine Ps.wpList_none ?_
  simp only [List.forall_mem_cons] at hf9
  obtain ⟨⟨g13, rfl, hb13, hg13⟩, gP, -⟩ := hf9
  obtain ⟨g12, rfl, hb12, hg12⟩ := Ps.PtrT.only gP hr9
  have B2 := hid (Ps.relU.below hb9 (Nat.le_refl _))
  have G12 := hid hg12
  have G13 := hid hg13
  have kv := cell_of hg13 0
  have fv := free_of hg13 0
  clear hb9 hr9 gP hg12 hg13
  go_wp2_with fail
  refine wp_set1 G13.out ?_
  intro W2 gv bs2
  have B3 : Hid (Below w1.heap.size w1 W2) := B2.out.trans (bs2.out.below B2.out.size (fun k h => by subst h; exact hb13))
  have G12' : Hid (W2.heap[g12]? = some (.cells #[U x.inst] 22 (0, 0))) := (bs2.out.block g12 (heap_lt G12.out) (fun e => by
    have h1 := G12.out
    have h2 := G13.out
    rw [e, h2] at h1
    injection h1 with h1
    injection h1 with _ h1 _
    exact absurd h1 (by decide))).trans G12.out
  have BV2 := hid (B9.out.trans (B3.out.mono hsz1))
  have g0' := hid (keep_at B3.out g0.out)
  have g1' := hid (keep_at B3.out g1.out)
  have g2' := hid (keep_at B3.out g2.out)
  have hT2 := hid_lt hT9 B3.out
  have HL2 := hid (HL9.out.grow LisV.st (sans_grow B3.out))
  have HM2 := hid (HM9.out.grow MsgV.st (sans_grow B3.out))
  have HV2 := hid (HV9.out.below (sans_grow B3.out))
  have hszW := B3.out.size
  clear g0 g1 g2 B2 G12 G13 kv fv bs2
  obtain ⟨k0, k1, k2, k3, k4, k5, k6, k7, k8, k9, k10, k11⟩ := cells12 g0'.out
  obtain ⟨r0, r1, r2, r3, r4, r5, r6, r7, r8, r9, r10, r11, r12⟩ := cells13 g1'.out
  have f10 := free_of g0'.out 10
  have hl20 := heap_lt g0'.out
  have hl21 := heap_lt g1'.out
  refine wp_par (fun _ => False) (fun _ => True) (List.replicate 6 false) _ [.fix ?_, .fix ?_, .fix ?_, .new (RecBox r (.slice ra r.vars.length rk) 211), .fix ?_, .new (fun u W => ListAt LisV.at_ 7 (sans (hidB S w.heap.size 3) W) u (changeBy (ofLis r) (fun y => { y with msg := r.key2, vars := m.vars }) s.listed))] (by kernel_rfl) (by kernel_rfl) (by simp only [List.length_replicate, List.drop_succ_cons, List.drop_zero, List.drop_nil]; with_reducible rfl) rfl (fun _ _ _ _ _ => ⟨fun h => h, fun h => h⟩) (fun _ _ h _ => h) trivial ?_
  rotate_left 4
  iterate 3
    first
      | (refine par_skip (a' := ?_) (by rfl) (by rfl) ?_ ?_ ?_; rotate_left 1; with_reducible rfl; (simp only [Act.put, List.setIfInBounds_toArray, List.set_cons_zero, List.set_cons_succ]; with_reducible rfl))
      | (refine par_run (a' := ?_) (by rfl) (by rfl) (fun w' hb hn => ?_) ?_ ?_; rotate_left 1; (have hc := hb.cells; first | (go_simp; (try simp (disch := omega) only [IntWalk.i64_in, IntWalk.i32_in, IntWalk.u64_in, IntWalk.u8_in, IntWalk.u32_in, toNatUp, iteOmega]); with_reducible rfl) | (go_simp; (try simp (disch := omega) only [IntWalk.i64_in, IntWalk.i32_in, IntWalk.u64_in, IntWalk.u8_in, IntWalk.u32_in, toNatUp, iteOmega]); go_simp; with_reducible rfl)); (simp only [Act.put, List.setIfInBounds_toArray, List.set_cons_zero, List.set_cons_succ]; with_reducible rfl))
  refine par_callF (a' := ?a173k3) (f := ?f173k3) (args := ?r173k3) (by rfl) (by rfl) (fun w' => ?e173k3) (RecBox.st _ _ _) (fun w' hb hn => ?h173k3) (fun u => ?p173k3) (fun u => ?g173k3)
  case e173k3 => (go_simp; constructor <;> with_reducible rfl)
  case h173k3 => (exact ofListed_box w' r _)
  case p173k3 => (simp only [Act.put, List.setIfInBounds_toArray, List.set_cons_zero, List.set_cons_succ]; with_reducible rfl)
  iterate 1
    first
      | (refine par_skip (a' := ?_) (by rfl) (by rfl) ?_ ?_ ?_; rotate_left 1; with_reducible rfl; (simp only [Act.put, List.setIfInBounds_toArray, List.set_cons_zero, List.set_cons_succ]; with_reducible rfl))
      | (refine par_run (a' := ?_) (by rfl) (by rfl) (fun w' hb hn => ?_) ?_ ?_; rotate_left 1; (have hc := hb.cells; first | (go_simp; (try simp (disch := omega) only [IntWalk.i64_in, IntWalk.i32_in, IntWalk.u64_in, IntWalk.u8_in, IntWalk.u32_in, toNatUp, iteOmega]); with_reducible rfl) | (go_simp; (try simp (disch := omega) only [IntWalk.i64_in, IntWalk.i32_in, IntWalk.u64_in, IntWalk.u8_in, IntWalk.u32_in, toNatUp, iteOmega]); go_simp; with_reducible rfl)); (simp only [Act.put, List.setIfInBounds_toArray, List.set_cons_zero, List.set_cons_succ]; with_reducible rfl))
  refine par_callF (a' := ?a181k5) (f := ?f181k5) (args := ?r181k5) (by rfl) (by rfl) (fun w' => ?e181k5) (fun _ _ _ h hb => h.grow LisV.st (sans_grow hb)) (fun w' hb hn => ?h181k5) (fun u => ?p181k5) (fun u => ?g181k5)
  case e181k5 => (go_simp; constructor <;> with_reducible rfl)
  case h181k5 => ((obtain ⟨pb, rfl, hpb⟩ := need_head hn (by kernel_rfl); exact (changeLis_list w' (HL2.out.grow LisV.st (sans_grow hb.grow)) sees_refl hl1 (hid_lt hT2 hb.grow) _ #[.pointer (some ⟨pb, 0, none⟩)] (enters_of Tryz.func211 (by kernel_rfl) rfl) (ofLis r) (fun W x cs _ hx hb => by obtain ⟨v, rfl, -⟩ := hx; exact ofLis_cl W x v r _ pb (keep_at hb hpb)) _ #[.pointer (some ⟨w.heap.size + 1, 0, none⟩), .pointer (some ⟨g13, 0, none⟩)] (enters_of Tryz.func152 (by kernel_rfl) rfl) (fun y => { y with msg := r.key2, vars := m.vars }) (fun W x cs b cur _ hx hbW hbb hg _ htk => sending1_to (hid_lt hT2 hb.grow) (keep_at hb.grow g1'.out) (keep_at hb.grow gv.out) (HV2.out.below (sans_grow hb.grow)) hlen W x cs b cur hx hbW hbb hg htk)).mono (fun e w2 ⟨v', he, h1, h2⟩ => ⟨v', he, h1, h2⟩)))
  case p181k5 => (simp only [Act.put, List.setIfInBounds_toArray, List.set_cons_zero, List.set_cons_succ]; with_reducible rfl)
  refine par_end (fun w9 hb9 hf9 _ => ?_)
  replace hb9 := hb9.grow
  try refine wpList_none ?_
  simp only [List.forall_mem_cons] at hf9
  obtain ⟨gL, -⟩ := hf9
  have GL := hid gL
  obtain ⟨al, cl, rfl, -⟩ := gL
  have BV3 := hid (BV2.out.trans (hb9.mono BV2.out.size))
  have g03 := hid (keep_at hb9 g0'.out)
  have g13' := hid (keep_at hb9 g1'.out)
  have g23 := hid (keep_at hb9 g2'.out)
  have gi3 := hid (keep_at hb9 G12'.out)
  have hT3 := hid_lt hT2 hb9
  have HM3 := hid (HM2.out.grow MsgV.st (sans_grow hb9))
  have hsz3 := hb9.size
  clear hb9 g0' g1' g2' G12' HL2 HM2 HV2 k0 k1 k2 k3 k4 k5 k6 k7 k8 k9 k10 k11 r0 r1 r2 r3 r4 r5 r6 r7 r8 r9 r10 r11 r12 f10
  obtain ⟨w3, rfl⟩ : ∃ w3 : World, w3 = w9 := ⟨_, rfl⟩
  have k10 := cell_of g03.out 10
  have f10 := free_of g03.out 10
  have hlt03 := heap_lt g03.out
  go_wp2_with fail
  refine wp_set10 g03.out ?_
  intro W4 g04 bs4
  have hq4 : Goes (hidB S w.heap.size 3) w3 (hidB S w.heap.size 3) W4 := goes_hid bs4.out (fun i h => .inr (by omega))
  have BV4 := hid (BV3.out.trans (bs4.out.below BV3.out.size (fun k h => by omega)))
  have g14 := hid ((bs4.out.block _ (heap_lt g13'.out) (by omega)).trans g13'.out)
  have g24 := hid ((bs4.out.block _ (heap_lt g23.out) (by omega)).trans g23.out)
  have gi4 := hid ((bs4.out.block _ (heap_lt gi3.out) (by omega)).trans gi3.out)
  have hT4 : ∀ b, hidB S w.heap.size 3 b → b < W4.heap.size := fun b h => Nat.lt_of_lt_of_le (hT3 b h) bs4.out.size
  have GL4 := hid (GL.out.grow LisV.st hq4.sans)
  have HM4 := hid (HM3.out.grow MsgV.st hq4.sans)
  have hsz4 := bs4.out.size
  clear g03 g13' g23 gi3 HM3 GL bs4 k10 f10 hq4
  obtain ⟨k0, k1, k2, k3, k4, k5, k6, k7, k8, k9, k10, k11⟩ := cells12 g04.out
  obtain ⟨r0, r1, r2, r3, r4, r5, r6, r7, r8, r9, r10, r11, r12⟩ := cells13 g14.out
  have f11 := free_of g04.out 11
  have hl40 := heap_lt g04.out
  have hl41 := heap_lt g14.out
  refine wp_par (fun _ => False) (fun _ => True) (List.replicate 6 false) _ [.fix ?_, .fix ?_, .fix ?_, .new (RecBox r (.slice ra r.vars.length rk) 212), .fix ?_, .new (fun u W => ListAt MsgV.at_ 7 (sans (hidB S w.heap.size 3) W) u (changeBy (ofMsg r) (fun y => { y with insts := y.insts ++ [x.inst] }) s.msgs))] (by kernel_rfl) (by kernel_rfl) (by simp only [List.length_replicate, List.drop_succ_cons, List.drop_zero, List.drop_nil]; with_reducible rfl) rfl (fun _ _ _ _ _ => ⟨fun h => h, fun h => h⟩) (fun _ _ h _ => h) trivial ?_
  rotate_left 4
  iterate 3
    first
      | (refine par_skip (a' := ?_) (by rfl) (by rfl) ?_ ?_ ?_; rotate_left 1; with_reducible rfl; (simp only [Act.put, List.setIfInBounds_toArray, List.set_cons_zero, List.set_cons_succ]; with_reducible rfl))
      | (refine par_run (a' := ?_) (by rfl) (by rfl) (fun w' hb hn => ?_) ?_ ?_; rotate_left 1; (have hc := hb.cells; first | (go_simp; (try simp (disch := omega) only [IntWalk.i64_in, IntWalk.i32_in, IntWalk.u64_in, IntWalk.u8_in, IntWalk.u32_in, toNatUp, iteOmega]); with_reducible rfl) | (go_simp; (try simp (disch := omega) only [IntWalk.i64_in, IntWalk.i32_in, IntWalk.u64_in, IntWalk.u8_in, IntWalk.u32_in, toNatUp, iteOmega]); go_simp; with_reducible rfl)); (simp only [Act.put, List.setIfInBounds_toArray, List.set_cons_zero, List.set_cons_succ]; with_reducible rfl))
  refine par_callF (a' := ?a229k3) (f := ?f229k3) (args := ?r229k3) (by rfl) (by rfl) (fun w' => ?e229k3) (RecBox.st _ _ _) (fun w' hb hn => ?h229k3) (fun u => ?p229k3) (fun u => ?g229k3)
  case e229k3 => (go_simp; constructor <;> with_reducible rfl)
  case h229k3 => (exact ofMessage_box w' r _)
  case p229k3 => (simp only [Act.put, List.setIfInBounds_toArray, List.set_cons_zero, List.set_cons_succ]; with_reducible rfl)
  iterate 1
    first
      | (refine par_skip (a' := ?_) (by rfl) (by rfl) ?_ ?_ ?_; rotate_left 1; with_reducible rfl; (simp only [Act.put, List.setIfInBounds_toArray, List.set_cons_zero, List.set_cons_succ]; with_reducible rfl))
      | (refine par_run (a' := ?_) (by rfl) (by rfl) (fun w' hb hn => ?_) ?_ ?_; rotate_left 1; (have hc := hb.cells; first | (go_simp; (try simp (disch := omega) only [IntWalk.i64_in, IntWalk.i32_in, IntWalk.u64_in, IntWalk.u8_in, IntWalk.u32_in, toNatUp, iteOmega]); with_reducible rfl) | (go_simp; (try simp (disch := omega) only [IntWalk.i64_in, IntWalk.i32_in, IntWalk.u64_in, IntWalk.u8_in, IntWalk.u32_in, toNatUp, iteOmega]); go_simp; with_reducible rfl)); (simp only [Act.put, List.setIfInBounds_toArray, List.set_cons_zero, List.set_cons_succ]; with_reducible rfl))
  refine par_callF (a' := ?a237k5) (f := ?f237k5) (args := ?r237k5) (by rfl) (by rfl) (fun w' => ?e237k5) (fun _ _ _ h hb => h.grow MsgV.st (sans_grow hb)) (fun w' hb hn => ?h237k5) (fun u => ?p237k5) (fun u => ?g237k5)
  case e237k5 => (go_simp; constructor <;> with_reducible rfl)
  case h237k5 => ((obtain ⟨pb, rfl, hpb⟩ := need_head hn (by kernel_rfl); exact (changeMsg_list w' (HM4.out.grow MsgV.st (sans_grow hb.grow)) sees_refl hm1 (hid_lt hT4 hb.grow) _ #[.pointer (some ⟨pb, 0, none⟩)] (enters_of Tryz.func212 (by kernel_rfl) rfl) (ofMsg r) (fun W x cs _ hx hb => by obtain ⟨v, u, rfl, -⟩ := hx; exact ofMsg_cl W x v u r _ pb (keep_at hb hpb)) _ #[.pointer (some ⟨g12, 0, none⟩)] (enters_of Tryz.func154 (by kernel_rfl) rfl) (fun y => { y with insts := y.insts ++ [x.inst] }) (fun W y cs b cur hy hx hbW hbb hg _ htk => sending2_to (hid_lt hT4 hb.grow) (keep_at hb.grow gi4.out) W y cs b cur hx hbW hbb hg htk (by have h := HME.out; rw [h] at hy; simp at hy; subst hy; exact hins))).mono (fun e w2 ⟨v', he, h1, h2⟩ => ⟨v', he, h1, h2⟩)))
  case p237k5 => (simp only [Act.put, List.setIfInBounds_toArray, List.set_cons_zero, List.set_cons_succ]; with_reducible rfl)
  refine par_end (fun w9 hb9 hf9 _ => ?_)
  replace hb9 := hb9.grow
  try refine wpList_none ?_
  simp only [List.forall_mem_cons] at hf9
  obtain ⟨gM, -⟩ := hf9
  have GM := hid gM
  obtain ⟨a1, c1, rfl, -⟩ := gM
  have BV := hid (BV4.out.trans (hb9.mono BV4.out.size))
  have g0 := hid (keep_at hb9 g04.out)
  have g2 := hid (keep_at hb9 g24.out)
  have GL5 := hid (GL4.out.grow LisV.st (sans_grow hb9))
  have hz9' := hb9.size
  clear hb9 k0 k1 k2 k3 k4 k5 k6 k7 k8 k9 k10 k11 r0 r1 r2 r3 r4 r5 r6 r7 r8 r9 r10 r11 r12 f11 g04 g14 g24 gi4
  obtain ⟨k0, k1, k2, k3, k4, k5, k6, k7, k8, k9, k10, k11⟩ := cells12 g0.out
  obtain ⟨z0, z1, z2, z3, z4, z5, z6, z7, z8, z9, z10, z11⟩ := cells12 g2.out
  obtain ⟨x0, x1, x2, x3, x4, x5, x6, x7, x8, x9, x10, x11⟩ := frees12 g0.out
  obtain ⟨y0, y1, y2, y3, y4, y5, y6, y7, y8, y9, y10, y11⟩ := frees12 g2.out
  go_wp2
  refine post_set12 (set_other g2.out (by simp; omega) (.slice a1 (changeBy (ofMsg r) (fun y => { y with insts := y.insts ++ [x.inst] }) s.msgs).length c1)) ?_
  intro W9 h9 b9
  have bq : But (fun i => i = w.heap.size ∨ i = w.heap.size + 1 + 1) w9 W9 := (((But.refl (fun i => i = w.heap.size) w9).trans (set_but w9 w.heap.size 11 (.slice a1 (changeBy (ofMsg r) (fun y => { y with insts := y.insts ++ [x.inst] }) s.msgs).length c1))).mono (fun _ _ h => .inl h)).trans (b9.out.mono (fun _ _ h => .inr h))
  have hq : Goes (hidB S w.heap.size 3) w9 (hidB S w.heap.size 3) W9 := goes_hid bq (fun i h => .inr (by omega))
  have B9 : Hid (Below w.heap.size w W9) := BV.out.trans (bq.below BV.out.size (fun k h => by omega))
  obtain ⟨k0, k1, k2, k3, k4, k5, k6, k7, k8, k9, k10, k11⟩ := cells12 h9.out
  have hst := Hs.out.put (sans_grow B9.out) (s.pos) (s.done) (s.made) (((GL5.out).grow LisV.st hq.sans).sees LisV.sees hidB_sees) (((GM.out).grow MsgV.st hq.sans).sees MsgV.sees hidB_sees)
  rw [E.out]
  exact bodyPost_ret (v := .agg #[U s.pos, U s.done, U s.made, .slice xap s.procs.length xcp, .slice xai s.insts.length xci, .slice xat s.tokens.length xct, .slice xaj s.jobs.length xcj, .slice xar s.timers.length xcr, .slice xas s.subs.length xcs, .slice xak s.kept.length xck, .slice al (changeBy (ofLis r) (fun y => { y with msg := r.key2, vars := m.vars }) s.listed).length cl, .slice a1 (changeBy (ofMsg r) (fun y => { y with insts := y.insts ++ [x.inst] }) s.msgs).length c1]) (by simp [results, Tryz.results105, go_sem, k0, k1, k2, k3, k4, k5, k6, k7, k8, k9, k10, k11]) rfl ⟨[U s.pos, U s.done, U s.made, .slice xap s.procs.length xcp, .slice xai s.insts.length xci, .slice xat s.tokens.length xct, .slice xaj s.jobs.length xcj, .slice xar s.timers.length xcr, .slice xas s.subs.length xcs, .slice xak s.kept.length xck, .slice al (changeBy (ofLis r) (fun y => { y with msg := r.key2, vars := m.vars }) s.listed).length cl, .slice a1 (changeBy (ofMsg r) (fun y => { y with insts := y.insts ++ [x.inst] }) s.msgs).length c1], rfl, ⟨_, _, _, _, _, _, _, _, _, hst⟩, B9.out⟩
theorem evMissed_not_any (S : Nat → Prop) (w : World) (s : StateV) (r : RecV) (cs rc : List Value) (hS : ∀ b, S b → b < w.heap.size) (hs : StAt S w cs s) (hrec : RecAt S w rc r) (hno : s.listed.find? (ofLis r) = none) :
    Calls Tryz.prog 107 #[.agg cs.toArray, .agg rc.toArray] w fun e w' => ∃ cs', e = .returned (.agg cs'.toArray) ∧ StAt S w' cs' (evMissed s r) ∧ Below w.heap.size w w' := by
  have E : Hid (evMissed s r = { s with pos := s.pos, done := s.done, made := s.made, listed := s.listed, msgs := s.msgs }) := by
    show _ = _
    unfold evMissed
    rw [hno]
  have EL := hid (idxOf_none hno)
  clear hno
  obtain ⟨vp, vi, vt, vj, vr, vs, vk, vl, vm, hs⟩ := hs
  have Hs := hid hs
  obtain ⟨hcs, hp, hi, ht, hj, hr, hs, hk, hl, hm⟩ := hs
  obtain ⟨xap, xcp, rfl, -⟩ := hp
  obtain ⟨xai, xci, rfl, -⟩ := hi
  obtain ⟨xat, xct, rfl, -⟩ := ht
  obtain ⟨xaj, xcj, rfl, -⟩ := hj
  obtain ⟨xar, xcr, rfl, -⟩ := hr
  obtain ⟨xas, xcs, rfl, -⟩ := hs
  obtain ⟨xak, xck, rfl, -⟩ := hk
  obtain ⟨xal, xcl, rfl, -⟩ := hl
  obtain ⟨xam, xcm, rfl, -⟩ := hm
  subst hcs
  obtain ⟨rv, hrc, hrv⟩ := hrec
  subst hrc
  have Hrv := hid hrv
  obtain ⟨ra, rk, rfl, -⟩ := hrv
  go_enter Tryz.func107, Tryz.ntmps107
  go_wp2_with fail
  refine wp_box3 ?_
  intro W0 h0 h1 h2 B0 hz
  obtain ⟨k0, k1, k2, k3, k4, k5, k6, k7, k8, k9, k10, k11⟩ := cells12 h0.out
  obtain ⟨r0, r1, r2, r3, r4, r5, r6, r7, r8, r9, r10, r11, r12⟩ := cells13 h1.out
  have hT := hidB_lt (k := 3) hS (show w.heap.size + 3 ≤ W0.heap.size by omega)
  have hsee : Sees (sans S w) (sans (hidB S w.heap.size 3) W0) := sees_grow B0.out (fun b => hidB_old b)
  have HL := hid (Hs.out.listed.sees LisV.sees hsee)
  have HM := hid (Hs.out.msgs.sees MsgV.sees hsee)
  refine wp_par (fun _ => False) (fun _ => True) (List.replicate 6 false) _ [.fix ?_, .fix ?_, .fix ?_, .new (RecBox r (.slice ra r.vars.length rk) 211), .fix ?_, .fix ?_] (by kernel_rfl) (by kernel_rfl) (by simp only [List.length_replicate, List.drop_succ_cons, List.drop_zero, List.drop_nil]; with_reducible rfl) rfl (fun _ _ _ _ _ => ⟨fun h => h, fun h => h⟩) (fun _ _ h _ => h) trivial ?_
  rotate_left 5
  iterate 3
    first
      | (refine par_skip (a' := ?_) (by rfl) (by rfl) ?_ ?_ ?_; rotate_left 1; with_reducible rfl; (simp only [Act.put, List.setIfInBounds_toArray, List.set_cons_zero, List.set_cons_succ]; with_reducible rfl))
      | (refine par_run (a' := ?_) (by rfl) (by rfl) (fun w' hb hn => ?_) ?_ ?_; rotate_left 1; (have hc := hb.cells; first | (go_simp; (try simp (disch := omega) only [IntWalk.i64_in, IntWalk.i32_in, IntWalk.u64_in, IntWalk.u8_in, IntWalk.u32_in, toNatUp, iteOmega]); with_reducible rfl) | (go_simp; (try simp (disch := omega) only [IntWalk.i64_in, IntWalk.i32_in, IntWalk.u64_in, IntWalk.u8_in, IntWalk.u32_in, toNatUp, iteOmega]); go_simp; with_reducible rfl)); (simp only [Act.put, List.setIfInBounds_toArray, List.set_cons_zero, List.set_cons_succ]; with_reducible rfl))
  refine par_callF (a' := ?a311k3) (f := ?f311k3) (args := ?r311k3) (by rfl) (by rfl) (fun w' => ?e311k3) (RecBox.st _ _ _) (fun w' hb hn => ?h311k3) (fun u => ?p311k3) (fun u => ?g311k3)
  case e311k3 => (go_simp; constructor <;> with_reducible rfl)
  case h311k3 => (exact ofListed_box w' r _)
  case p311k3 => (simp only [Act.put, List.setIfInBounds_toArray, List.set_cons_zero, List.set_cons_succ]; with_reducible rfl)
  refine par_call (a' := ?_) (f := ?_) (args := ?_) (by rfl) (by rfl) (fun w' => ?_) (fun w' hb hn => ?_) ?_ ?_; rotate_left 3; (go_simp; constructor <;> with_reducible rfl); ((obtain ⟨pb, rfl, hpb⟩ := need_head hn (by kernel_rfl); have h := idxLis_list (S := hidB S w.heap.size 3) w' (HL.out.grow LisV.st (sans_grow hb.grow)) sees_refl _ #[.pointer (some ⟨pb, 0, none⟩)] (enters_of Tryz.func211 (by kernel_rfl) rfl) (ofLis r) (fun W x cs _ hx hb => by obtain ⟨v, rfl, -⟩ := hx; exact ofLis_cl W x v r _ pb (keep_at hb hpb)); rw [EL.out] at h; exact h)); (simp only [Act.put, List.setIfInBounds_toArray, List.set_cons_zero, List.set_cons_succ]; with_reducible rfl)
  iterate 1
    first
      | (refine par_skip (a' := ?_) (by rfl) (by rfl) ?_ ?_ ?_; rotate_left 1; with_reducible rfl; (simp only [Act.put, List.setIfInBounds_toArray, List.set_cons_zero, List.set_cons_succ]; with_reducible rfl))
      | (refine par_run (a' := ?_) (by rfl) (by rfl) (fun w' hb hn => ?_) ?_ ?_; rotate_left 1; (have hc := hb.cells; first | (go_simp; (try simp (disch := omega) only [IntWalk.i64_in, IntWalk.i32_in, IntWalk.u64_in, IntWalk.u8_in, IntWalk.u32_in, toNatUp, iteOmega]); with_reducible rfl) | (go_simp; (try simp (disch := omega) only [IntWalk.i64_in, IntWalk.i32_in, IntWalk.u64_in, IntWalk.u8_in, IntWalk.u32_in, toNatUp, iteOmega]); go_simp; with_reducible rfl)); (simp only [Act.put, List.setIfInBounds_toArray, List.set_cons_zero, List.set_cons_succ]; with_reducible rfl))
  refine par_end (fun w9 hb9 hf9 _ => ?_)
  replace hb9 := hb9.grow
  try refine wpList_none ?_
  replace hf9 := trivial
  have BV := hid (B0.out.trans (hb9.mono B0.out.size))
  have g0 := hid (keep_at hb9 h0.out)
  have g2 := hid (keep_at hb9 h2.out)
  have hz9 := hb9.size
  have HB9 := hid hb9
  clear k0 k1 k2 k3 k4 k5 k6 k7 k8 k9 k10 k11 r0 r1 r2 r3 r4 r5 r6 r7 r8 r9 r10 r11 r12
  obtain ⟨k0, k1, k2, k3, k4, k5, k6, k7, k8, k9, k10, k11⟩ := cells12 g0.out
  obtain ⟨z0, z1, z2, z3, z4, z5, z6, z7, z8, z9, z10, z11⟩ := cells12 g2.out
  obtain ⟨x0, x1, x2, x3, x4, x5, x6, x7, x8, x9, x10, x11⟩ := frees12 g0.out
  obtain ⟨y0, y1, y2, y3, y4, y5, y6, y7, y8, y9, y10, y11⟩ := frees12 g2.out
  clear h0 h1 h2 hb9 hf9
  go_wp2
  refine post_set12 g2.out ?_
  intro W9 h9 b9
  have bq : But (fun i => i = w.heap.size ∨ i = w.heap.size + 1 + 1) w9 W9 := ((But.refl (fun i => i = w.heap.size) w9).mono (fun _ _ h => .inl h)).trans (b9.out.mono (fun _ _ h => .inr h))
  have hq : Goes (hidB S w.heap.size 3) w9 (hidB S w.heap.size 3) W9 := goes_hid bq (fun i h => .inr (by omega))
  have B9 : Hid (Below w.heap.size w W9) := BV.out.trans (bq.below BV.out.size (fun k h => by omega))
  obtain ⟨k0, k1, k2, k3, k4, k5, k6, k7, k8, k9, k10, k11⟩ := cells12 h9.out
  have hst := Hs.out.put (sans_grow B9.out) (s.pos) (s.done) (s.made) (Hs.out.listed.grow LisV.st (sans_grow B9.out)) (Hs.out.msgs.grow MsgV.st (sans_grow B9.out))
  rw [E.out]
  exact bodyPost_ret (v := .agg #[U s.pos, U s.done, U s.made, .slice xap s.procs.length xcp, .slice xai s.insts.length xci, .slice xat s.tokens.length xct, .slice xaj s.jobs.length xcj, .slice xar s.timers.length xcr, .slice xas s.subs.length xcs, .slice xak s.kept.length xck, .slice xal s.listed.length xcl, .slice xam s.msgs.length xcm]) (by simp [results, Tryz.results107, go_sem, k0, k1, k2, k3, k4, k5, k6, k7, k8, k9, k10, k11]) rfl ⟨[U s.pos, U s.done, U s.made, .slice xap s.procs.length xcp, .slice xai s.insts.length xci, .slice xat s.tokens.length xct, .slice xaj s.jobs.length xcj, .slice xar s.timers.length xcr, .slice xas s.subs.length xcs, .slice xak s.kept.length xck, .slice xal s.listed.length xcl, .slice xam s.msgs.length xcm], rfl, ⟨_, _, _, _, _, _, _, _, _, hst⟩, B9.out⟩
theorem evMissed_do_any (S : Nat → Prop) (w : World) (s : StateV) (r : RecV) (cs rc : List Value) (hS : ∀ b, S b → b < w.heap.size) (hs : StAt S w cs s) (hrec : RecAt S w rc r) (hl1 : s.listed.length ≤ 1) (hm1 : s.msgs.length ≤ 1) (x : LisV) (hx : s.listed.find? (ofLis r) = some x) (hins : ∀ m ∈ s.msgs, m.insts.length ≤ 1) :
    Calls Tryz.prog 107 #[.agg cs.toArray, .agg rc.toArray] w fun e w' => ∃ cs', e = .returned (.agg cs'.toArray) ∧ StAt S w' cs' (evMissed s r) ∧ Below w.heap.size w w' := by
  have E : Hid (evMissed s r = { s with pos := s.pos, done := s.done, made := s.made, listed := withoutBy (ofLis r) s.listed, msgs := changeBy (ofMsg r) (fun y => { y with insts := withoutBy (fun k => decide (k = x.inst)) y.insts }) s.msgs }) := by
    show _ = _
    unfold evMissed
    rw [hx]
  have hiL := idxOf_one hl1 hx
  have EL := hid hiL.1
  have hL0 : s.listed[0]? = some x := by rw [hiL.2.1]; rfl
  have hLl : 0 < s.listed.length := by rw [hiL.2.1]; simp
  have HL0 := hid hL0
  have Hins := hid hins
  clear hx hiL hL0 hins
  obtain ⟨vp, vi, vt, vj, vr, vs, vk, vl, vm, hs⟩ := hs
  have Hs := hid hs
  obtain ⟨hcs, hp, hi, ht, hj, hr, hs, hk, hl, hm⟩ := hs
  obtain ⟨xap, xcp, rfl, -⟩ := hp
  obtain ⟨xai, xci, rfl, -⟩ := hi
  obtain ⟨xat, xct, rfl, -⟩ := ht
  obtain ⟨xaj, xcj, rfl, -⟩ := hj
  obtain ⟨xar, xcr, rfl, -⟩ := hr
  obtain ⟨xas, xcs, rfl, -⟩ := hs
  obtain ⟨xak, xck, rfl, -⟩ := hk
  obtain ⟨xal, xcl, rfl, -⟩ := hl
  obtain ⟨xam, xcm, rfl, -⟩ := hm
  subst hcs
  obtain ⟨rv, hrc, hrv⟩ := hrec
  subst hrc
  have Hrv := hid hrv
  obtain ⟨ra, rk, rfl, -⟩ := hrv
  obtain ⟨bl, ofl, csl, rfl, -, ⟨lv, rfl, -⟩, hcl⟩ := elem0 Hs.out.listed HL0.out
  have HQ1 := hid (sans_cell (hcl 1 _ rfl)).1
  clear hcl
  go_enter Tryz.func107, Tryz.ntmps107
  go_wp2_with fail
  refine wp_box3 ?_
  intro W0 h0 h1 h2 B0 hz
  obtain ⟨k0, k1, k2, k3, k4, k5, k6, k7, k8, k9, k10, k11⟩ := cells12 h0.out
  obtain ⟨r0, r1, r2, r3, r4, r5, r6, r7, r8, r9, r10, r11, r12⟩ := cells13 h1.out
  have hT := hidB_lt (k := 3) hS (show w.heap.size + 3 ≤ W0.heap.size by omega)
  have hsee : Sees (sans S w) (sans (hidB S w.heap.size 3) W0) := sees_grow B0.out (fun b => hidB_old b)
  have HL := hid (Hs.out.listed.sees LisV.sees hsee)
  have HM := hid (Hs.out.msgs.sees MsgV.sees hsee)
  refine wp_par (fun _ => False) (fun _ => True) (List.replicate 6 false) _ [.fix ?_, .fix ?_, .fix ?_, .new (RecBox r (.slice ra r.vars.length rk) 211), .fix ?_, .fix ?_] (by kernel_rfl) (by kernel_rfl) (by simp only [List.length_replicate, List.drop_succ_cons, List.drop_zero, List.drop_nil]; with_reducible rfl) rfl (fun _ _ _ _ _ => ⟨fun h => h, fun h => h⟩) (fun _ _ h _ => h) trivial ?_
  rotate_left 5
  iterate 3
    first
      | (refine par_skip (a' := ?_) (by rfl) (by rfl) ?_ ?_ ?_; rotate_left 1; with_reducible rfl; (simp only [Act.put, List.setIfInBounds_toArray, List.set_cons_zero, List.set_cons_succ]; with_reducible rfl))
      | (refine par_run (a' := ?_) (by rfl) (by rfl) (fun w' hb hn => ?_) ?_ ?_; rotate_left 1; (have hc := hb.cells; first | (go_simp; (try simp (disch := omega) only [IntWalk.i64_in, IntWalk.i32_in, IntWalk.u64_in, IntWalk.u8_in, IntWalk.u32_in, toNatUp, iteOmega]); with_reducible rfl) | (go_simp; (try simp (disch := omega) only [IntWalk.i64_in, IntWalk.i32_in, IntWalk.u64_in, IntWalk.u8_in, IntWalk.u32_in, toNatUp, iteOmega]); go_simp; with_reducible rfl)); (simp only [Act.put, List.setIfInBounds_toArray, List.set_cons_zero, List.set_cons_succ]; with_reducible rfl))
  refine par_callF (a' := ?a396k3) (f := ?f396k3) (args := ?r396k3) (by rfl) (by rfl) (fun w' => ?e396k3) (RecBox.st _ _ _) (fun w' hb hn => ?h396k3) (fun u => ?p396k3) (fun u => ?g396k3)
  case e396k3 => (go_simp; constructor <;> with_reducible rfl)
  case h396k3 => (exact ofListed_box w' r _)
  case p396k3 => (simp only [Act.put, List.setIfInBounds_toArray, List.set_cons_zero, List.set_cons_succ]; with_reducible rfl)
  refine par_call (a' := ?_) (f := ?_) (args := ?_) (by rfl) (by rfl) (fun w' => ?_) (fun w' hb hn => ?_) ?_ ?_; rotate_left 3; (go_simp; constructor <;> with_reducible rfl); ((obtain ⟨pb, rfl, hpb⟩ := need_head hn (by kernel_rfl); have h := idxLis_list (S := hidB S w.heap.size 3) w' (HL.out.grow LisV.st (sans_grow hb.grow)) sees_refl _ #[.pointer (some ⟨pb, 0, none⟩)] (enters_of Tryz.func211 (by kernel_rfl) rfl) (ofLis r) (fun W x cs _ hx hb => by obtain ⟨v, rfl, -⟩ := hx; exact ofLis_cl W x v r _ pb (keep_at hb hpb)); rw [EL.out] at h; exact h)); (simp only [Act.put, List.setIfInBounds_toArray, List.set_cons_zero, List.set_cons_succ]; with_reducible rfl)
  iterate 1
    first
      | (refine par_skip (a' := ?_) (by rfl) (by rfl) ?_ ?_ ?_; rotate_left 1; with_reducible rfl; (simp only [Act.put, List.setIfInBounds_toArray, List.set_cons_zero, List.set_cons_succ]; with_reducible rfl))
      | (refine par_run (a' := ?_) (by rfl) (by rfl) (fun w' hb hn => ?_) ?_ ?_; rotate_left 1; (have hc := hb.cells; first | (go_simp; (try simp (disch := omega) only [IntWalk.i64_in, IntWalk.i32_in, IntWalk.u64_in, IntWalk.u8_in, IntWalk.u32_in, toNatUp, iteOmega]); with_reducible rfl) | (go_simp; (try simp (disch := omega) only [IntWalk.i64_in, IntWalk.i32_in, IntWalk.u64_in, IntWalk.u8_in, IntWalk.u32_in, toNatUp, iteOmega]); go_simp; with_reducible rfl)); (simp only [Act.put, List.setIfInBounds_toArray, List.set_cons_zero, List.set_cons_succ]; with_reducible rfl))
  refine par_end (fun w9 hb9 hf9 _ => ?_)
  replace hb9 := hb9.grow
  try refine wpList_none ?_
  have B9 := hid (B0.out.trans (hb9.mono B0.out.size))
  have g0 := hid (keep_at hb9 h0.out)
  have g1 := hid (keep_at hb9 h1.out)
  have g2 := hid (keep_at hb9 h2.out)
  have hT9 := hid_lt hT hb9
  have HL9 := hid (HL.out.grow LisV.st (sans_grow hb9))
  have HM9 := hid (HM.out.grow MsgV.st (sans_grow hb9))
  clear hf9 hb9 k0 k1 k2 k3 k4 k5 k6 k7 k8 k9 k10 k11 r0 r1 r2 r3 r4 r5 r6 r7 r8 r9 r10 r11 r12 h0 h1 h2
  obtain ⟨w1, rfl⟩ : ∃ w1 : World, w1 = w9 := ⟨_, rfl⟩
  have k10 := cell_of g0.out 10
  have hlb := World.block_lt_of_cell? w _ HQ1.out
  dsimp only at hlb
  have hx1 := (B9.out.cell (p := ⟨bl, ofl + 1, none⟩) hlb).trans HQ1.out
  have hsz1 := B9.out.size
  have hg0l := heap_lt g0.out
  go_wp2_with fail
  refine wp_box1 ?_
  intro W2 gi B3 hszW
  have BV2 := hid (B9.out.trans (B3.out.mono hsz1))
  have g0' := hid (keep_at B3.out g0.out)
  have g1' := hid (keep_at B3.out g1.out)
  have g2' := hid (keep_at B3.out g2.out)
  have hT2 := hid_lt hT9 B3.out
  have HL2 := hid (HL9.out.grow LisV.st (sans_grow B3.out))
  have HM2 := hid (HM9.out.grow MsgV.st (sans_grow B3.out))
  clear g0 g1 g2 k10 hx1
  obtain ⟨k0, k1, k2, k3, k4, k5, k6, k7, k8, k9, k10, k11⟩ := cells12 g0'.out
  obtain ⟨r0, r1, r2, r3, r4, r5, r6, r7, r8, r9, r10, r11, r12⟩ := cells13 g1'.out
  have f10 := free_of g0'.out 10
  have hl20 := heap_lt g0'.out
  have hl21 := heap_lt g1'.out
  refine wp_par (fun _ => False) (fun _ => True) (List.replicate 5 false) _ [.fix ?_, .fix ?_, .fix ?_, .new (RecBox r (.slice ra r.vars.length rk) 211), .new (fun u W => ListAt LisV.at_ 7 (sans (hidB S w.heap.size 3) W) u (withoutBy (ofLis r) s.listed))] (by kernel_rfl) (by kernel_rfl) (by simp only [List.length_replicate, List.drop_succ_cons, List.drop_zero, List.drop_nil]; with_reducible rfl) rfl (fun _ _ _ _ _ => ⟨fun h => h, fun h => h⟩) (fun _ _ h _ => h) trivial ?_
  rotate_left 3
  iterate 3
    first
      | (refine par_skip (a' := ?_) (by rfl) (by rfl) ?_ ?_ ?_; rotate_left 1; with_reducible rfl; (simp only [Act.put, List.setIfInBounds_toArray, List.set_cons_zero, List.set_cons_succ]; with_reducible rfl))
      | (refine par_run (a' := ?_) (by rfl) (by rfl) (fun w' hb hn => ?_) ?_ ?_; rotate_left 1; (have hc := hb.cells; first | (go_simp; (try simp (disch := omega) only [IntWalk.i64_in, IntWalk.i32_in, IntWalk.u64_in, IntWalk.u8_in, IntWalk.u32_in, toNatUp, iteOmega]); with_reducible rfl) | (go_simp; (try simp (disch := omega) only [IntWalk.i64_in, IntWalk.i32_in, IntWalk.u64_in, IntWalk.u8_in, IntWalk.u32_in, toNatUp, iteOmega]); go_simp; with_reducible rfl)); (simp only [Act.put, List.setIfInBounds_toArray, List.set_cons_zero, List.set_cons_succ]; with_reducible rfl))
  refine par_callF (a' := ?a445k3) (f := ?f445k3) (args := ?r445k3) (by rfl) (by rfl) (fun w' => ?e445k3) (RecBox.st _ _ _) (fun w' hb hn => ?h445k3) (fun u => ?p445k3) (fun u => ?g445k3)
  case e445k3 => (go_simp; constructor <;> with_reducible rfl)
  case h445k3 => (exact ofListed_box w' r _)
  case p445k3 => (simp only [Act.put, List.setIfInBounds_toArray, List.set_cons_zero, List.set_cons_succ]; with_reducible rfl)
  refine par_callF (a' := ?a449k4) (f := ?f449k4) (args := ?r449k4) (by rfl) (by rfl) (fun w' => ?e449k4) (fun _ _ _ h hb => h.grow LisV.st (sans_grow hb)) (fun w' hb hn => ?h449k4) (fun u => ?p449k4) (fun u => ?g449k4)
  case e449k4 => (go_simp; constructor <;> with_reducible rfl)
  case h449k4 => ((obtain ⟨pb, rfl, hpb⟩ := need_head hn (by kernel_rfl); exact (withoutLis_list w' (HL2.out.grow LisV.st (sans_grow hb.grow)) sees_refl hl1 (hid_lt hT2 hb.grow) _ #[.pointer (some ⟨pb, 0, none⟩)] (enters_of Tryz.func211 (by kernel_rfl) rfl) (ofLis r) (fun W x cs _ hx hb => by obtain ⟨v, rfl, -⟩ := hx; exact ofLis_cl W x v r _ pb (keep_at hb hpb))).mono (fun e w2 ⟨v', he, h1, h2⟩ => ⟨v', he, h1, h2⟩)))
  case p449k4 => (simp only [Act.put, List.setIfInBounds_toArray, List.set_cons_zero, List.set_cons_succ]; with_reducible rfl)
  refine par_end (fun w9 hb9 hf9 _ => ?_)
  replace hb9 := hb9.grow
  try refine wpList_none ?_
  simp only [List.forall_mem_cons] at hf9
  obtain ⟨gL, -⟩ := hf9
  have GL := hid gL
  obtain ⟨al, cl, rfl, -⟩ := gL
  have BV3 := hid (BV2.out.trans (hb9.mono BV2.out.size))
  have g03 := hid (keep_at hb9 g0'.out)
  have g13' := hid (keep_at hb9 g1'.out)
  have g23 := hid (keep_at hb9 g2'.out)
  have gi3 := hid (keep_at hb9 gi.out)
  have hT3 := hid_lt hT2 hb9
  have HM3 := hid (HM2.out.grow MsgV.st (sans_grow hb9))
  have hsz3 := hb9.size
  clear hb9 g0' g1' g2' gi HL2 HM2 k0 k1 k2 k3 k4 k5 k6 k7 k8 k9 k10 k11 r0 r1 r2 r3 r4 r5 r6 r7 r8 r9 r10 r11 r12 f10 hl20 hl21
  obtain ⟨w3, rfl⟩ : ∃ w3 : World, w3 = w9 := ⟨_, rfl⟩
  have k10 := cell_of g03.out 10
  have f10 := free_of g03.out 10
  have hlt03 := heap_lt g03.out
  go_wp2_with fail
  refine wp_set10 g03.out ?_
  intro W4 g04 bs4
  have hq4 : Goes (hidB S w.heap.size 3) w3 (hidB S w.heap.size 3) W4 := goes_hid bs4.out (fun i h => .inr (by omega))
  have BV4 := hid (BV3.out.trans (bs4.out.below BV3.out.size (fun k h => by omega)))
  have g14 := hid ((bs4.out.block _ (heap_lt g13'.out) (by omega)).trans g13'.out)
  have g24 := hid ((bs4.out.block _ (heap_lt g23.out) (by omega)).trans g23.out)
  have gi4 := hid ((bs4.out.block _ (heap_lt gi3.out) (by omega)).trans gi3.out)
  have hT4 : ∀ b, hidB S w.heap.size 3 b → b < W4.heap.size := fun b h => Nat.lt_of_lt_of_le (hT3 b h) bs4.out.size
  have GL4 := hid (GL.out.grow LisV.st hq4.sans)
  have HM4 := hid (HM3.out.grow MsgV.st hq4.sans)
  have hsz4 := bs4.out.size
  clear g03 g13' g23 gi3 HM3 GL bs4 k10 f10 hq4
  obtain ⟨k0, k1, k2, k3, k4, k5, k6, k7, k8, k9, k10, k11⟩ := cells12 g04.out
  obtain ⟨r0, r1, r2, r3, r4, r5, r6, r7, r8, r9, r10, r11, r12⟩ := cells13 g14.out
  have f11 := free_of g04.out 11
  have hl40 := heap_lt g04.out
  have hl41 := heap_lt g14.out
  refine wp_par (fun _ => False) (fun _ => True) (List.replicate 6 false) _ [.fix ?_, .fix ?_, .fix ?_, .new (RecBox r (.slice ra r.vars.length rk) 212), .fix ?_, .new (fun u W => ListAt MsgV.at_ 7 (sans (hidB S w.heap.size 3) W) u (changeBy (ofMsg r) (fun y => { y with insts := withoutBy (fun k => decide (k = x.inst)) y.insts }) s.msgs))] (by kernel_rfl) (by kernel_rfl) (by simp only [List.length_replicate, List.drop_succ_cons, List.drop_zero, List.drop_nil]; with_reducible rfl) rfl (fun _ _ _ _ _ => ⟨fun h => h, fun h => h⟩) (fun _ _ h _ => h) trivial ?_
  rotate_left 4
  iterate 3
    first
      | (refine par_skip (a' := ?_) (by rfl) (by rfl) ?_ ?_ ?_; rotate_left 1; with_reducible rfl; (simp only [Act.put, List.setIfInBounds_toArray, List.set_cons_zero, List.set_cons_succ]; with_reducible rfl))
      | (refine par_run (a' := ?_) (by rfl) (by rfl) (fun w' hb hn => ?_) ?_ ?_; rotate_left 1; (have hc := hb.cells; first | (go_simp; (try simp (disch := omega) only [IntWalk.i64_in, IntWalk.i32_in, IntWalk.u64_in, IntWalk.u8_in, IntWalk.u32_in, toNatUp, iteOmega]); with_reducible rfl) | (go_simp; (try simp (disch := omega) only [IntWalk.i64_in, IntWalk.i32_in, IntWalk.u64_in, IntWalk.u8_in, IntWalk.u32_in, toNatUp, iteOmega]); go_simp; with_reducible rfl)); (simp only [Act.put, List.setIfInBounds_toArray, List.set_cons_zero, List.set_cons_succ]; with_reducible rfl))
  refine par_callF (a' := ?a497k3) (f := ?f497k3) (args := ?r497k3) (by rfl) (by rfl) (fun w' => ?e497k3) (RecBox.st _ _ _) (fun w' hb hn => ?h497k3) (fun u => ?p497k3) (fun u => ?g497k3)
  case e497k3 => (go_simp; constructor <;> with_reducible rfl)
  case h497k3 => (exact ofMessage_box w' r _)
  case p497k3 => (simp only [Act.put, List.setIfInBounds_toArray, List.set_cons_zero, List.set_cons_succ]; with_reducible rfl)
  iterate 1
    first
      | (refine par_skip (a' := ?_) (by rfl) (by rfl) ?_ ?_ ?_; rotate_left 1; with_reducible rfl; (simp only [Act.put, List.setIfInBounds_toArray, List.set_cons_zero, List.set_cons_succ]; with_reducible rfl))
      | (refine par_run (a' := ?_) (by rfl) (by rfl) (fun w' hb hn => ?_) ?_ ?_; rotate_left 1; (have hc := hb.cells; first | (go_simp; (try simp (disch := omega) only [IntWalk.i64_in, IntWalk.i32_in, IntWalk.u64_in, IntWalk.u8_in, IntWalk.u32_in, toNatUp, iteOmega]); with_reducible rfl) | (go_simp; (try simp (disch := omega) only [IntWalk.i64_in, IntWalk.i32_in, IntWalk.u64_in, IntWalk.u8_in, IntWalk.u32_in, toNatUp, iteOmega]); go_simp; with_reducible rfl)); (simp only [Act.put, List.setIfInBounds_toArray, List.set_cons_zero, List.set_cons_succ]; with_reducible rfl))
  refine par_callF (a' := ?a505k5) (f := ?f505k5) (args := ?r505k5) (by rfl) (by rfl) (fun w' => ?e505k5) (fun _ _ _ h hb => h.grow MsgV.st (sans_grow hb)) (fun w' hb hn => ?h505k5) (fun u => ?p505k5) (fun u => ?g505k5)
  case e505k5 => (go_simp; constructor <;> with_reducible rfl)
  case h505k5 => ((obtain ⟨pb, rfl, hpb⟩ := need_head hn (by kernel_rfl); exact (changeMsg_list w' (HM4.out.grow MsgV.st (sans_grow hb.grow)) sees_refl hm1 (hid_lt hT4 hb.grow) _ #[.pointer (some ⟨pb, 0, none⟩)] (enters_of Tryz.func212 (by kernel_rfl) rfl) (ofMsg r) (fun W x cs _ hx hb => by obtain ⟨v, u, rfl, -⟩ := hx; exact ofMsg_cl W x v u r _ pb (keep_at hb hpb)) _ #[.pointer (some ⟨w1.heap.size, 0, none⟩)] (enters_of Tryz.func156 (by kernel_rfl) rfl) (fun y => { y with insts := withoutBy (fun k => decide (k = x.inst)) y.insts }) (fun W y cs b cur hy hx hbW hbb hg _ htk => missed1_to (hid_lt hT4 hb.grow) (keep_at hb.grow gi4.out) W y cs b cur hx hbW hbb hg htk (Hins.out y hy))).mono (fun e w2 ⟨v', he, h1, h2⟩ => ⟨v', he, h1, h2⟩)))
  case p505k5 => (simp only [Act.put, List.setIfInBounds_toArray, List.set_cons_zero, List.set_cons_succ]; with_reducible rfl)
  refine par_end (fun w9 hb9 hf9 _ => ?_)
  replace hb9 := hb9.grow
  try refine wpList_none ?_
  simp only [List.forall_mem_cons] at hf9
  obtain ⟨gM, -⟩ := hf9
  have GM := hid gM
  obtain ⟨a1, c1, rfl, -⟩ := gM
  have BV := hid (BV4.out.trans (hb9.mono BV4.out.size))
  have g0 := hid (keep_at hb9 g04.out)
  have g2 := hid (keep_at hb9 g24.out)
  have GL5 := hid (GL4.out.grow LisV.st (sans_grow hb9))
  have hz9' := hb9.size
  clear hb9 k0 k1 k2 k3 k4 k5 k6 k7 k8 k9 k10 k11 r0 r1 r2 r3 r4 r5 r6 r7 r8 r9 r10 r11 r12 f11 g04 g14 g24 gi4
  obtain ⟨k0, k1, k2, k3, k4, k5, k6, k7, k8, k9, k10, k11⟩ := cells12 g0.out
  obtain ⟨z0, z1, z2, z3, z4, z5, z6, z7, z8, z9, z10, z11⟩ := cells12 g2.out
  obtain ⟨x0, x1, x2, x3, x4, x5, x6, x7, x8, x9, x10, x11⟩ := frees12 g0.out
  obtain ⟨y0, y1, y2, y3, y4, y5, y6, y7, y8, y9, y10, y11⟩ := frees12 g2.out
  go_wp2
  refine post_set12 (set_other g2.out (by simp; omega) (.slice a1 (changeBy (ofMsg r) (fun y => { y with insts := withoutBy (fun k => decide (k = x.inst)) y.insts }) s.msgs).length c1)) ?_
  intro W9 h9 b9
  have bq : But (fun i => i = w.heap.size ∨ i = w.heap.size + 1 + 1) w9 W9 := (((But.refl (fun i => i = w.heap.size) w9).trans (set_but w9 w.heap.size 11 (.slice a1 (changeBy (ofMsg r) (fun y => { y with insts := withoutBy (fun k => decide (k = x.inst)) y.insts }) s.msgs).length c1))).mono (fun _ _ h => .inl h)).trans (b9.out.mono (fun _ _ h => .inr h))
  have hq : Goes (hidB S w.heap.size 3) w9 (hidB S w.heap.size 3) W9 := goes_hid bq (fun i h => .inr (by omega))
  have B9 : Hid (Below w.heap.size w W9) := BV.out.trans (bq.below BV.out.size (fun k h => by omega))
  obtain ⟨k0, k1, k2, k3, k4, k5, k6, k7, k8, k9, k10, k11⟩ := cells12 h9.out
  have hst := Hs.out.put (sans_grow B9.out) (s.pos) (s.done) (s.made) (((GL5.out).grow LisV.st hq.sans).sees LisV.sees hidB_sees) (((GM.out).grow MsgV.st hq.sans).sees MsgV.sees hidB_sees)
  rw [E.out]
  exact bodyPost_ret (v := .agg #[U s.pos, U s.done, U s.made, .slice xap s.procs.length xcp, .slice xai s.insts.length xci, .slice xat s.tokens.length xct, .slice xaj s.jobs.length xcj, .slice xar s.timers.length xcr, .slice xas s.subs.length xcs, .slice xak s.kept.length xck, .slice al (withoutBy (ofLis r) s.listed).length cl, .slice a1 (changeBy (ofMsg r) (fun y => { y with insts := withoutBy (fun k => decide (k = x.inst)) y.insts }) s.msgs).length c1]) (by simp [results, Tryz.results107, go_sem, k0, k1, k2, k3, k4, k5, k6, k7, k8, k9, k10, k11]) rfl ⟨[U s.pos, U s.done, U s.made, .slice xap s.procs.length xcp, .slice xai s.insts.length xci, .slice xat s.tokens.length xct, .slice xaj s.jobs.length xcj, .slice xar s.timers.length xcr, .slice xas s.subs.length xcs, .slice xak s.kept.length xck, .slice al (withoutBy (ofLis r) s.listed).length cl, .slice a1 (changeBy (ofMsg r) (fun y => { y with insts := withoutBy (fun k => decide (k = x.inst)) y.insts }) s.msgs).length c1], rfl, ⟨_, _, _, _, _, _, _, _, _, hst⟩, B9.out⟩
end Go.Proofs.YtjkbfoeakeoeiaaGreat
