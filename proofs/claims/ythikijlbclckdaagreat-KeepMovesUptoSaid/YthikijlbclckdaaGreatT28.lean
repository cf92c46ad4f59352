/- Keep: contracts (Sn). -/
import Derived.Test.YthikijlbclckdaaGreatT27
namespace Go.Proofs.YthikijlbclckdaaGreat
set_option maxRecDepth 100000
set_option maxHeartbeats 40000000
set_option linter.unusedSimpArgs false
set_option linter.unusedVariables false
open Go.IntWalk Go.RowKit
structure SB (w : World) (c1 c2 : Array Value) (wr : World) : Prop where
 below : Below w.heap.size w wr
 one : wr.heap[w.heap.size]? = some (.cells c1 33 (0, 0))
 two : wr.heap[w.heap.size + 1]? = some (.cells c2 33 (0, 0))
theorem SB.grow {w : World} {c1 c2 : Array Value} {wr w' : World} (h : SB w c1 c2 wr) (hb : Below wr.heap.size wr w') : SB w c1 c2 w' :=
 ⟨h.below.trans (hb.mono h.below.size), (hb.block _ (heap_lt h.one)).trans h.one, (hb.block _ (heap_lt h.two)).trans h.two⟩
theorem vsame_is (l : List VarV) (u1 u2 : Value) (w : World) (h1 : VarsAt w u1 l) (h2 : VarsAt w u2 l) :
  Calls Tryz.prog 44 #[u1, u2] w fun e w' => e = .returned (.bool true) ∧ Below w.heap.size w w' :=
 (vsame_any l l u1 u2 w h1 h2).mono fun e w' h => by
  obtain ⟨⟨o, rfl, ho⟩, hb⟩ := h
  rw [ho.2 rfl]
  exact ⟨rfl, hb⟩
theorem same13_any (s : StateV) (cs1 cs2 : List Value) (vp vi vt vj vr vs vk vl vm yp yi yt yj yr ys yk yl ym : Value) (w : World) (h1 : StateAt w cs1 s vp vi vt vj vr vs vk vl vm) (h2 : StateAt w cs2 s yp yi yt yj yr ys yk yl ym) :
  Calls Tryz.prog 22 #[.agg cs1.toArray, .agg cs2.toArray] w fun e w' => e = .returned (.bool true) ∧ Below w.heap.size w w' := by
 have H1 := hid h1
 obtain ⟨rfl, hp, hi, ht, hj, hr, hs, hk, hl, hm⟩ := h1
 obtain ⟨ap1, cp1, rfl, -, mp1, -⟩ := hp
 obtain ⟨ai1, ci1, rfl, -, mi1, -⟩ := hi
 obtain ⟨at1, ct1, rfl, -, mt1, -⟩ := ht
 obtain ⟨aj1, cj1, rfl, -, mj1, -⟩ := hj
 obtain ⟨ar1, cr1, rfl, -, mr1, -⟩ := hr
 obtain ⟨as1, cs1, rfl, -, ms1, -⟩ := hs
 obtain ⟨ak1, ck1, rfl, -, mk1, -⟩ := hk
 obtain ⟨al1, cl1, rfl, -, ml1, -⟩ := hl
 obtain ⟨am1, cm1, rfl, -, mm1, -⟩ := hm
 have H2 := hid h2
 obtain ⟨rfl, hp, hi, ht, hj, hr, hs, hk, hl, hm⟩ := h2
 obtain ⟨ap2, cp2, rfl, -, mp2, -⟩ := hp
 obtain ⟨ai2, ci2, rfl, -, mi2, -⟩ := hi
 obtain ⟨at2, ct2, rfl, -, mt2, -⟩ := ht
 obtain ⟨aj2, cj2, rfl, -, mj2, -⟩ := hj
 obtain ⟨ar2, cr2, rfl, -, mr2, -⟩ := hr
 obtain ⟨as2, cs2, rfl, -, ms2, -⟩ := hs
 obtain ⟨ak2, ck2, rfl, -, mk2, -⟩ := hk
 obtain ⟨al2, cl2, rfl, -, ml2, -⟩ := hl
 obtain ⟨am2, cm2, rfl, -, mm2, -⟩ := hm
 unfold maxLen at mp1 mp2 mi1 mi2 mt1 mt2 mj1 mj2 mr1 mr2 ms1 ms2 mk1 mk2 ml1 ml2 mm1 mm2
 obtain ⟨CS1, hCS1⟩ : ∃ C : Array Value, C = #[U s.pos, U s.done, U s.made, .slice ap1 s.procs.length cp1, .slice ai1 s.insts.length ci1, .slice at1 s.tokens.length ct1, .slice aj1 s.jobs.length cj1, .slice ar1 s.timers.length cr1, .slice as1 s.subs.length cs1, .slice ak1 s.kept.length ck1, .slice al1 s.listed.length cl1, .slice am1 s.msgs.length cm1] := ⟨_, rfl⟩
 replace hCS1 := hid hCS1
 obtain ⟨CS2, hCS2⟩ : ∃ C : Array Value, C = #[U s.pos, U s.done, U s.made, .slice ap2 s.procs.length cp2, .slice ai2 s.insts.length ci2, .slice at2 s.tokens.length ct2, .slice aj2 s.jobs.length cj2, .slice ar2 s.timers.length cr2, .slice as2 s.subs.length cs2, .slice ak2 s.kept.length ck2, .slice al2 s.listed.length cl2, .slice am2 s.msgs.length cm2] := ⟨_, rfl⟩
 replace hCS2 := hid hCS2
 go_enter Tryz.func22, Tryz.ntmps22
 simp only [List.append_eq, List.cons_append, List.nil_append]
 have I0 : Hid (SB w CS1 CS2 ((w.alloc (.cells #[U s.pos, U s.done, U s.made, .slice ap1 s.procs.length cp1, .slice ai1 s.insts.length ci1, .slice at1 s.tokens.length ct1, .slice aj1 s.jobs.length cj1, .slice ar1 s.timers.length cr1, .slice as1 s.subs.length cs1, .slice ak1 s.kept.length ck1, .slice al1 s.listed.length cl1, .slice am1 s.msgs.length cm1] 33)).alloc (.cells #[U s.pos, U s.done, U s.made, .slice ap2 s.procs.length cp2, .slice ai2 s.insts.length ci2, .slice at2 s.tokens.length ct2, .slice aj2 s.jobs.length cj2, .slice ar2 s.timers.length cr2, .slice as2 s.subs.length cs2, .slice ak2 s.kept.length ck2, .slice al2 s.listed.length cl2, .slice am2 s.msgs.length cm2] 33))) := by
  rw [hCS1.out, hCS2.out]
  exact ⟨((Below.refl _ w).alloc (Nat.le_refl _) _).alloc (by simp) _, (alloc_old _ (by simp)).trans (alloc_new _ _), alloc_new2 _ _ _⟩
 go_wp2_with fail
 generalize ((w.alloc (.cells #[U s.pos, U s.done, U s.made, .slice ap1 s.procs.length cp1, .slice ai1 s.insts.length ci1, .slice at1 s.tokens.length ct1, .slice aj1 s.jobs.length cj1, .slice ar1 s.timers.length cr1, .slice as1 s.subs.length cs1, .slice ak1 s.kept.length ck1, .slice al1 s.listed.length cl1, .slice am1 s.msgs.length cm1] 33)).alloc (.cells #[U s.pos, U s.done, U s.made, .slice ap2 s.procs.length cp2, .slice ai2 s.insts.length ci2, .slice at2 s.tokens.length ct2, .slice aj2 s.jobs.length cj2, .slice ar2 s.timers.length cr2, .slice as2 s.subs.length cs2, .slice ak2 s.kept.length ck2, .slice al2 s.listed.length cl2, .slice am2 s.msgs.length cm2] 33)) = w0 at I0 ⊢
 go_loopw [5, 6] (fun vo vi wr => ∃ (i : Nat), i ≤ s.procs.length ∧ vo = .bool true ∧ vi = .int .i64 i ∧ Hid (SB w CS1 CS2 wr)) (fun _ vi _ => s.procs.length - (intOf vi).toNat)
 case atStart => exact ⟨0, Nat.zero_le _, rfl, rfl, I0⟩
 case round =>
  obtain ⟨i, hi, rfl, rfl, hR⟩ := hrel
  have z1 : wr.cell? ⟨w.heap.size, 3, none⟩ = some (.slice ap1 s.procs.length cp1) := by rw [cell_of hR.out.one 3, hCS1.out]; rfl
  have z2 : wr.cell? ⟨w.heap.size + 1, 3, none⟩ = some (.slice ap2 s.procs.length cp2) := by rw [cell_of hR.out.two 3, hCS2.out]; rfl
  by_cases hlt : i < s.procs.length
  ·
   as_aux_lemma =>
    obtain ⟨x, hx⟩ : ∃ x, s.procs[i]? = some x := ⟨_, List.getElem?_eq_getElem hlt⟩
    obtain ⟨g', cap', hv', -, -, hcell'⟩ := H1.out.procs
    cases hv'
    obtain ⟨b1, o1, cs', rfl, -, hat1, hc'⟩ := hcell' i x hx
    have Hat1 := hid hat1
    obtain rfl := hat1
    have k0 := kc hR.out.below (hc' 0 _ rfl)
    have k1 := kc hR.out.below (hc' 1 _ rfl)
    simp only [Nat.add_zero] at k0
    clear hcell' hc' Hat1
    obtain ⟨g', cap', hv', -, -, hcell'⟩ := H2.out.procs
    cases hv'
    obtain ⟨b2, o2, cs', rfl, -, hat2, hc'⟩ := hcell' i x hx
    have Hat2 := hid hat2
    obtain rfl := hat2
    have l0 := kc hR.out.below (hc' 0 _ rfl)
    have l1 := kc hR.out.below (hc' 1 _ rfl)
    simp only [Nat.add_zero] at l0
    clear hcell' hc' Hat2
    clear hx
    have hb1 := World.block_lt_of_cell? wr _ k0
    have hb2 := World.block_lt_of_cell? wr _ l0
    dsimp only at hb1 hb2
    have hz1 := heap_lt hR.out.one
    have hz2 := heap_lt hR.out.two
    go_wp2_with fail
    refine wp_par (fun _ => False) (fun _ => True) (List.replicate 15 false) _ [.fix ?_, .fix ?_, .fix ?_, .fix ?_, .fix ?_, .fix ?_, .fix ?_, .fix ?_, .fix ?_, .fix ?_, .fix ?_, .fix ?_, .fix (.bool true), .fix ?_, .fix ?_] (by kernel_rfl) (by kernel_rfl) (by simp only [List.length_replicate, List.drop_succ_cons, List.drop_zero, List.drop_nil]; with_reducible rfl) rfl (fun _ _ _ _ _ => ⟨fun h => h, fun h => h⟩) (fun _ _ h _ => h) trivial ?_
    rotate_left 14
    iterate 12
     first
      | (refine par_skip (a' := ?_) (by rfl) (by rfl) ?_ ?_ ?_; rotate_left 1; with_reducible rfl; (simp only [lays]; with_reducible rfl))
      | (refine par_run (a' := ?_) (by rfl) (by rfl) (fun w' hb hn => ?_) ?_ ?_; rotate_left 1; (have hc := hb.cells; go_simp; (try simp (disch := omega) only [nrm, toNatUp, iteOmega]); first | with_reducible rfl | (go_simp; with_reducible rfl)); (simp only [lays]; with_reducible rfl))
    refine par_run (a' := ?a240k12) (by rfl) (by rfl) (fun w' hb hn => ?h240k12) ?p240k12 ?g240k12
    case h240k12 => (have hc := hb.cells; go_simp; (try simp (disch := omega) only [nrm, toNatUp, iteOmega]); first | done | simp)
    case p240k12 => (simp only [lays]; with_reducible rfl)
    iterate 2
     first
      | (refine par_skip (a' := ?_) (by rfl) (by rfl) ?_ ?_ ?_; rotate_left 1; with_reducible rfl; (simp only [lays]; with_reducible rfl))
      | (refine par_run (a' := ?_) (by rfl) (by rfl) (fun w' hb hn => ?_) ?_ ?_; rotate_left 1; (have hc := hb.cells; go_simp; (try simp (disch := omega) only [nrm, toNatUp, iteOmega]); first | with_reducible rfl | (go_simp; with_reducible rfl)); (simp only [lays]; with_reducible rfl))
    refine par_end (fun w9 hb9 hf9 _ => ?_)
    replace hb9 := hb9.grow
    try refine wpList_none ?_
    have hbb := hid (hR.out.grow hb9)
    clear hb9
    go_wp2
    go_roundw
    case rel => exact ⟨i + 1, by omega, rfl, by go_num, hbb⟩
    case measure => simp [intOf]; omega
  ·
   obtain rfl : i = s.procs.length := by omega
   have IR := hR
   go_wp2_with fail
   clear hi hlt hR z1 z2
   obtain ⟨w0, rfl⟩ : ∃ w0 : World, w0 = wr := ⟨_, rfl⟩
   go_loopw [5, 7] (fun vo vi wr => ∃ (i : Nat), i ≤ s.insts.length ∧ vo = .bool true ∧ vi = .int .i64 i ∧ Hid (SB w CS1 CS2 wr)) (fun _ vi _ => s.insts.length - (intOf vi).toNat)
   case atStart => exact ⟨0, Nat.zero_le _, rfl, rfl, IR⟩
   case round =>
    obtain ⟨i, hi, rfl, rfl, hR⟩ := hrel
    have z1 : wr.cell? ⟨w.heap.size, 4, none⟩ = some (.slice ai1 s.insts.length ci1) := by rw [cell_of hR.out.one 4, hCS1.out]; rfl
    have z2 : wr.cell? ⟨w.heap.size + 1, 4, none⟩ = some (.slice ai2 s.insts.length ci2) := by rw [cell_of hR.out.two 4, hCS2.out]; rfl
    by_cases hlt : i < s.insts.length
    ·
     as_aux_lemma =>
      obtain ⟨x, hx⟩ : ∃ x, s.insts[i]? = some x := ⟨_, List.getElem?_eq_getElem hlt⟩
      obtain ⟨g', cap', hv', -, -, hcell'⟩ := H1.out.insts
      cases hv'
      obtain ⟨b1, o1, cs', rfl, -, hat1, hc'⟩ := hcell' i x hx
      have Hat1 := hid hat1
      obtain ⟨v3, rfl, hv3⟩ := hat1
      obtain ⟨av1, cv1, rfl, -⟩ := hv3
      have k0 := kc hR.out.below (hc' 0 _ rfl)
      have k1 := kc hR.out.below (hc' 1 _ rfl)
      have k2 := kc hR.out.below (hc' 2 _ rfl)
      simp only [Nat.add_zero] at k0
      clear hcell' hc'
      obtain ⟨g', cap', hv', -, -, hcell'⟩ := H2.out.insts
      cases hv'
      obtain ⟨b2, o2, cs', rfl, -, hat2, hc'⟩ := hcell' i x hx
      have Hat2 := hid hat2
      obtain ⟨v3, rfl, hv3⟩ := hat2
      obtain ⟨av2, cv2, rfl, -⟩ := hv3
      have l0 := kc hR.out.below (hc' 0 _ rfl)
      have l1 := kc hR.out.below (hc' 1 _ rfl)
      have l2 := kc hR.out.below (hc' 2 _ rfl)
      simp only [Nat.add_zero] at l0
      clear hcell' hc'
      clear hx
      have hb1 := World.block_lt_of_cell? wr _ k0
      have hb2 := World.block_lt_of_cell? wr _ l0
      dsimp only at hb1 hb2
      have hz1 := heap_lt hR.out.one
      have hz2 := heap_lt hR.out.two
      have hv1 : Hid (∀ W, Below w.heap.size w W → VarsAt W (.slice av1 x.vars.length cv1) x.vars) := fun W hB => (show VarsAt w (.slice av1 x.vars.length cv1) x.vars from by obtain ⟨v, h1, h2⟩ := Hat1.out; cases h1; exact h2).below hB
      have hv2 : Hid (∀ W, Below w.heap.size w W → VarsAt W (.slice av2 x.vars.length cv2) x.vars) := fun W hB => (show VarsAt w (.slice av2 x.vars.length cv2) x.vars from by obtain ⟨v, h1, h2⟩ := Hat2.out; cases h1; exact h2).below hB
      clear Hat1 Hat2
      go_wp2_with fail
      refine wp_par (fun _ => False) (fun _ => True) (List.replicate 14 false) _ [.fix ?_, .fix ?_, .fix ?_, .fix ?_, .fix ?_, .fix ?_, .fix ?_, .fix ?_, .fix ?_, .fix ?_, .fix ?_, .fix ?_, .fix ?_, .fix ?_] (by kernel_rfl) (by kernel_rfl) (by simp only [List.length_replicate, List.drop_succ_cons, List.drop_zero, List.drop_nil]; with_reducible rfl) rfl (fun _ _ _ _ _ => ⟨fun h => h, fun h => h⟩) (fun _ _ h _ => h) trivial ?_
      rotate_left 14
      iterate 12
       first
        | (refine par_skip (a' := ?_) (by rfl) (by rfl) ?_ ?_ ?_; rotate_left 1; with_reducible rfl; (simp only [lays]; with_reducible rfl))
        | (refine par_run (a' := ?_) (by rfl) (by rfl) (fun w' hb hn => ?_) ?_ ?_; rotate_left 1; (have hc := hb.cells; go_simp; (try simp (disch := omega) only [nrm, toNatUp, iteOmega]); first | with_reducible rfl | (go_simp; with_reducible rfl)); (simp only [lays]; with_reducible rfl))
      refine par_call (a' := ?_) (f := ?_) (args := ?_) (by rfl) (by rfl) (fun w' => ?_) (fun w' hb hn => ?_) ?_ ?_; rotate_left 3; (go_simp; constructor <;> with_reducible rfl); (exact vsame_is _ _ _ w' (hv1.out w' (hR.out.below.trans (hb.grow.mono hR.out.below.size))) (hv2.out w' (hR.out.below.trans (hb.grow.mono hR.out.below.size)))); (simp only [lays]; with_reducible rfl)
      iterate 1
       first
        | (refine par_skip (a' := ?_) (by rfl) (by rfl) ?_ ?_ ?_; rotate_left 1; with_reducible rfl; (simp only [lays]; with_reducible rfl))
        | (refine par_run (a' := ?_) (by rfl) (by rfl) (fun w' hb hn => ?_) ?_ ?_; rotate_left 1; (have hc := hb.cells; go_simp; (try simp (disch := omega) only [nrm, toNatUp, iteOmega]); first | with_reducible rfl | (go_simp; with_reducible rfl)); (simp only [lays]; with_reducible rfl))
      refine par_end (fun w9 hb9 hf9 _ => ?_)
      replace hb9 := hb9.grow
      try refine wpList_none ?_
      have hR9 := hid (hR.out.grow hb9)
      replace k0 := (hb9.cell (p := ⟨b1, o1 + i * 3, none⟩) hb1).trans k0
      replace k1 := (hb9.cell (p := ⟨b1, o1 + i * 3 + 1, none⟩) hb1).trans k1
      replace k2 := (hb9.cell (p := ⟨b1, o1 + i * 3 + 2, none⟩) hb1).trans k2
      replace l0 := (hb9.cell (p := ⟨b2, o2 + i * 3, none⟩) hb2).trans l0
      replace l1 := (hb9.cell (p := ⟨b2, o2 + i * 3 + 1, none⟩) hb2).trans l1
      replace l2 := (hb9.cell (p := ⟨b2, o2 + i * 3 + 2, none⟩) hb2).trans l2
      replace z1 : w9.cell? ⟨w.heap.size, 4, none⟩ = some (.slice (some ⟨b1, o1, none⟩) s.insts.length ci1) := by rw [cell_of hR9.out.one 4, hCS1.out]; rfl
      replace z2 : w9.cell? ⟨w.heap.size + 1, 4, none⟩ = some (.slice (some ⟨b2, o2, none⟩) s.insts.length ci2) := by rw [cell_of hR9.out.two 4, hCS2.out]; rfl
      replace hb1 := Nat.lt_of_lt_of_le hb1 hb9.size
      replace hb2 := Nat.lt_of_lt_of_le hb2 hb9.size
      clear hb9
      obtain ⟨w3, rfl⟩ : ∃ w3 : World, w3 = w9 := ⟨_, rfl⟩
      have hz3 := heap_lt hR9.out.one
      have hz4 := heap_lt hR9.out.two
      go_wp2_with fail
      refine wp_par (fun _ => False) (fun _ => True) (List.replicate 35 false) _ (.fix ?_ :: .fix ?_ :: .fix ?_ :: .fix ?_ :: .fix ?_ :: .fix ?_ :: .fix ?_ :: .fix ?_ :: .fix ?_ :: .fix ?_ :: .fix ?_ :: .fix ?_ :: .fix ?_ :: .fix ?_ :: .fix ?_ :: .fix ?_ :: .fix ?_ :: .fix (.bool true) :: .fix ?_ :: .fix ?_ :: .fix ?_ :: .fix ?_ :: .fix ?_ :: .fix ?_ :: .fix ?_ :: .fix ?_ :: .fix ?_ :: .fix ?_ :: .fix ?_ :: .fix ?_ :: .fix ?_ :: .fix ?_ :: .fix (.bool true) :: .fix ?_ :: .fix ?_ :: []) (by kernel_rfl) (by kernel_rfl) (by simp only [List.length_replicate, List.drop_succ_cons, List.drop_zero, List.drop_nil]; with_reducible rfl) rfl (fun _ _ _ _ _ => ⟨fun h => h, fun h => h⟩) (fun _ _ h _ => h) trivial ?_
      rotate_left 33
      iterate 17
       first
        | (refine par_skip (a' := ?_) (by rfl) (by rfl) ?_ ?_ ?_; rotate_left 1; with_reducible rfl; (simp only [lays]; with_reducible rfl))
        | (refine par_run (a' := ?_) (by rfl) (by rfl) (fun w' hb hn => ?_) ?_ ?_; rotate_left 1; (have hc := hb.cells; go_simp; (try simp (disch := omega) only [nrm, toNatUp, iteOmega]); first | with_reducible rfl | (go_simp; with_reducible rfl)); (simp only [lays]; with_reducible rfl))
      refine par_run (a' := ?a338k17) (by rfl) (by rfl) (fun w' hb hn => ?h338k17) ?p338k17 ?g338k17
      case h338k17 => (have hc := hb.cells; go_simp; (try simp (disch := omega) only [nrm, toNatUp, iteOmega]); first | done | simp)
      case p338k17 => (simp only [lays]; with_reducible rfl)
      iterate 14
       first
        | (refine par_skip (a' := ?_) (by rfl) (by rfl) ?_ ?_ ?_; rotate_left 1; with_reducible rfl; (simp only [lays]; with_reducible rfl))
        | (refine par_run (a' := ?_) (by rfl) (by rfl) (fun w' hb hn => ?_) ?_ ?_; rotate_left 1; (have hc := hb.cells; go_simp; (try simp (disch := omega) only [nrm, toNatUp, iteOmega]); first | with_reducible rfl | (go_simp; with_reducible rfl)); (simp only [lays]; with_reducible rfl))
      refine par_run (a' := ?a345k32) (by rfl) (by rfl) (fun w' hb hn => ?h345k32) ?p345k32 ?g345k32
      case h345k32 => (have hc := hb.cells; go_simp; (try simp (disch := omega) only [nrm, toNatUp, iteOmega]); first | done | simp)
      case p345k32 => (simp only [lays]; with_reducible rfl)
      iterate 2
       first
        | (refine par_skip (a' := ?_) (by rfl) (by rfl) ?_ ?_ ?_; rotate_left 1; with_reducible rfl; (simp only [lays]; with_reducible rfl))
        | (refine par_run (a' := ?_) (by rfl) (by rfl) (fun w' hb hn => ?_) ?_ ?_; rotate_left 1; (have hc := hb.cells; go_simp; (try simp (disch := omega) only [nrm, toNatUp, iteOmega]); first | with_reducible rfl | (go_simp; with_reducible rfl)); (simp only [lays]; with_reducible rfl))
      refine par_end (fun w9 hb9 hf9 _ => ?_)
      replace hb9 := hb9.grow
      try refine wpList_none ?_
      have hbb := hid (hR9.out.grow hb9)
      clear hb9
      go_wp2
      go_roundw
      case rel => exact ⟨i + 1, by omega, rfl, by go_num, hbb⟩
      case measure => simp [intOf]; omega
    ·
     obtain rfl : i = s.insts.length := by omega
     have IR := hR
     go_wp2_with fail
     clear hi hlt hR z1 z2
     obtain ⟨w0, rfl⟩ : ∃ w0 : World, w0 = wr := ⟨_, rfl⟩
     go_loopw [5, 9] (fun vo vi wr => ∃ (i : Nat), i ≤ s.tokens.length ∧ vo = .bool true ∧ vi = .int .i64 i ∧ Hid (SB w CS1 CS2 wr)) (fun _ vi _ => s.tokens.length - (intOf vi).toNat)
     case atStart => exact ⟨0, Nat.zero_le _, rfl, rfl, IR⟩
     case round =>
      obtain ⟨i, hi, rfl, rfl, hR⟩ := hrel
      have z1 : wr.cell? ⟨w.heap.size, 5, none⟩ = some (.slice at1 s.tokens.length ct1) := by rw [cell_of hR.out.one 5, hCS1.out]; rfl
      have z2 : wr.cell? ⟨w.heap.size + 1, 5, none⟩ = some (.slice at2 s.tokens.length ct2) := by rw [cell_of hR.out.two 5, hCS2.out]; rfl
      by_cases hlt : i < s.tokens.length
      ·
       as_aux_lemma =>
        obtain ⟨x, hx⟩ : ∃ x, s.tokens[i]? = some x := ⟨_, List.getElem?_eq_getElem hlt⟩
        obtain ⟨g', cap', hv', -, -, hcell'⟩ := H1.out.tokens
        cases hv'
        obtain ⟨b1, o1, cs', rfl, -, hat1, hc'⟩ := hcell' i x hx
        have Hat1 := hid hat1
        obtain rfl := hat1
        have k0 := kc hR.out.below (hc' 0 _ rfl)
        have k1 := kc hR.out.below (hc' 1 _ rfl)
        have k2 := kc hR.out.below (hc' 2 _ rfl)
        have k3 := kc hR.out.below (hc' 3 _ rfl)
        have k4 := kc hR.out.below (hc' 4 _ rfl)
        have k5 := kc hR.out.below (hc' 5 _ rfl)
        simp only [Nat.add_zero] at k0
        clear hcell' hc' Hat1
        obtain ⟨g', cap', hv', -, -, hcell'⟩ := H2.out.tokens
        cases hv'
        obtain ⟨b2, o2, cs', rfl, -, hat2, hc'⟩ := hcell' i x hx
        have Hat2 := hid hat2
        obtain rfl := hat2
        have l0 := kc hR.out.below (hc' 0 _ rfl)
        have l1 := kc hR.out.below (hc' 1 _ rfl)
        have l2 := kc hR.out.below (hc' 2 _ rfl)
        have l3 := kc hR.out.below (hc' 3 _ rfl)
        have l4 := kc hR.out.below (hc' 4 _ rfl)
        have l5 := kc hR.out.below (hc' 5 _ rfl)
        simp only [Nat.add_zero] at l0
        clear hcell' hc' Hat2
        clear hx
        have hb1 := World.block_lt_of_cell? wr _ k0
        have hb2 := World.block_lt_of_cell? wr _ l0
        dsimp only at hb1 hb2
        have hz1 := heap_lt hR.out.one
        have hz2 := heap_lt hR.out.two
        go_wp2_with fail
        refine wp_par (fun _ => False) (fun _ => True) (List.replicate 15 false) _ [.fix ?_, .fix ?_, .fix ?_, .fix ?_, .fix ?_, .fix ?_, .fix ?_, .fix ?_, .fix ?_, .fix ?_, .fix ?_, .fix ?_, .fix (.bool true), .fix ?_, .fix ?_] (by kernel_rfl) (by kernel_rfl) (by simp only [List.length_replicate, List.drop_succ_cons, List.drop_zero, List.drop_nil]; with_reducible rfl) rfl (fun _ _ _ _ _ => ⟨fun h => h, fun h => h⟩) (fun _ _ h _ => h) trivial ?_
        rotate_left 14
        iterate 12
         first
          | (refine par_skip (a' := ?_) (by rfl) (by rfl) ?_ ?_ ?_; rotate_left 1; with_reducible rfl; (simp only [lays]; with_reducible rfl))
          | (refine par_run (a' := ?_) (by rfl) (by rfl) (fun w' hb hn => ?_) ?_ ?_; rotate_left 1; (have hc := hb.cells; go_simp; (try simp (disch := omega) only [nrm, toNatUp, iteOmega]); first | with_reducible rfl | (go_simp; with_reducible rfl)); (simp only [lays]; with_reducible rfl))
        refine par_run (a' := ?a414k12) (by rfl) (by rfl) (fun w' hb hn => ?h414k12) ?p414k12 ?g414k12
        case h414k12 => (have hc := hb.cells; go_simp; (try simp (disch := omega) only [nrm, toNatUp, iteOmega]); first | done | simp)
        case p414k12 => (simp only [lays]; with_reducible rfl)
        iterate 2
         first
          | (refine par_skip (a' := ?_) (by rfl) (by rfl) ?_ ?_ ?_; rotate_left 1; with_reducible rfl; (simp only [lays]; with_reducible rfl))
          | (refine par_run (a' := ?_) (by rfl) (by rfl) (fun w' hb hn => ?_) ?_ ?_; rotate_left 1; (have hc := hb.cells; go_simp; (try simp (disch := omega) only [nrm, toNatUp, iteOmega]); first | with_reducible rfl | (go_simp; with_reducible rfl)); (simp only [lays]; with_reducible rfl))
        refine par_end (fun w9 hb9 hf9 _ => ?_)
        replace hb9 := hb9.grow
        try refine wpList_none ?_
        have hbb := hid (hR.out.grow hb9)
        clear hb9
        go_wp2
        go_roundw
        case rel => exact ⟨i + 1, by omega, rfl, by go_num, hbb⟩
        case measure => simp [intOf]; omega
      ·
       obtain rfl : i = s.tokens.length := by omega
       have IR := hR
       go_wp2_with fail
       clear hi hlt hR z1 z2
       obtain ⟨w0, rfl⟩ : ∃ w0 : World, w0 = wr := ⟨_, rfl⟩
       go_loopw [5, 10] (fun vo vi wr => ∃ (i : Nat), i ≤ s.jobs.length ∧ vo = .bool true ∧ vi = .int .i64 i ∧ Hid (SB w CS1 CS2 wr)) (fun _ vi _ => s.jobs.length - (intOf vi).toNat)
       case atStart => exact ⟨0, Nat.zero_le _, rfl, rfl, IR⟩
       case round =>
        obtain ⟨i, hi, rfl, rfl, hR⟩ := hrel
        have z1 : wr.cell? ⟨w.heap.size, 6, none⟩ = some (.slice aj1 s.jobs.length cj1) := by rw [cell_of hR.out.one 6, hCS1.out]; rfl
        have z2 : wr.cell? ⟨w.heap.size + 1, 6, none⟩ = some (.slice aj2 s.jobs.length cj2) := by rw [cell_of hR.out.two 6, hCS2.out]; rfl
        by_cases hlt : i < s.jobs.length
        ·
         as_aux_lemma =>
          obtain ⟨x, hx⟩ : ∃ x, s.jobs[i]? = some x := ⟨_, List.getElem?_eq_getElem hlt⟩
          obtain ⟨g', cap', hv', -, -, hcell'⟩ := H1.out.jobs
          cases hv'
          obtain ⟨b1, o1, cs', rfl, -, hat1, hc'⟩ := hcell' i x hx
          have Hat1 := hid hat1
          obtain rfl := hat1
          have k0 := kc hR.out.below (hc' 0 _ rfl)
          have k1 := kc hR.out.below (hc' 1 _ rfl)
          have k2 := kc hR.out.below (hc' 2 _ rfl)
          have k3 := kc hR.out.below (hc' 3 _ rfl)
          have k4 := kc hR.out.below (hc' 4 _ rfl)
          have k5 := kc hR.out.below (hc' 5 _ rfl)
          simp only [Nat.add_zero] at k0
          clear hcell' hc' Hat1
          obtain ⟨g', cap', hv', -, -, hcell'⟩ := H2.out.jobs
          cases hv'
          obtain ⟨b2, o2, cs', rfl, -, hat2, hc'⟩ := hcell' i x hx
          have Hat2 := hid hat2
          obtain rfl := hat2
          have l0 := kc hR.out.below (hc' 0 _ rfl)
          have l1 := kc hR.out.below (hc' 1 _ rfl)
          have l2 := kc hR.out.below (hc' 2 _ rfl)
          have l3 := kc hR.out.below (hc' 3 _ rfl)
          have l4 := kc hR.out.below (hc' 4 _ rfl)
          have l5 := kc hR.out.below (hc' 5 _ rfl)
          simp only [Nat.add_zero] at l0
          clear hcell' hc' Hat2
          clear hx
          have hb1 := World.block_lt_of_cell? wr _ k0
          have hb2 := World.block_lt_of_cell? wr _ l0
          dsimp only at hb1 hb2
          have hz1 := heap_lt hR.out.one
          have hz2 := heap_lt hR.out.two
          go_wp2_with fail
          refine wp_par (fun _ => False) (fun _ => True) (List.replicate 15 false) _ [.fix ?_, .fix ?_, .fix ?_, .fix ?_, .fix ?_, .fix ?_, .fix ?_, .fix ?_, .fix ?_, .fix ?_, .fix ?_, .fix ?_, .fix (.bool true), .fix ?_, .fix ?_] (by kernel_rfl) (by kernel_rfl) (by simp only [List.length_replicate, List.drop_succ_cons, List.drop_zero, List.drop_nil]; with_reducible rfl) rfl (fun _ _ _ _ _ => ⟨fun h => h, fun h => h⟩) (fun _ _ h _ => h) trivial ?_
          rotate_left 14
          iterate 12
           first
            | (refine par_skip (a' := ?_) (by rfl) (by rfl) ?_ ?_ ?_; rotate_left 1; with_reducible rfl; (simp only [lays]; with_reducible rfl))
            | (refine par_run (a' := ?_) (by rfl) (by rfl) (fun w' hb hn => ?_) ?_ ?_; rotate_left 1; (have hc := hb.cells; go_simp; (try simp (disch := omega) only [nrm, toNatUp, iteOmega]); first | with_reducible rfl | (go_simp; with_reducible rfl)); (simp only [lays]; with_reducible rfl))
          refine par_run (a' := ?a483k12) (by rfl) (by rfl) (fun w' hb hn => ?h483k12) ?p483k12 ?g483k12
          case h483k12 => (have hc := hb.cells; go_simp; (try simp (disch := omega) only [nrm, toNatUp, iteOmega]); first | done | simp)
          case p483k12 => (simp only [lays]; with_reducible rfl)
          iterate 2
           first
            | (refine par_skip (a' := ?_) (by rfl) (by rfl) ?_ ?_ ?_; rotate_left 1; with_reducible rfl; (simp only [lays]; with_reducible rfl))
            | (refine par_run (a' := ?_) (by rfl) (by rfl) (fun w' hb hn => ?_) ?_ ?_; rotate_left 1; (have hc := hb.cells; go_simp; (try simp (disch := omega) only [nrm, toNatUp, iteOmega]); first | with_reducible rfl | (go_simp; with_reducible rfl)); (simp only [lays]; with_reducible rfl))
          refine par_end (fun w9 hb9 hf9 _ => ?_)
          replace hb9 := hb9.grow
          try refine wpList_none ?_
          have hbb := hid (hR.out.grow hb9)
          clear hb9
          go_wp2
          go_roundw
          case rel => exact ⟨i + 1, by omega, rfl, by go_num, hbb⟩
          case measure => simp [intOf]; omega
        ·
         obtain rfl : i = s.jobs.length := by omega
         have IR := hR
         go_wp2_with fail
         clear hi hlt hR z1 z2
         obtain ⟨w0, rfl⟩ : ∃ w0 : World, w0 = wr := ⟨_, rfl⟩
         go_loopw [5, 11] (fun vo vi wr => ∃ (i : Nat), i ≤ s.timers.length ∧ vo = .bool true ∧ vi = .int .i64 i ∧ Hid (SB w CS1 CS2 wr)) (fun _ vi _ => s.timers.length - (intOf vi).toNat)
         case atStart => exact ⟨0, Nat.zero_le _, rfl, rfl, IR⟩
         case round =>
          obtain ⟨i, hi, rfl, rfl, hR⟩ := hrel
          have z1 : wr.cell? ⟨w.heap.size, 7, none⟩ = some (.slice ar1 s.timers.length cr1) := by rw [cell_of hR.out.one 7, hCS1.out]; rfl
          have z2 : wr.cell? ⟨w.heap.size + 1, 7, none⟩ = some (.slice ar2 s.timers.length cr2) := by rw [cell_of hR.out.two 7, hCS2.out]; rfl
          by_cases hlt : i < s.timers.length
          ·
           as_aux_lemma =>
            obtain ⟨x, hx⟩ : ∃ x, s.timers[i]? = some x := ⟨_, List.getElem?_eq_getElem hlt⟩
            obtain ⟨g', cap', hv', -, -, hcell'⟩ := H1.out.timers
            cases hv'
            obtain ⟨b1, o1, cs', rfl, -, hat1, hc'⟩ := hcell' i x hx
            have Hat1 := hid hat1
            obtain rfl := hat1
            have k0 := kc hR.out.below (hc' 0 _ rfl)
            have k1 := kc hR.out.below (hc' 1 _ rfl)
            have k2 := kc hR.out.below (hc' 2 _ rfl)
            simp only [Nat.add_zero] at k0
            clear hcell' hc' Hat1
            obtain ⟨g', cap', hv', -, -, hcell'⟩ := H2.out.timers
            cases hv'
            obtain ⟨b2, o2, cs', rfl, -, hat2, hc'⟩ := hcell' i x hx
            have Hat2 := hid hat2
            obtain rfl := hat2
            have l0 := kc hR.out.below (hc' 0 _ rfl)
            have l1 := kc hR.out.below (hc' 1 _ rfl)
            have l2 := kc hR.out.below (hc' 2 _ rfl)
            simp only [Nat.add_zero] at l0
            clear hcell' hc' Hat2
            clear hx
            have hb1 := World.block_lt_of_cell? wr _ k0
            have hb2 := World.block_lt_of_cell? wr _ l0
            dsimp only at hb1 hb2
            have hz1 := heap_lt hR.out.one
            have hz2 := heap_lt hR.out.two
            go_wp2_with fail
            refine wp_par (fun _ => False) (fun _ => True) (List.replicate 15 false) _ [.fix ?_, .fix ?_, .fix ?_, .fix ?_, .fix ?_, .fix ?_, .fix ?_, .fix ?_, .fix ?_, .fix ?_, .fix ?_, .fix ?_, .fix (.bool true), .fix ?_, .fix ?_] (by kernel_rfl) (by kernel_rfl) (by simp only [List.length_replicate, List.drop_succ_cons, List.drop_zero, List.drop_nil]; with_reducible rfl) rfl (fun _ _ _ _ _ => ⟨fun h => h, fun h => h⟩) (fun _ _ h _ => h) trivial ?_
            rotate_left 14
            iterate 12
             first
              | (refine par_skip (a' := ?_) (by rfl) (by rfl) ?_ ?_ ?_; rotate_left 1; with_reducible rfl; (simp only [lays]; with_reducible rfl))
              | (refine par_run (a' := ?_) (by rfl) (by rfl) (fun w' hb hn => ?_) ?_ ?_; rotate_left 1; (have hc := hb.cells; go_simp; (try simp (disch := omega) only [nrm, toNatUp, iteOmega]); first | with_reducible rfl | (go_simp; with_reducible rfl)); (simp only [lays]; with_reducible rfl))
            refine par_run (a' := ?a546k12) (by rfl) (by rfl) (fun w' hb hn => ?h546k12) ?p546k12 ?g546k12
            case h546k12 => (have hc := hb.cells; go_simp; (try simp (disch := omega) only [nrm, toNatUp, iteOmega]); first | done | simp)
            case p546k12 => (simp only [lays]; with_reducible rfl)
            iterate 2
             first
              | (refine par_skip (a' := ?_) (by rfl) (by rfl) ?_ ?_ ?_; rotate_left 1; with_reducible rfl; (simp only [lays]; with_reducible rfl))
              | (refine par_run (a' := ?_) (by rfl) (by rfl) (fun w' hb hn => ?_) ?_ ?_; rotate_left 1; (have hc := hb.cells; go_simp; (try simp (disch := omega) only [nrm, toNatUp, iteOmega]); first | with_reducible rfl | (go_simp; with_reducible rfl)); (simp only [lays]; with_reducible rfl))
            refine par_end (fun w9 hb9 hf9 _ => ?_)
            replace hb9 := hb9.grow
            try refine wpList_none ?_
            have hbb := hid (hR.out.grow hb9)
            clear hb9
            go_wp2
            go_roundw
            case rel => exact ⟨i + 1, by omega, rfl, by go_num, hbb⟩
            case measure => simp [intOf]; omega
          ·
           obtain rfl : i = s.timers.length := by omega
           have IR := hR
           go_wp2_with fail
           clear hi hlt hR z1 z2
           obtain ⟨w0, rfl⟩ : ∃ w0 : World, w0 = wr := ⟨_, rfl⟩
           go_loopw [5, 12] (fun vo vi wr => ∃ (i : Nat), i ≤ s.subs.length ∧ vo = .bool true ∧ vi = .int .i64 i ∧ Hid (SB w CS1 CS2 wr)) (fun _ vi _ => s.subs.length - (intOf vi).toNat)
           case atStart => exact ⟨0, Nat.zero_le _, rfl, rfl, IR⟩
           case round =>
            obtain ⟨i, hi, rfl, rfl, hR⟩ := hrel
            have z1 : wr.cell? ⟨w.heap.size, 8, none⟩ = some (.slice as1 s.subs.length cs1) := by rw [cell_of hR.out.one 8, hCS1.out]; rfl
            have z2 : wr.cell? ⟨w.heap.size + 1, 8, none⟩ = some (.slice as2 s.subs.length cs2) := by rw [cell_of hR.out.two 8, hCS2.out]; rfl
            by_cases hlt : i < s.subs.length
            ·
             as_aux_lemma =>
              obtain ⟨x, hx⟩ : ∃ x, s.subs[i]? = some x := ⟨_, List.getElem?_eq_getElem hlt⟩
              obtain ⟨g', cap', hv', -, -, hcell'⟩ := H1.out.subs
              cases hv'
              obtain ⟨b1, o1, cs', rfl, -, hat1, hc'⟩ := hcell' i x hx
              have Hat1 := hid hat1
              obtain rfl := hat1
              have k0 := kc hR.out.below (hc' 0 _ rfl)
              have k1 := kc hR.out.below (hc' 1 _ rfl)
              have k2 := kc hR.out.below (hc' 2 _ rfl)
              have k3 := kc hR.out.below (hc' 3 _ rfl)
              have k4 := kc hR.out.below (hc' 4 _ rfl)
              have k5 := kc hR.out.below (hc' 5 _ rfl)
              simp only [Nat.add_zero] at k0
              clear hcell' hc' Hat1
              obtain ⟨g', cap', hv', -, -, hcell'⟩ := H2.out.subs
              cases hv'
              obtain ⟨b2, o2, cs', rfl, -, hat2, hc'⟩ := hcell' i x hx
              have Hat2 := hid hat2
              obtain rfl := hat2
              have l0 := kc hR.out.below (hc' 0 _ rfl)
              have l1 := kc hR.out.below (hc' 1 _ rfl)
              have l2 := kc hR.out.below (hc' 2 _ rfl)
              have l3 := kc hR.out.below (hc' 3 _ rfl)
              have l4 := kc hR.out.below (hc' 4 _ rfl)
              have l5 := kc hR.out.below (hc' 5 _ rfl)
              simp only [Nat.add_zero] at l0
              clear hcell' hc' Hat2
              clear hx
              have hb1 := World.block_lt_of_cell? wr _ k0
              have hb2 := World.block_lt_of_cell? wr _ l0
              dsimp only at hb1 hb2
              have hz1 := heap_lt hR.out.one
              have hz2 := heap_lt hR.out.two
              go_wp2_with fail
              refine wp_par (fun _ => False) (fun _ => True) (List.replicate 15 false) _ [.fix ?_, .fix ?_, .fix ?_, .fix ?_, .fix ?_, .fix ?_, .fix ?_, .fix ?_, .fix ?_, .fix ?_, .fix ?_, .fix ?_, .fix (.bool true), .fix ?_, .fix ?_] (by kernel_rfl) (by kernel_rfl) (by simp only [List.length_replicate, List.drop_succ_cons, List.drop_zero, List.drop_nil]; with_reducible rfl) rfl (fun _ _ _ _ _ => ⟨fun h => h, fun h => h⟩) (fun _ _ h _ => h) trivial ?_
              rotate_left 14
              iterate 12
               first
                | (refine par_skip (a' := ?_) (by rfl) (by rfl) ?_ ?_ ?_; rotate_left 1; with_reducible rfl; (simp only [lays]; with_reducible rfl))
                | (refine par_run (a' := ?_) (by rfl) (by rfl) (fun w' hb hn => ?_) ?_ ?_; rotate_left 1; (have hc := hb.cells; go_simp; (try simp (disch := omega) only [nrm, toNatUp, iteOmega]); first | with_reducible rfl | (go_simp; with_reducible rfl)); (simp only [lays]; with_reducible rfl))
              refine par_run (a' := ?a615k12) (by rfl) (by rfl) (fun w' hb hn => ?h615k12) ?p615k12 ?g615k12
              case h615k12 => (have hc := hb.cells; go_simp; (try simp (disch := omega) only [nrm, toNatUp, iteOmega]); first | done | simp)
              case p615k12 => (simp only [lays]; with_reducible rfl)
              iterate 2
               first
                | (refine par_skip (a' := ?_) (by rfl) (by rfl) ?_ ?_ ?_; rotate_left 1; with_reducible rfl; (simp only [lays]; with_reducible rfl))
                | (refine par_run (a' := ?_) (by rfl) (by rfl) (fun w' hb hn => ?_) ?_ ?_; rotate_left 1; (have hc := hb.cells; go_simp; (try simp (disch := omega) only [nrm, toNatUp, iteOmega]); first | with_reducible rfl | (go_simp; with_reducible rfl)); (simp only [lays]; with_reducible rfl))
              refine par_end (fun w9 hb9 hf9 _ => ?_)
              replace hb9 := hb9.grow
              try refine wpList_none ?_
              have hbb := hid (hR.out.grow hb9)
              clear hb9
              go_wp2
              go_roundw
              case rel => exact ⟨i + 1, by omega, rfl, by go_num, hbb⟩
              case measure => simp [intOf]; omega
            ·
             obtain rfl : i = s.subs.length := by omega
             have IR := hR
             go_wp2_with fail
             clear hi hlt hR z1 z2
             obtain ⟨w0, rfl⟩ : ∃ w0 : World, w0 = wr := ⟨_, rfl⟩
             go_loopw [5, 13] (fun vo vi wr => ∃ (i : Nat), i ≤ s.kept.length ∧ vo = .bool true ∧ vi = .int .i64 i ∧ Hid (SB w CS1 CS2 wr)) (fun _ vi _ => s.kept.length - (intOf vi).toNat)
             case atStart => exact ⟨0, Nat.zero_le _, rfl, rfl, IR⟩
             case round =>
              obtain ⟨i, hi, rfl, rfl, hR⟩ := hrel
              have z1 : wr.cell? ⟨w.heap.size, 9, none⟩ = some (.slice ak1 s.kept.length ck1) := by rw [cell_of hR.out.one 9, hCS1.out]; rfl
              have z2 : wr.cell? ⟨w.heap.size + 1, 9, none⟩ = some (.slice ak2 s.kept.length ck2) := by rw [cell_of hR.out.two 9, hCS2.out]; rfl
              by_cases hlt : i < s.kept.length
              ·
               as_aux_lemma =>
                obtain ⟨x, hx⟩ : ∃ x, s.kept[i]? = some x := ⟨_, List.getElem?_eq_getElem hlt⟩
                obtain ⟨g', cap', hv', -, -, hcell'⟩ := H1.out.kept
                cases hv'
                obtain ⟨b1, o1, cs', rfl, -, hat1, hc'⟩ := hcell' i x hx
                have Hat1 := hid hat1
                obtain rfl := hat1
                have k0 := kc hR.out.below (hc' 0 _ rfl)
                have k1 := kc hR.out.below (hc' 1 _ rfl)
                have k2 := kc hR.out.below (hc' 2 _ rfl)
                simp only [Nat.add_zero] at k0
                clear hcell' hc' Hat1
                obtain ⟨g', cap', hv', -, -, hcell'⟩ := H2.out.kept
                cases hv'
                obtain ⟨b2, o2, cs', rfl, -, hat2, hc'⟩ := hcell' i x hx
                have Hat2 := hid hat2
                obtain rfl := hat2
                have l0 := kc hR.out.below (hc' 0 _ rfl)
                have l1 := kc hR.out.below (hc' 1 _ rfl)
                have l2 := kc hR.out.below (hc' 2 _ rfl)
                simp only [Nat.add_zero] at l0
                clear hcell' hc' Hat2
                clear hx
                have hb1 := World.block_lt_of_cell? wr _ k0
                have hb2 := World.block_lt_of_cell? wr _ l0
                dsimp only at hb1 hb2
                have hz1 := heap_lt hR.out.one
                have hz2 := heap_lt hR.out.two
                go_wp2_with fail
                refine wp_par (fun _ => False) (fun _ => True) (List.replicate 15 false) _ [.fix ?_, .fix ?_, .fix ?_, .fix ?_, .fix ?_, .fix ?_, .fix ?_, .fix ?_, .fix ?_, .fix ?_, .fix ?_, .fix ?_, .fix (.bool true), .fix ?_, .fix ?_] (by kernel_rfl) (by kernel_rfl) (by simp only [List.length_replicate, List.drop_succ_cons, List.drop_zero, List.drop_nil]; with_reducible rfl) rfl (fun _ _ _ _ _ => ⟨fun h => h, fun h => h⟩) (fun _ _ h _ => h) trivial ?_
                rotate_left 14
                iterate 12
                 first
                  | (refine par_skip (a' := ?_) (by rfl) (by rfl) ?_ ?_ ?_; rotate_left 1; with_reducible rfl; (simp only [lays]; with_reducible rfl))
                  | (refine par_run (a' := ?_) (by rfl) (by rfl) (fun w' hb hn => ?_) ?_ ?_; rotate_left 1; (have hc := hb.cells; go_simp; (try simp (disch := omega) only [nrm, toNatUp, iteOmega]); first | with_reducible rfl | (go_simp; with_reducible rfl)); (simp only [lays]; with_reducible rfl))
                refine par_run (a' := ?a678k12) (by rfl) (by rfl) (fun w' hb hn => ?h678k12) ?p678k12 ?g678k12
                case h678k12 => (have hc := hb.cells; go_simp; (try simp (disch := omega) only [nrm, toNatUp, iteOmega]); first | done | simp)
                case p678k12 => (simp only [lays]; with_reducible rfl)
                iterate 2
                 first
                  | (refine par_skip (a' := ?_) (by rfl) (by rfl) ?_ ?_ ?_; rotate_left 1; with_reducible rfl; (simp only [lays]; with_reducible rfl))
                  | (refine par_run (a' := ?_) (by rfl) (by rfl) (fun w' hb hn => ?_) ?_ ?_; rotate_left 1; (have hc := hb.cells; go_simp; (try simp (disch := omega) only [nrm, toNatUp, iteOmega]); first | with_reducible rfl | (go_simp; with_reducible rfl)); (simp only [lays]; with_reducible rfl))
                refine par_end (fun w9 hb9 hf9 _ => ?_)
                replace hb9 := hb9.grow
                try refine wpList_none ?_
                have hbb := hid (hR.out.grow hb9)
                clear hb9
                go_wp2
                go_roundw
                case rel => exact ⟨i + 1, by omega, rfl, by go_num, hbb⟩
                case measure => simp [intOf]; omega
              ·
               obtain rfl : i = s.kept.length := by omega
               have IR := hR
               go_wp2_with fail
               clear hi hlt hR z1 z2
               obtain ⟨w0, rfl⟩ : ∃ w0 : World, w0 = wr := ⟨_, rfl⟩
               go_loopw [5, 14] (fun vo vi wr => ∃ (i : Nat), i ≤ s.listed.length ∧ vo = .bool true ∧ vi = .int .i64 i ∧ Hid (SB w CS1 CS2 wr)) (fun _ vi _ => s.listed.length - (intOf vi).toNat)
               case atStart => exact ⟨0, Nat.zero_le _, rfl, rfl, IR⟩
               case round =>
                obtain ⟨i, hi, rfl, rfl, hR⟩ := hrel
                have z1 : wr.cell? ⟨w.heap.size, 10, none⟩ = some (.slice al1 s.listed.length cl1) := by rw [cell_of hR.out.one 10, hCS1.out]; rfl
                have z2 : wr.cell? ⟨w.heap.size + 1, 10, none⟩ = some (.slice al2 s.listed.length cl2) := by rw [cell_of hR.out.two 10, hCS2.out]; rfl
                by_cases hlt : i < s.listed.length
                ·
                 as_aux_lemma =>
                  obtain ⟨x, hx⟩ : ∃ x, s.listed[i]? = some x := ⟨_, List.getElem?_eq_getElem hlt⟩
                  obtain ⟨g', cap', hv', -, -, hcell'⟩ := H1.out.listed
                  cases hv'
                  obtain ⟨b1, o1, cs', rfl, -, hat1, hc'⟩ := hcell' i x hx
                  have Hat1 := hid hat1
                  obtain ⟨v3, rfl, hv3⟩ := hat1
                  obtain ⟨av1, cv1, rfl, -⟩ := hv3
                  have k0 := kc hR.out.below (hc' 0 _ rfl)
                  have k1 := kc hR.out.below (hc' 1 _ rfl)
                  have k2 := kc hR.out.below (hc' 2 _ rfl)
                  have k3 := kc hR.out.below (hc' 3 _ rfl)
                  have k4 := kc hR.out.below (hc' 4 _ rfl)
                  have k5 := kc hR.out.below (hc' 5 _ rfl)
                  have k6 := kc hR.out.below (hc' 6 _ rfl)
                  simp only [Nat.add_zero] at k0
                  clear hcell' hc'
                  obtain ⟨g', cap', hv', -, -, hcell'⟩ := H2.out.listed
                  cases hv'
                  obtain ⟨b2, o2, cs', rfl, -, hat2, hc'⟩ := hcell' i x hx
                  have Hat2 := hid hat2
                  obtain ⟨v3, rfl, hv3⟩ := hat2
                  obtain ⟨av2, cv2, rfl, -⟩ := hv3
                  have l0 := kc hR.out.below (hc' 0 _ rfl)
                  have l1 := kc hR.out.below (hc' 1 _ rfl)
                  have l2 := kc hR.out.below (hc' 2 _ rfl)
                  have l3 := kc hR.out.below (hc' 3 _ rfl)
                  have l4 := kc hR.out.below (hc' 4 _ rfl)
                  have l5 := kc hR.out.below (hc' 5 _ rfl)
                  have l6 := kc hR.out.below (hc' 6 _ rfl)
                  simp only [Nat.add_zero] at l0
                  clear hcell' hc'
                  clear hx
                  have hb1 := World.block_lt_of_cell? wr _ k0
                  have hb2 := World.block_lt_of_cell? wr _ l0
                  dsimp only at hb1 hb2
                  have hz1 := heap_lt hR.out.one
                  have hz2 := heap_lt hR.out.two
                  have hv1 : Hid (∀ W, Below w.heap.size w W → VarsAt W (.slice av1 x.vars.length cv1) x.vars) := fun W hB => (show VarsAt w (.slice av1 x.vars.length cv1) x.vars from by obtain ⟨v, h1, h2⟩ := Hat1.out; cases h1; exact h2).below hB
                  have hv2 : Hid (∀ W, Below w.heap.size w W → VarsAt W (.slice av2 x.vars.length cv2) x.vars) := fun W hB => (show VarsAt w (.slice av2 x.vars.length cv2) x.vars from by obtain ⟨v, h1, h2⟩ := Hat2.out; cases h1; exact h2).below hB
                  clear Hat1 Hat2
                  go_wp2_with fail
                  have J0 := hid (hR.out.grow (((Below.refl _ wr).alloc (Nat.le_refl _) (.cells #[U x.token, U x.inst, I x.node, .string x.name, .string x.key, U x.msg, .slice av1 x.vars.length cv1] 115)).alloc (by simp) (.cells #[U x.token, U x.inst, I x.node, .string x.name, .string x.key, U x.msg, .slice av2 x.vars.length cv2] 115)))
                  have X1 := hid (show ((wr.alloc (.cells #[U x.token, U x.inst, I x.node, .string x.name, .string x.key, U x.msg, .slice av1 x.vars.length cv1] 115)).alloc (.cells #[U x.token, U x.inst, I x.node, .string x.name, .string x.key, U x.msg, .slice av2 x.vars.length cv2] 115)).heap[wr.heap.size]? = some (.cells #[U x.token, U x.inst, I x.node, .string x.name, .string x.key, U x.msg, .slice av1 x.vars.length cv1] 115 (0, 0)) from (alloc_old _ (by simp)).trans (alloc_new _ _))
                  have X2 := hid (show ((wr.alloc (.cells #[U x.token, U x.inst, I x.node, .string x.name, .string x.key, U x.msg, .slice av1 x.vars.length cv1] 115)).alloc (.cells #[U x.token, U x.inst, I x.node, .string x.name, .string x.key, U x.msg, .slice av2 x.vars.length cv2] 115)).heap[wr.heap.size + 1]? = some (.cells #[U x.token, U x.inst, I x.node, .string x.name, .string x.key, U x.msg, .slice av2 x.vars.length cv2] 115 (0, 0)) from alloc_new2 _ _ _)
                  generalize ((wr.alloc (.cells #[U x.token, U x.inst, I x.node, .string x.name, .string x.key, U x.msg, .slice av1 x.vars.length cv1] 115)).alloc (.cells #[U x.token, U x.inst, I x.node, .string x.name, .string x.key, U x.msg, .slice av2 x.vars.length cv2] 115)) = v0 at J0 X1 X2 ⊢
                  refine (vsame_is _ _ _ v0 (hv1.out v0 J0.out.below) (hv2.out v0 J0.out.below)).mono ?_
                  rintro e w3 ⟨rfl, hb3⟩
                  have hR9 := hid (J0.out.grow hb3)
                  have Y1 := hid ((hb3.block _ (heap_lt X1.out)).trans X1.out)
                  have Y2 := hid ((hb3.block _ (heap_lt X2.out)).trans X2.out)
                  clear hb3 J0 X1 X2 hv1 hv2 k0 l0 k1 l1 k2 l2 k3 l3 k4 l4 k5 l5 k6 l6 hb1 hb2 z1 z2
                  have k0 := cell_of Y1.out 0
                  have l0 := cell_of Y2.out 0
                  have k1 := cell_of Y1.out 1
                  have l1 := cell_of Y2.out 1
                  have k2 := cell_of Y1.out 2
                  have l2 := cell_of Y2.out 2
                  have k3 := cell_of Y1.out 3
                  have l3 := cell_of Y2.out 3
                  have k4 := cell_of Y1.out 4
                  have l4 := cell_of Y2.out 4
                  have k5 := cell_of Y1.out 5
                  have l5 := cell_of Y2.out 5
                  have k6 := cell_of Y1.out 6
                  have l6 := cell_of Y2.out 6
                  have e_token : ((x.token : Int) == (x.token : Int)) = true := beq_self_eq_true _
                  have e_inst : ((x.inst : Int) == (x.inst : Int)) = true := beq_self_eq_true _
                  have e_node : ((x.node : Int) == (x.node : Int)) = true := beq_self_eq_true _
                  have e_name : (x.name.toList == x.name.toList) = true := beq_self_eq_true _
                  have e_key : (x.key.toList == x.key.toList) = true := beq_self_eq_true _
                  have e_msg : ((x.msg : Int) == (x.msg : Int)) = true := beq_self_eq_true _
                  go_wp2
                  go_roundw
                  case rel => exact ⟨i + 1, by omega, rfl, by go_num, hR9⟩
                  case measure => simp [intOf]; omega
                ·
                 obtain rfl : i = s.listed.length := by omega
                 have IR := hR
                 go_wp2_with fail
                 clear hi hlt hR z1 z2
                 obtain ⟨w0, rfl⟩ : ∃ w0 : World, w0 = wr := ⟨_, rfl⟩
                 go_loopw [5, 18] (fun vo vi wr => ∃ (i : Nat), i ≤ s.msgs.length ∧ vo = .bool true ∧ vi = .int .i64 i ∧ Hid (SB w CS1 CS2 wr)) (fun _ vi _ => s.msgs.length - (intOf vi).toNat)
                 case atStart => exact ⟨0, Nat.zero_le _, rfl, rfl, IR⟩
                 case round =>
                  obtain ⟨i, hi, rfl, rfl, hR⟩ := hrel
                  have z1 : wr.cell? ⟨w.heap.size, 11, none⟩ = some (.slice am1 s.msgs.length cm1) := by rw [cell_of hR.out.one 11, hCS1.out]; rfl
                  have z2 : wr.cell? ⟨w.heap.size + 1, 11, none⟩ = some (.slice am2 s.msgs.length cm2) := by rw [cell_of hR.out.two 11, hCS2.out]; rfl
                  by_cases hlt : i < s.msgs.length
                  ·
                   as_aux_lemma =>
                    obtain ⟨x, hx⟩ : ∃ x, s.msgs[i]? = some x := ⟨_, List.getElem?_eq_getElem hlt⟩
                    obtain ⟨g', cap', hv', -, -, hcell'⟩ := H1.out.msgs
                    cases hv'
                    obtain ⟨b1, o1, cs', rfl, -, hat1, hc'⟩ := hcell' i x hx
                    have Hat1 := hid hat1
                    obtain ⟨v3, v4, rfl, hv3, hv4⟩ := hat1
                    obtain ⟨av1, cv1, rfl, -⟩ := hv3
                    obtain ⟨au1, cu1, hv4, -⟩ := hv4
                    rw [show (natsV x.insts).length = x.insts.length by simp [natsV]] at hv4
                    subst hv4
                    have k0 := kc hR.out.below (hc' 0 _ rfl)
                    have k1 := kc hR.out.below (hc' 1 _ rfl)
                    have k2 := kc hR.out.below (hc' 2 _ rfl)
                    have k3 := kc hR.out.below (hc' 3 _ rfl)
                    have k4 := kc hR.out.below (hc' 4 _ rfl)
                    have k5 := kc hR.out.below (hc' 5 _ rfl)
                    have k6 := kc hR.out.below (hc' 6 _ rfl)
                    simp only [Nat.add_zero] at k0
                    clear hcell' hc'
                    obtain ⟨g', cap', hv', -, -, hcell'⟩ := H2.out.msgs
                    cases hv'
                    obtain ⟨b2, o2, cs', rfl, -, hat2, hc'⟩ := hcell' i x hx
                    have Hat2 := hid hat2
                    obtain ⟨v3, v4, rfl, hv3, hv4⟩ := hat2
                    obtain ⟨av2, cv2, rfl, -⟩ := hv3
                    obtain ⟨au2, cu2, hv4, -⟩ := hv4
                    rw [show (natsV x.insts).length = x.insts.length by simp [natsV]] at hv4
                    subst hv4
                    have l0 := kc hR.out.below (hc' 0 _ rfl)
                    have l1 := kc hR.out.below (hc' 1 _ rfl)
                    have l2 := kc hR.out.below (hc' 2 _ rfl)
                    have l3 := kc hR.out.below (hc' 3 _ rfl)
                    have l4 := kc hR.out.below (hc' 4 _ rfl)
                    have l5 := kc hR.out.below (hc' 5 _ rfl)
                    have l6 := kc hR.out.below (hc' 6 _ rfl)
                    simp only [Nat.add_zero] at l0
                    clear hcell' hc'
                    clear hx
                    have hb1 := World.block_lt_of_cell? wr _ k0
                    have hb2 := World.block_lt_of_cell? wr _ l0
                    dsimp only at hb1 hb2
                    have hz1 := heap_lt hR.out.one
                    have hz2 := heap_lt hR.out.two
                    have hv1 : Hid (∀ W, Below w.heap.size w W → VarsAt W (.slice av1 x.vars.length cv1) x.vars) := fun W hB => (show VarsAt w (.slice av1 x.vars.length cv1) x.vars from by obtain ⟨v, u, h1, h2, h3⟩ := Hat1.out; cases h1; exact h2).below hB
                    have hu1 : Hid (∀ W, Below w.heap.size w W → SlR W (.slice au1 x.insts.length cu1) (natsV x.insts)) := fun W hB => (show SlR w (.slice au1 x.insts.length cu1) (natsV x.insts) from by obtain ⟨v, u, h1, h2, h3⟩ := Hat1.out; cases h1; exact h3).below hB
                    have hv2 : Hid (∀ W, Below w.heap.size w W → VarsAt W (.slice av2 x.vars.length cv2) x.vars) := fun W hB => (show VarsAt w (.slice av2 x.vars.length cv2) x.vars from by obtain ⟨v, u, h1, h2, h3⟩ := Hat2.out; cases h1; exact h2).below hB
                    have hu2 : Hid (∀ W, Below w.heap.size w W → SlR W (.slice au2 x.insts.length cu2) (natsV x.insts)) := fun W hB => (show SlR w (.slice au2 x.insts.length cu2) (natsV x.insts) from by obtain ⟨v, u, h1, h2, h3⟩ := Hat2.out; cases h1; exact h3).below hB
                    clear Hat1 Hat2
                    go_wp2_with fail
                    have J0 := hid (hR.out.grow (((Below.refl _ wr).alloc (Nat.le_refl _) (.cells #[U x.key, .string x.name, .string x.for_, .string x.id, I x.till, .slice av1 x.vars.length cv1, .slice au1 x.insts.length cu1] 118)).alloc (by simp) (.cells #[U x.key, .string x.name, .string x.for_, .string x.id, I x.till, .slice av2 x.vars.length cv2, .slice au2 x.insts.length cu2] 118)))
                    have X1 := hid (show ((wr.alloc (.cells #[U x.key, .string x.name, .string x.for_, .string x.id, I x.till, .slice av1 x.vars.length cv1, .slice au1 x.insts.length cu1] 118)).alloc (.cells #[U x.key, .string x.name, .string x.for_, .string x.id, I x.till, .slice av2 x.vars.length cv2, .slice au2 x.insts.length cu2] 118)).heap[wr.heap.size]? = some (.cells #[U x.key, .string x.name, .string x.for_, .string x.id, I x.till, .slice av1 x.vars.length cv1, .slice au1 x.insts.length cu1] 118 (0, 0)) from (alloc_old _ (by simp)).trans (alloc_new _ _))
                    have X2 := hid (show ((wr.alloc (.cells #[U x.key, .string x.name, .string x.for_, .string x.id, I x.till, .slice av1 x.vars.length cv1, .slice au1 x.insts.length cu1] 118)).alloc (.cells #[U x.key, .string x.name, .string x.for_, .string x.id, I x.till, .slice av2 x.vars.length cv2, .slice au2 x.insts.length cu2] 118)).heap[wr.heap.size + 1]? = some (.cells #[U x.key, .string x.name, .string x.for_, .string x.id, I x.till, .slice av2 x.vars.length cv2, .slice au2 x.insts.length cu2] 118 (0, 0)) from alloc_new2 _ _ _)
                    generalize ((wr.alloc (.cells #[U x.key, .string x.name, .string x.for_, .string x.id, I x.till, .slice av1 x.vars.length cv1, .slice au1 x.insts.length cu1] 118)).alloc (.cells #[U x.key, .string x.name, .string x.for_, .string x.id, I x.till, .slice av2 x.vars.length cv2, .slice au2 x.insts.length cu2] 118)) = v0 at J0 X1 X2 ⊢
                    refine (vsame_is _ _ _ v0 (hv1.out v0 J0.out.below) (hv2.out v0 J0.out.below)).mono ?_
                    rintro e w3 ⟨rfl, hb3⟩
                    have hR9 := hid (J0.out.grow hb3)
                    have Y1 := hid ((hb3.block _ (heap_lt X1.out)).trans X1.out)
                    have Y2 := hid ((hb3.block _ (heap_lt X2.out)).trans X2.out)
                    clear hb3 J0 X1 X2 hv1 hv2 k0 l0 k1 l1 k2 l2 k3 l3 k4 l4 k5 l5 k6 l6 hb1 hb2 z1 z2
                    have k0 := cell_of Y1.out 0
                    have l0 := cell_of Y2.out 0
                    have k1 := cell_of Y1.out 1
                    have l1 := cell_of Y2.out 1
                    have k2 := cell_of Y1.out 2
                    have l2 := cell_of Y2.out 2
                    have k3 := cell_of Y1.out 3
                    have l3 := cell_of Y2.out 3
                    have k4 := cell_of Y1.out 4
                    have l4 := cell_of Y2.out 4
                    have k5 := cell_of Y1.out 5
                    have l5 := cell_of Y2.out 5
                    have k6 := cell_of Y1.out 6
                    have l6 := cell_of Y2.out 6
                    have e_key : ((x.key : Int) == (x.key : Int)) = true := beq_self_eq_true _
                    have e_name : (x.name.toList == x.name.toList) = true := beq_self_eq_true _
                    have e_for_ : (x.for_.toList == x.for_.toList) = true := beq_self_eq_true _
                    have e_id : (x.id.toList == x.id.toList) = true := beq_self_eq_true _
                    have e_till : ((x.till : Int) == (x.till : Int)) = true := beq_self_eq_true _
                    have e_i : ((x.insts.length : Int) == (x.insts.length : Int)) = true := beq_self_eq_true _
                    go_wp2_with fail
                    clear k0 l0 k1 l1 k2 l2 k3 l3 k4 l4 k5 l5 k6 l6
                    have hil : x.insts.length ≤ 2 ^ 63 - 1 := by obtain ⟨_, _, _, h, _, _⟩ := hu1.out w (Below.refl _ _); simpa [natsV, maxLen] using h
                    obtain ⟨wo, rfl⟩ : ∃ wo : World, wo = wr := ⟨_, rfl⟩
                    go_loopw [5, 22] (fun vo vk wq => ∃ (k : Nat), k ≤ x.insts.length ∧ vo = .bool true ∧ vk = .int .i64 k ∧ Hid (Below w3.heap.size w3 wq)) (fun _ vk _ => x.insts.length - (intOf vk).toNat)
                    case atStart => exact ⟨0, Nat.zero_le _, rfl, rfl, Below.refl _ _⟩
                    case round =>
                     obtain ⟨k, hk, rfl, rfl, hQ⟩ := hrel
                     have hR5 := hid (hR9.out.grow hQ.out)
                     have t1 : wr.cell? ⟨wo.heap.size, 6, none⟩ = some (.slice au1 x.insts.length cu1) := cell_of ((hQ.out.block _ (heap_lt Y1.out)).trans Y1.out) 6
                     have t2 : wr.cell? ⟨wo.heap.size + 1, 6, none⟩ = some (.slice au2 x.insts.length cu2) := cell_of ((hQ.out.block _ (heap_lt Y2.out)).trans Y2.out) 6
                     by_cases hkl : k < x.insts.length
                     ·
                      obtain ⟨m, hm⟩ : ∃ m, x.insts[k]? = some m := ⟨_, List.getElem?_eq_getElem hkl⟩
                      have hmv : (natsV x.insts)[k]? = some (U m) := by simp [natsV, hm]
                      obtain ⟨ga, gc, hgv, -, -, hgc⟩ := hu1.out wr hR5.out.below
                      rw [show (natsV x.insts).length = x.insts.length by simp [natsV]] at hgv
                      cases hgv
                      obtain ⟨g1, p1, rfl, q1⟩ := hgc k _ hmv
                      clear hgc
                      obtain ⟨ga, gc, hgv, -, -, hgc⟩ := hu2.out wr hR5.out.below
                      rw [show (natsV x.insts).length = x.insts.length by simp [natsV]] at hgv
                      cases hgv
                      obtain ⟨g2, p2, rfl, q2⟩ := hgc k _ hmv
                      clear hgc
                      clear hm hmv
                      have hg1 := World.block_lt_of_cell? wr _ q1
                      have hy1 := Nat.lt_of_lt_of_le (heap_lt Y1.out) hQ.out.size
                      have hg2 := World.block_lt_of_cell? wr _ q2
                      have hy2 := Nat.lt_of_lt_of_le (heap_lt Y2.out) hQ.out.size
                      dsimp only at hg1 hg2
                      go_wp2_with fail
                      refine wp_par (fun _ => False) (fun _ => True) (List.replicate 15 false) _ [.fix ?_, .fix ?_, .fix ?_, .fix ?_, .fix ?_, .fix ?_, .fix ?_, .fix ?_, .fix ?_, .fix ?_, .fix ?_, .fix ?_, .fix (.bool true), .fix ?_, .fix ?_] (by kernel_rfl) (by kernel_rfl) (by simp only [List.length_replicate, List.drop_succ_cons, List.drop_zero, List.drop_nil]; with_reducible rfl) rfl (fun _ _ _ _ _ => ⟨fun h => h, fun h => h⟩) (fun _ _ h _ => h) trivial ?_
                      rotate_left 14
                      iterate 12
                       first
                        | (refine par_skip (a' := ?_) (by rfl) (by rfl) ?_ ?_ ?_; rotate_left 1; with_reducible rfl; (simp only [lays]; with_reducible rfl))
                        | (refine par_run (a' := ?_) (by rfl) (by rfl) (fun w' hb hn => ?_) ?_ ?_; rotate_left 1; (have hc := hb.cells; go_simp; (try simp (disch := omega) only [nrm, toNatUp, iteOmega]); first | with_reducible rfl | (go_simp; with_reducible rfl)); (simp only [lays]; with_reducible rfl))
                      refine par_run (a' := ?a911k12) (by rfl) (by rfl) (fun w' hb hn => ?h911k12) ?p911k12 ?g911k12
                      case h911k12 => (have hc := hb.cells; go_simp; (try simp (disch := omega) only [nrm, toNatUp, iteOmega]); first | done | simp)
                      case p911k12 => (simp only [lays]; with_reducible rfl)
                      iterate 2
                       first
                        | (refine par_skip (a' := ?_) (by rfl) (by rfl) ?_ ?_ ?_; rotate_left 1; with_reducible rfl; (simp only [lays]; with_reducible rfl))
                        | (refine par_run (a' := ?_) (by rfl) (by rfl) (fun w' hb hn => ?_) ?_ ?_; rotate_left 1; (have hc := hb.cells; go_simp; (try simp (disch := omega) only [nrm, toNatUp, iteOmega]); first | with_reducible rfl | (go_simp; with_reducible rfl)); (simp only [lays]; with_reducible rfl))
                      refine par_end (fun w9 hb9 hf9 _ => ?_)
                      replace hb9 := hb9.grow
                      try refine wpList_none ?_
                      have hq9 := hid (hQ.out.trans (hb9.mono hQ.out.size))
                      clear hb9
                      go_wp2
                      go_roundw
                      case rel => exact ⟨k + 1, by omega, rfl, by go_num, hq9⟩
                      case measure => simp [intOf]; omega
                     ·
                      have hq0 : decide ((k : Int) < (x.insts.length : Int)) = false := decide_eq_false (by omega)
                      go_wp2
                      go_roundw
                      case rel => exact ⟨i + 1, by omega, rfl, by go_num, hR5⟩
                      case measure => simp [intOf]; omega
                  ·
                   obtain rfl : i = s.msgs.length := by omega
                   have IR := hR
                   go_wp2
                   go_ret
                   exact ⟨rfl, IR.out.below⟩
end Go.Proofs.YthikijlbclckdaaGreat
