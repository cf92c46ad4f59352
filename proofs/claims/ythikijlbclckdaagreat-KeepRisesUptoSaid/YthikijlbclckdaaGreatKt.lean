/- Rows of both sides, the rows compared. -/
import Derived.Test.YthikijlbclckdaaGreatKs
namespace Go.Proofs.YthikijlbclckdaaGreat
set_option linter.unusedSimpArgs false
set_option linter.unusedVariables false
open Go.RowKit
def toldS (s : StateV) : List RowV := if mayB s then rows s else []
theorem toldS_yes {s : StateV} (h : mayB s = true) : toldS s = rows s := if_pos h
theorem toldS_no {s : StateV} (h : mayB s = false) : toldS s = [] := if_neg (by rw [h]; decide)
theorem told_len {s : StateV} (h : StateOk s) : (toldS s).length ≤ 4194304 := by
  unfold toldS
  split
  · exact rows_len h
  · simp
theorem rows_nil (w : World) : rowsF [] (.slice none 0 0) w := FlatAt.nil 2 w
/-- A store into the box that held nil changes no row. -/
theorem rows_set {w : World} {l : List RowV} {v : Value} {B : Nat} {T : TypeId} (hbox : w.heap[B]? = some (.cells #[.slice none 0 0] T (0, 0))) (h : rowsF l v w) (u : Value) : rowsF l v (w.setCell ⟨B, 0, none⟩ u) := by
  have hstr : ∀ (l : List RowV) (j : Nat) (x : Value), (rowsC l)[j]? = some x → ∃ t, x = .string t := by
    intro l
    induction l with
    | nil => intro j x h; cases h
    | cons q l ih =>
      intro j x h
      match j, h with
      | 0, h => cases h; exact ⟨_, rfl⟩
      | 1, h => cases h; exact ⟨_, rfl⟩
      | n + 2, h => exact ih n x h
  obtain ⟨a, cap, hv, h1, h2, h3, h4⟩ := h
  refine ⟨a, cap, hv, h1, h2, h3, fun j x hx => ?_⟩
  obtain ⟨b, off, ha, hc⟩ := h4 j x hx
  refine ⟨b, off, ha, ?_⟩
  by_cases hb : b = B
  · exfalso
    subst hb
    obtain ⟨t, rfl⟩ := hstr l j x hx
    have e := (cell_of hbox (off + j)).symm.trans hc
    match off + j, e with
    | 0, e => cases e
    | n + 1, e => simp at e
  · have hne : (⟨B, 0, none⟩ : Addr) ≠ ⟨b, off + j, none⟩ := fun e => hb (by have := congrArg Addr.block e; exact this.symm)
    rw [World.cell?_setCell_other (h := hne)]
    exact hc
set_option maxRecDepth 100000 in
set_option maxHeartbeats 8000000 in
theorem rrows_any (s : StateV) (hok : StateOk s) (cs : List Value) (vp vi vt vj vr vs vk vl vm : Value) (w : World) (h : StateAt w cs s vp vi vt vj vr vs vk vl vm) :
    Calls Tryz.prog 14 #[.agg cs.toArray] w fun e w' => ∃ u, e = .returned u ∧ rowsF (toldS s) u w' ∧ Below w.heap.size w w' := by
  have H := Lib.hid h
  have Hok := Lib.hid hok
  obtain ⟨hcs, hp, hi, ht, hj, hr, hs, hk, hl, hm⟩ := h
  obtain ⟨ap, cp, rfl, -⟩ := hp
  obtain ⟨ai, ci, rfl, -⟩ := hi
  obtain ⟨at_, ct, rfl, -⟩ := ht
  obtain ⟨aj, cj, rfl, -⟩ := hj
  obtain ⟨ar, cr, rfl, -⟩ := hr
  obtain ⟨as_, cs_, rfl, -⟩ := hs
  obtain ⟨ak, ck, rfl, -⟩ := hk
  obtain ⟨al, cl, rfl, -⟩ := hl
  obtain ⟨am, cm, rfl, -⟩ := hm
  subst hcs
  clear hok
  go_enter Tryz.func14, Tryz.ntmps14
  go_wp2_with fail
  have hst := Lib.hid (alloc_new w (.cells #[U s.pos, U s.done, U s.made, .slice ap s.procs.length cp, .slice ai s.insts.length ci, .slice at_ s.tokens.length ct, .slice aj s.jobs.length cj, .slice ar s.timers.length cr, .slice as_ s.subs.length cs_, .slice ak s.kept.length ck, .slice al s.listed.length cl, .slice am s.msgs.length cm] 33))
  have hB0 := Lib.hid ((Below.refl _ w).alloc (Nat.le_refl _) (.cells #[U s.pos, U s.done, U s.made, .slice ap s.procs.length cp, .slice ai s.insts.length ci, .slice at_ s.tokens.length ct, .slice aj s.jobs.length cj, .slice ar s.timers.length cr, .slice as_ s.subs.length cs_, .slice ak s.kept.length ck, .slice al s.listed.length cl, .slice am s.msgs.length cm] 33))
  have hlt0 : w.heap.size < (w.alloc (.cells #[U s.pos, U s.done, U s.made, .slice ap s.procs.length cp, .slice ai s.insts.length ci, .slice at_ s.tokens.length ct, .slice aj s.jobs.length cj, .slice ar s.timers.length cr, .slice as_ s.subs.length cs_, .slice ak s.kept.length ck, .slice al s.listed.length cl, .slice am s.msgs.length cm] 33)).heap.size := by simp
  generalize w.alloc (.cells #[U s.pos, U s.done, U s.made, .slice ap s.procs.length cp, .slice ai s.insts.length ci, .slice at_ s.tokens.length ct, .slice aj s.jobs.length cj, .slice ar s.timers.length cr, .slice as_ s.subs.length cs_, .slice ak s.kept.length ck, .slice al s.listed.length cl, .slice am s.msgs.length cm] 33) = w0 at hst hB0 hlt0 ⊢
  refine (rsmay_any s Hok.out [U s.pos, U s.done, U s.made, .slice ap s.procs.length cp, .slice ai s.insts.length ci, .slice at_ s.tokens.length ct, .slice aj s.jobs.length cj, .slice ar s.timers.length cr, .slice as_ s.subs.length cs_, .slice ak s.kept.length ck, .slice al s.listed.length cl, .slice am s.msgs.length cm] _ _ _ _ _ _ _ _ _ w0 (H.out.grow hB0.out)).mono ?_
  rintro e w1 ⟨rfl, b1⟩
  have hst1 := Lib.hid ((b1.block w.heap.size hlt0).trans hst.out)
  have hB1 := Lib.hid (hB0.out.trans (b1.mono hB0.out.size))
  clear b1 hst
  cases hb : mayB s with
  | false =>
    have E := Lib.hid (toldS_no hb)
    clear hb
    go_wp2
    go_ret
    exact ⟨_, rfl, by rw [E.out]; exact rows_nil _, hB1.out⟩
  | true =>
    have E := Lib.hid (toldS_yes hb)
    clear hb
    have k0 := cell_of hst1.out 0
    have k1 := cell_of hst1.out 1
    have k2 := cell_of hst1.out 2
    have k3 := cell_of hst1.out 3
    have k4 := cell_of hst1.out 4
    have k5 := cell_of hst1.out 5
    have k6 := cell_of hst1.out 6
    have k7 := cell_of hst1.out 7
    have k8 := cell_of hst1.out 8
    have k9 := cell_of hst1.out 9
    have k10 := cell_of hst1.out 10
    have k11 := cell_of hst1.out 11
    go_wp2_with fail
    clear k0 k1 k2 k3 k4 k5 k6 k7 k8 k9 k10 k11
    refine (rall_any s Hok.out [U s.pos, U s.done, U s.made, .slice ap s.procs.length cp, .slice ai s.insts.length ci, .slice at_ s.tokens.length ct, .slice aj s.jobs.length cj, .slice ar s.timers.length cr, .slice as_ s.subs.length cs_, .slice ak s.kept.length ck, .slice al s.listed.length cl, .slice am s.msgs.length cm] _ _ _ _ _ _ _ _ _ w1 (H.out.grow hB1.out)).mono ?_
    rintro e w2 ⟨u, rfl, hf, b2⟩
    have hB2 := Lib.hid (hB1.out.trans (b2.mono hB1.out.size))
    have HF := Lib.hid hf
    obtain ⟨ao, co, rfl, -⟩ := hf
    clear b2
    go_wp2
    go_ret
    exact ⟨_, rfl, by rw [E.out]; exact HF.out, hB2.out⟩
set_option maxRecDepth 100000 in
set_option maxHeartbeats 8000000 in
theorem srows_any (s : StateV) (hok : StateOk s) (cs : List Value) (vp vi vt vj vr vs vk vl vm : Value) (w : World) (h : StateAt w cs s vp vi vt vj vr vs vk vl vm) :
    Calls Tryz.prog 12 #[.agg cs.toArray] w fun e w' => ∃ lc v, e = .returned (.func (.func 27) #[] #[.pointer (some ⟨lc, 0, none⟩)]) ∧ w'.cell? ⟨lc, 0, none⟩ = some v ∧ rowsF (toldS s) v w' ∧ Below w.heap.size w w' := by
  have H := Lib.hid h
  have Hok := Lib.hid hok
  obtain ⟨hcs, hp, hi, ht, hj, hr, hs, hk, hl, hm⟩ := h
  obtain ⟨ap, cp, rfl, -⟩ := hp
  obtain ⟨ai, ci, rfl, -⟩ := hi
  obtain ⟨at_, ct, rfl, -⟩ := ht
  obtain ⟨aj, cj, rfl, -⟩ := hj
  obtain ⟨ar, cr, rfl, -⟩ := hr
  obtain ⟨as_, cs_, rfl, -⟩ := hs
  obtain ⟨ak, ck, rfl, -⟩ := hk
  obtain ⟨al, cl, rfl, -⟩ := hl
  obtain ⟨am, cm, rfl, -⟩ := hm
  subst hcs
  clear hok
  go_enter Tryz.func12, Tryz.ntmps12
  go_wp2_with fail
  have hst := Lib.hid (alloc_new w (.cells #[U s.pos, U s.done, U s.made, .slice ap s.procs.length cp, .slice ai s.insts.length ci, .slice at_ s.tokens.length ct, .slice aj s.jobs.length cj, .slice ar s.timers.length cr, .slice as_ s.subs.length cs_, .slice ak s.kept.length ck, .slice al s.listed.length cl, .slice am s.msgs.length cm] 33))
  have hB0 := Lib.hid ((Below.refl _ w).alloc (Nat.le_refl _) (.cells #[U s.pos, U s.done, U s.made, .slice ap s.procs.length cp, .slice ai s.insts.length ci, .slice at_ s.tokens.length ct, .slice aj s.jobs.length cj, .slice ar s.timers.length cr, .slice as_ s.subs.length cs_, .slice ak s.kept.length ck, .slice al s.listed.length cl, .slice am s.msgs.length cm] 33))
  have hsz0 : (w.alloc (.cells #[U s.pos, U s.done, U s.made, .slice ap s.procs.length cp, .slice ai s.insts.length ci, .slice at_ s.tokens.length ct, .slice aj s.jobs.length cj, .slice ar s.timers.length cr, .slice as_ s.subs.length cs_, .slice ak s.kept.length ck, .slice al s.listed.length cl, .slice am s.msgs.length cm] 33)).heap.size = w.heap.size + 1 := by simp
  generalize w.alloc (.cells #[U s.pos, U s.done, U s.made, .slice ap s.procs.length cp, .slice ai s.insts.length ci, .slice at_ s.tokens.length ct, .slice aj s.jobs.length cj, .slice ar s.timers.length cr, .slice as_ s.subs.length cs_, .slice ak s.kept.length ck, .slice al s.listed.length cl, .slice am s.msgs.length cm] 33) = w0 at hst hB0 hsz0 ⊢
  try rw [← hsz0]
  have hst' := Lib.hid ((alloc_old (.cells #[.slice none 0 0] 66) (heap_lt hst.out)).trans hst.out)
  have hbx := Lib.hid (alloc_new w0 (.cells #[.slice none 0 0] 66))
  have hB0' := Lib.hid (hB0.out.alloc hB0.out.size (.cells #[.slice none 0 0] 66))
  have hlt0 : w0.heap.size < (w0.alloc (.cells #[.slice none 0 0] 66)).heap.size := by simp
  have hle0 : w.heap.size ≤ w0.heap.size := by omega
  have Hsz0 := Lib.hid hsz0
  clear hsz0
  generalize w0.alloc (.cells #[.slice none 0 0] 66) = w1 at hst' hbx hB0' hlt0 ⊢
  refine (smay_any s Hok.out (rowsSz s Hok.out) [U s.pos, U s.done, U s.made, .slice ap s.procs.length cp, .slice ai s.insts.length ci, .slice at_ s.tokens.length ct, .slice aj s.jobs.length cj, .slice ar s.timers.length cr, .slice as_ s.subs.length cs_, .slice ak s.kept.length ck, .slice al s.listed.length cl, .slice am s.msgs.length cm] _ _ _ _ _ _ _ _ _ w1 (H.out.grow hB0'.out)).mono ?_
  rintro e w2 ⟨rfl, b2⟩
  have hst2 := Lib.hid ((b2.block w.heap.size (heap_lt hst'.out)).trans hst'.out)
  have hbx2 := Lib.hid ((b2.block w0.heap.size hlt0).trans hbx.out)
  have hB2 := Lib.hid (hB0'.out.trans (b2.mono hB0'.out.size))
  clear b2 hst hst' hbx
  have kb := cell_of hbx2.out 0
  cases hb : mayB s with
  | false =>
    have E := Lib.hid (toldS_no hb)
    clear hb
    go_wp2
    go_ret
    exact ⟨_, _, rfl, kb, by rw [E.out]; exact rows_nil _, hB2.out⟩
  | true =>
    have E := Lib.hid (toldS_yes hb)
    clear hb kb
    have k0 := cell_of hst2.out 0
    have k1 := cell_of hst2.out 1
    have k2 := cell_of hst2.out 2
    have k3 := cell_of hst2.out 3
    have k4 := cell_of hst2.out 4
    have k5 := cell_of hst2.out 5
    have k6 := cell_of hst2.out 6
    have k7 := cell_of hst2.out 7
    have k8 := cell_of hst2.out 8
    have k9 := cell_of hst2.out 9
    have k10 := cell_of hst2.out 10
    have k11 := cell_of hst2.out 11
    go_wp2_with fail
    clear k0 k1 k2 k3 k4 k5 k6 k7 k8 k9 k10 k11
    refine (rows_any s Hok.out [U s.pos, U s.done, U s.made, .slice ap s.procs.length cp, .slice ai s.insts.length ci, .slice at_ s.tokens.length ct, .slice aj s.jobs.length cj, .slice ar s.timers.length cr, .slice as_ s.subs.length cs_, .slice ak s.kept.length ck, .slice al s.listed.length cl, .slice am s.msgs.length cm] _ _ _ _ _ _ _ _ _ w2 (H.out.grow hB2.out)).mono ?_
    rintro e w3 ⟨u, rfl, hf, b3⟩
    have hB3 := Lib.hid (hB2.out.trans (b3.mono hB2.out.size))
    have hbx3 := Lib.hid ((b3.block w0.heap.size (heap_lt hbx2.out)).trans hbx2.out)
    have kb := cell_of hbx3.out 0
    have kf : w3.frozen? ⟨w0.heap.size, 0, none⟩ = false := by simp [World.frozen?, hbx3.out]
    have HF := Lib.hid hf
    obtain ⟨ao, co, rfl, -⟩ := hf
    clear b3
    go_wp2
    go_ret
    exact ⟨_, _, rfl, World.cell?_setCell_same' _ _ _ (by rw [kb]; rfl), by rw [E.out]; exact rows_set hbx3.out HF.out _, hB3.out.setCell (p := ⟨w0.heap.size, 0, none⟩) hle0 _⟩
end Go.Proofs.YthikijlbclckdaaGreat
