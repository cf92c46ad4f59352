/- Keep: contracts (Ko). -/
import Derived.Test.YthikijlbclckdaaGreatT10
namespace Go.Proofs.YthikijlbclckdaaGreat
set_option maxRecDepth 100000
set_option maxHeartbeats 40000000
set_option linter.unusedSimpArgs false
set_option linter.unusedVariables false
open Go.IntWalk Go.RowKit
def rOk (l : List RowV) (i : Nat) : Bool :=
 match l[i]? with
 | none => true
 | some r => decide (r.2.size ≤ 16384) && (match i with | 0 => true | j + 1 => ltS (match l[j]? with | none => ⟨#[]⟩ | some q => q.1) r.1)
def rowsB (l : List RowV) : Bool := (List.range l.length).all (rOk l)
def mayB (s : StateV) : Bool := boundsB s && rowsB (rows s)
theorem rowsB_bad {l : List RowV} {i : Nat} (hi : i < l.length) (h : rOk l i = false) : rowsB l = false := by
 unfold rowsB
 rw [Bool.eq_false_iff]
 intro ha
 rw [List.all_eq_true] at ha
 have := ha i (List.mem_range.2 hi)
 rw [h] at this
 cases this
theorem rowsB_end {l : List RowV} (h : ∀ i, i < l.length → rOk l i = true) : rowsB l = true := by
 unfold rowsB
 rw [List.all_eq_true]
 exact fun i hi => h i (List.mem_range.1 hi)
def RowsSz (l : List RowV) : Prop := ∀ r ∈ l, r.1.size ≤ 4611686018427387904 ∧ r.2.size ≤ 4611686018427387904
theorem rows_at {w : World} {v : Value} {n : Nat} {l : List RowV} (h : FlatAt 2 w v n (rowsC l)) {i : Nat} {r : RowV} (hr : l[i]? = some r) : ∃ b off cap, v = .slice (some ⟨b, off, none⟩) n cap ∧ w.cell? ⟨b, off + i * 2, none⟩ = some (.string r.1) ∧ w.cell? ⟨b, off + i * 2 + 1, none⟩ = some (.string r.2) := by
 obtain ⟨a, cap, rfl, h1, h2, h3, h4⟩ := h
 have hc : ∀ (l : List RowV) (i : Nat) (r : RowV), l[i]? = some r → (rowsC l)[i * 2]? = some (.string r.1) ∧ (rowsC l)[i * 2 + 1]? = some (.string r.2) := by
  intro l
  induction l with
  | nil => intro i r h; cases h
  | cons q l ih =>
   intro i r h
   cases i with
   | zero => cases h; exact ⟨rfl, rfl⟩
   | succ i =>
    have := ih i r h
    rw [show (i + 1) * 2 = i * 2 + 2 by omega]
    exact this
 obtain ⟨e0, e1⟩ := hc l i r hr
 obtain ⟨b, off, rfl, c0⟩ := h4 _ _ e0
 obtain ⟨b', off', he, c1⟩ := h4 _ _ e1
 cases he
 exact ⟨b, off, cap, rfl, c0, by rw [Nat.add_assoc]; exact c1⟩
theorem smay_any (s : StateV) (hok : StateOk s) (hsz : RowsSz (rows s)) (cs : List Value) (vp vi vt vj vr vs vk vl vm : Value) (w : World) (h : StateAt w cs s vp vi vt vj vr vs vk vl vm) :
  Calls Tryz.prog 15 #[.agg cs.toArray] w fun e w' => e = .returned (.bool (mayB s)) ∧ Below w.heap.size w w' := by
 have H := hid h
 have Hok := hid hok
 have Hsz := hid hsz
 obtain ⟨hcs, hp, hi, ht, hj, hr, hs, hk, hl, hm⟩ := h
 obtain ⟨ap, cp, rfl, -⟩ := hp
 obtain ⟨ai, ci, rfl, -⟩ := hi
 obtain ⟨at_, ct, rfl, -⟩ := ht
 obtain ⟨aj, cj, rfl, -⟩ := hj
 obtain ⟨ar, cr, rfl, -⟩ := hr
 obtain ⟨as_, cs_, rfl, -⟩ := hs
 obtain ⟨ak, ck, rfl, -⟩ := hk
 obtain ⟨al, cl, rfl, -⟩ := hl
 obtain ⟨am, cm, rfl, -⟩ := hm
 subst hcs
 clear hok hsz
 go_enter Tryz.func15, Tryz.ntmps15
 go_wp2_with fail
 have hst := hid (alloc_new w (.cells #[U s.pos, U s.done, U s.made, .slice ap s.procs.length cp, .slice ai s.insts.length ci, .slice at_ s.tokens.length ct, .slice aj s.jobs.length cj, .slice ar s.timers.length cr, .slice as_ s.subs.length cs_, .slice ak s.kept.length ck, .slice al s.listed.length cl, .slice am s.msgs.length cm] 33))
 have hB0 := hid ((Below.refl _ w).alloc (Nat.le_refl _) (.cells #[U s.pos, U s.done, U s.made, .slice ap s.procs.length cp, .slice ai s.insts.length ci, .slice at_ s.tokens.length ct, .slice aj s.jobs.length cj, .slice ar s.timers.length cr, .slice as_ s.subs.length cs_, .slice ak s.kept.length ck, .slice al s.listed.length cl, .slice am s.msgs.length cm] 33))
 have hlt0 : w.heap.size < (w.alloc (.cells #[U s.pos, U s.done, U s.made, .slice ap s.procs.length cp, .slice ai s.insts.length ci, .slice at_ s.tokens.length ct, .slice aj s.jobs.length cj, .slice ar s.timers.length cr, .slice as_ s.subs.length cs_, .slice ak s.kept.length ck, .slice al s.listed.length cl, .slice am s.msgs.length cm] 33)).heap.size := by simp
 generalize w.alloc (.cells #[U s.pos, U s.done, U s.made, .slice ap s.procs.length cp, .slice ai s.insts.length ci, .slice at_ s.tokens.length ct, .slice aj s.jobs.length cj, .slice ar s.timers.length cr, .slice as_ s.subs.length cs_, .slice ak s.kept.length ck, .slice al s.listed.length cl, .slice am s.msgs.length cm] 33) = w0 at hst hB0 hlt0 ⊢
 refine (bounds_any s Hok.out [U s.pos, U s.done, U s.made, .slice ap s.procs.length cp, .slice ai s.insts.length ci, .slice at_ s.tokens.length ct, .slice aj s.jobs.length cj, .slice ar s.timers.length cr, .slice as_ s.subs.length cs_, .slice ak s.kept.length ck, .slice al s.listed.length cl, .slice am s.msgs.length cm] _ _ _ _ _ _ _ _ _ w0 (H.out.grow hB0.out)).mono ?_
 rintro e w1 ⟨rfl, b1⟩
 have hst1 := hid ((b1.block w.heap.size hlt0).trans hst.out)
 have hB1 := hid (hB0.out.trans (b1.mono hB0.out.size))
 clear b1 hst
 cases hbd : boundsB s with
 | false =>
  have E : Hid (mayB s = false) := by show _ = _; simp [mayB, hbd]
  clear hbd
  go_wp2
  go_ret
  rw [E.out]
  exact ⟨rfl, hB1.out⟩
 | true =>
  have E0 : Hid (∀ b, rowsB (rows s) = b → mayB s = b) := by
   intro b hb
   simp [mayB, hbd, hb]
  obtain ⟨k0, k1, k2, k3, k4, k5, k6, k7, k8, k9, k10, k11⟩ := cells12 hst1.out
  clear hbd
  go_wp2_with fail
  clear k0 k1 k2 k3 k4 k5 k6 k7 k8 k9 k10 k11
  refine (rows_any s Hok.out [U s.pos, U s.done, U s.made, .slice ap s.procs.length cp, .slice ai s.insts.length ci, .slice at_ s.tokens.length ct, .slice aj s.jobs.length cj, .slice ar s.timers.length cr, .slice as_ s.subs.length cs_, .slice ak s.kept.length ck, .slice al s.listed.length cl, .slice am s.msgs.length cm] _ _ _ _ _ _ _ _ _ w1 (H.out.grow hB1.out)).mono ?_
  rintro e w2 ⟨u, rfl, hf, b2⟩
  have hB2 := hid (hB1.out.trans (b2.mono hB1.out.size))
  have HF := hid hf
  generalize rows s = l at HF hf E0 Hsz
  obtain ⟨ao, co, rfl, hlc, hlm, -⟩ := hf
  unfold maxLen at hlm
  clear b2
  go_wp2
  go_loopw [13] (fun vi wr => ∃ i : Nat, i ≤ l.length ∧ vi = .int .i64 i ∧ Hid ((∀ j, j < i → rOk l j = true) ∧ Below w2.heap.size w2 wr)) (fun vi _ => l.length - (intOf vi).toNat)
  case atStart => exact ⟨0, Nat.zero_le _, rfl, fun j hj => by omega, Below.refl _ _⟩
  case round =>
   obtain ⟨i, hi, rfl, hR⟩ := hrel
   by_cases hlt : i < l.length
   ·
    obtain ⟨⟨rk, rv⟩, hx⟩ : ∃ x, l[i]? = some x := ⟨_, List.getElem?_eq_getElem hlt⟩
    obtain ⟨⟨qk, qv⟩, hy⟩ : ∃ y, l[i - 1]? = some y := ⟨_, List.getElem?_eq_getElem (by omega)⟩
    have hF := rowsF_st _ _ _ _ HF.out hR.out.2
    obtain ⟨b, off, cap', he, c0, c1⟩ := rows_at hF hx
    cases he
    obtain ⟨b2, off2, cap2, he2, d0, -⟩ := rows_at hF hy
    cases he2
    dsimp only at c0 c1 d0
    have Hx := hid hx
    have Hy := hid hy
    have hsv := (Hsz.out _ (List.mem_of_getElem? hx)).2
    dsimp only at hsv
    have hbl := World.block_lt_of_cell? wr _ c0
    dsimp only at hbl
    clear hx hy hF
    go_wp2_with fail
    have hst := alloc_new wr (.cells #[.string rk, .string rv] 69)
    have hW := hid (hR.out.2.alloc hR.out.2.size (.cells #[.string rk, .string rv] 69))
    have hrnd : rOk l i = true → Hid (∀ j, j < i + 1 → rOk l j = true) := fun hok j hj => by
     by_cases hji : j = i
     ·
      subst hji; exact hok
     ·
      exact hR.out.1 j (by omega)
    have Hrnd := hid hrnd
    clear hrnd
    by_cases hlong : 16384 < rv.size
    ·
     have q0 : decide (16384 < (rv.size : Int)) = true := by simp; omega
     have q0' : decide (16384 < rv.size) = true := by simp; omega
     have E : Hid (mayB s = false) := E0.out _ (rowsB_bad hlt (by simp [rOk, Hx.out]; omega))
     refine wp_par (fun _ => False) (fun _ => True) (List.replicate 19 false) _ [.fix ?_, .fix ?_, .fix ?_, .fix ?_, .fix ?_, .fix ?_, .fix ?_, .fix ?_, .fix ?_, .fix ?_, .fix ?_, .fix ?_, .fix ?_, .fix ?_, .fix ?_, .fix ?_, .fix ?_, .fix ?_, .fix ?_] (by kernel_rfl) (by kernel_rfl) (by simp only [List.length_replicate, List.drop_succ_cons, List.drop_zero, List.drop_nil]; with_reducible rfl) rfl (fun _ _ _ _ _ => ⟨fun h => h, fun h => h⟩) (fun _ _ h _ => h) trivial ?_
     rotate_left 19
     iterate 19
      first
       | (refine par_skip (a' := ?_) (by rfl) (by rfl) ?_ ?_ ?_; rotate_left 1; with_reducible rfl; (simp only [lays]; with_reducible rfl))
       | (refine par_run (a' := ?_) (by rfl) (by rfl) (fun w' hb hn => ?_) ?_ ?_; rotate_left 1; (have hc := hb.cells; go_simp; (try simp (disch := omega) only [nrm, toNatUp, iteOmega]); first | with_reducible rfl | (go_simp; with_reducible rfl)); (simp only [lays]; with_reducible rfl))
     refine par_end (fun w9 hb9 hf9 _ => ?_)
     replace hb9 := hb9.grow
     try refine wpList_none ?_
     have hb10 := hid (hB2.out.trans ((hW.out.trans (hb9.mono hW.out.size)).mono hB2.out.size))
     clear hb9
     go_wp2
     go_ret
     rw [E.out]
     exact ⟨rfl, hb10.out⟩
    ·
     have q0 : decide (16384 < (rv.size : Int)) = false := by simp; omega
     have q0' : decide (16384 < rv.size) = false := by simp; omega
     by_cases h0 : i = 0
     ·
      have hok : Hid (rOk l i = true) := by
       show _ = _
       subst h0
       simp [rOk, Hx.out]; omega
      have q1 : decide (0 < (i : Int)) = false := by simp [h0]
      have q1' : decide (0 < i) = false := by simp [h0]
      refine wp_par (fun _ => False) (fun _ => True) (List.replicate 19 false) _ [.fix ?_, .fix ?_, .fix ?_, .fix ?_, .fix ?_, .fix ?_, .fix ?_, .fix ?_, .fix ?_, .fix ?_, .fix ?_, .fix ?_, .fix ?_, .fix ?_, .fix ?_, .fix ?_, .fix ?_, .fix ?_, .fix ?_] (by kernel_rfl) (by kernel_rfl) (by simp only [List.length_replicate, List.drop_succ_cons, List.drop_zero, List.drop_nil]; with_reducible rfl) rfl (fun _ _ _ _ _ => ⟨fun h => h, fun h => h⟩) (fun _ _ h _ => h) trivial ?_
      rotate_left 19
      iterate 19
       first
        | (refine par_skip (a' := ?_) (by rfl) (by rfl) ?_ ?_ ?_; rotate_left 1; with_reducible rfl; (simp only [lays]; with_reducible rfl))
        | (refine par_run (a' := ?_) (by rfl) (by rfl) (fun w' hb hn => ?_) ?_ ?_; rotate_left 1; (have hc := hb.cells; go_simp; (try simp (disch := omega) only [nrm, toNatUp, iteOmega]); first | with_reducible rfl | (go_simp; with_reducible rfl)); (simp only [lays]; with_reducible rfl))
      refine par_end (fun w9 hb9 hf9 _ => ?_)
      replace hb9 := hb9.grow
      try refine wpList_none ?_
      have hbb := hid (hW.out.trans (hb9.mono hW.out.size))
      clear hb9
      go_wp2
      go_roundw
      case rel => exact ⟨i + 1, by omega, by go_num, Hrnd.out hok.out, hbb.out⟩
      case measure => simp [intOf]; omega
     ·
      have q1 : decide (0 < (i : Int)) = true := by simp; omega
      have q1' : decide (0 < i) = true := by simp; omega
      have hi1 : 1 ≤ i := by omega
      refine wp_par (fun _ => False) (fun _ => True) (List.replicate 19 false) _ [.fix ?_, .fix ?_, .fix ?_, .fix ?_, .fix ?_, .fix ?_, .fix ?_, .fix ?_, .fix ?_, .fix ?_, .fix ?_, .fix ?_, .fix ?_, .fix ?_, .fix ?_, .fix ?_, .fix ?_, .fix ?_, .fix ?_] (by kernel_rfl) (by kernel_rfl) (by simp only [List.length_replicate, List.drop_succ_cons, List.drop_zero, List.drop_nil]; with_reducible rfl) rfl (fun _ _ _ _ _ => ⟨fun h => h, fun h => h⟩) (fun _ _ h _ => h) trivial ?_
      rotate_left 19
      iterate 19
       first
        | (refine par_skip (a' := ?_) (by rfl) (by rfl) ?_ ?_ ?_; rotate_left 1; with_reducible rfl; (simp only [lays]; with_reducible rfl))
        | (refine par_run (a' := ?_) (by rfl) (by rfl) (fun w' hb hn => ?_) ?_ ?_; rotate_left 1; (have hc := hb.cells; go_simp; (try simp (disch := omega) only [nrm, toNatUp, iteOmega]); first | with_reducible rfl | (go_simp; with_reducible rfl)); (simp only [lays]; with_reducible rfl))
      refine par_end (fun w9 hb9 hf9 _ => ?_)
      replace hb9 := hb9.grow
      try refine wpList_none ?_
      cases hl2 : Op.bytesLess qk.toList rk.toList with
      | true =>
       have hok : Hid (rOk l i = true) := by
        show _ = _
        obtain ⟨j, rfl⟩ : ∃ j, i = j + 1 := ⟨i - 1, by omega⟩
        have hy' := Hy.out
        simp only [Nat.add_sub_cancel] at hy'
        simp only [ByteArray.toList_eq] at hl2
        simp [rOk, Hx.out, hy', ltS, hl2]; omega
       have hbb := hid (hW.out.trans (hb9.mono hW.out.size))
       clear hb9
       go_wp2
       go_roundw
       case rel => exact ⟨i + 1, by omega, by go_num, Hrnd.out hok.out, hbb.out⟩
       case measure => simp [intOf]; omega
      | false =>
       have E : Hid (mayB s = false) := E0.out _ (rowsB_bad hlt (by
        obtain ⟨j, rfl⟩ : ∃ j, i = j + 1 := ⟨i - 1, by omega⟩
        have hy' := Hy.out
        simp only [Nat.add_sub_cancel] at hy'
        simp only [ByteArray.toList_eq] at hl2
        simp [rOk, Hx.out, hy', ltS, hl2]))
       have hb10 := hid (hB2.out.trans ((hW.out.trans (hb9.mono hW.out.size)).mono hB2.out.size))
       clear hb9
       go_wp2
       go_ret
       rw [E.out]
       exact ⟨rfl, hb10.out⟩
   ·
    have hin : i = l.length := by omega
    subst hin
    have E := hid (E0.out _ (rowsB_end hR.out.1))
    have hb10 := hid (hB2.out.trans (hR.out.2.mono hB2.out.size))
    go_wp2
    go_ret
    rw [E.out]
    exact ⟨rfl, hb10.out⟩
end Go.Proofs.YthikijlbclckdaaGreat
