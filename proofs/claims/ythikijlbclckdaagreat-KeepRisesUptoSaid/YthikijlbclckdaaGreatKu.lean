/- The rows compared; what is shown of the form; KeepRows, KeepRises: the walks. -/
import Derived.Test.YthikijlbclckdaaGreatKt
namespace Go.Proofs.YthikijlbclckdaaGreat
set_option linter.unusedSimpArgs false
set_option linter.unusedVariables false
open Go.RowKit
set_option maxRecDepth 100000 in
set_option maxHeartbeats 4000000 in
theorem same_any (l : List RowV) (hmax : l.length ≤ 4194304) (hsz : RowsSz l) (u1 u2 : Value) (w : World) (h1 : rowsF l u1 w) (h2 : rowsF l u2 w) :
    Calls Tryz.prog 13 #[u1, u2] w fun e w' => e = .returned (.bool true) ∧ Below w.heap.size w w' := by
  have H1 := Lib.hid h1
  have H2 := Lib.hid h2
  obtain ⟨a1, c1', rfl, -⟩ := h1
  obtain ⟨a2, c2', rfl, -⟩ := h2
  go_enter Tryz.func13, Tryz.ntmps13
  go_wp2
  go_loopw [5] (fun vi wr => ∃ i : Nat, i ≤ l.length ∧ vi = .int .i64 i ∧ Hid (Below w.heap.size w wr)) (fun vi _ => l.length - (intOf vi).toNat)
  case atStart => exact ⟨0, Nat.zero_le _, rfl, Below.refl _ _⟩
  case round =>
    obtain ⟨i, hi, rfl, hR⟩ := hrel
    by_cases hlt : i < l.length
    · obtain ⟨⟨rk, rv⟩, hx⟩ : ∃ x, l[i]? = some x := ⟨_, List.getElem?_eq_getElem hlt⟩
      obtain ⟨b1, o1, p1, e1, k10, k11⟩ := rows_at (rowsF_st _ _ _ _ H1.out hR.out) hx
      cases e1
      obtain ⟨b2, o2, p2, e2, k20, k21⟩ := rows_at (rowsF_st _ _ _ _ H2.out hR.out) hx
      cases e2
      dsimp only at k10 k11 k20 k21
      have hb1 := World.block_lt_of_cell? wr _ k10
      have hb2 := World.block_lt_of_cell? wr _ k20
      dsimp only at hb1 hb2
      clear hx
      go_wp2_with fail
      refine wp_par (fun _ => False) (fun _ => True) (List.replicate 24 false) _ [.fix ?_, .fix ?_, .fix ?_, .fix ?_, .fix ?_, .fix ?_, .fix ?_, .fix ?_, .fix ?_, .fix ?_, .fix ?_, .fix ?_, .fix ?_, .fix ?_, .fix ?_, .fix ?_, .fix ?_, .fix ?_, .fix ?_, .fix ?_, .fix ?_, .fix ?_, .fix ?_, .fix ?_] (by kernel_rfl) (by kernel_rfl) (by simp only [List.length_replicate, List.drop_succ_cons, List.drop_zero, List.drop_nil]; with_reducible rfl) rfl (fun _ _ _ _ _ => ⟨fun h => h, fun h => h⟩) (fun _ _ h _ => h) trivial ?_
      rotate_left 24
      iterate 24
        first
          | (refine par_skip (a' := ?_) (by rfl) (by rfl) ?_ ?_ ?_; rotate_left 1; with_reducible rfl; (simp only [Act.put, List.setIfInBounds_toArray, List.set_cons_zero, List.set_cons_succ]; with_reducible rfl))
          | (refine par_run (a' := ?_) (by rfl) (by rfl) (fun w' hb hn => ?_) ?_ ?_; rotate_left 1; (have hc := hb.cells; first | (go_simp; (try simp (disch := omega) only [IntWalk.i64_in, IntWalk.i32_in, IntWalk.u64_in, IntWalk.u8_in, IntWalk.u32_in, IntWalk.toNatUp, IntWalk.iteOmega]); with_reducible rfl) | (go_simp; (try simp (disch := omega) only [IntWalk.i64_in, IntWalk.i32_in, IntWalk.u64_in, IntWalk.u8_in, IntWalk.u32_in, IntWalk.toNatUp, IntWalk.iteOmega]); go_simp; with_reducible rfl)); (simp only [Act.put, List.setIfInBounds_toArray, List.set_cons_zero, List.set_cons_succ]; with_reducible rfl))
      refine par_end (fun w9 hb9 hf9 _ => ?_)
      replace hb9 := hb9.grow
      try refine wpList_none ?_
      have hbb := Lib.hid (hR.out.trans (hb9.mono hR.out.size))
      clear hb9
      go_wp2
      go_roundw
      case rel => exact ⟨i + 1, by omega, by go_num, hbb⟩
      case measure => simp [intOf]; omega
    · have hin : i = l.length := by omega
      subst hin
      go_wp2
      go_ret
      exact ⟨rfl, hR.out⟩
def state0 : StateV := { pos := 0, done := 0, made := 0, procs := [], insts := [], tokens := [], jobs := [], timers := [], subs := [], kept := [], listed := [], msgs := [] }
def cells0 : List Value := [U 0, U 0, U 0, .slice none 0 0, .slice none 0 0, .slice none 0 0, .slice none 0 0, .slice none 0 0, .slice none 0 0, .slice none 0 0, .slice none 0 0, .slice none 0 0]
theorem listAt0 {α : Type} (R : World → List Value → α → Prop) (size : Nat) (w : World) : ListAt R size w (.slice none 0 0) [] :=
  ⟨none, 0, rfl, Nat.le_refl _, by simp [maxLen], fun i x h => by cases h⟩
theorem stateAt0 (w : World) : StateAt w cells0 state0 (.slice none 0 0) (.slice none 0 0) (.slice none 0 0) (.slice none 0 0) (.slice none 0 0) (.slice none 0 0) (.slice none 0 0) (.slice none 0 0) (.slice none 0 0) :=
  ⟨rfl, listAt0 _ _ _, listAt0 _ _ _, listAt0 _ _ _, listAt0 _ _ _, listAt0 _ _ _, listAt0 _ _ _, listAt0 _ _ _, listAt0 _ _ _, listAt0 _ _ _⟩
theorem stateOk0 : StateOk state0 := by
  constructor <;> first | (show U64 0; unfold U64; omega) | (intro x hx; cases hx) | (simp [state0])
theorem uv0 : uvS 0 = ⟨#[0]⟩ := by unfold uvS; rw [Lib.uvarint_small (by decide)]; rfl
theorem rows0 : rows state0 = [(⟨#[97]⟩, ⟨#[0, 0, 0]⟩)] := by
  show [((c1 97 : ByteArray), uvS 0 ++ uvS 0 ++ uvS 0)] = _
  rw [uv0]
  rfl
theorem may0 : mayB state0 = true := by
  have h1 : boundsB state0 = true := by rfl
  unfold mayB
  rw [h1, rows0]
  rfl
theorem told0 : toldS state0 = [(⟨#[97]⟩, ⟨#[0, 0, 0]⟩)] := by rw [toldS_yes may0, rows0]
theorem run_eql_func_nil {P : Program} (w : World) (t : TypeId) {a b c} (h : P.underlying t = some (.func a b c)) : (binOp .eql t .nilFunc .nilFunc).run P w = .ok (.bool true) w := by
  have e : (Op.equal t .nilFunc .nilFunc).run P w = .ok true w := by
    show (Op.equalIn (Nat.succ 9999) t .nilFunc .nilFunc).run P w = _
    generalize 9999 = d
    simp [Op.equalIn, run_underlying h]
  simp only [binOp]
  simp [e]
theorem run_eql_func_some {P : Program} (w : World) (t : TypeId) (f : Fn) (xs ys : Array Value) {a b c} (h : P.underlying t = some (.func a b c)) : (binOp .eql t (.func f xs ys) .nilFunc).run P w = .ok (.bool false) w := by
  have e : (Op.equal t (.func f xs ys) .nilFunc).run P w = .ok false w := by
    show (Op.equalIn (Nat.succ 9999) t (.func f xs ys) .nilFunc).run P w = _
    generalize 9999 = d
    simp [Op.equalIn, run_underlying h]
  simp only [binOp]
  simp [e]
set_option maxRecDepth 100000 in
set_option maxHeartbeats 4000000 in
theorem readNil_any (w : World) : Calls Tryz.prog 18 #[.nilFunc] w fun e w' => e = .returned (.tuple #[.agg cells0.toArray, .int .i64 3]) ∧ Below w.heap.size w w' := by
  go_enter Tryz.func18, Tryz.ntmps18
  have he := fun w => run_eql_func_nil (P := Tryz.prog) w 38 Tryz.underlying38
  go_wp2
  have hb : Below w.heap.size w (((((w.alloc (.cells cells0.toArray 33)).alloc (.cells #[.int .i64 3] 47)).alloc (.cells cells0.toArray 33)).alloc (.cells #[.string ⟨#[]⟩] 9)).alloc (.cells #[.bool true] 4)) := by
    refine ((((((Below.refl _ w).alloc (Nat.le_refl _) _).alloc ?_ _).alloc ?_ _).alloc ?_ _).alloc ?_ _) <;> (simp only [World.size_alloc]; omega)
  have x2 := alloc_new w (.cells cells0.toArray 33)
  have x3 := alloc_new (w.alloc (.cells cells0.toArray 33)) (.cells #[.int .i64 3] 47)
  have y2 := (alloc_old (.cells #[.int .i64 3] 47) (heap_lt x2)).trans x2
  have z2 := (alloc_old (.cells cells0.toArray 33) (heap_lt y2)).trans y2
  have y3 := (alloc_old (.cells cells0.toArray 33) (heap_lt x3)).trans x3
  have u2 := (alloc_old (.cells #[.string ⟨#[]⟩] 9) (heap_lt z2)).trans z2
  have z3 := (alloc_old (.cells #[.string ⟨#[]⟩] 9) (heap_lt y3)).trans y3
  have v2 := (alloc_old (.cells #[.bool true] 4) (heap_lt u2)).trans u2
  have u3 := (alloc_old (.cells #[.bool true] 4) (heap_lt z3)).trans z3
  change bodyPost _ _ _ _ _ (((((w.alloc (.cells cells0.toArray 33)).alloc (.cells #[.int .i64 3] 47)).alloc (.cells cells0.toArray 33)).alloc (.cells #[.string ⟨#[]⟩] 9)).alloc (.cells #[.bool true] 4))
  simp only [World.size_alloc] at u3
  generalize (((((w.alloc (.cells cells0.toArray 33)).alloc (.cells #[.int .i64 3] 47)).alloc (.cells cells0.toArray 33)).alloc (.cells #[.string ⟨#[]⟩] 9)).alloc (.cells #[.bool true] 4)) = W at hb v2 u3 ⊢
  clear x2 x3 y2 z2 y3 u2 z3
  have k0 := cell_of v2 0
  have k1 := cell_of v2 1
  have k2 := cell_of v2 2
  have k3 := cell_of v2 3
  have k4 := cell_of v2 4
  have k5 := cell_of v2 5
  have k6 := cell_of v2 6
  have k7 := cell_of v2 7
  have k8 := cell_of v2 8
  have k9 := cell_of v2 9
  have k10 := cell_of v2 10
  have k11 := cell_of v2 11
  have e0 := cell_of u3 0
  simp only [cells0] at k0 k1 k2 k3 k4 k5 k6 k7 k8 k9 k10 k11
  exact bodyPost_ret (v := .tuple #[.agg cells0.toArray, .int .i64 3]) (by simp [results, Tryz.results18, go_sem, cells0, k0, k1, k2, k3, k4, k5, k6, k7, k8, k9, k10, k11, e0]) rfl ⟨rfl, hb⟩
set_option maxRecDepth 100000 in
set_option maxHeartbeats 4000000 in
theorem shown_any (w : World) : Calls Tryz.prog 10 #[] w fun e w' => e = .returned (.bool true) ∧ Below w.heap.size w w' := by
  go_enter Tryz.func10, Tryz.ntmps10
  go_wp2_with fail
  refine (smay_any state0 stateOk0 (rowsSz _ stateOk0) cells0 _ _ _ _ _ _ _ _ _ w (stateAt0 w)).mono ?_
  rintro e w1 ⟨rfl, b1⟩
  rw [may0]
  have B1 := Lib.hid b1
  clear b1
  go_wp2_with fail
  refine (srows_any state0 stateOk0 cells0 _ _ _ _ _ _ _ _ _ w1 (stateAt0 w1)).mono ?_
  rintro e w2 ⟨lc, v, rfl, hlc, hv, b2⟩
  rw [told0] at hv
  have B2 := Lib.hid (B1.out.trans (b2.mono B1.out.size))
  have Hlc := Lib.hid hlc
  have Hv := Lib.hid hv
  clear b2 hlc hv
  go_wp2_with fail
  refine (told_any lc _ v w2 Hlc.out Hv.out (by simp)).mono ?_
  rintro e w3 ⟨u, rfl, hf, b3⟩
  have B3 := Lib.hid (B2.out.trans (b3.mono B2.out.size))
  obtain ⟨b, off, cap, rfl, c0, c1⟩ := rows_at hf (i := 0) rfl
  dsimp only at c0 c1
  have hbl := World.block_lt_of_cell? w3 _ c0
  dsimp only at hbl
  have C0 := Lib.hid c0
  have C1 := Lib.hid c1
  clear b3 hf c0 c1
  go_wp2_with fail
  refine (readNil_any w3).mono ?_
  rintro e w4 ⟨rfl, b4⟩
  have c0 := (b4.cell (p := ⟨b, off + 0 * 2, none⟩) hbl).trans C0.out
  have c1 := (b4.cell (p := ⟨b, off + 0 * 2 + 1, none⟩) hbl).trans C1.out
  have B4 := Lib.hid (B3.out.trans (b4.mono B3.out.size))
  have hbl4 := World.block_lt_of_cell? w4 _ c0
  dsimp only at hbl4
  clear b4
  simp only [Nat.zero_mul, Nat.add_zero] at c0 c1
  simp only [cells0]
  go_wp2
  go_ret
  exact ⟨rfl, B4.out.alloc B4.out.size _⟩
end Go.Proofs.YthikijlbclckdaaGreat
