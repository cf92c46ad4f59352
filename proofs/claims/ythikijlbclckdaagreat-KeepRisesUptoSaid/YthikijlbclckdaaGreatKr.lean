/- The rows as an iterator, and what is told of them. -/
import Derived.RangeFuncNested
import Derived.RangeFuncBound
import Derived.RangeFuncCalls
import Derived.RangeFuncLeaves
import Derived.RangeFuncBox
import Derived.Shelf.Abstract
import Derived.Shelf.RegionOpen
import Derived.WalkKit
import Derived.OwnWalkIn
import Derived.TacticsInMore
import Derived.LoopNIn
import Derived.LoopIn
import Derived.Maps.AppendAt
import Derived.Test.YthikijlbclckdaaGreatKo
namespace Go.Proofs.YthikijlbclckdaaGreat
set_option linter.unusedSimpArgs false
set_option linter.unusedVariables false
open Go.RowKit Go.Shelf
attribute [local go_sem] Oper.semAt_some
theorem take_snoc {α : Type} {l : List α} {i : Nat} {x : α} (h : l[i]? = some x) : l.take (i + 1) = l.take i ++ [x] := by
  rw [List.take_add_one, h]; rfl
/-- One round's own block: whatever abides new blocks abides it. -/
theorem grown_new (w : World) (o : Obj) : w.grownBy (w.alloc o) none := World.grownBy_alloc w o none
set_option maxRecDepth 100000 in
set_option maxHeartbeats 2000000 in
theorem rowsIt_in (n : Nat) (hn : 1 ≤ n) (l lc : Nat) (w0 : World) (v : Value) (rs : List RowV) (hlc : w0.cell? ⟨lc, 0, none⟩ = some v) (hv : rowsF rs v w0) (hmax : rs.length ≤ 4194304) (J Jx : List RowV → World → Prop) (W : World) (hW : Below w0.heap.size w0 W) (hJ : AbidesFrom W.heap.size J)
    (hY : ∀ pre x W1, J pre W1 → pre.length < rs.length → YieldAt Fence.wide (n - 1) Tryz.prog l #[.string x.1, .string x.2] W1 fun e W' =>
      (e = .returned (.bool true) ∧ J (pre ++ [x]) W' ∧ Below w0.heap.size W1 W') ∨ (e = .returned (.bool false) ∧ Jx (pre ++ [x]) W'))
    (h0 : J [] W) :
    CallsIn Fence.wide n Tryz.prog 27 #[.func (.yield l) #[] #[], .pointer (some ⟨lc, 0, none⟩)] W fun e W' => (∃ v, e = .returned v) ∧
      ((∃ ys, ys = rs ∧ J ys W') ∨ (∃ pre, pre <+: rs ∧ Jx pre W')) := by
  have HV := Lib.hid hv
  have HW := Lib.hid hW
  have hBs : W.cell? ⟨lc, 0, none⟩ = some v := (hW.cell (p := ⟨lc, 0, none⟩) (World.block_lt_of_cell? w0 _ hlc)).trans hlc
  obtain ⟨a, cap, rfl, hlc1, hlm, -⟩ := hv
  unfold maxLen at hlm
  clear hW
  refine callsIn_of_wp Tryz.func27 rfl trivial ?_ rfl
  simp only [Tryz.ntmps27, List.size_toArray, List.length_cons, List.length_nil, Nat.reduceAdd, Nat.reduceSub, Array.replicate_succ, Array.replicate_zero, List.push_toArray, List.append_toArray, List.nil_append, List.cons_append]
  gi_wp2
  gi_loopw [7] (fun i wr => ∃ k : Nat, k ≤ rs.length ∧ i = .int .i64 k ∧ J (rs.take k) wr ∧ Hid (Below w0.heap.size w0 wr))
    (fun i _ => rs.length - (intOf i).toNat)
  case atStart => exact ⟨0, Nat.zero_le _, rfl, h0, HW⟩
  case round =>
    obtain ⟨k, hk, rfl, hJs, hR⟩ := hrel
    by_cases hlt : k < rs.length
    · obtain ⟨⟨rk, rv⟩, hx⟩ : ∃ x, rs[k]? = some x := ⟨_, List.getElem?_eq_getElem hlt⟩
      obtain ⟨b, off, cap', he, c0, c1⟩ := rows_at (rowsF_st _ _ _ _ HV.out hR.out) hx
      cases he
      dsimp only at c0 c1
      have hJ' : J (rs.take k) (wr.alloc (.cells #[.string rk, .string rv] 69)) := hJ _ _ _ none hJs (grown_new _ _) (fun r e => by cases e)
      have hR' := Lib.hid (hR.out.alloc hR.out.size (.cells #[.string rk, .string rv] 69))
      obtain ⟨fn, tmps, assign, body, hy, hR3⟩ := hY _ (rk, rv) _ hJ' (by rw [List.length_take]; omega)
      dsimp only at hy
      have Hx := Lib.hid hx
      clear hx
      gi_wp2
      refine hR3.mono ?_
      rintro e W3 (⟨rfl, hJ3, hk3⟩ | ⟨rfl, hJx3⟩)
      · gi_wp2
        go_roundw
        case rel => exact ⟨k + 1, by omega, by simp, by rw [take_snoc Hx.out]; exact hJ3, Lib.hid (hR'.out.trans hk3)⟩
        case measure => simp [intOf]; omega
      · gi_wp2
        refine bodyPost_ret (results_none rfl _ _ _) rfl ?_
        exact ⟨⟨_, rfl⟩, .inr ⟨rs.take (k + 1), List.take_prefix _ _, by rw [take_snoc Hx.out]; exact hJx3⟩⟩
    · obtain rfl : k = rs.length := by omega
      gi_wp2
      go_end0
      exact ⟨⟨_, rfl⟩, .inl ⟨_, rfl, by rw [List.take_length] at hJs; exact hJs⟩⟩
theorem rows_stops (n : Nat) (hn : 1 ≤ n) (lc : Nat) (w : World) (v : Value) (rs : List RowV) (n₀ : Nat) (w0 : World) (hn₀ : n₀ = w0.heap.size) (hw : Below w0.heap.size w0 w) (hlc : w0.cell? ⟨lc, 0, none⟩ = some v) (hv : rowsF rs v w0) (hmax : rs.length ≤ 4194304) :
    SeqStopsK Fence.wide n Tryz.prog 27 #[.pointer (some ⟨lc, 0, none⟩)] (fun x : RowV => #[.string x.1, .string x.2]) (Below n₀) (fun ys => ys = rs) (fun pre => pre <+: rs) rs.length w := fun l J Jx W hW hJ _ hY h0 => by
  subst hn₀
  exact rowsIt_in n hn l lc w0 v rs hlc hv hmax J Jx W (hw.trans (hW.mono hw.size)) hJ hY h0
theorem infoT : (Tryz.prog.info? 46).map (fun i => (i.zero, i.size, i.bytes)) = some (some (.agg #[.string ⟨#[]⟩, .string ⟨#[]⟩]), 2, 32) := by kernel_rfl
theorem cell_two_new (w : World) (x y : Value) (t : TypeId) : ∀ j u, [x, y][j]? = some u → (w.alloc (.cells #[x, y] t)).cell? ((⟨w.heap.size, 0, none⟩ : Addr).add j) = some u := by
  intro j u hj
  match j, hj with
  | 0, hj =>
    simp at hj
    subst hj
    exact cell_of (alloc_new w (.cells #[x, y] t)) 0
  | 1, hj =>
    simp at hj
    subst hj
    exact cell_of (alloc_new w (.cells #[x, y] t)) 1
set_option maxRecDepth 100000 in
set_option maxHeartbeats 4000000 in
theorem told_in (n : Nat) (hn : 3 ≤ n) (lc : Nat) (rs : List RowV) (v : Value) (w : World) (hlc : w.cell? ⟨lc, 0, none⟩ = some v) (hv : rowsF rs v w) (hmax : rs.length ≤ 4194304) :
    CallsIn Fence.wide n Tryz.prog 11 #[.func (.func 27) #[] #[.pointer (some ⟨lc, 0, none⟩)]] w fun e w' => ∃ u, e = .returned u ∧ rowsF rs u w' ∧ Below w.heap.size w w' := by
  have h1 : 1 ≤ n := by omega
  have hro : Fence.wide.round = none := rfl
  obtain ⟨i0, hi, hz0, hz1, hz2⟩ := info_parts infoT
  refine callsIn_of_wp_marks Tryz.func11 rfl trivial ?_ hro
  simp only [Tryz.ntmps11, List.size_toArray, List.length_cons, List.length_nil, Nat.reduceAdd, Nat.reduceSub, Array.replicate_succ, Array.replicate_zero, List.push_toArray, List.append_toArray, List.nil_append, List.cons_append]
  gi_wp2
  have bO := Boxed.new w 35 (.slice none 0 0)
  have hB0 : Below w.heap.size w (w.alloc (.cells #[.slice none 0 0] 35)) := (Below.refl _ w).alloc (Nat.le_refl _) _
  refine wpIn_rangeFunc_ownG hro h1 (gf := 27) (lb := #[.pointer (some ⟨lc, 0, none⟩)]) rfl trivial (enters_of Tryz.func27 (by kernel_rfl) rfl)
    (rows_stops (n - 1) (by omega) lc _ v rs w.heap.size w rfl hB0 hlc hv hmax) belowK_t (belowK_b (by simp)) (Below.refl _ _) (fun _ => rfl)
    (fun pre W => (∃ v, Boxed W w.heap.size 35 v ∧ W.ownsRow w.heap.size 46 2 v pre.length (rowsC pre) ∧ True) ∧ Below w.heap.size w W)
    (fun _ _ _ => False)
    (OwnFrom.and (Own.from (holdsRow_own w.heap.size w.heap.size 35 46 2 (fun pre : List RowV => pre.length) rowsC (fun _ _ => True)) _) (ownFrom_below (Nat.le_refl _) (by simp)))
    (fun _ _ _ _ _ hs _ _ => hs)
    ⟨⟨_, bO, World.ownsRow_nil _ _ _ _, trivial⟩, hB0⟩
    (fun x => { tmps := #[.func (.func 27) #[] #[.pointer (some ⟨lc, 0, none⟩)], undef, .slice none 0 0, .pointer (some ⟨w.heap.size, 0, none⟩), .string x.1, .string x.2, .func (.func 27) #[] #[.pointer (some ⟨lc, 0, none⟩)], .string x.1, .string x.2, undef, undef, undef, undef, undef, undef, undef], defers := [] }) ?assign ?body ?done ?stop
  case assign =>
    intro l x W K hK
    gi_wp2
    exact hK
  case body =>
    rintro l pre x W ⟨⟨v, hv, hrow, -⟩, hB⟩ hlt
    have hc := hv.cell
    gi_wp2_with (gi_at_builtin; refine wpListIn_append_own _ rfl _ _ 35 rfl w.heap.size 46 i0 (.agg #[.string ⟨#[]⟩, .string ⟨#[]⟩]) 2 32 Tryz.underlying35 hi hz0 hz1 hz2 rfl (by decide) _ _ _ rfl (hrow.alloc _) ⟨W.heap.size, 0, none⟩ 1 1 [.string x.1, .string x.2] rfl rfl (cell_two_new _ _ _ _) (by simp [Value.oneCell']) (by unfold maxLen; omega) (by omega) (by have := hB.size; simp; omega) ?_; intro v' w1 hown' hgrow _; obtain ⟨g', cap', rfl⟩ := ownsRow_succ hown'; obtain ⟨hv1, hv2, hr2, hk2, hb2⟩ := hv.appended (by decide) hrow hB.size (Nat.le_refl _) hown' hgrow; have hc1 := hv1.cell; have hf1 := hv1.frozen)
    exact ⟨hk2.from _, hb2, ⟨_, hv2, by rw [rowsC_snoc]; simpa [rowC] using hr2, trivial⟩, hB.trans hb2⟩
  case done =>
    rintro D ys W hD rfl ⟨⟨v, hv, hrow, -⟩, hB⟩ hK
    have hc := hv.cell
    have hown := ownsRow_putObj hrow (.deferred none) hK rfl
    obtain ⟨a, cap, rfl⟩ : ∃ a cap, v = .slice a ys.length cap := by
      obtain ⟨a, cap, e, -⟩ := FlatAt.of_own hrow
      exact ⟨a, cap, e⟩
    gi_wp2
    refine ⟨by simp, .inl ⟨_, _, rfl, run_takeDeferred hK, ?_⟩⟩
    exact ⟨_, results_tmp rfl _ _ _, _, rfl, FlatAt.of_own hown, hB.trans (belowK_b (w := w) (Nat.le_refl _) W D _ _ (by simp at hD; omega) hK rfl rfl)⟩
  case stop =>
    rintro D c pre W _ _ h _
    exact h.elim
theorem told_any (lc : Nat) (rs : List RowV) (v : Value) (w : World) (hlc : w.cell? ⟨lc, 0, none⟩ = some v) (hv : rowsF rs v w) (hmax : rs.length ≤ 4194304) :
    Calls Tryz.prog 11 #[.func (.func 27) #[] #[.pointer (some ⟨lc, 0, none⟩)]] w fun e w' => ∃ u, e = .returned u ∧ rowsF rs u w' ∧ Below w.heap.size w w' :=
  (callsIn_wide (n := 3)).1 (told_in 3 (by omega) lc rs v w hlc hv hmax)
end Go.Proofs.YthikijlbclckdaaGreat
