/- All rows of a state. -/
import Derived.Test.YthikijlbclckdaaGreatKj
import Derived.Lib.AppendZeros
namespace Go.Proofs.YthikijlbclckdaaGreat
set_option linter.unusedSimpArgs false
set_option linter.unusedVariables false
open Go.RowKit
set_option maxRecDepth 100000 in
set_option maxHeartbeats 4000000 in
theorem grow_any (n : Nat) (hn : n ≤ 4194304) (w : World) : Calls Tryz.prog 112 #[.slice none 0 0, .int .i64 n] w fun e w' => ∃ u, e = .returned u ∧ w'.ownsRow w.heap.size 69 2 u 0 [] ∧ Below w.heap.size w w' := by
  obtain ⟨i0, hi, hz0, hz1, hz2⟩ := info_parts info_row
  by_cases h0 : n = 0
  · subst h0
    go_enter Tryz.func112, Tryz.ntmps112
    go_wp2
    go_ret
    exact ⟨_, rfl, ⟨rfl, .inl ⟨rfl, rfl⟩⟩, Below.refl _ _⟩
  · have hpos : 0 < n := by omega
    have hrun := Lib.run_append_nil_zeros (P := Tryz.prog) w 66 3 66 69 i0 _ .i64 .i64 Tryz.underlying66 Tryz.underlying3 hi hz0 n hpos (by rw [hz1]; decide) (by omega) (by rw [hz2]; omega)
    go_enter Tryz.func112, Tryz.ntmps112
    have Hrun := Lib.hid hrun
    clear hrun
    go_wp2_with (at_builtin; refine app_run rfl rfl rfl rfl Hrun.out ?_)
    have hge := grownCap_ge w n 0 69
    have hle := grownCap_le_maxLen w n 0 69 (by unfold maxLen; omega)
    go_wp2
    go_ret
    refine ⟨_, rfl, ⟨rfl, .inr ⟨w.heap.size, _, _, rfl, Nat.le_refl _, heap_alloc_new w.drew _, Nat.zero_le _, hle, ?_, rfl⟩⟩, ?_⟩
    · rw [Array.size_append, size_zeroCells, size_zeroCells]
      show n * 2 + (grownCap w n 0 69 - n) * 2 = grownCap w n 0 69 * 2
      omega
    · exact ((Below.refl _ w).drew).alloc (Nat.le_refl _) _
/-- Several lists of rows, each as it is read. -/
def ListsAt (w : World) (vs : List Value) (ls : List (List RowV)) : Prop := vs.length = ls.length ∧ ∀ (i : Nat) (u : Value) (l : List RowV), vs[i]? = some u → ls[i]? = some l → FlatAt 2 w u l.length (rowsC l)
theorem flatten_snoc {α : Type} (ls : List (List α)) (i : Nat) (l : List α) (h : ls[i]? = some l) : (ls.take (i + 1)).flatten = (ls.take i).flatten ++ l := by
  rw [List.take_add_one, h]; simp
theorem flatten_le {α : Type} (ls : List (List α)) (i : Nat) : (ls.take i).flatten.length ≤ ls.flatten.length := by
  induction ls generalizing i with
  | nil => simp
  | cons l ls ih =>
    cases i with
    | zero => simp
    | succ i => have := ih i; simp only [List.take_succ_cons, List.flatten_cons, List.length_append]; omega
def totL (ls : List (List RowV)) (i : Nat) : Nat := (ls.take i).flatten.length
theorem totL_succ (ls : List (List RowV)) (i : Nat) (l : List RowV) (h : ls[i]? = some l) : totL ls (i + 1) = totL ls i + l.length := by unfold totL; rw [flatten_snoc ls i l h, List.length_append]
theorem totL_le (ls : List (List RowV)) (i : Nat) : totL ls i ≤ totL ls ls.length := by
  have := flatten_le ls i
  unfold totL
  rwa [List.take_length]
set_option maxRecDepth 100000 in
set_option maxHeartbeats 4000000 in
theorem concat_any (v : Value) (vs : List Value) (ls : List (List RowV)) (w : World) (hv : SlR w v vs) (h : ListsAt w vs ls) (hl : totL ls ls.length ≤ 4194304) (hn : ls.length ≤ 1000) :
    Calls Tryz.prog 49 #[v] w fun e w' => ∃ u, e = .returned u ∧ FlatAt 2 w' u (totL ls ls.length) (rowsC ls.flatten) ∧ Below w.heap.size w w' := by
  have HV := Lib.hid hv
  have H := Lib.hid h
  obtain ⟨a, cap, hv, h1, h2, -⟩ := hv
  have hlen := h.1
  rw [hlen] at h2 hv h1
  subst hv
  clear h
  unfold maxLen at h1
  go_enter Tryz.func49, Tryz.ntmps49
  go_wp2
  go_loop [3, 5, 11] (fun vz _ vi => ∃ i : Nat, i ≤ ls.length ∧ vi = .int .i64 i ∧ vz = .int .i64 (totL ls i : Nat)) (fun _ _ vi => ls.length - (intOf vi).toNat)
  case atStart => exact ⟨0, Nat.zero_le _, rfl, rfl⟩
  case round =>
    obtain ⟨i, hi, rfl, rfl⟩ := hrel
    by_cases hlt : i < ls.length
    · obtain ⟨l, hl2⟩ : ∃ l, ls[i]? = some l := ⟨_, List.getElem?_eq_getElem hlt⟩
      obtain ⟨u, hu⟩ : ∃ u, vs[i]? = some u := ⟨_, List.getElem?_eq_getElem (by omega)⟩
      obtain ⟨a', cap', he, -, -, hc⟩ := HV.out
      rw [hlen] at he
      cases he
      obtain ⟨b, off, rfl, c0⟩ := hc i u hu
      have hF := H.out.2 i u l hu hl2
      obtain ⟨a2, cap2, rfl, hc2, -, -, -⟩ := hF
      have hsl := totL_succ ls i l hl2
      have hle := totL_le ls (i + 1)
      have hb : totL ls i + l.length ≤ 4194304 := by omega
      have hsl' := Lib.hid hsl
      clear hsl hc hu hl2 hle
      generalize l.length = m at hsl' hb hc2 c0 ⊢
      go_wp2
      exact ⟨⟨i + 1, by omega, by go_num, by rw [hsl'.out]; go_num⟩, by simp [intOf]; omega⟩
    · have hin : i = ls.length := by omega
      subst hin
      have hN : Hid (totL ls ls.length = totL ls ls.length) := rfl
      go_wp2_with fail
      refine (grow_any (totL ls ls.length) hl _).mono ?_
      rintro e w1 ⟨u, rfl, hown, hb⟩
      obtain ⟨ao, co, rfl⟩ := own_slice hown
      have B1 := Lib.hid hb
      have HO := Lib.hid hown
      have hz1 := hb.size
      clear hown hb
      go_wp2
      go_loopw [6, 8, 27] (fun vo _ vi wr => ∃ i : Nat, i ≤ ls.length ∧ vi = .int .i64 i ∧ w.heap.size ≤ wr.heap.size ∧ Hid (wr.ownsRow w.heap.size 69 2 vo (totL ls i) (rowsC (ls.take i).flatten) ∧ Below w.heap.size w wr)) (fun _ _ vi _ => ls.length - (intOf vi).toNat)
      case atStart => exact ⟨0, Nat.zero_le _, rfl, hz1, HO.out, B1.out⟩
      case round =>
        obtain ⟨i, hi2, rfl, hws, hR⟩ := hrel
        by_cases hlt2 : i < ls.length
        · obtain ⟨l, hl2⟩ : ∃ l, ls[i]? = some l := ⟨_, List.getElem?_eq_getElem hlt2⟩
          obtain ⟨u, hu⟩ : ∃ u, vs[i]? = some u := ⟨_, List.getElem?_eq_getElem (by omega)⟩
          obtain ⟨a', cap', he, -, -, hc⟩ := HV.out.below hR.out.2
          rw [hlen] at he
          cases he
          obtain ⟨b, off, rfl, c0⟩ := hc i u hu
          have hF := (H.out.2 i u l hu hl2).grow hR.out.2
          have hsl := totL_succ ls i l hl2
          have hle := totL_le ls (i + 1)
          have hb : totL ls i + l.length ≤ 4194304 := by omega
          have hsl' := Lib.hid hsl
          have hfs := Lib.hid (flatten_snoc ls i l hl2)
          have hF' := Lib.hid hF
          obtain ⟨a2, cap2, rfl, hc2, -, -, -⟩ := hF
          have hone := rowsC_one l
          have Hone := Lib.hid hone
          clear hsl hc hu hl2 hle hone
          obtain ⟨ao3, co3, rfl⟩ := own_slice hR.out.1
          go_wp2_with (at_builtin; refine app_flat 66 69 Tryz.underlying66 info_row rfl (by decide) hR.out.1 hws hF'.out (by unfold maxLen; omega) (by omega) Hone.out rfl rfl rfl rfl ?_; intro v' w2 hown2 hb2)
          have hown3 : Hid (w2.ownsRow w.heap.size 69 2 v' (totL ls (i + 1)) (rowsC (ls.take (i + 1)).flatten)) := by show w2.ownsRow _ _ _ _ _ _; rw [hsl'.out, hfs.out, rowsC_add]; exact hown2
          have hbel3 := Lib.hid (hR.out.2.trans hb2)
          have hz2 : w.heap.size ≤ w2.heap.size := hbel3.out.size
          clear hown2 hb2
          go_wp2
          go_roundw
          case rel => exact ⟨i + 1, by omega, by go_num, hz2, hown3.out, hbel3.out⟩
          case measure => simp [intOf]; omega
        · have hin2 : i = ls.length := by omega
          subst hin2
          have hfin : Hid (∀ v, wr.ownsRow w.heap.size 69 2 v (totL ls ls.length) (rowsC (ls.take ls.length).flatten) → FlatAt 2 wr v (totL ls ls.length) (rowsC ls.flatten)) := by
            intro v hv
            have := FlatAt.of_own hv
            rwa [List.take_length] at this
          go_wp2
          go_ret
          exact ⟨_, rfl, hfin.out _ hR.out.1, hR.out.2⟩
end Go.Proofs.YthikijlbclckdaaGreat
