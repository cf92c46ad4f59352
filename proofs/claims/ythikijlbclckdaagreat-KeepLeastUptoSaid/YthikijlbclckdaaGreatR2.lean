/- Keep: contracts (Kb J Kc Kd Ke). -/
import Derived.Test.YthikijlbclckdaaGreatR1
import Derived.Laws.MakeOwn
import Derived.Test.YthikijlbclckdaaGreatProg
import Derived.KernelRfl
import Derived.WalkLawsBesides
import Derived.Lib.Hide
import Derived.Deep.QuietTactic
import Derived.BigQuiet
import Derived.Deep.RegionWith
namespace Go.Proofs.YthikijlbclckdaaGreat
set_option maxRecDepth 100000
set_option maxHeartbeats 40000000
set_option linter.unusedSimpArgs false
set_option linter.unusedVariables false
open Go.RowKit
def bigF (v : Nat) : Nat → List UInt8
  | 0 => []
  | m + 1 => bigF (v / 256) m ++ [(v % 256).toUInt8]
def bigS (v m : Nat) : ByteArray := ⟨(bigF v m).toArray⟩
theorem bigF_length (v m : Nat) : (bigF v m).length = m := by
  induction m generalizing v with
  | zero => rfl
  | succ m ih => simp [bigF, ih]
theorem bigS_size (v m : Nat) : (bigS v m).size = m := by simp [bigS, ByteArray.size, bigF_length]
theorem bigF_at (v m j : Nat) (hj : j < m) : (bigF v m)[j]? = some ((v / 256 ^ (m - 1 - j)) % 256).toUInt8 := by
  induction m generalizing v j with
  | zero => omega
  | succ m ih =>
    rw [bigF]
    by_cases h : j < m
    · rw [List.getElem?_append_left (by rw [bigF_length]; exact h), ih _ _ h, Nat.div_div_eq_div_mul, ← Nat.pow_succ', Nat.succ_eq_add_one, show m - 1 - j + 1 = m + 1 - 1 - j by omega]
    · have : j = m := by omega
      subst this
      rw [List.getElem?_append_right (by rw [bigF_length]; exact Nat.le_refl _), bigF_length]
      simp
theorem big_step (y m : Nat) (s : ByteArray) : bigS (y / 256) m ++ ((⟨#[(y % 256).toUInt8]⟩ : ByteArray) ++ s) = bigS y (m + 1) ++ s := by
  rw [← ByteArray.append_assoc]
  have e : bigS (y / 256) m ++ (⟨#[(y % 256).toUInt8]⟩ : ByteArray) = bigS y (m + 1) := by
    apply ByteArray.ext
    simp [bigS, bigF]
  rw [e]
theorem rbig_any (v m : Nat) (hv : v < 18446744073709551616) (hm : m ≤ 1000) (w : World) :
    Calls Tryz.prog 77 #[.int .u64 v, .int .i64 m] w fun e w' => e = .returned (.string (bigS v m)) ∧ Below w.heap.size w w' := by
  go_enter Tryz.func77, Tryz.ntmps77
  go_wp2
  go_loopw [0, 5, 6] (fun vx vs vi wr => ∃ (y i : Nat) (s : ByteArray), i ≤ m ∧ y ≤ v ∧ vx = .int .u64 y ∧ vs = .string s ∧ vi = .int .i64 i ∧ s.size = i ∧ Hid (bigS y (m - i) ++ s = bigS v m ∧ Below w.heap.size w wr))
    (fun _ _ vi _ => m - (intOf vi).toNat)
  case atStart => exact ⟨v, 0, ⟨#[]⟩, Nat.zero_le _, Nat.le_refl _, rfl, rfl, rfl, rfl, by rw [Nat.sub_zero]; exact ByteArray.append_empty, Below.refl _ _⟩
  case round =>
    obtain ⟨y, i, s, hi, hy, rfl, rfl, rfl, hs, hR⟩ := hrel
    by_cases hlt : i < m
    · obtain ⟨c, hc⟩ : ∃ c : ByteArray, c = ⟨#[(y % 256).toUInt8]⟩ := ⟨_, rfl⟩
      have hcs : c.size = 1 := by rw [hc]; rfl
      have Hc := hid hc
      clear hc
      have hst : Hid (bigS (y / 256) (m - (i + 1)) ++ (c ++ s) = bigS v m) := by
        show _ = _
        rw [Hc.out, big_step, show m - (i + 1) + 1 = m - i by omega]
        exact hR.out.1
      have hsc : (c ++ s).size = i + 1 := by rw [ByteArray.size_append]; omega
      go_wp2_with fail
      rw [one_byte wr (y % 256) _ c (by omega) (by omega) Hc.out]
      simp only [Result.andThen]
      rw [Oper.upon_value]
      go_wp2
      exact ⟨⟨y / 256, i + 1, c ++ s, by omega, by omega, by go_num, rfl, by go_num, hsc, hst.out, hR.out.2.alloc hR.out.2.size _⟩, by simp [intOf]; omega⟩
    · have : i = m := by omega
      subst this
      have hfin : Hid (s = bigS v i) := by
        show _ = _
        rw [← hR.out.1, Nat.sub_self]
        exact ByteArray.empty_append.symm
      go_wp2
      go_ret
      rw [hfin.out]
      exact ⟨rfl, hR.out.2⟩
def bigL (v m i : Nat) : List Nat := (List.range m).map fun j => if m - 1 - j < i then (v / 256 ^ (m - 1 - j)) % 256 else 0
theorem bigL_set (v m i : Nat) (hi : i < m) : (bigL v m i).set (m - 1 - i) ((v / 256 ^ i) % 256) = bigL v m (i + 1) := by
  apply List.ext_getElem?
  intro j
  by_cases hj : j < m
  · by_cases he : m - 1 - i = j
    · subst he
      rw [List.getElem?_set_self (by simp [bigL]; omega)]
      simp only [bigL, List.getElem?_map, List.getElem?_range hj, Option.map_some]
      rw [if_pos (by omega), show m - 1 - (m - 1 - i) = i by omega]
    · rw [List.getElem?_set_ne he]
      simp only [bigL, List.getElem?_map, List.getElem?_range hj, Option.map_some]
      by_cases h1 : m - 1 - j < i
      · rw [if_pos h1, if_pos (by omega)]
      · rw [if_neg h1, if_neg (by omega)]
  · rw [List.getElem?_eq_none (by simp [bigL]; omega), List.getElem?_eq_none (by simp [bigL]; omega)]
theorem bigL_all (v m : Nat) : (bigL v m m).map (fun n : Nat => Value.int .u8 (n : Int)) = Lib.byteCells (bigF v m) := by
  apply List.ext_getElem?
  intro j
  by_cases hj : j < m
  · simp only [Lib.byteCells, bigL, List.getElem?_map, List.getElem?_range hj, Option.map_some, bigF_at v m j hj]
    rw [if_pos (by omega)]
    have hb : (v / 256 ^ (m - 1 - j)) % 256 < 256 := Nat.mod_lt _ (by omega)
    generalize (v / 256 ^ (m - 1 - j)) % 256 = n at hb
    have : n.toUInt8.toNat = n := by simp [Nat.toUInt8, UInt8.toNat_ofNat']; omega
    rw [this]
  · rw [List.getElem?_eq_none (by simp [bigL]; omega), List.getElem?_eq_none (by simp [Lib.byteCells, bigF_length]; omega)]
def bigC (v m i : Nat) : Array Value := ((bigL v m i).map (fun n : Nat => Value.int .u8 (n : Int))).toArray
theorem bigC_made (v m : Nat) : madeCells (Value.int IntKind.u8 0).cells (m * 1) = bigC v m 0 := by
  apply Array.ext'
  apply List.ext_getElem?
  intro j
  by_cases hj : j < m
  · simp [madeCells, bigC, bigL, hj, Value.cells, Nat.mod_one]
  · simp [madeCells, bigC, bigL, hj]
theorem bigC_set (v m i : Nat) (hi : i < m) : (bigC v m i).setIfInBounds (m - 1 - i) (.int .u8 (((v / 256 ^ i) % 256 : Nat) : Int)) = bigC v m (i + 1) := by
  apply Array.ext'
  rw [Array.toList_setIfInBounds]
  simp only [bigC]
  rw [← bigL_set v m i hi, List.map_set]
theorem bigC_at (v m i j : Nat) (hj : j < m) : ∃ u, (bigC v m i)[j]? = some u := by
  rw [Array.getElem?_eq_getElem (by simp [bigC, bigL]; exact hj)]
  exact ⟨_, rfl⟩
theorem big_any (v m : Nat) (_hv : v < 18446744073709551616) (hm0 : 0 < m) (hm : m ≤ 8) (w : World) :
    Calls Tryz.prog 113 #[.int .u64 v, .int .i64 m] w fun e w' => e = .returned (.string (bigS v m)) ∧ Below w.heap.size w w' := by
  obtain ⟨i0, hi, hz0, hz1, hz2⟩ := info_parts info_u8
  go_enter Tryz.func113, Tryz.ntmps113
  go_wp2_with fail
  rw [run_makeSlice w _ 5 i0 _ Tryz.underlying184 hi hz0 _ _ (m : Int) (m : Int) (by omega) (by omega) (by rw [hz1]; omega) (by rw [hz2]; omega) (by omega)]
  simp only [Result.andThen]
  rw [Oper.upon_value, Int.toNat_natCast, hz1, bigC_made v m]
  go_wp2
  go_loopw [11] (fun vi wr => ∃ i : Nat, i ≤ m ∧ vi = .int .i64 i ∧ Hid (wr.heap[w.heap.size]? = some (.cells (bigC v m i) 5 (0, 0)) ∧ Below w.heap.size w wr))
    (fun vi _ => m - (intOf vi).toNat)
  case atStart => exact ⟨0, Nat.zero_le _, rfl, alloc_new _ _, (Below.refl _ _).alloc (Nat.le_refl _) _⟩
  case round =>
    obtain ⟨i, hi', rfl, hR⟩ := hrel
    by_cases hlt : i < m
    · obtain ⟨u, hu⟩ := bigC_at v m i (m - 1 - i) (by omega)
      have hc := cell_of hR.out.1 (m - 1 - i)
      rw [hu] at hc
      have hf := free_of hR.out.1 (m - 1 - i)
      have hval : Hid ((v : Int) / 2 ^ (8 * i) % 256 = (((v / 256 ^ i) % 256 : Nat) : Int)) := by
        have e : (2 : Int) ^ (8 * i) = ((256 ^ i : Nat) : Int) := by rw [Int.pow_mul]; simp
        show _ = _
        rw [e]
        omega
      go_wp2
      refine ⟨⟨i + 1, by omega, rfl, ?_, hR.out.2.setCell (Nat.le_refl _) _⟩, by simp [intOf]; omega⟩
      rw [setCell_at hR.out.1, hval.out, bigC_set v m i hlt]
    · have : i = m := by omega
      subst this
      have hconv : (convert 184 9 (.slice (some ⟨w.heap.size, 0, none⟩) i i)).run Tryz.prog wr = .ok (.string (bigS v i)) wr := by
        have h := run_convert_bytes_back (P := Tryz.prog) wr 184 9 5 ⟨w.heap.size, 0, none⟩ i (bigF v i) Tryz.underlying184 Tryz.underlying5 Tryz.underlying9 ?_
        · rw [bigF_length] at h
          exact h
        · intro j hj
          have e : (⟨w.heap.size, 0, none⟩ : Addr).add j = ⟨w.heap.size, j, none⟩ := by
            by_cases hj0 : j = 0 <;> simp [Addr.add, hj0]
          rw [e, cell_of hR.out.1, bigC, bigL_all]
          simp [Lib.byteCells, hj]
      go_wp2
      go_ret
      exact ⟨rfl, hR.out.2⟩
theorem SlR.below {w W : World} {v : Value} {vs : List Value} (h : SlR w v vs) (hb : Below w.heap.size w W) : SlR W v vs := by
  obtain ⟨a, cap, hv, h1, h2, h3⟩ := h
  refine ⟨a, cap, hv, h1, h2, fun i u hu => ?_⟩
  obtain ⟨b, off, ha, hc⟩ := h3 i u hu
  exact ⟨b, off, ha, (hb.cell (p := ⟨b, off + i, none⟩) (World.block_lt_of_cell? w _ hc)).trans hc⟩
theorem app_snoc {α : Type} (f : α → ByteArray) (l : List α) (i : Nat) (x : α) (h : l[i]? = some x) (s : ByteArray) : (l.take (i + 1)).foldl (fun s x => s ++ f x) s = (l.take i).foldl (fun s x => s ++ f x) s ++ f x := by
  rw [show l.take (i + 1) = l.take i ++ [x] by simp [List.take_add_one, h], List.foldl_append]
  rfl
def catS {α : Type} (f : α → ByteArray) (l : List α) : ByteArray := l.foldl (fun s x => s ++ f x) ⟨#[]⟩
def u64 (n : Int) : Nat := (n % 18446744073709551616).toNat
theorem u64_lt (n : Int) : u64 n < 18446744073709551616 := by unfold u64; omega
theorem u64_wrap (n : Int) : IntKind.u64.wrap n = ((u64 n : Nat) : Int) := by rw [IntKind.wrap_u64]; unfold u64; omega
def inS (x : Int) : ByteArray := uvS (zig x)
theorem wint_in (x : Int) (h1 : -9223372036854775808 ≤ x) (h2 : x ≤ 9223372036854775807) (w : World) :
    Calls Tryz.prog 115 #[.int .i64 x] w fun e w' => e = .returned (.string (inS x)) ∧ Below w.heap.size w w' := wint_any x h1 h2 w
theorem rn_in (x : Int) (h1 : -9223372036854775808 ≤ x) (h2 : x ≤ 9223372036854775807) (w : World) :
    Calls Tryz.prog 75 #[.int .i64 x] w fun e w' => e = .returned (.string (inS x)) ∧ Below w.heap.size w w' := r14n_any x h1 h2 w
theorem rint_in (x : Int) (h1 : -9223372036854775808 ≤ x) (h2 : x ≤ 9223372036854775807) (w : World) :
    Calls Tryz.prog 121 #[.int .i64 x] w fun e w' => e = .returned (.string (inS x)) ∧ Below w.heap.size w w' := rint_any x h1 h2 w
theorem u_any (v : Value) (xs : List Nat) (w : World) (h : SlR w v (xs.map (fun n : Nat => Value.int .u64 (n : Int)))) (hl : xs.length ≤ 2097152) (hx : ∀ x ∈ xs, x < 18446744073709551616) :
    Calls Tryz.prog 48 #[v] w fun e w' => e = .returned (.string (catS uvS xs)) ∧ Below w.heap.size w w' := by
  have hxl : (xs.map (fun n : Nat => Value.int .u64 (n : Int))).length = xs.length := by simp
  have H := hid h
  have HX := hid hx
  obtain ⟨a, cap, rfl, h1, h2, -⟩ := h
  rw [hxl] at h1 h2
  clear hx
  unfold maxLen at h1
  rw [hxl]
  go_enter Tryz.func48, Tryz.ntmps48
  go_wp2
  go_loopw [3, 8] (fun vs vi wr => ∃ (i : Nat) (s : ByteArray), i ≤ xs.length ∧ vs = .string s ∧ vi = .int .i64 i ∧ s.size ≤ i * 10 ∧ Hid (s = catS uvS (xs.take i) ∧ Below w.heap.size w wr))
    (fun _ vi _ => xs.length - (intOf vi).toNat)
  case atStart => exact ⟨0, ⟨#[]⟩, Nat.zero_le _, rfl, rfl, Nat.zero_le _, rfl, Below.refl _ _⟩
  case round =>
    obtain ⟨i, s, hi, rfl, rfl, hsz, hR⟩ := hrel
    by_cases hlt : i < xs.length
    · have hxi : xs[i]? = some xs[i] := List.getElem?_eq_getElem hlt
      have hm := HX.out _ (List.getElem_mem hlt)
      generalize xs[i] = x at hxi hm
      obtain ⟨a', cap', hv, -, -, hcell⟩ := H.out.below hR.out.2
      cases hv
      obtain ⟨b, off, rfl, hc⟩ := hcell i ((fun n : Nat => Value.int .u64 (n : Int)) x) (by simp [hxi])
      try dsimp only at hc
      have hst : Hid (catS uvS (xs.take (i + 1)) = catS uvS (xs.take i) ++ uvS x) := app_snoc _ xs i x hxi _
      clear hcell hxi
      have hxs := uvS_size x; have hxl10 := Lib.uvarint_length64 hm
      go_wp2_with fail
      refine (wuint_any x hm wr).mono ?_
      rintro e w1 ⟨rfl, b1⟩
      have hss : (s ++ uvS x).size ≤ (i + 1) * 10 := by rw [ByteArray.size_append, Nat.succ_mul]; omega
      try dsimp only at hss
      go_wp2
      refine ⟨⟨i + 1, s ++ uvS x, by omega, rfl, by go_num, hss, ?_, hR.out.2.trans (b1.mono hR.out.2.size)⟩, by simp [intOf]; omega⟩
      rw [hst.out, hR.out.1]
    · have : i = xs.length := by omega
      subst this
      have hfin : Hid (s = catS uvS xs) := by have := hR.out.1; rw [List.take_length] at this; exact this
      go_wp2
      go_ret
      rw [hfin.out]
      exact ⟨rfl, hR.out.2⟩
theorem i_any (v : Value) (xs : List Int) (w : World) (h : SlR w v (xs.map (Value.int .i64))) (hl : xs.length ≤ 2097152) (hx : ∀ x ∈ xs, -9223372036854775808 ≤ x ∧ x ≤ 9223372036854775807) :
    Calls Tryz.prog 54 #[v] w fun e w' => e = .returned (.string (catS inS xs)) ∧ Below w.heap.size w w' := by
  have hxl : (xs.map (Value.int .i64)).length = xs.length := by simp
  have H := hid h
  have HX := hid hx
  obtain ⟨a, cap, rfl, h1, h2, -⟩ := h
  rw [hxl] at h1 h2
  clear hx
  unfold maxLen at h1
  rw [hxl]
  go_enter Tryz.func54, Tryz.ntmps54
  go_wp2
  go_loopw [3, 8] (fun vs vi wr => ∃ (i : Nat) (s : ByteArray), i ≤ xs.length ∧ vs = .string s ∧ vi = .int .i64 i ∧ s.size ≤ i * 10 ∧ Hid (s = catS inS (xs.take i) ∧ Below w.heap.size w wr))
    (fun _ vi _ => xs.length - (intOf vi).toNat)
  case atStart => exact ⟨0, ⟨#[]⟩, Nat.zero_le _, rfl, rfl, Nat.zero_le _, rfl, Below.refl _ _⟩
  case round =>
    obtain ⟨i, s, hi, rfl, rfl, hsz, hR⟩ := hrel
    by_cases hlt : i < xs.length
    · have hxi : xs[i]? = some xs[i] := List.getElem?_eq_getElem hlt
      have hm := HX.out _ (List.getElem_mem hlt)
      generalize xs[i] = x at hxi hm
      obtain ⟨a', cap', hv, -, -, hcell⟩ := H.out.below hR.out.2
      cases hv
      obtain ⟨b, off, rfl, hc⟩ := hcell i ((Value.int .i64) x) (by simp [hxi])
      try dsimp only at hc
      have hst : Hid (catS inS (xs.take (i + 1)) = catS inS (xs.take i) ++ inS x) := app_snoc _ xs i x hxi _
      clear hcell hxi
      have hxs : (inS x).size ≤ 10 := by have h1 := uvS_size (zig x); have h2 := Lib.uvarint_length64 (zig_lt x hm.1 hm.2); show (uvS (zig x)).size ≤ 10; omega
      go_wp2_with fail
      refine (wint_in x hm.1 hm.2 wr).mono ?_
      rintro e w1 ⟨rfl, b1⟩
      have hss : (s ++ inS x).size ≤ (i + 1) * 10 := by rw [ByteArray.size_append, Nat.succ_mul]; omega
      try dsimp only at hss
      go_wp2
      refine ⟨⟨i + 1, s ++ inS x, by omega, rfl, by go_num, hss, ?_, hR.out.2.trans (b1.mono hR.out.2.size)⟩, by simp [intOf]; omega⟩
      rw [hst.out, hR.out.1]
    · have : i = xs.length := by omega
      subst this
      have hfin : Hid (s = catS inS xs) := by have := hR.out.1; rw [List.take_length] at this; exact this
      go_wp2
      go_ret
      rw [hfin.out]
      exact ⟨rfl, hR.out.2⟩
theorem t_any (v : Value) (xs : List ByteArray) (w : World) (h : SlR w v (xs.map Value.string)) (hl : xs.length ≤ 2097152) (hx : ∀ x ∈ xs, x.size ≤ 2097152) :
    Calls Tryz.prog 53 #[v] w fun e w' => e = .returned (.string (catS txS xs)) ∧ Below w.heap.size w w' := by
  have hxl : (xs.map Value.string).length = xs.length := by simp
  have H := hid h
  have HX := hid hx
  obtain ⟨a, cap, rfl, h1, h2, -⟩ := h
  rw [hxl] at h1 h2
  clear hx
  unfold maxLen at h1
  rw [hxl]
  go_enter Tryz.func53, Tryz.ntmps53
  go_wp2
  go_loopw [3, 8] (fun vs vi wr => ∃ (i : Nat) (s : ByteArray), i ≤ xs.length ∧ vs = .string s ∧ vi = .int .i64 i ∧ s.size ≤ i * 2097162 ∧ Hid (s = catS txS (xs.take i) ∧ Below w.heap.size w wr))
    (fun _ vi _ => xs.length - (intOf vi).toNat)
  case atStart => exact ⟨0, ⟨#[]⟩, Nat.zero_le _, rfl, rfl, Nat.zero_le _, rfl, Below.refl _ _⟩
  case round =>
    obtain ⟨i, s, hi, rfl, rfl, hsz, hR⟩ := hrel
    by_cases hlt : i < xs.length
    · have hxi : xs[i]? = some xs[i] := List.getElem?_eq_getElem hlt
      have hm := HX.out _ (List.getElem_mem hlt)
      generalize xs[i] = x at hxi hm
      obtain ⟨a', cap', hv, -, -, hcell⟩ := H.out.below hR.out.2
      cases hv
      obtain ⟨b, off, rfl, hc⟩ := hcell i (Value.string x) (by simp [hxi])
      try dsimp only at hc
      have hst : Hid (catS txS (xs.take (i + 1)) = catS txS (xs.take i) ++ txS x) := app_snoc _ xs i x hxi _
      clear hcell hxi
      have hxs : (txS x).size ≤ 2097162 := by unfold txS; rw [ByteArray.size_append]; have := uvS_size x.size; have := Lib.uvarint_length64 (show x.size < 18446744073709551616 by omega); omega
      go_wp2_with fail
      refine (wtext_any x (by omega) wr).mono ?_
      rintro e w1 ⟨rfl, b1⟩
      have hss : (s ++ txS x).size ≤ (i + 1) * 2097162 := by rw [ByteArray.size_append, Nat.succ_mul]; omega
      try dsimp only at hss
      go_wp2
      refine ⟨⟨i + 1, s ++ txS x, by omega, rfl, by go_num, hss, ?_, hR.out.2.trans (b1.mono hR.out.2.size)⟩, by simp [intOf]; omega⟩
      rw [hst.out, hR.out.1]
    · have : i = xs.length := by omega
      subst this
      have hfin : Hid (s = catS txS xs) := by have := hR.out.1; rw [List.take_length] at this; exact this
      go_wp2
      go_ret
      rw [hfin.out]
      exact ⟨rfl, hR.out.2⟩
def keyS (c : ByteArray) (k : Nat) (ns : List Int) : ByteArray := ns.foldl (fun s n => s ++ bigS (u64 n) 2) (c ++ bigS k 8)
theorem key_any (c : ByteArray) (k : Nat) (v : Value) (xs : List Int) (w : World) (h : SlR w v (xs.map (Value.int .i64))) (hl : xs.length ≤ 1000) (hc : c.size ≤ 1000) (hk : k < 18446744073709551616) :
    Calls Tryz.prog 52 #[.string c, .int .u64 k, v] w fun e w' => e = .returned (.string (keyS c k xs)) ∧ Below w.heap.size w w' := by
  have hxl : (xs.map (Value.int .i64)).length = xs.length := by simp
  have H := hid h
  obtain ⟨a, cap, rfl, h1, h2, -⟩ := h
  rw [hxl] at h1 h2
  unfold maxLen at h1
  rw [hxl]
  have hb8 := bigS_size k 8
  go_enter Tryz.func52, Tryz.ntmps52
  go_wp2_with fail
  refine (big_any k 8 hk (by omega) (by omega) w).mono ?_
  rintro e w0 ⟨rfl, b0⟩
  have B0 := hid b0
  clear b0
  go_wp2
  go_loopw [7, 16] (fun vs vi wr => ∃ (i : Nat) (s : ByteArray), i ≤ xs.length ∧ vs = .string s ∧ vi = .int .i64 i ∧ s.size = c.size + 8 + i * 2 ∧ Hid (s = keyS c k (xs.take i) ∧ Below w.heap.size w wr))
    (fun _ vi _ => xs.length - (intOf vi).toNat)
  case atStart => exact ⟨0, _, Nat.zero_le _, rfl, rfl, by rw [ByteArray.size_append]; omega, rfl, B0.out⟩
  case round =>
    obtain ⟨i, s, hi, rfl, rfl, hsz, hR⟩ := hrel
    by_cases hlt : i < xs.length
    · have hxi : xs[i]? = some xs[i] := List.getElem?_eq_getElem hlt
      generalize xs[i] = x at hxi
      obtain ⟨a', cap', hv, -, -, hcell⟩ := H.out.below hR.out.2
      cases hv
      obtain ⟨b, off, rfl, hc⟩ := hcell i (.int .i64 x) (by simp [hxi])
      have hst : Hid (keyS c k (xs.take (i + 1)) = keyS c k (xs.take i) ++ bigS (u64 x) 2) := app_snoc _ xs i x hxi _
      have hu := hid (u64_wrap x)
      have hxs := bigS_size (u64 x) 2
      clear hcell hxi
      go_wp2_with fail
      rw [hu.out]
      refine (big_any (u64 x) 2 (u64_lt x) (by omega) (by omega) wr).mono ?_
      rintro e w1 ⟨rfl, b1⟩
      have hss : (s ++ bigS (u64 x) 2).size = c.size + 8 + (i + 1) * 2 := by rw [ByteArray.size_append]; omega
      go_wp2
      refine ⟨⟨i + 1, s ++ bigS (u64 x) 2, by omega, rfl, by go_num, hss, ?_, hR.out.2.trans (b1.mono hR.out.2.size)⟩, by simp [intOf]; omega⟩
      rw [hst.out, hR.out.1]
    · have : i = xs.length := by omega
      subst this
      have hfin : Hid (s = keyS c k xs) := by have := hR.out.1; rw [List.take_length] at this; exact this
      go_wp2
      go_ret
      rw [hfin.out]
      exact ⟨rfl, hR.out.2⟩
end Go.Proofs.YthikijlbclckdaaGreat
namespace Go.Proofs.YthikijlbclckdaaGreat
set_option maxRecDepth 100000
set_option maxHeartbeats 40000000
set_option linter.unusedSimpArgs false
set_option linter.unusedVariables false
open Go.RowKit
def ltS (a b : ByteArray) : Bool := Op.bytesLess a.data.toList b.data.toList
def LF (a b : ByteArray) (i : Nat) : Prop := ltS a b = Op.bytesLess (a.data.toList.drop i) (b.data.toList.drop i)
theorem drop_at (a : ByteArray) (i : Nat) (h : i < a.size) : a.data.toList.drop i = a[i] :: a.data.toList.drop (i + 1) := by
  rw [List.drop_eq_getElem_cons (by simpa using h)]; rfl
theorem less_step {a b : ByteArray} {i : Nat} (h1 : i < a.size) (h2 : i < b.size) (hq : LF a b i) (he : a[i] = b[i]) : LF a b (i + 1) := by
  unfold LF at hq ⊢
  rw [hq, drop_at a i h1, drop_at b i h2, he]
  simp [Op.bytesLess]
theorem less_found {a b : ByteArray} {i : Nat} (h1 : i < a.size) (h2 : i < b.size) (hq : LF a b i) (he : a[i] ≠ b[i]) : ltS a b = decide ((a[i].toNat : Int) < (b[i].toNat : Int)) := by
  unfold LF at hq
  rw [hq, drop_at a i h1, drop_at b i h2]
  have hb : (a[i] == b[i]) = false := beq_eq_false_iff_ne.2 he
  simp only [Op.bytesLess, hb, Bool.false_and, Bool.or_false]
  rw [Bool.eq_iff_iff]
  simp [UInt8.lt_iff_toNat_lt]
theorem less_end {a b : ByteArray} {i : Nat} (h1 : i ≤ a.size) (h2 : i ≤ b.size) (he : i = a.size ∨ i = b.size) (hq : LF a b i) : ltS a b = decide (a.size < b.size) := by
  unfold LF at hq
  rw [hq]
  have ha : a.data.toList.length = a.size := Array.length_toList
  have hb : b.data.toList.length = b.size := Array.length_toList
  by_cases h : i = b.size
  · rw [List.drop_of_length_le (l := b.data.toList) (by omega), decide_eq_false (by omega)]
    cases a.data.toList.drop i <;> rfl
  · rw [List.drop_of_length_le (l := a.data.toList) (by omega), decide_eq_true (by omega), drop_at b i (by omega)]
    rfl
theorem less_any (a b : ByteArray) (w : World) (ha : a.size ≤ 4611686018427387904) :
    Calls Tryz.prog 17 #[.string a, .string b] w fun e w' => e = .returned (.bool (ltS a b)) ∧ ∃ n, w' = w.drewN n := by
  go_enter Tryz.func17, Tryz.ntmps17
  go_wp2
  go_loopw [5] (fun v wr => ∃ i n : Nat, i ≤ a.size ∧ i ≤ b.size ∧ v = .int .i64 i ∧ wr = w.drewN n ∧ Hid (LF a b i)) (fun v _ => a.size - (intOf v).toNat)
  case atStart => exact ⟨0, 0, Nat.zero_le _, Nat.zero_le _, rfl, rfl, rfl⟩
  case round =>
    obtain ⟨i, n, hi1, hi2, rfl, rfl, hq⟩ := hrel
    by_cases h1 : i < a.size
    · by_cases h2 : i < b.size
      · by_cases he : a[i] = b[i]
        · have HE := hid he
          have hq2 : ((a[i].toNat : Int) != (b[i].toNat : Int)) = false := by rw [he]; simp
          clear he
          go_wp2
          go_region
          go_wp2
          exact ⟨⟨i + 1, n + 1, by omega, by omega, by go_num, rfl, less_step h1 h2 hq.out HE.out⟩, by simp [intOf]; omega⟩
        · have HE := hid he
          have hq2 : ((a[i].toNat : Int) != (b[i].toNat : Int)) = true := by
            rw [bne_iff_ne]
            intro hc
            exact he (UInt8.toNat_inj.1 (by omega))
          clear he
          go_wp2
          go_region
          go_wp2
          go_region
          go_wp2
          go_ret
          rw [less_found h1 h2 hq.out HE.out]
          exact ⟨by simp, n + 2, rfl⟩
      · go_wp2
        go_ret
        rw [less_end hi1 hi2 (by omega) hq.out]
        exact ⟨rfl, n, rfl⟩
    · go_wp2
      go_ret
      rw [less_end hi1 hi2 (by omega) hq.out]
      exact ⟨rfl, n, rfl⟩
theorem bytes_neq (x y : ByteArray) : (!(x.toList == y.toList)) = (!decide (x = y)) := by
  congr 1
  by_cases h : x = y
  · subst h; simp
  · simp only [h, decide_false]
    rw [beq_eq_false_iff_ne]
    intro he
    rw [ByteArray.toList_eq, ByteArray.toList_eq] at he
    exact h (ByteArray.ext (Array.toList_inj.1 he))
end Go.Proofs.YthikijlbclckdaaGreat
namespace Go.Proofs.YthikijlbclckdaaGreat
set_option maxRecDepth 100000
set_option maxHeartbeats 40000000
set_option linter.unusedSimpArgs false
set_option linter.unusedVariables false
open Go.RowKit
def ltr (c : UInt8) : Bool := decide (97 ≤ c.toNat) && decide (c.toNat ≤ 122)
def okc (c : UInt8) : Bool := ltr c || (decide (48 ≤ c.toNat) && decide (c.toNat ≤ 57)) || decide (c.toNat = 95)
def words : List ByteArray := [⟨#[97, 110, 100]⟩, ⟨#[111, 114]⟩, ⟨#[110, 111, 116]⟩, ⟨#[116, 114, 117, 101]⟩, ⟨#[102, 97, 108, 115, 101]⟩, ⟨#[108, 101, 110]⟩]
def inL (s : ByteArray) (l : List ByteArray) : Bool := l.any fun x => decide (s = x)
theorem inL_yes {s : ByteArray} {l : List ByteArray} {i : Nat} (h : l[i]? = some s) : inL s l = true := List.any_eq_true.2 ⟨s, List.mem_of_getElem? h, decide_eq_true rfl⟩
theorem inL_snoc (s x : ByteArray) (l : List ByteArray) : inL s (l ++ [x]) = (inL s l || decide (s = x)) := by simp [inL]
theorem bytes_eq2 (x y : ByteArray) : (x.toList == y.toList) = decide (x = y) := by
  by_cases h : x = y
  · subst h; simp
  · simp only [h, decide_false]
    rw [beq_eq_false_iff_ne]
    intro he
    rw [ByteArray.toList_eq, ByteArray.toList_eq] at he
    exact h (ByteArray.ext (Array.toList_inj.1 he))
def named (s : ByteArray) : Bool := decide (1 ≤ s.size) && decide (s.size ≤ 32) && ltr (s.data.toList.headD 0) && s.data.toList.all okc && !inL s words
theorem named_short {s : ByteArray} (h : s.size < 1 ∨ 32 < s.size) : named s = false := by
  unfold named
  rcases h with h | h
  · rw [decide_eq_false (by omega : ¬ 1 ≤ s.size)]; rfl
  · rw [decide_eq_false (by omega : ¬ s.size ≤ 32)]; simp
theorem head_at {s : ByteArray} (h : 0 < s.size) : s.data.toList.headD 0 = s[0] := by
  have e := drop_at s 0 h
  rw [List.drop_zero] at e
  rw [e]
  rfl
theorem named_head {s : ByteArray} (h : 0 < s.size) (hl : ltr s[0] = false) : named s = false := by
  unfold named
  rw [head_at h, hl]; simp
theorem named_bad {s : ByteArray} {i : Nat} (h : i < s.size) (hc : okc s[i] = false) : named s = false := by
  unfold named
  have : s.data.toList.all okc = false := by
    rw [Bool.eq_false_iff]
    intro ha
    rw [List.all_eq_true] at ha
    have := ha s[i] (by simp [ByteArray.getElem_eq_getElem_data])
    rw [hc] at this
    cases this
  rw [this]; simp
theorem named_end {s : ByteArray} (h1 : 1 ≤ s.size) (h2 : s.size ≤ 32) (hl : ltr s[0] = true) (ha : ∀ j (h : j < s.size), okc s[j] = true) : named s = !inL s words := by
  unfold named
  have : s.data.toList.all okc = true := by
    rw [List.all_eq_true]
    intro c hc
    obtain ⟨j, hj, rfl⟩ := List.mem_iff_getElem.1 hc
    have := ha j (by simpa using hj)
    simpa [ByteArray.getElem_eq_getElem_data] using this
  rw [head_at (by omega), hl, this, decide_eq_true h1, decide_eq_true h2]; rfl
theorem okc_iff (c : UInt8) : okc c = true ↔ (97 ≤ c.toNat ∧ c.toNat ≤ 122) ∨ (48 ≤ c.toNat ∧ c.toNat ≤ 57) ∨ c.toNat = 95 := by
  simp [okc, ltr, or_assoc]
theorem ltr_iff (c : UInt8) : ltr c = true ↔ (97 ≤ c.toNat ∧ c.toNat ≤ 122) := by simp [ltr]
theorem index_any (v : Value) (xs : List ByteArray) (s : ByteArray) (w : World) (h : SlR w v (xs.map Value.string)) (hl : xs.length ≤ 1000) :
    Calls Tryz.prog 155 #[v, .string s] w fun e w' => ∃ n : Int, e = .returned (.int .i64 n) ∧ decide (n ≥ 0) = inL s xs ∧ w = w' := by
  have hxl : (xs.map Value.string).length = xs.length := by simp
  have H := hid h
  obtain ⟨a, cap, rfl, h1, h2, -⟩ := h
  rw [hxl] at h1 h2
  unfold maxLen at h1
  rw [hxl]
  go_enter Tryz.func155, Tryz.ntmps155
  go_wp2
  go_loop [8] (fun vi => ∃ i : Nat, i ≤ xs.length ∧ vi = .int .i64 i ∧ Hid (inL s (xs.take i) = false)) (fun vi => xs.length - (intOf vi).toNat)
  case atStart => exact ⟨0, Nat.zero_le _, rfl, rfl⟩
  case round =>
    obtain ⟨i, hi, rfl, hR⟩ := hrel
    by_cases hlt : i < xs.length
    · have hxi : xs[i]? = some xs[i] := List.getElem?_eq_getElem hlt
      generalize hx : xs[i] = x at hxi
      obtain ⟨a', cap', hv, -, -, hcell⟩ := H.out
      cases hv
      obtain ⟨b, off, rfl, hc⟩ := hcell i (.string x) (by simp [hxi])
      have HX := hid hxi
      clear hcell hxi hx
      by_cases he : s = x
      · subst he
        go_wp2
        go_ret
        exact ⟨i, rfl, by rw [decide_eq_true (by omega), inL_yes HX.out], rfl⟩
      · have he2 : (s.toList == x.toList) = false := by rw [bytes_eq2, decide_eq_false he]
        go_wp2
        refine ⟨⟨i + 1, by omega, by go_num, ?_⟩, by simp [intOf]; omega⟩
        show inL s (xs.take (i + 1)) = false
        rw [show xs.take (i + 1) = xs.take i ++ [x] by simp [List.take_add_one, HX.out], inL_snoc, hR.out, decide_eq_false he]
        rfl
    · have : i = xs.length := by omega
      subst this
      have hno := hR.out
      rw [List.take_length] at hno
      have HNo := hid hno
      clear hno
      go_wp2
      go_ret
      exact ⟨-1, rfl, by rw [decide_eq_false (by omega), HNo.out], rfl⟩
theorem contains_any (v : Value) (xs : List ByteArray) (s : ByteArray) (w : World) (h : SlR w v (xs.map Value.string)) (hl : xs.length ≤ 1000) :
    Calls Tryz.prog 138 #[v, .string s] w fun e w' => e = .returned (.bool (inL s xs)) ∧ w = w' := by
  go_enter Tryz.func138, Tryz.ntmps138
  go_wp2_with fail
  refine (index_any v xs s w h hl).mono ?_
  rintro e w1 ⟨n, rfl, hn, rfl⟩
  have HN := hid hn
  clear hn
  go_wp2
  go_ret
  rw [← HN.out]
  exact ⟨by simp, rfl⟩
theorem cls (n : Nat) : (97 ≤ n ∧ n ≤ 122) ∨ (48 ≤ n ∧ n ≤ 57) ∨ n = 95 ∨ n < 48 ∨ (57 < n ∧ n < 95) ∨ n = 96 ∨ 122 < n := by omega
theorem named_any (s : ByteArray) (w : World) : Calls Tryz.prog 123 #[.string s] w fun e w' => e = .returned (.bool (named s)) ∧ Below w.heap.size w w' := by
  by_cases h1 : s.size < 1
  · have E := hid (named_short (.inl h1))
    go_enter Tryz.func123, Tryz.ntmps123
    go_wp2
    go_ret
    rw [E.out]
    exact ⟨rfl, Below.refl _ _⟩
  by_cases h2 : 32 < s.size
  · have E := hid (named_short (.inr h2))
    go_enter Tryz.func123, Tryz.ntmps123
    go_wp2
    go_ret
    rw [E.out]
    exact ⟨rfl, Below.refl _ _⟩
  have h0 : 0 < s.size := by omega
  by_cases hl : ltr s[0] = true
  · have hl2 := (ltr_iff _).1 hl
    obtain ⟨hl3, hl4⟩ := hl2
    have HL := hid hl
    clear hl
    go_enter Tryz.func123, Tryz.ntmps123
    go_wp2
    go_loop [25] (fun vi => ∃ i : Nat, i ≤ s.size ∧ vi = .int .i64 i ∧ Hid (∀ j (h : j < s.size), j < i → okc s[j] = true)) (fun vi => s.size - (intOf vi).toNat)
    case atStart => exact ⟨0, Nat.zero_le _, rfl, fun j _ hj => by omega⟩
    case round =>
      obtain ⟨i, hi, rfl, hR⟩ := hrel
      by_cases hlt : i < s.size
      · by_cases hok : okc s[i] = true
        · have hstep : Hid (∀ j (h : j < s.size), j < i + 1 → okc s[j] = true) := by
            intro j hj hji
            by_cases he : j = i
            · subst he; exact hok
            · exact hR.out j hj (by omega)
          have hok2 := (okc_iff _).1 hok
          clear hok
          rcases hok2 with ⟨k1, k2⟩ | ⟨k1, k2⟩ | k1
          all_goals
            go_wp2
            exact ⟨⟨i + 1, by omega, by go_num, hstep.out⟩, by simp [intOf]; omega⟩
        · have E := hid (named_bad hlt (by simpa using hok))
          have hno := mt (okc_iff s[i]).2 hok
          clear hok
          rcases cls s[i].toNat with ⟨k1, k2⟩ | ⟨k1, k2⟩ | k1 | k1 | ⟨k1, k2⟩ | k1 | k1
          · omega
          · omega
          · omega
          all_goals
            have hq : ((s[i].toNat : Int) != 95) = true := by rw [bne_iff_ne]; omega
            clear hno
            go_wp2
            go_ret
            rw [E.out]
            exact ⟨rfl, Below.refl _ _⟩
      · have hin : i = s.size := by omega
        subst hin
        have E := hid (named_end (by omega) (by omega) HL.out (fun j hj => hR.out j hj hj))
        go_wp2_with fail
        refine (contains_any _ words s _ (by exact SlR.boxes _ _ (But.refl (fun _ => False) _) (fun h => h) (by simp [maxLen])) (by decide)).mono ?_
        rintro e w1 ⟨rfl, rfl⟩
        go_wp2
        go_ret
        rw [E.out]
        exact ⟨rfl, (Below.refl _ _).alloc (Nat.le_refl _) _⟩
  · have E := hid (named_head h0 (by simpa using hl))
    have hl2 : s[0].toNat < 97 ∨ 122 < s[0].toNat := by
      have := mt (ltr_iff s[0]).2 hl
      omega
    clear hl
    rcases hl2 with k1 | k1
    all_goals
      go_enter Tryz.func123, Tryz.ntmps123
      go_wp2
      go_ret
      rw [E.out]
      exact ⟨rfl, Below.refl _ _⟩
theorem inL_words (s : ByteArray) : inL s words = (s.toList == [97, 110, 100] || (s.toList == [111, 114] || (s.toList == [110, 111, 116] || (s.toList == [116, 114, 117, 101] || (s.toList == [102, 97, 108, 115, 101] || s.toList == [108, 101, 110]))))) := by
  have e : ∀ a : Array UInt8, decide (s = ⟨a⟩) = (s.toList == a.toList) := fun a => by rw [← bytes_eq2, ByteArray.toList_eq (⟨a⟩ : ByteArray)]
  simp only [inL, words, List.any_cons, List.any_nil, e, Bool.or_false]
theorem rnamed_any (s : ByteArray) (w : World) : Calls Tryz.prog 125 #[.string s] w fun e w' => e = .returned (.bool (named s)) ∧ ∃ n, w' = w.drewN n := by
  by_cases h1 : s.size < 1
  · have E := hid (named_short (.inl h1))
    go_enter Tryz.func125, Tryz.ntmps125
    go_wp2
    go_ret
    rw [E.out]
    exact ⟨rfl, 0, rfl⟩
  by_cases h2 : 32 < s.size
  · have E := hid (named_short (.inr h2))
    go_enter Tryz.func125, Tryz.ntmps125
    go_wp2
    go_ret
    rw [E.out]
    exact ⟨rfl, 0, rfl⟩
  have h0 : 0 < s.size := by omega
  go_enter Tryz.func125, Tryz.ntmps125
  go_wp2
  go_loopw [3] (fun vi wr => ∃ i n : Nat, i ≤ s.size ∧ vi = .int .i64 i ∧ wr = w.drewN n ∧ Hid (∀ j (h : j < s.size), j < i → okc s[j] = true ∧ (j = 0 → ltr s[0] = true))) (fun vi _ => s.size - (intOf vi).toNat)
  case atStart => exact ⟨0, 0, Nat.zero_le _, rfl, rfl, fun j _ hj => by omega⟩
  case round =>
    obtain ⟨i, n, hi, rfl, rfl, hR⟩ := hrel
    by_cases hlt : i < s.size
    · by_cases hok : okc s[i] = true ∧ (i = 0 → ltr s[0] = true)
      · have hstep : Hid (∀ j (h : j < s.size), j < i + 1 → okc s[j] = true ∧ (j = 0 → ltr s[0] = true)) := by
          intro j hj hji
          by_cases he : j = i
          · subst he; exact hok
          · exact hR.out j hj (by omega)
        have hok2 := (okc_iff _).1 hok.1
        by_cases hi0 : i = 0
        · subst hi0
          have k := (ltr_iff _).1 (hok.2 rfl)
          obtain ⟨k1, k2⟩ := k
          clear hok hok2
          go_wp2
          exact ⟨⟨1, n, by omega, by go_num, rfl, hstep.out⟩, by simp [intOf]; omega⟩
        · have hq0 : ((i : Int) == 0) = false := by rw [beq_eq_false_iff_ne]; omega
          clear hok
          rcases hok2 with ⟨k1, k2⟩ | ⟨k1, k2⟩ | k1
          all_goals
            go_wp2
            exact ⟨⟨i + 1, n, by omega, by go_num, rfl, hstep.out⟩, by simp [intOf]; omega⟩
      · have E : Hid (named s = false) := by
          show _ = _
          by_cases ho : okc s[i] = true
          · exact named_head h0 (by simpa using fun h => hok ⟨ho, fun _ => h⟩)
          · exact named_bad hlt (by simpa using ho)
        have hno : (i = 0 ∧ (s[i].toNat < 97 ∨ 122 < s[i].toNat)) ∨ (i ≠ 0 ∧ ¬ ((97 ≤ s[i].toNat ∧ s[i].toNat ≤ 122) ∨ (48 ≤ s[i].toNat ∧ s[i].toNat ≤ 57) ∨ s[i].toNat = 95)) := by
          by_cases hi0 : i = 0
          · subst hi0
            have h3 : ¬ (97 ≤ s[0].toNat ∧ s[0].toNat ≤ 122) := fun h => hok ⟨(okc_iff _).2 (.inl h), fun _ => (ltr_iff _).2 h⟩
            exact .inl ⟨rfl, by omega⟩
          · exact .inr ⟨hi0, fun h => hok ⟨(okc_iff _).2 h, fun h => absurd h hi0⟩⟩
        clear hok
        rcases hno with ⟨rfl, k⟩ | ⟨hi0, k⟩
        · rcases cls s[0].toNat with ⟨k1, k2⟩ | ⟨k1, k2⟩ | k1 | k1 | ⟨k1, k2⟩ | k1 | k1
          · omega
          all_goals
            clear k
            go_wp2
            all_goals first
              | (go_ret; rw [E.out]; exact ⟨rfl, n, rfl⟩)
              | (exfalso; rename_i hx; simp only [Bool.not_eq_false', decide_eq_true_eq] at hx; omega)
        · have hq0 : ((i : Int) == 0) = false := by rw [beq_eq_false_iff_ne]; omega
          rcases cls s[i].toNat with ⟨k1, k2⟩ | ⟨k1, k2⟩ | k1 | k1 | ⟨k1, k2⟩ | k1 | k1
          · omega
          · omega
          · omega
          all_goals
            have hq : ((s[i].toNat : Int) == 95) = false := by rw [beq_eq_false_iff_ne]; omega
            clear k
            go_wp2
            all_goals first
              | (go_ret; rw [E.out]; exact ⟨rfl, n, rfl⟩)
              | (exfalso; rename_i hx; simp only [Bool.not_eq_false', decide_eq_true_eq] at hx; omega)
    · have hin : i = s.size := by omega
      subst hin
      have E := hid (named_end (by omega) (by omega) ((hR.out 0 h0 h0).2 rfl) (fun j hj => (hR.out j hj hj).1))
      have HW := hid (inL_words s)
      go_wp2_with fail
      all_goals
        go_ret
        refine ⟨?_, n, rfl⟩
        rw [E.out, HW.out]
        first
          | (simp [*]; done)
          | (simp [Bool.not_or, Bool.and_assoc]; done)
end Go.Proofs.YthikijlbclckdaaGreat
namespace Go.Proofs.YthikijlbclckdaaGreat
set_option maxRecDepth 100000
set_option maxHeartbeats 40000000
set_option linter.unusedSimpArgs false
set_option linter.unusedVariables false
open Go.RowKit
structure ValV where
  k : Int
  n : Int
  s : ByteArray
def ValV.enc (v : ValV) : Value := .agg #[.int .i64 v.k, .int .i64 v.n, .string v.s]
def eS (s : ByteArray) : Bool := s.toList == []
def mayV (v : ValV) : Bool := if v.k = 3 then v.n == 0 && decide (v.s.size ≤ 1024) else if v.k = 1 then eS v.s else if v.k = 2 then (v.n == 0 || v.n == 1) && eS v.s else false
theorem may_any (v : ValV) (w : World) : Calls Tryz.prog 124 #[v.enc] w fun e w' => e = .returned (.bool (mayV v)) ∧ Below w.heap.size w w' := by
  obtain ⟨k, n, s⟩ := v
  have hb : Hid (∀ o, Below w.heap.size w (w.alloc o)) := fun o => (Below.refl _ w).alloc (Nat.le_refl _) o
  show Calls Tryz.prog 124 #[.agg #[.int .i64 k, .int .i64 n, .string s]] w _
  by_cases h2 : k = 2
  · subst h2
    by_cases h0 : n = 0
    · subst h0
      have E : Hid (mayV ⟨2, 0, s⟩ = (s.toList == [])) := by show _ = _; simp [mayV, eS]
      go_enter Tryz.func124, Tryz.ntmps124
      go_wp2
      go_ret
      rw [E.out]
      exact ⟨by first | rfl | (simp; done), hb.out _⟩
    · have hq0 : (n != 0) = true := by rw [bne_iff_ne]; exact h0
      by_cases h1 : n = 1
      · subst h1
        have E : Hid (mayV ⟨2, 1, s⟩ = (s.toList == [])) := by show _ = _; simp [mayV, eS]
        clear h0
        go_enter Tryz.func124, Tryz.ntmps124
        go_wp2
        go_ret
        rw [E.out]
        exact ⟨by first | rfl | (simp; done), hb.out _⟩
      · have hq1 : (n != 1) = true := by rw [bne_iff_ne]; exact h1
        have E : Hid (mayV ⟨2, n, s⟩ = false) := by show _ = _; simp [mayV, h0, h1]
        clear h0 h1
        go_enter Tryz.func124, Tryz.ntmps124
        go_wp2
        go_ret
        rw [E.out]
        exact ⟨by first | rfl | (simp; done), hb.out _⟩
  have q2 : (k == 2) = false := beq_eq_false_iff_ne.2 h2
  by_cases h1 : k = 1
  · subst h1
    have E : Hid (mayV ⟨1, n, s⟩ = (s.toList == [])) := by show _ = _; simp [mayV, eS]
    clear h2
    go_enter Tryz.func124, Tryz.ntmps124
    go_wp2
    go_ret
    rw [E.out]
    exact ⟨by first | rfl | (simp; done), hb.out _⟩
  have q1 : (k == 1) = false := beq_eq_false_iff_ne.2 h1
  by_cases h3 : k = 3
  · subst h3
    have E : Hid (mayV ⟨3, n, s⟩ = (n == 0 && decide (s.size ≤ 1024))) := by show _ = _; simp [mayV]
    clear h1 h2
    by_cases h0 : n = 0
    · subst h0
      go_enter Tryz.func124, Tryz.ntmps124
      go_wp2
      all_goals
        go_ret
        rw [E.out]
        refine ⟨?_, hb.out _⟩
        simp [*]
        try omega
    · have hq0 : (n == 0) = false := beq_eq_false_iff_ne.2 h0
      go_enter Tryz.func124, Tryz.ntmps124
      go_wp2
      go_ret
      rw [E.out, hq0]
      exact ⟨by first | rfl | (simp; done), hb.out _⟩
  have q3 : (k == 3) = false := beq_eq_false_iff_ne.2 h3
  have E : Hid (mayV ⟨k, n, s⟩ = false) := by show _ = _; simp [mayV, h1, h2, h3]
  clear h1 h2 h3
  go_enter Tryz.func124, Tryz.ntmps124
  go_wp2
  go_ret
  rw [E.out]
  exact ⟨by first | rfl | (simp; done), hb.out _⟩
theorem rmay_any (v : ValV) (w : World) : Calls Tryz.prog 126 #[v.enc] w fun e w' => e = .returned (.bool (mayV v)) ∧ Below w.heap.size w w' := by
  obtain ⟨k, n, s⟩ := v
  have hb : Hid (∀ o, Below w.heap.size w (w.alloc o)) := fun o => (Below.refl _ w).alloc (Nat.le_refl _) o
  show Calls Tryz.prog 126 #[.agg #[.int .i64 k, .int .i64 n, .string s]] w _
  by_cases h3 : k = 3
  · subst h3
    have E : Hid (mayV ⟨3, n, s⟩ = (n == 0 && decide (s.size ≤ 1024))) := by show _ = _; simp [mayV]
    by_cases h0 : n = 0
    · subst h0
      go_enter Tryz.func126, Tryz.ntmps126
      go_wp2
      all_goals
        go_ret
        rw [E.out]
        refine ⟨?_, hb.out _⟩
        simp [*]
        try omega
    · have hq0 : (n == 0) = false := beq_eq_false_iff_ne.2 h0
      go_enter Tryz.func126, Tryz.ntmps126
      go_wp2
      go_ret
      rw [E.out, hq0]
      exact ⟨by first | rfl | (simp; done), hb.out _⟩
  have q3 : (k == 3) = false := beq_eq_false_iff_ne.2 h3
  cases hs : (s.toList == []) with
  | false =>
    have E : Hid (mayV ⟨k, n, s⟩ = false) := by show _ = _; simp only [mayV, eS, hs, h3, if_false, Bool.and_false]; split <;> (try split) <;> rfl
    clear h3
    go_enter Tryz.func126, Tryz.ntmps126
    go_wp2
    go_ret
    rw [E.out]
    exact ⟨by first | rfl | (simp; done), hb.out _⟩
  | true =>
    by_cases h1 : k = 1
    · subst h1
      have E : Hid (mayV ⟨1, n, s⟩ = true) := by show _ = _; simp [mayV, eS, hs]
      go_enter Tryz.func126, Tryz.ntmps126
      go_wp2
      go_ret
      rw [E.out]
      exact ⟨by first | rfl | (simp; done), hb.out _⟩
    have q1 : (k == 1) = false := beq_eq_false_iff_ne.2 h1
    by_cases h2 : k = 2
    · subst h2
      by_cases h0 : n = 0
      · subst h0
        have E : Hid (mayV ⟨2, 0, s⟩ = true) := by show _ = _; simp [mayV, eS, hs]
        go_enter Tryz.func126, Tryz.ntmps126
        go_wp2
        go_ret
        rw [E.out]
        exact ⟨by first | rfl | (simp; done), hb.out _⟩
      · have hq0 : (n == 0) = false := beq_eq_false_iff_ne.2 h0
        have E : Hid (mayV ⟨2, n, s⟩ = (n == 1)) := by show _ = _; simp [mayV, eS, hs, h0]
        clear h0
        go_enter Tryz.func126, Tryz.ntmps126
        go_wp2
        go_ret
        rw [E.out]
        exact ⟨by first | rfl | (simp; done), hb.out _⟩
    have q2 : (k == 2) = false := beq_eq_false_iff_ne.2 h2
    have E : Hid (mayV ⟨k, n, s⟩ = false) := by show _ = _; simp [mayV, h1, h2, h3]
    clear h1 h2 h3
    go_enter Tryz.func126, Tryz.ntmps126
    go_wp2
    go_ret
    rw [E.out]
    exact ⟨by first | rfl | (simp; done), hb.out _⟩
end Go.Proofs.YthikijlbclckdaaGreat
namespace Go.Proofs.YthikijlbclckdaaGreat
set_option maxRecDepth 100000
set_option maxHeartbeats 40000000
set_option linter.unusedSimpArgs false
set_option linter.unusedVariables false
open Go.RowKit
def kS (k : Int) : ByteArray := ⟨#[(k % 256).toNat.toUInt8]⟩
def valS (v : ValV) : ByteArray := if mayV v then (if v.k = 3 then kS 3 ++ txS v.s else kS v.k ++ inS v.n) else ⟨#[]⟩
structure VOk (v : ValV) : Prop where
  n0 : -9223372036854775808 ≤ v.n
  n1 : v.n ≤ 9223372036854775807
  s : v.s.size ≤ 2097152
theorem kS_size (k : Int) : (kS k).size = 1 := rfl
theorem txS_size {s : ByteArray} (hs : s.size ≤ 2097152) : (txS s).size ≤ s.size + 10 := by
  unfold txS
  rw [ByteArray.size_append]
  have := uvS_size s.size
  have := Lib.uvarint_length64 (show s.size < 18446744073709551616 by omega)
  omega
theorem inS_size {n : Int} (h0 : -9223372036854775808 ≤ n) (h1 : n ≤ 9223372036854775807) : (inS n).size ≤ 10 := by
  have h1 := uvS_size (zig n)
  have h2 := Lib.uvarint_length64 (zig_lt n h0 (by assumption))
  show (uvS (zig n)).size ≤ 10
  omega
theorem one_at (W : World) (g n : Nat) (z : Int) (c : ByteArray) (hn : n < 256) (hz : z = n) (hc : c = ⟨#[n.toUInt8]⟩) (hg : W.cell? ⟨g, 0, none⟩ = some (.int .u8 z)) :
    (convert 184 9 (.slice (some ⟨g, 0, none⟩) 1 1)).run Tryz.prog W = .ok (.string c) W := by
  have h : n.toUInt8.toNat = n := by simp [Nat.toUInt8, UInt8.toNat_ofNat']; omega
  subst hz hc
  refine run_convert_bytes_back _ _ _ 5 ⟨g, 0, none⟩ 1 [n.toUInt8] Tryz.underlying184 Tryz.underlying5 Tryz.underlying9 ?_
  intro j hj
  have : j = 0 := by simp at hj; exact hj
  subst this
  simpa [h, Addr.add] using hg
theorem vbytes_any (v : ValV) (hv : VOk v) (w : World) : Calls Tryz.prog 117 #[v.enc] w fun e w' => e = .returned (.string (valS v)) ∧ Below w.heap.size w w' := by
  obtain ⟨k, n, s⟩ := v
  obtain ⟨hn0, hn1, hs⟩ := hv
  dsimp only at hn0 hn1 hs
  obtain ⟨c, hc⟩ : ∃ c : ByteArray, c = kS k := ⟨_, rfl⟩
  have hcs : c.size = 1 := by rw [hc]; rfl
  have Hc := hid hc
  clear hc
  have htx := txS_size hs
  have hin := inS_size hn0 hn1
  show Calls Tryz.prog 117 #[.agg #[.int .i64 k, .int .i64 n, .string s]] w _
  go_enter Tryz.func117, Tryz.ntmps117
  go_wp2_with fail
  let W := (w.alloc (.cells #[.int .i64 k, .int .i64 n, .string s] 175)).alloc (.cells #[.int .u8 (k % 256)] 5)
  have hW : Hid (Below w.heap.size w W) := ((Below.refl _ w).alloc (Nat.le_refl _) _).alloc (by simp) _
  have hb0 : W.heap[w.heap.size]? = some (.cells #[.int .i64 k, .int .i64 n, .string s] 175) := (alloc_old _ (by simp)).trans (alloc_new _ _)
  have k0 := cell_of hb0 0
  have k1 := cell_of hb0 1
  have k2 := cell_of hb0 2
  have hg : W.cell? ⟨w.heap.size + 1, 0, none⟩ = some (.int .u8 (k % 256)) := by
    have h := alloc_new (w.alloc (.cells #[.int .i64 k, .int .i64 n, .string s] 175)) (.cells #[.int .u8 (k % 256)] 5)
    rw [show (w.alloc (.cells #[.int .i64 k, .int .i64 n, .string s] 175)).heap.size = w.heap.size + 1 by simp] at h
    exact cell_of h 0
  rw [one_at W (w.heap.size + 1) (k % 256).toNat (k % 256) c (by omega) (by omega) Hc.out hg]
  have hlt : w.heap.size < W.heap.size := by simp [W]; omega
  clear hg hb0
  clear_value W
  simp only [Result.andThen]
  rw [Oper.upon_value]
  go_wp2_with fail
  refine (may_any ⟨k, n, s⟩ W).mono ?_
  rintro e w1 ⟨rfl, b1⟩
  have j0 := (b1.cell (p := ⟨w.heap.size, 0, none⟩) hlt).trans k0
  have j1 := (b1.cell (p := ⟨w.heap.size, 1, none⟩) hlt).trans k1
  have j2 := (b1.cell (p := ⟨w.heap.size, 2, none⟩) hlt).trans k2
  have B1 := hid (hW.out.trans (b1.mono hW.out.size))
  have hz1 := b1.size
  clear b1 k0 k1 k2
  cases hm : mayV ⟨k, n, s⟩ with
  | false =>
    have E : Hid (valS ⟨k, n, s⟩ = ⟨#[]⟩) := by show _ = _; unfold valS; rw [hm]; rfl
    clear hm
    go_wp2
    go_ret
    rw [E.out]
    exact ⟨rfl, B1.out⟩
  | true =>
    by_cases h3 : k = 3
    · have E : Hid (valS ⟨k, n, s⟩ = c ++ txS s) := by show _ = _; unfold valS; rw [hm, if_pos rfl, if_pos h3, Hc.out, h3]
      have q3 : (k == 3) = true := beq_iff_eq.2 h3
      clear hm h3
      go_wp2_with fail
      refine (wtext_any s (by omega) w1).mono ?_
      rintro e w2 ⟨rfl, b2⟩
      go_wp2
      go_ret
      rw [E.out]
      exact ⟨rfl, B1.out.trans (b2.mono B1.out.size)⟩
    · have E : Hid (valS ⟨k, n, s⟩ = c ++ inS n) := by show _ = _; unfold valS; rw [hm, if_pos rfl, if_neg h3, Hc.out]
      have q3 : (k == 3) = false := beq_eq_false_iff_ne.2 h3
      clear hm h3
      go_wp2_with fail
      refine (wint_in n hn0 hn1 w1).mono ?_
      rintro e w2 ⟨rfl, b2⟩
      go_wp2
      go_ret
      rw [E.out]
      exact ⟨rfl, B1.out.trans (b2.mono B1.out.size)⟩
theorem rbytes_any (v : ValV) (hv : VOk v) (w : World) : Calls Tryz.prog 122 #[v.enc] w fun e w' => e = .returned (.string (valS v)) ∧ Below w.heap.size w w' := by
  obtain ⟨k, n, s⟩ := v
  obtain ⟨hn0, hn1, hs⟩ := hv
  dsimp only at hn0 hn1 hs
  obtain ⟨c, hc⟩ : ∃ c : ByteArray, c = kS k := ⟨_, rfl⟩
  have hcs : c.size = 1 := by rw [hc]; rfl
  have Hc := hid hc
  clear hc
  have htx := txS_size hs
  have hin := inS_size hn0 hn1
  show Calls Tryz.prog 122 #[.agg #[.int .i64 k, .int .i64 n, .string s]] w _
  go_enter Tryz.func122, Tryz.ntmps122
  go_wp2_with fail
  let W := w.alloc (.cells #[.int .i64 k, .int .i64 n, .string s] 175)
  have hW : Hid (Below w.heap.size w W) := (Below.refl _ w).alloc (Nat.le_refl _) _
  have hb0 : W.heap[w.heap.size]? = some (.cells #[.int .i64 k, .int .i64 n, .string s] 175) := alloc_new _ _
  have k0 := cell_of hb0 0
  have k1 := cell_of hb0 1
  have k2 := cell_of hb0 2
  have hlt : w.heap.size < W.heap.size := by simp [W]
  clear hb0
  refine (rmay_any ⟨k, n, s⟩ W).mono ?_
  clear_value W
  rintro e w1 ⟨rfl, b1⟩
  have j0 := (b1.cell (p := ⟨w.heap.size, 0, none⟩) hlt).trans k0
  have j1 := (b1.cell (p := ⟨w.heap.size, 1, none⟩) hlt).trans k1
  have j2 := (b1.cell (p := ⟨w.heap.size, 2, none⟩) hlt).trans k2
  have B1 := hid (hW.out.trans (b1.mono hW.out.size))
  have hz1 := b1.size
  clear b1 k0 k1 k2
  cases hm : mayV ⟨k, n, s⟩ with
  | false =>
    have E : Hid (valS ⟨k, n, s⟩ = ⟨#[]⟩) := by show _ = _; unfold valS; rw [hm]; rfl
    clear hm
    go_wp2
    go_ret
    rw [E.out]
    exact ⟨rfl, B1.out⟩
  | true =>
    by_cases h3 : k = 3
    · have E : Hid (valS ⟨k, n, s⟩ = ⟨#[3]⟩ ++ txS s) := by show _ = _; unfold valS; rw [hm, if_pos rfl, if_pos h3]; rfl
      have q3 : (k == 3) = true := beq_iff_eq.2 h3
      clear hm h3
      go_wp2_with fail
      refine (rtext_any s (by omega) w1).mono ?_
      rintro e w2 ⟨rfl, b2⟩
      go_wp2
      go_ret
      rw [E.out]
      exact ⟨rfl, B1.out.trans (b2.mono B1.out.size)⟩
    · have E : Hid (valS ⟨k, n, s⟩ = c ++ inS n) := by show _ = _; unfold valS; rw [hm, if_pos rfl, if_neg h3, Hc.out]
      have q3 : (k == 3) = false := beq_eq_false_iff_ne.2 h3
      clear hm h3
      have hconv : ∀ (W : World) (g : Nat), W.cell? ⟨g, 0, none⟩ = some (.int .u8 (IntKind.u8.wrap k)) → (convert 184 9 (.slice (some ⟨g, 0, none⟩) 1 1)).run Tryz.prog W = .ok (.string c) W :=
        fun W g hg => one_at W g (k % 256).toNat (IntKind.u8.wrap k) c (by omega) (by rw [IntKind.wrap_u8]; omega) Hc.out hg
      have hlt1 : w.heap.size < w1.heap.size := Nat.lt_of_lt_of_le hlt hz1
      go_wp2_with fail
      go_region_with (go_at_call 121 ; refine (rint_in n hn0 hn1 _).mono ?_; rintro e w2 ⟨rfl, b2⟩; have jj := fun h => b2.cell (p := ⟨w1.heap.size, 0, none⟩) h; have hbb : Below w1.heap.size w1 w2 := (by first | exact ⟨b2.os, b2.tape, b2.output, b2.size, b2.block⟩ | exact ⟨b2.os, b2.tape, b2.output, Nat.le_trans (by simp) b2.size, fun k hk => (b2.block k (by simp; omega)).trans (alloc_old _ hk)⟩); have i0 := (hbb.cell (p := ⟨w.heap.size, 0, none⟩) hlt1).trans j0; have hbh := hid hbb; clear hbb; have hb2 := hid b2; clear b2)
      all_goals
        have X : Below w.heap.size w w2 := B1.out.trans (hbh.out.mono B1.out.size)
        have HX := hid X
        clear X
        go_wp2
        go_ret
        rw [E.out]
        first
          | exact ⟨rfl, HX.out⟩
          | exact ⟨rfl, HX.out.alloc HX.out.size _⟩
          | exact ⟨rfl, ⟨(HX.out.alloc HX.out.size _).os, (HX.out.alloc HX.out.size _).tape, (HX.out.alloc HX.out.size _).output, (HX.out.alloc HX.out.size _).size, (HX.out.alloc HX.out.size _).block⟩⟩
end Go.Proofs.YthikijlbclckdaaGreat
