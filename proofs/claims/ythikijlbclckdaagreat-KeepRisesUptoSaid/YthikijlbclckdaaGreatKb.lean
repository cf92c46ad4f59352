/- Keys' bytes: the program's, and the reference's. -/
import Derived.Test.YthikijlbclckdaaGreatWi
import Derived.Laws.MakeOwn
namespace Go.Proofs.YthikijlbclckdaaGreat
set_option linter.unusedSimpArgs false
set_option linter.unusedVariables false
open Go.RowKit

/-- A number's bytes, the highest first. -/
def bigF (v : Nat) : Nat → List UInt8
  | 0 => []
  | m + 1 => bigF (v / 256) m ++ [(v % 256).toUInt8]
def bigS (v m : Nat) : ByteArray := ⟨(bigF v m).toArray⟩
theorem bigF_length (v m : Nat) : (bigF v m).length = m := by
  induction m generalizing v with
  | zero => rfl
  | succ m ih => simp [bigF, ih]
theorem bigS_size (v m : Nat) : (bigS v m).size = m := by simp [bigS, ByteArray.size, bigF_length]
theorem bigF_at (v m j : Nat) (hj : j < m) : (bigF v m)[j]? = some ((v / 256 ^ (m - 1 - j)) % 256).toUInt8 := by
  induction m generalizing v j with
  | zero => omega
  | succ m ih =>
    rw [bigF]
    by_cases h : j < m
    · rw [List.getElem?_append_left (by rw [bigF_length]; exact h), ih _ _ h, Nat.div_div_eq_div_mul, ← Nat.pow_succ', Nat.succ_eq_add_one, show m - 1 - j + 1 = m + 1 - 1 - j by omega]
    · have : j = m := by omega
      subst this
      rw [List.getElem?_append_right (by rw [bigF_length]; exact Nat.le_refl _), bigF_length]
      simp
theorem big_step (y m : Nat) (s : ByteArray) : bigS (y / 256) m ++ ((⟨#[(y % 256).toUInt8]⟩ : ByteArray) ++ s) = bigS y (m + 1) ++ s := by
  rw [← ByteArray.append_assoc]
  have e : bigS (y / 256) m ++ (⟨#[(y % 256).toUInt8]⟩ : ByteArray) = bigS y (m + 1) := by
    apply ByteArray.ext
    simp [bigS, bigF]
  rw [e]
set_option maxRecDepth 100000 in
theorem rbig_any (v m : Nat) (hv : v < 18446744073709551616) (hm : m ≤ 1000) (w : World) :
    Calls Tryz.prog 77 #[.int .u64 v, .int .i64 m] w fun e w' => e = .returned (.string (bigS v m)) ∧ Below w.heap.size w w' := by
  go_enter Tryz.func77, Tryz.ntmps77
  go_wp2
  go_loopw [0, 5, 6] (fun vx vs vi wr => ∃ (y i : Nat) (s : ByteArray), i ≤ m ∧ y ≤ v ∧ vx = .int .u64 y ∧ vs = .string s ∧ vi = .int .i64 i ∧ s.size = i ∧ Hid (bigS y (m - i) ++ s = bigS v m ∧ Below w.heap.size w wr))
    (fun _ _ vi _ => m - (intOf vi).toNat)
  case atStart => exact ⟨v, 0, ⟨#[]⟩, Nat.zero_le _, Nat.le_refl _, rfl, rfl, rfl, rfl, by rw [Nat.sub_zero]; exact ByteArray.append_empty, Below.refl _ _⟩
  case round =>
    obtain ⟨y, i, s, hi, hy, rfl, rfl, rfl, hs, hR⟩ := hrel
    by_cases hlt : i < m
    · obtain ⟨c, hc⟩ : ∃ c : ByteArray, c = ⟨#[(y % 256).toUInt8]⟩ := ⟨_, rfl⟩
      have hcs : c.size = 1 := by rw [hc]; rfl
      have Hc := Lib.hid hc
      clear hc
      have hst : Hid (bigS (y / 256) (m - (i + 1)) ++ (c ++ s) = bigS v m) := by
        show _ = _
        rw [Hc.out, big_step, show m - (i + 1) + 1 = m - i by omega]
        exact hR.out.1
      have hsc : (c ++ s).size = i + 1 := by rw [ByteArray.size_append]; omega
      go_wp2_with fail
      rw [one_byte wr (y % 256) _ c (by omega) (by omega) Hc.out]
      simp only [Result.andThen]
      rw [Oper.upon_value]
      go_wp2
      exact ⟨⟨y / 256, i + 1, c ++ s, by omega, by omega, by go_num, rfl, by go_num, hsc, hst.out, hR.out.2.alloc hR.out.2.size _⟩, by simp [intOf]; omega⟩
    · have : i = m := by omega
      subst this
      have hfin : Hid (s = bigS v i) := by
        show _ = _
        rw [← hR.out.1, Nat.sub_self]
        exact ByteArray.empty_append.symm
      go_wp2
      go_ret
      rw [hfin.out]
      exact ⟨rfl, hR.out.2⟩

/-- So many of the bytes laid, from the last on. -/
def bigL (v m i : Nat) : List Nat := (List.range m).map fun j => if m - 1 - j < i then (v / 256 ^ (m - 1 - j)) % 256 else 0
theorem bigL_set (v m i : Nat) (hi : i < m) : (bigL v m i).set (m - 1 - i) ((v / 256 ^ i) % 256) = bigL v m (i + 1) := by
  apply List.ext_getElem?
  intro j
  by_cases hj : j < m
  · by_cases he : m - 1 - i = j
    · subst he
      rw [List.getElem?_set_self (by simp [bigL]; omega)]
      simp only [bigL, List.getElem?_map, List.getElem?_range hj, Option.map_some]
      rw [if_pos (by omega), show m - 1 - (m - 1 - i) = i by omega]
    · rw [List.getElem?_set_ne he]
      simp only [bigL, List.getElem?_map, List.getElem?_range hj, Option.map_some]
      by_cases h1 : m - 1 - j < i
      · rw [if_pos h1, if_pos (by omega)]
      · rw [if_neg h1, if_neg (by omega)]
  · rw [List.getElem?_eq_none (by simp [bigL]; omega), List.getElem?_eq_none (by simp [bigL]; omega)]
theorem bigL_all (v m : Nat) : (bigL v m m).map (fun n : Nat => Value.int .u8 (n : Int)) = Lib.byteCells (bigF v m) := by
  apply List.ext_getElem?
  intro j
  by_cases hj : j < m
  · simp only [Lib.byteCells, bigL, List.getElem?_map, List.getElem?_range hj, Option.map_some, bigF_at v m j hj]
    rw [if_pos (by omega)]
    have hb : (v / 256 ^ (m - 1 - j)) % 256 < 256 := Nat.mod_lt _ (by omega)
    generalize (v / 256 ^ (m - 1 - j)) % 256 = n at hb
    have : n.toUInt8.toNat = n := by simp [Nat.toUInt8, UInt8.toNat_ofNat']; omega
    rw [this]
  · rw [List.getElem?_eq_none (by simp [bigL]; omega), List.getElem?_eq_none (by simp [Lib.byteCells, bigF_length]; omega)]
def bigC (v m i : Nat) : Array Value := ((bigL v m i).map (fun n : Nat => Value.int .u8 (n : Int))).toArray
theorem bigC_made (v m : Nat) : madeCells (Value.int IntKind.u8 0).cells (m * 1) = bigC v m 0 := by
  apply Array.ext'
  apply List.ext_getElem?
  intro j
  by_cases hj : j < m
  · simp [madeCells, bigC, bigL, hj, Value.cells, Nat.mod_one]
  · simp [madeCells, bigC, bigL, hj]
theorem bigC_set (v m i : Nat) (hi : i < m) : (bigC v m i).setIfInBounds (m - 1 - i) (.int .u8 (((v / 256 ^ i) % 256 : Nat) : Int)) = bigC v m (i + 1) := by
  apply Array.ext'
  rw [Array.toList_setIfInBounds]
  simp only [bigC]
  rw [← bigL_set v m i hi, List.map_set]
theorem bigC_at (v m i j : Nat) (hj : j < m) : ∃ u, (bigC v m i)[j]? = some u := by
  rw [Array.getElem?_eq_getElem (by simp [bigC, bigL]; exact hj)]
  exact ⟨_, rfl⟩
set_option maxRecDepth 100000 in
theorem big_any (v m : Nat) (_hv : v < 18446744073709551616) (hm0 : 0 < m) (hm : m ≤ 8) (w : World) :
    Calls Tryz.prog 113 #[.int .u64 v, .int .i64 m] w fun e w' => e = .returned (.string (bigS v m)) ∧ Below w.heap.size w w' := by
  obtain ⟨i0, hi, hz0, hz1, hz2⟩ := info_parts info_u8
  go_enter Tryz.func113, Tryz.ntmps113
  go_wp2_with fail
  rw [run_makeSlice w _ 5 i0 _ Tryz.underlying184 hi hz0 _ _ (m : Int) (m : Int) (by omega) (by omega) (by rw [hz1]; omega) (by rw [hz2]; omega) (by omega)]
  simp only [Result.andThen]
  rw [Oper.upon_value, Int.toNat_natCast, hz1, bigC_made v m]
  go_wp2
  go_loopw [11] (fun vi wr => ∃ i : Nat, i ≤ m ∧ vi = .int .i64 i ∧ Hid (wr.heap[w.heap.size]? = some (.cells (bigC v m i) 5 (0, 0)) ∧ Below w.heap.size w wr))
    (fun vi _ => m - (intOf vi).toNat)
  case atStart => exact ⟨0, Nat.zero_le _, rfl, alloc_new _ _, (Below.refl _ _).alloc (Nat.le_refl _) _⟩
  case round =>
    obtain ⟨i, hi', rfl, hR⟩ := hrel
    by_cases hlt : i < m
    · obtain ⟨u, hu⟩ := bigC_at v m i (m - 1 - i) (by omega)
      have hc := cell_of hR.out.1 (m - 1 - i)
      rw [hu] at hc
      have hf := free_of hR.out.1 (m - 1 - i)
      have hval : Hid ((v : Int) / 2 ^ (8 * i) % 256 = (((v / 256 ^ i) % 256 : Nat) : Int)) := by
        have e : (2 : Int) ^ (8 * i) = ((256 ^ i : Nat) : Int) := by rw [Int.pow_mul]; simp
        show _ = _
        rw [e]
        omega
      go_wp2
      refine ⟨⟨i + 1, by omega, rfl, ?_, hR.out.2.setCell (Nat.le_refl _) _⟩, by simp [intOf]; omega⟩
      rw [setCell_at hR.out.1, hval.out, bigC_set v m i hlt]
    · have : i = m := by omega
      subst this
      have hconv : (convert 184 9 (.slice (some ⟨w.heap.size, 0, none⟩) i i)).run Tryz.prog wr = .ok (.string (bigS v i)) wr := by
        have h := run_convert_bytes_back (P := Tryz.prog) wr 184 9 5 ⟨w.heap.size, 0, none⟩ i (bigF v i) Tryz.underlying184 Tryz.underlying5 Tryz.underlying9 ?_
        · rw [bigF_length] at h
          exact h
        · intro j hj
          have e : (⟨w.heap.size, 0, none⟩ : Addr).add j = ⟨w.heap.size, j, none⟩ := by
            by_cases hj0 : j = 0 <;> simp [Addr.add, hj0]
          rw [e, cell_of hR.out.1, bigC, bigL_all]
          simp [Lib.byteCells, hj]
      go_wp2
      go_ret
      exact ⟨rfl, hR.out.2⟩

theorem SlR.below {w W : World} {v : Value} {vs : List Value} (h : SlR w v vs) (hb : Below w.heap.size w W) : SlR W v vs := by
  obtain ⟨a, cap, hv, h1, h2, h3⟩ := h
  refine ⟨a, cap, hv, h1, h2, fun i u hu => ?_⟩
  obtain ⟨b, off, ha, hc⟩ := h3 i u hu
  exact ⟨b, off, ha, (hb.cell (p := ⟨b, off + i, none⟩) (World.block_lt_of_cell? w _ hc)).trans hc⟩
theorem app_snoc {α : Type} (f : α → ByteArray) (l : List α) (i : Nat) (x : α) (h : l[i]? = some x) (s : ByteArray) : (l.take (i + 1)).foldl (fun s x => s ++ f x) s = (l.take i).foldl (fun s x => s ++ f x) s ++ f x := by
  rw [show l.take (i + 1) = l.take i ++ [x] by simp [List.take_add_one, h], List.foldl_append]
  rfl
/-- Pieces, one behind the other. -/
def catS {α : Type} (f : α → ByteArray) (l : List α) : ByteArray := l.foldl (fun s x => s ++ f x) ⟨#[]⟩
def u64 (n : Int) : Nat := (n % 18446744073709551616).toNat
theorem u64_lt (n : Int) : u64 n < 18446744073709551616 := by unfold u64; omega
theorem u64_wrap (n : Int) : IntKind.u64.wrap n = ((u64 n : Nat) : Int) := by rw [IntKind.wrap_u64]; unfold u64; omega
/-- A number with a sign. -/
def inS (x : Int) : ByteArray := uvS (zig x)
theorem wint_in (x : Int) (h1 : -9223372036854775808 ≤ x) (h2 : x ≤ 9223372036854775807) (w : World) :
    Calls Tryz.prog 115 #[.int .i64 x] w fun e w' => e = .returned (.string (inS x)) ∧ Below w.heap.size w w' := wint_any x h1 h2 w
theorem rn_in (x : Int) (h1 : -9223372036854775808 ≤ x) (h2 : x ≤ 9223372036854775807) (w : World) :
    Calls Tryz.prog 75 #[.int .i64 x] w fun e w' => e = .returned (.string (inS x)) ∧ Below w.heap.size w w' := r14n_any x h1 h2 w
theorem rint_in (x : Int) (h1 : -9223372036854775808 ≤ x) (h2 : x ≤ 9223372036854775807) (w : World) :
    Calls Tryz.prog 121 #[.int .i64 x] w fun e w' => e = .returned (.string (inS x)) ∧ Below w.heap.size w w' := rint_any x h1 h2 w
set_option maxRecDepth 100000 in
theorem u_any (v : Value) (xs : List Nat) (w : World) (h : SlR w v (xs.map (fun n : Nat => Value.int .u64 (n : Int)))) (hl : xs.length ≤ 2097152) (hx : ∀ x ∈ xs, x < 18446744073709551616) :
    Calls Tryz.prog 48 #[v] w fun e w' => e = .returned (.string (catS uvS xs)) ∧ Below w.heap.size w w' := by
  have hxl : (xs.map (fun n : Nat => Value.int .u64 (n : Int))).length = xs.length := by simp
  have H := Lib.hid h
  have HX := Lib.hid hx
  obtain ⟨a, cap, rfl, h1, h2, -⟩ := h
  rw [hxl] at h1 h2
  clear hx
  unfold maxLen at h1
  rw [hxl]
  go_enter Tryz.func48, Tryz.ntmps48
  go_wp2
  go_loopw [3, 8] (fun vs vi wr => ∃ (i : Nat) (s : ByteArray), i ≤ xs.length ∧ vs = .string s ∧ vi = .int .i64 i ∧ s.size ≤ i * 10 ∧ Hid (s = catS uvS (xs.take i) ∧ Below w.heap.size w wr))
    (fun _ vi _ => xs.length - (intOf vi).toNat)
  case atStart => exact ⟨0, ⟨#[]⟩, Nat.zero_le _, rfl, rfl, Nat.zero_le _, rfl, Below.refl _ _⟩
  case round =>
    obtain ⟨i, s, hi, rfl, rfl, hsz, hR⟩ := hrel
    by_cases hlt : i < xs.length
    · have hxi : xs[i]? = some xs[i] := List.getElem?_eq_getElem hlt
      have hm := HX.out _ (List.getElem_mem hlt)
      generalize xs[i] = x at hxi hm
      obtain ⟨a', cap', hv, -, -, hcell⟩ := H.out.below hR.out.2
      cases hv
      obtain ⟨b, off, rfl, hc⟩ := hcell i ((fun n : Nat => Value.int .u64 (n : Int)) x) (by simp [hxi])
      try dsimp only at hc
      have hst : Hid (catS uvS (xs.take (i + 1)) = catS uvS (xs.take i) ++ uvS x) := app_snoc _ xs i x hxi _
      clear hcell hxi
      have hxs := uvS_size x; have hxl10 := Lib.uvarint_length64 hm
      go_wp2_with fail
      refine (wuint_any x hm wr).mono ?_
      rintro e w1 ⟨rfl, b1⟩
      have hss : (s ++ uvS x).size ≤ (i + 1) * 10 := by rw [ByteArray.size_append, Nat.succ_mul]; omega
      try dsimp only at hss
      go_wp2
      refine ⟨⟨i + 1, s ++ uvS x, by omega, rfl, by go_num, hss, ?_, hR.out.2.trans (b1.mono hR.out.2.size)⟩, by simp [intOf]; omega⟩
      rw [hst.out, hR.out.1]
    · have : i = xs.length := by omega
      subst this
      have hfin : Hid (s = catS uvS xs) := by have := hR.out.1; rw [List.take_length] at this; exact this
      go_wp2
      go_ret
      rw [hfin.out]
      exact ⟨rfl, hR.out.2⟩
set_option maxRecDepth 100000 in
theorem i_any (v : Value) (xs : List Int) (w : World) (h : SlR w v (xs.map (Value.int .i64))) (hl : xs.length ≤ 2097152) (hx : ∀ x ∈ xs, -9223372036854775808 ≤ x ∧ x ≤ 9223372036854775807) :
    Calls Tryz.prog 54 #[v] w fun e w' => e = .returned (.string (catS inS xs)) ∧ Below w.heap.size w w' := by
  have hxl : (xs.map (Value.int .i64)).length = xs.length := by simp
  have H := Lib.hid h
  have HX := Lib.hid hx
  obtain ⟨a, cap, rfl, h1, h2, -⟩ := h
  rw [hxl] at h1 h2
  clear hx
  unfold maxLen at h1
  rw [hxl]
  go_enter Tryz.func54, Tryz.ntmps54
  go_wp2
  go_loopw [3, 8] (fun vs vi wr => ∃ (i : Nat) (s : ByteArray), i ≤ xs.length ∧ vs = .string s ∧ vi = .int .i64 i ∧ s.size ≤ i * 10 ∧ Hid (s = catS inS (xs.take i) ∧ Below w.heap.size w wr))
    (fun _ vi _ => xs.length - (intOf vi).toNat)
  case atStart => exact ⟨0, ⟨#[]⟩, Nat.zero_le _, rfl, rfl, Nat.zero_le _, rfl, Below.refl _ _⟩
  case round =>
    obtain ⟨i, s, hi, rfl, rfl, hsz, hR⟩ := hrel
    by_cases hlt : i < xs.length
    · have hxi : xs[i]? = some xs[i] := List.getElem?_eq_getElem hlt
      have hm := HX.out _ (List.getElem_mem hlt)
      generalize xs[i] = x at hxi hm
      obtain ⟨a', cap', hv, -, -, hcell⟩ := H.out.below hR.out.2
      cases hv
      obtain ⟨b, off, rfl, hc⟩ := hcell i ((Value.int .i64) x) (by simp [hxi])
      try dsimp only at hc
      have hst : Hid (catS inS (xs.take (i + 1)) = catS inS (xs.take i) ++ inS x) := app_snoc _ xs i x hxi _
      clear hcell hxi
      have hxs : (inS x).size ≤ 10 := by have h1 := uvS_size (zig x); have h2 := Lib.uvarint_length64 (zig_lt x hm.1 hm.2); show (uvS (zig x)).size ≤ 10; omega
      go_wp2_with fail
      refine (wint_in x hm.1 hm.2 wr).mono ?_
      rintro e w1 ⟨rfl, b1⟩
      have hss : (s ++ inS x).size ≤ (i + 1) * 10 := by rw [ByteArray.size_append, Nat.succ_mul]; omega
      try dsimp only at hss
      go_wp2
      refine ⟨⟨i + 1, s ++ inS x, by omega, rfl, by go_num, hss, ?_, hR.out.2.trans (b1.mono hR.out.2.size)⟩, by simp [intOf]; omega⟩
      rw [hst.out, hR.out.1]
    · have : i = xs.length := by omega
      subst this
      have hfin : Hid (s = catS inS xs) := by have := hR.out.1; rw [List.take_length] at this; exact this
      go_wp2
      go_ret
      rw [hfin.out]
      exact ⟨rfl, hR.out.2⟩
set_option maxRecDepth 100000 in
theorem t_any (v : Value) (xs : List ByteArray) (w : World) (h : SlR w v (xs.map Value.string)) (hl : xs.length ≤ 2097152) (hx : ∀ x ∈ xs, x.size ≤ 2097152) :
    Calls Tryz.prog 53 #[v] w fun e w' => e = .returned (.string (catS txS xs)) ∧ Below w.heap.size w w' := by
  have hxl : (xs.map Value.string).length = xs.length := by simp
  have H := Lib.hid h
  have HX := Lib.hid hx
  obtain ⟨a, cap, rfl, h1, h2, -⟩ := h
  rw [hxl] at h1 h2
  clear hx
  unfold maxLen at h1
  rw [hxl]
  go_enter Tryz.func53, Tryz.ntmps53
  go_wp2
  go_loopw [3, 8] (fun vs vi wr => ∃ (i : Nat) (s : ByteArray), i ≤ xs.length ∧ vs = .string s ∧ vi = .int .i64 i ∧ s.size ≤ i * 2097162 ∧ Hid (s = catS txS (xs.take i) ∧ Below w.heap.size w wr))
    (fun _ vi _ => xs.length - (intOf vi).toNat)
  case atStart => exact ⟨0, ⟨#[]⟩, Nat.zero_le _, rfl, rfl, Nat.zero_le _, rfl, Below.refl _ _⟩
  case round =>
    obtain ⟨i, s, hi, rfl, rfl, hsz, hR⟩ := hrel
    by_cases hlt : i < xs.length
    · have hxi : xs[i]? = some xs[i] := List.getElem?_eq_getElem hlt
      have hm := HX.out _ (List.getElem_mem hlt)
      generalize xs[i] = x at hxi hm
      obtain ⟨a', cap', hv, -, -, hcell⟩ := H.out.below hR.out.2
      cases hv
      obtain ⟨b, off, rfl, hc⟩ := hcell i (Value.string x) (by simp [hxi])
      try dsimp only at hc
      have hst : Hid (catS txS (xs.take (i + 1)) = catS txS (xs.take i) ++ txS x) := app_snoc _ xs i x hxi _
      clear hcell hxi
      have hxs : (txS x).size ≤ 2097162 := by unfold txS; rw [ByteArray.size_append]; have := uvS_size x.size; have := Lib.uvarint_length64 (show x.size < 18446744073709551616 by omega); omega
      go_wp2_with fail
      refine (wtext_any x (by omega) wr).mono ?_
      rintro e w1 ⟨rfl, b1⟩
      have hss : (s ++ txS x).size ≤ (i + 1) * 2097162 := by rw [ByteArray.size_append, Nat.succ_mul]; omega
      try dsimp only at hss
      go_wp2
      refine ⟨⟨i + 1, s ++ txS x, by omega, rfl, by go_num, hss, ?_, hR.out.2.trans (b1.mono hR.out.2.size)⟩, by simp [intOf]; omega⟩
      rw [hst.out, hR.out.1]
    · have : i = xs.length := by omega
      subst this
      have hfin : Hid (s = catS txS xs) := by have := hR.out.1; rw [List.take_length] at this; exact this
      go_wp2
      go_ret
      rw [hfin.out]
      exact ⟨rfl, hR.out.2⟩

/-- A key: a letter, a number, nodes. -/
def keyS (c : ByteArray) (k : Nat) (ns : List Int) : ByteArray := ns.foldl (fun s n => s ++ bigS (u64 n) 2) (c ++ bigS k 8)
set_option maxRecDepth 100000 in
theorem key_any (c : ByteArray) (k : Nat) (v : Value) (xs : List Int) (w : World) (h : SlR w v (xs.map (Value.int .i64))) (hl : xs.length ≤ 1000) (hc : c.size ≤ 1000) (hk : k < 18446744073709551616) :
    Calls Tryz.prog 52 #[.string c, .int .u64 k, v] w fun e w' => e = .returned (.string (keyS c k xs)) ∧ Below w.heap.size w w' := by
  have hxl : (xs.map (Value.int .i64)).length = xs.length := by simp
  have H := Lib.hid h
  obtain ⟨a, cap, rfl, h1, h2, -⟩ := h
  rw [hxl] at h1 h2
  unfold maxLen at h1
  rw [hxl]
  have hb8 := bigS_size k 8
  go_enter Tryz.func52, Tryz.ntmps52
  go_wp2_with fail
  refine (big_any k 8 hk (by omega) (by omega) w).mono ?_
  rintro e w0 ⟨rfl, b0⟩
  have B0 := Lib.hid b0
  clear b0
  go_wp2
  go_loopw [7, 16] (fun vs vi wr => ∃ (i : Nat) (s : ByteArray), i ≤ xs.length ∧ vs = .string s ∧ vi = .int .i64 i ∧ s.size = c.size + 8 + i * 2 ∧ Hid (s = keyS c k (xs.take i) ∧ Below w.heap.size w wr))
    (fun _ vi _ => xs.length - (intOf vi).toNat)
  case atStart => exact ⟨0, _, Nat.zero_le _, rfl, rfl, by rw [ByteArray.size_append]; omega, rfl, B0.out⟩
  case round =>
    obtain ⟨i, s, hi, rfl, rfl, hsz, hR⟩ := hrel
    by_cases hlt : i < xs.length
    · have hxi : xs[i]? = some xs[i] := List.getElem?_eq_getElem hlt
      generalize xs[i] = x at hxi
      obtain ⟨a', cap', hv, -, -, hcell⟩ := H.out.below hR.out.2
      cases hv
      obtain ⟨b, off, rfl, hc⟩ := hcell i (.int .i64 x) (by simp [hxi])
      have hst : Hid (keyS c k (xs.take (i + 1)) = keyS c k (xs.take i) ++ bigS (u64 x) 2) := app_snoc _ xs i x hxi _
      have hu := Lib.hid (u64_wrap x)
      have hxs := bigS_size (u64 x) 2
      clear hcell hxi
      go_wp2_with fail
      rw [hu.out]
      refine (big_any (u64 x) 2 (u64_lt x) (by omega) (by omega) wr).mono ?_
      rintro e w1 ⟨rfl, b1⟩
      have hss : (s ++ bigS (u64 x) 2).size = c.size + 8 + (i + 1) * 2 := by rw [ByteArray.size_append]; omega
      go_wp2
      refine ⟨⟨i + 1, s ++ bigS (u64 x) 2, by omega, rfl, by go_num, hss, ?_, hR.out.2.trans (b1.mono hR.out.2.size)⟩, by simp [intOf]; omega⟩
      rw [hst.out, hR.out.1]
    · have : i = xs.length := by omega
      subst this
      have hfin : Hid (s = keyS c k xs) := by have := hR.out.1; rw [List.take_length] at this; exact this
      go_wp2
      go_ret
      rw [hfin.out]
      exact ⟨rfl, hR.out.2⟩
end Go.Proofs.YthikijlbclckdaaGreat
