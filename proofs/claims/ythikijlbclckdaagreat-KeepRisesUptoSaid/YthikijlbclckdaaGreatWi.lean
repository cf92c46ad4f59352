/- Numbers and texts as bytes: the wire's, and the reference's. -/
import Derived.Test.YthikijlbclckdaaGreatB
import Derived.Test.YthikijlbclckdaaGreatProg
import Derived.KernelRfl
import Derived.WalkLawsBesides
import Derived.Lib.Hide
import Derived.Lib.Varint
import Derived.Laws.Bits64
import Derived.Lib.UnsafeStr
import Derived.Laws.IdiomStrings
namespace Go.Proofs.YthikijlbclckdaaGreat
set_option linter.unusedSimpArgs false
set_option linter.unusedVariables false
open Go.RowKit

def uvS (x : Nat) : ByteArray := ⟨(Lib.uvarint x).toArray⟩
theorem uvS_size (x : Nat) : (uvS x).size = (Lib.uvarint x).length := by simp [uvS, ByteArray.size]
theorem info_u8 : (Tryz.prog.info? 5).map (fun i => (i.zero, i.size, i.bytes)) = some (some (.int .u8 0), 1, 1) := by kernel_rfl
theorem bytes_row {w : World} {base e n : Nat} {v : Value} {l : List UInt8} (h : w.ownsRow base e 1 v n (Lib.byteCells l)) (hl : 0 < l.length) :
    ∃ g cap, v = .slice (some ⟨g, 0, none⟩) l.length cap ∧ ∀ j (hj : j < l.length), w.cell? ((⟨g, 0, none⟩ : Addr).add j) = some (.int .u8 (l[j].toNat : Int)) := by
  have hn : l.length = n := by have := h.1; rw [Lib.byteCells_length] at this; omega
  rcases h.2 with ⟨rfl, rfl⟩ | ⟨g, cap, cur, rfl, _, hh, hnc, hcm, hsz, htk⟩
  · omega
  · refine ⟨g, cap, by rw [hn], fun j hj => ?_⟩
    have e : (⟨g, 0, none⟩ : Addr).add j = ⟨g, j, none⟩ := by
      by_cases hj0 : j = 0 <;> simp [Addr.add, hj0]
    rw [e, cell_of hh]
    have h1 : (Lib.byteCells l)[j]? = some (.int .u8 (l[j].toNat : Int)) := by simp [Lib.byteCells, hj]
    rw [← htk, List.getElem?_take] at h1
    split at h1
    · simpa using h1
    · cases h1

theorem byteCells_snoc (pre : List UInt8) {n : Nat} (hn : n < 256) : Lib.byteCells (pre ++ [n.toUInt8]) = Lib.byteCells pre ++ [.int .u8 (n : Int)] := by
  have h : n.toUInt8.toNat = n := by simp [Nat.toUInt8, UInt8.toNat_ofNat']; omega
  simp [Lib.byteCells, h]
set_option maxRecDepth 100000 in
theorem wuint_any (x : Nat) (hx : x < 18446744073709551616) (w : World) :
    Calls Tryz.prog 111 #[.int .u64 x] w fun e w' => e = .returned (.string (uvS x)) ∧ Below w.heap.size w w' := by
  have hlen := Lib.uvarint_length64 hx
  go_enter Tryz.func111, Tryz.ntmps111
  go_wp2
  go_loopw [0, 3] (fun vx vb wr => ∃ (y : Nat) (pre : List UInt8), vx = .int .u64 y ∧ Hid (y ≤ x ∧ Lib.uvarint x = pre ++ Lib.uvarint y ∧ wr.ownsRow w.heap.size 5 1 vb pre.length (Lib.byteCells pre) ∧ Below w.heap.size w wr))
    (fun vx _ _ => (intOf vx).toNat)
  case atStart => exact ⟨x, [], rfl, Nat.le_refl _, rfl, World.ownsRow_nil _ _ _ _, Below.refl _ _⟩
  case round =>
    obtain ⟨y, pre, rfl, hR⟩ := hrel
    have hy := hR.out.1
    have hws := hR.out.2.2.2.size
    have hpl : pre.length + (Lib.uvarint y).length ≤ 10 := by
      have h2 := congrArg List.length hR.out.2.1
      rw [List.length_append] at h2
      omega
    have hyp := Lib.uvarint_pos y
    by_cases h128 : 128 ≤ y
    · have hor : bits .or .u8 ((y : Int) % 256) 128 = ((y % 128 + 128 : Nat) : Int) := by
        rw [Lib.u8_or128_any _ (by omega) (by omega)]
        omega
      go_wp2_with (at_builtin; refine app1 184 5 Tryz.underlying184 info_u8 rfl (by decide) hR.out.2.2.1 hws (by unfold maxLen; omega) (by omega) rfl rfl rfl rfl rfl (by simp [Value.oneCell']) ?_; intro v' w4 hown4 hb4)
      refine ⟨⟨y / 128, pre ++ [(y % 128 + 128).toUInt8], by go_num, by omega, by rw [hR.out.2.1, Lib.uvarint_big h128]; simp, ?_, hR.out.2.2.2.trans hb4⟩, by simp [intOf]; omega⟩
      rw [byteCells_snoc pre (by omega), List.length_append, List.length_singleton]
      exact hown4
    · have hsm : Lib.uvarint y = [y.toUInt8] := Lib.uvarint_small (by omega)
      go_wp2_with (at_builtin; refine app1 184 5 Tryz.underlying184 info_u8 rfl (by decide) hR.out.2.2.1 hws (by unfold maxLen; omega) (by omega) rfl rfl rfl rfl rfl (by simp [Value.oneCell']) ?_; intro v' w4 hown4 hb4)
      have hfin : w4.ownsRow w.heap.size 5 1 v' (pre.length + 1) (Lib.byteCells (Lib.uvarint x)) := by
        rw [hR.out.2.1, hsm, byteCells_snoc pre (by omega)]
        exact hown4
      obtain ⟨g, cap, rfl, hc⟩ := bytes_row hfin (by have := Lib.uvarint_pos x; omega)
      rw [run_convert_bytes_back w4 _ _ 5 ⟨g, 0, none⟩ cap (Lib.uvarint x) Tryz.underlying184 Tryz.underlying5 Tryz.underlying9 hc]
      simp only [Result.andThen]
      rw [Oper.upon_value]
      go_wp2
      go_ret
      exact ⟨rfl, hR.out.2.2.2.trans hb4⟩

/-- A number with a sign, as one without. -/
def zig (x : Int) : Nat := if 0 ≤ x then (2 * x).toNat else (-2 * x - 1).toNat
theorem xor_ones (a : Nat) (ha : a < 18446744073709551616) : a ^^^ 18446744073709551615 = 18446744073709551615 - a := by
  have h := congrArg BitVec.toNat (BitVec.xor_allOnes (x := BitVec.ofNat 64 a))
  simp only [BitVec.toNat_xor, BitVec.toNat_ofNat, BitVec.toNat_allOnes, BitVec.toNat_not, Nat.reducePow, Nat.reduceSub, Nat.mod_eq_of_lt ha] at h
  exact h
theorem zig_pos (n : Nat) (hn : n ≤ 9223372036854775807) : bits .xor .u64 ((n : Int) * 2) ((n : Int) / 9223372036854775808) = ((zig n : Nat) : Int) := by
  have e1 : ((n : Int) * 2) = ((n * 2 : Nat) : Int) := by omega
  have e2 : ((n : Int) / 9223372036854775808) = ((0 : Nat) : Int) := by omega
  rw [e1, e2, bits_xor_u64_nat _ _ (by omega) (by omega), Nat.xor_zero]
  unfold zig
  rw [if_pos (by omega)]
  omega
theorem zig_neg (x : Int) (h0 : x < 0) (h1 : -9223372036854775808 ≤ x) : bits .xor .u64 (IntKind.u64.wrap (IntKind.u64.wrap x * 2)) (IntKind.u64.wrap (x / 9223372036854775808)) = ((zig x : Nat) : Int) := by
  rw [IntKind.wrap_u64, IntKind.wrap_u64, IntKind.wrap_u64]
  have e1 : (x % 18446744073709551616 * 2 % 18446744073709551616) = ((18446744073709551616 + 2 * x).toNat : Int) := by omega
  have e2 : (x / 9223372036854775808 % 18446744073709551616) = ((18446744073709551615 : Nat) : Int) := by omega
  rw [e1, e2, bits_xor_u64_nat _ _ (by omega) (by omega), xor_ones _ (by omega)]
  unfold zig
  rw [if_neg (by omega)]
  omega
theorem zig_lt (x : Int) (h1 : -9223372036854775808 ≤ x) (h2 : x ≤ 9223372036854775807) : zig x < 18446744073709551616 := by
  unfold zig
  split <;> omega
set_option maxRecDepth 100000 in
theorem wint_any (x : Int) (h1 : -9223372036854775808 ≤ x) (h2 : x ≤ 9223372036854775807) (w : World) :
    Calls Tryz.prog 115 #[.int .i64 x] w fun e w' => e = .returned (.string (uvS (zig x))) ∧ Below w.heap.size w w' := by
  have hz := zig_lt x h1 h2
  by_cases h0 : 0 ≤ x
  · obtain ⟨n, rfl⟩ := Int.eq_ofNat_of_zero_le h0
    have hq := Lib.hid (zig_pos n (by omega))
    go_enter Tryz.func115, Tryz.ntmps115
    go_wp2_with fail
    rw [hq.out]
    refine (wuint_any (zig n) hz w).mono ?_
    rintro e w1 ⟨rfl, b1⟩
    go_wp2
    go_ret
    exact ⟨rfl, b1⟩
  · have hq := Lib.hid (zig_neg x (by omega) h1)
    go_enter Tryz.func115, Tryz.ntmps115
    go_wp2_with fail
    rw [hq.out]
    refine (wuint_any (zig x) hz w).mono ?_
    rintro e w1 ⟨rfl, b1⟩
    go_wp2
    go_ret
    exact ⟨rfl, b1⟩
/-- A text. -/
def txS (s : ByteArray) : ByteArray := uvS s.size ++ s
theorem wtext_any (s : ByteArray) (hs : s.size ≤ 140737488355328) (w : World) :
    Calls Tryz.prog 114 #[.string s] w fun e w' => e = .returned (.string (txS s)) ∧ Below w.heap.size w w' := by
  have hz := uvS_size s.size
  have hl := Lib.uvarint_length64 (show s.size < 18446744073709551616 by omega)
  go_enter Tryz.func114, Tryz.ntmps114
  go_wp2_with fail
  refine (wuint_any s.size (by omega) w).mono ?_
  rintro e w1 ⟨rfl, b1⟩
  go_wp2
  go_ret
  exact ⟨rfl, b1⟩

/-! The reference's -/
theorem uv_step (y : Nat) (h : 128 ≤ y) : (⟨#[(y % 128 + 128).toUInt8]⟩ : ByteArray) ++ uvS (y / 128) = uvS y := by
  unfold uvS
  rw [Lib.uvarint_big h]
  apply ByteArray.ext
  simp
theorem one_byte (w : World) (n : Nat) (z : Int) (c : ByteArray) (hn : n < 256) (hz : z = n) (hc : c = ⟨#[n.toUInt8]⟩) : (convert 184 9 (.slice (some ⟨w.heap.size, 0, none⟩) 1 1)).run Tryz.prog (w.alloc (.cells #[.int .u8 z] 5)) = .ok (.string c) (w.alloc (.cells #[.int .u8 z] 5)) := by
  subst hc
  have h : n.toUInt8.toNat = n := by simp [Nat.toUInt8, UInt8.toNat_ofNat']; omega
  subst hz
  refine run_convert_bytes_back _ _ _ 5 ⟨w.heap.size, 0, none⟩ 1 [n.toUInt8] Tryz.underlying184 Tryz.underlying5 Tryz.underlying9 ?_
  intro j hj
  have : j = 0 := by simp at hj; exact hj
  subst this
  simp [h, Addr.add]
set_option maxRecDepth 100000 in
theorem ruint_any (x : Nat) (hx : x < 18446744073709551616) (w : World) :
    Calls Tryz.prog 119 #[.int .u64 x] w fun e w' => e = .returned (.string (uvS x)) ∧ Below w.heap.size w w' := by
  go_enter Tryz.func119, Tryz.ntmps119
  go_wp2
  go_loopw [0, 3] (fun vx vs wr => ∃ (y : Nat) (pre : ByteArray), vx = .int .u64 y ∧ vs = .string pre ∧ Hid (y ≤ x ∧ pre ++ uvS y = uvS x ∧ Below w.heap.size w wr))
    (fun vx _ _ => (intOf vx).toNat)
  case atStart => exact ⟨x, ⟨#[]⟩, rfl, rfl, Nat.le_refl _, ByteArray.empty_append, Below.refl _ _⟩
  case round =>
    obtain ⟨y, pre, rfl, rfl, hR⟩ := hrel
    have hy := hR.out.1
    have hws := hR.out.2.2.size
    have hlx := uvS_size x
    have hly := uvS_size y
    have hl2 := Lib.uvarint_length64 hx
    have hsz := congrArg ByteArray.size hR.out.2.1
    rw [ByteArray.size_append] at hsz
    by_cases h128 : 128 ≤ y
    · have hst := Lib.hid (uv_step y h128)
      obtain ⟨c, hc⟩ : ∃ c : ByteArray, c = ⟨#[(y % 128 + 128).toUInt8]⟩ := ⟨_, rfl⟩
      have Hc := Lib.hid hc
      have hcs : c.size = 1 := by rw [hc]; rfl
      clear hc
      go_wp2_with fail
      rw [one_byte wr (y % 128 + 128) _ c (by omega) (by omega) Hc.out]
      simp only [Result.andThen]
      rw [Oper.upon_value]
      go_wp2
      refine ⟨⟨y / 128, pre ++ c, by go_num, rfl, by omega, ?_, hR.out.2.2.alloc hws _⟩, by simp [intOf]; omega⟩
      rw [ByteArray.append_assoc, Hc.out, hst.out]
      exact hR.out.2.1
    · obtain ⟨c, hc⟩ : ∃ c : ByteArray, c = ⟨#[y.toUInt8]⟩ := ⟨_, rfl⟩
      have Hc := Lib.hid hc
      have hcs : c.size = 1 := by rw [hc]; rfl
      clear hc
      have hfin : Hid (pre ++ c = uvS x) := by
        have e : uvS y = c := by unfold uvS; rw [Lib.uvarint_small (by omega), Hc.out]
        show _ = _
        rw [← hR.out.2.1, e]
      go_wp2_with fail
      rw [one_byte wr y _ c (by omega) rfl Hc.out]
      simp only [Result.andThen]
      rw [Oper.upon_value]
      go_wp2
      go_ret
      rw [hfin.out]
      exact ⟨rfl, hR.out.2.2.alloc hws _⟩
set_option maxRecDepth 100000 in
theorem rint_any (x : Int) (h1 : -9223372036854775808 ≤ x) (h2 : x ≤ 9223372036854775807) (w : World) :
    Calls Tryz.prog 121 #[.int .i64 x] w fun e w' => e = .returned (.string (uvS (zig x))) ∧ Below w.heap.size w w' := by
  have hz := zig_lt x h1 h2
  by_cases h0 : 0 ≤ x
  · obtain ⟨n, rfl⟩ := Int.eq_ofNat_of_zero_le h0
    have hq : Hid ((2 * (n : Int)) = ((zig n : Nat) : Int)) := by show _ = _; unfold zig; rw [if_pos (by omega)]; omega
    go_enter Tryz.func121, Tryz.ntmps121
    go_wp2_with fail
    rw [hq.out]
    refine (ruint_any (zig n) hz w).mono ?_
    rintro e w1 ⟨rfl, b1⟩
    go_wp2
    go_ret
    exact ⟨rfl, b1⟩
  · have hq : Hid ((2 * -(x + 1) + 1) = ((zig x : Nat) : Int)) := by show _ = _; unfold zig; rw [if_neg (by omega)]; omega
    go_enter Tryz.func121, Tryz.ntmps121
    go_wp2_with fail
    rw [hq.out]
    refine (ruint_any (zig x) hz w).mono ?_
    rintro e w1 ⟨rfl, b1⟩
    go_wp2
    go_ret
    exact ⟨rfl, b1⟩
theorem r14n_any (x : Int) (h1 : -9223372036854775808 ≤ x) (h2 : x ≤ 9223372036854775807) (w : World) :
    Calls Tryz.prog 75 #[.int .i64 x] w fun e w' => e = .returned (.string (uvS (zig x))) ∧ Below w.heap.size w w' := by
  go_enter Tryz.func75, Tryz.ntmps75
  go_wp2_with fail
  refine (rint_any x h1 h2 w).mono ?_
  rintro e w1 ⟨rfl, b1⟩
  go_wp2
  go_ret
  exact ⟨rfl, b1⟩
theorem rtext_any (s : ByteArray) (hs : s.size ≤ 140737488355328) (w : World) :
    Calls Tryz.prog 120 #[.string s] w fun e w' => e = .returned (.string (txS s)) ∧ Below w.heap.size w w' := by
  have hz := uvS_size s.size
  have hl := Lib.uvarint_length64 (show s.size < 18446744073709551616 by omega)
  go_enter Tryz.func120, Tryz.ntmps120
  go_wp2_with fail
  refine (ruint_any s.size (by omega) w).mono ?_
  rintro e w1 ⟨rfl, b1⟩
  go_wp2
  go_ret
  exact ⟨rfl, b1⟩
theorem r14u_any (x : Nat) (hx : x < 18446744073709551616) (w : World) :
    Calls Tryz.prog 73 #[.int .u64 x] w fun e w' => e = .returned (.string (uvS x)) ∧ Below w.heap.size w w' := by
  go_enter Tryz.func73, Tryz.ntmps73
  go_wp2_with fail
  refine (ruint_any x hx w).mono ?_
  rintro e w1 ⟨rfl, b1⟩
  go_wp2
  go_ret
  exact ⟨rfl, b1⟩
theorem r14t_any (s : ByteArray) (hs : s.size ≤ 140737488355328) (w : World) :
    Calls Tryz.prog 74 #[.string s] w fun e w' => e = .returned (.string (txS s)) ∧ Below w.heap.size w w' := by
  go_enter Tryz.func74, Tryz.ntmps74
  go_wp2_with fail
  refine (rtext_any s hs w).mono ?_
  rintro e w1 ⟨rfl, b1⟩
  go_wp2
  go_ret
  exact ⟨rfl, b1⟩
end Go.Proofs.YthikijlbclckdaaGreat
