/- Less, Same: two plain functions of the references. -/
import Derived.Test.YthikijlbclckdaaGreatA
import Derived.Test.YthikijlbclckdaaGreatProg
import Derived.KernelRfl
import Derived.WalkLawsBesides
import Derived.Lib.Hide
namespace Go.Proofs.YthikijlbclckdaaGreat
set_option linter.unusedSimpArgs false
set_option linter.unusedVariables false
open Go.RowKit

/-- Texts, by bytes. -/
def ltS (a b : ByteArray) : Bool := Op.bytesLess a.data.toList b.data.toList
def LF (a b : ByteArray) (i : Nat) : Prop := ltS a b = Op.bytesLess (a.data.toList.drop i) (b.data.toList.drop i)
theorem drop_at (a : ByteArray) (i : Nat) (h : i < a.size) : a.data.toList.drop i = a[i] :: a.data.toList.drop (i + 1) := by
  rw [List.drop_eq_getElem_cons (by simpa using h)]; rfl
theorem less_step {a b : ByteArray} {i : Nat} (h1 : i < a.size) (h2 : i < b.size) (hq : LF a b i) (he : a[i] = b[i]) : LF a b (i + 1) := by
  unfold LF at hq ⊢
  rw [hq, drop_at a i h1, drop_at b i h2, he]
  simp [Op.bytesLess]
theorem less_found {a b : ByteArray} {i : Nat} (h1 : i < a.size) (h2 : i < b.size) (hq : LF a b i) (he : a[i] ≠ b[i]) : ltS a b = decide ((a[i].toNat : Int) < (b[i].toNat : Int)) := by
  unfold LF at hq
  rw [hq, drop_at a i h1, drop_at b i h2]
  have hb : (a[i] == b[i]) = false := beq_eq_false_iff_ne.2 he
  simp only [Op.bytesLess, hb, Bool.false_and, Bool.or_false]
  rw [Bool.eq_iff_iff]
  simp [UInt8.lt_iff_toNat_lt]
theorem less_end {a b : ByteArray} {i : Nat} (h1 : i ≤ a.size) (h2 : i ≤ b.size) (he : i = a.size ∨ i = b.size) (hq : LF a b i) : ltS a b = decide (a.size < b.size) := by
  unfold LF at hq
  rw [hq]
  have ha : a.data.toList.length = a.size := Array.length_toList
  have hb : b.data.toList.length = b.size := Array.length_toList
  by_cases h : i = b.size
  · rw [List.drop_of_length_le (l := b.data.toList) (by omega), decide_eq_false (by omega)]
    cases a.data.toList.drop i <;> rfl
  · rw [List.drop_of_length_le (l := a.data.toList) (by omega), decide_eq_true (by omega), drop_at b i (by omega)]
    rfl
set_option maxHeartbeats 1000000 in
theorem less_any (a b : ByteArray) (w : World) (ha : a.size ≤ 4611686018427387904) :
    Calls Tryz.prog 17 #[.string a, .string b] w fun e w' => e = .returned (.bool (ltS a b)) ∧ ∃ n, w' = w.drewN n := by
  go_enter Tryz.func17, Tryz.ntmps17
  go_wp2
  go_loopw [5] (fun v wr => ∃ i n : Nat, i ≤ a.size ∧ i ≤ b.size ∧ v = .int .i64 i ∧ wr = w.drewN n ∧ Hid (LF a b i)) (fun v _ => a.size - (intOf v).toNat)
  case atStart => exact ⟨0, 0, Nat.zero_le _, Nat.zero_le _, rfl, rfl, rfl⟩
  case round =>
    obtain ⟨i, n, hi1, hi2, rfl, rfl, hq⟩ := hrel
    by_cases h1 : i < a.size
    · by_cases h2 : i < b.size
      · by_cases he : a[i] = b[i]
        · have HE := Lib.hid he
          have hq2 : ((a[i].toNat : Int) != (b[i].toNat : Int)) = false := by rw [he]; simp
          clear he
          go_wp2
          go_region
          go_wp2
          exact ⟨⟨i + 1, n + 1, by omega, by omega, by go_num, rfl, less_step h1 h2 hq.out HE.out⟩, by simp [intOf]; omega⟩
        · have HE := Lib.hid he
          have hq2 : ((a[i].toNat : Int) != (b[i].toNat : Int)) = true := by
            rw [bne_iff_ne]
            intro hc
            exact he (UInt8.toNat_inj.1 (by omega))
          clear he
          go_wp2
          go_region
          go_wp2
          go_region
          go_wp2
          go_ret
          rw [less_found h1 h2 hq.out HE.out]
          exact ⟨by simp, n + 2, rfl⟩
      · go_wp2
        go_ret
        rw [less_end hi1 hi2 (by omega) hq.out]
        exact ⟨rfl, n, rfl⟩
    · go_wp2
      go_ret
      rw [less_end hi1 hi2 (by omega) hq.out]
      exact ⟨rfl, n, rfl⟩

theorem bytes_neq (x y : ByteArray) : (!(x.toList == y.toList)) = (!decide (x = y)) := by
  congr 1
  by_cases h : x = y
  · subst h; simp
  · simp only [h, decide_false]
    rw [beq_eq_false_iff_ne]
    intro he
    rw [ByteArray.toList_eq, ByteArray.toList_eq] at he
    exact h (ByteArray.ext (Array.toList_inj.1 he))
end Go.Proofs.YthikijlbclckdaaGreat
