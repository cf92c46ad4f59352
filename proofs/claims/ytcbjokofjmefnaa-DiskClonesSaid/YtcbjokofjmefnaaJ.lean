/- Less, Same: two plain functions of the references. -/
import Derived.Test.YtcbjokofjmefnaaA
import Derived.Test.YtcbjokofjmefnaaProg
import Derived.KernelRfl
import Derived.WalkLawsBesides
import Derived.Lib.Hide
namespace Go.Proofs.Ytcbjokofjmefnaa
open Go.RowKit

/-- Texts, by bytes. -/
def ltS (a b : ByteArray) : Bool := Op.bytesLess a.data.toList b.data.toList
def LF (a b : ByteArray) (i : Nat) : Prop := ltS a b = Op.bytesLess (a.data.toList.drop i) (b.data.toList.drop i)
theorem drop_at (a : ByteArray) (i : Nat) (h : i < a.size) : a.data.toList.drop i = a[i] :: a.data.toList.drop (i + 1) := by
  rw [List.drop_eq_getElem_cons (by simpa using h)]; rfl
theorem less_step {a b : ByteArray} {i : Nat} (h1 : i < a.size) (h2 : i < b.size) (hq : LF a b i) (he : a[i] = b[i]) : LF a b (i + 1) := by
  unfold LF at hq ⊢
  rw [hq, drop_at a i h1, drop_at b i h2, he]
  simp [Op.bytesLess]
theorem less_found {a b : ByteArray} {i : Nat} (h1 : i < a.size) (h2 : i < b.size) (hq : LF a b i) (he : a[i] ≠ b[i]) : ltS a b = decide ((a[i].toNat : Int) < (b[i].toNat : Int)) := by
  unfold LF at hq
  rw [hq, drop_at a i h1, drop_at b i h2]
  have hb : (a[i] == b[i]) = false := beq_eq_false_iff_ne.2 he
  simp only [Op.bytesLess, hb, Bool.false_and, Bool.or_false]
  rw [Bool.eq_iff_iff]
  simp [UInt8.lt_iff_toNat_lt]
theorem less_end {a b : ByteArray} {i : Nat} (h1 : i ≤ a.size) (h2 : i ≤ b.size) (he : i = a.size ∨ i = b.size) (hq : LF a b i) : ltS a b = decide (a.size < b.size) := by
  unfold LF at hq
  rw [hq]
  have ha : a.data.toList.length = a.size := Array.length_toList
  have hb : b.data.toList.length = b.size := Array.length_toList
  by_cases h : i = b.size
  · rw [List.drop_of_length_le (l := b.data.toList) (by omega), decide_eq_false (by omega)]
    cases a.data.toList.drop i <;> rfl
  · rw [List.drop_of_length_le (l := a.data.toList) (by omega), decide_eq_true (by omega), drop_at b i (by omega)]
    rfl
set_option maxHeartbeats 1000000 in
theorem less_any (a b : ByteArray) (w : World) (ha : a.size ≤ 4611686018427387904) :
    Calls Try.prog 44 #[.string a, .string b] w fun e w' => e = .returned (.bool (ltS a b)) ∧ ∃ n, w' = w.drewN n := by
  go_enter Try.func44, Try.ntmps44
  go_wp2
  go_loopw [5] (fun v wr => ∃ i n : Nat, i ≤ a.size ∧ i ≤ b.size ∧ v = .int .i64 i ∧ wr = w.drewN n ∧ Hid (LF a b i)) (fun v _ => a.size - (intOf v).toNat)
  case atStart => exact ⟨0, 0, Nat.zero_le _, Nat.zero_le _, rfl, rfl, rfl⟩
  case round =>
    obtain ⟨i, n, hi1, hi2, rfl, rfl, hq⟩ := hrel
    by_cases h1 : i < a.size
    · by_cases h2 : i < b.size
      · by_cases he : a[i] = b[i]
        · have HE := Lib.hid he
          have hq2 : ((a[i].toNat : Int) != (b[i].toNat : Int)) = false := by rw [he]; simp
          clear he
          go_wp2
          go_region
          go_wp2
          exact ⟨⟨i + 1, n + 1, by omega, by omega, by go_num, rfl, less_step h1 h2 hq.out HE.out⟩, by simp [intOf]; omega⟩
        · have HE := Lib.hid he
          have hq2 : ((a[i].toNat : Int) != (b[i].toNat : Int)) = true := by
            rw [bne_iff_ne]
            intro hc
            exact he (UInt8.toNat_inj.1 (by omega))
          clear he
          go_wp2
          go_region
          go_wp2
          go_region
          go_wp2
          go_ret
          rw [less_found h1 h2 hq.out HE.out]
          exact ⟨by simp, n + 2, rfl⟩
      · go_wp2
        go_ret
        rw [less_end hi1 hi2 (by omega) hq.out]
        exact ⟨rfl, n, rfl⟩
    · go_wp2
      go_ret
      rw [less_end hi1 hi2 (by omega) hq.out]
      exact ⟨rfl, n, rfl⟩

theorem bytes_neq (x y : ByteArray) : (!(x.toList == y.toList)) = (!decide (x = y)) := by
  congr 1
  by_cases h : x = y
  · subst h; simp
  · simp only [h, decide_false]
    rw [beq_eq_false_iff_ne]
    intro he
    rw [ByteArray.toList_eq, ByteArray.toList_eq] at he
    exact h (ByteArray.ext (Array.toList_inj.1 he))
/-- Are two lists of texts the same? -/
def SQ (a b : List ByteArray) (i : Nat) : Prop := a.take i = b.take i
set_option maxHeartbeats 1000000 in
theorem same_any (va vb : Value) (a b : List ByteArray) (w : World) (ha : SlR w va (a.map Value.string)) (hb : SlR w vb (b.map Value.string)) (hla : a.length ≤ 1000000) :
    Calls Try.prog 23 #[va, vb] w fun e w' => e = .returned (.bool (decide (a = b))) ∧ ∃ n, w' = w.drewN n := by
  have H := Lib.hid (And.intro ha hb)
  obtain ⟨aa, ca, rfl, -, hca, -⟩ := ha
  obtain ⟨ab, cb, rfl, -, hcb, -⟩ := hb
  have e1 : (a.map Value.string).length = a.length := by simp
  have e2 : (b.map Value.string).length = b.length := by simp
  rw [e1] at hca H ⊢
  rw [e2] at hcb H ⊢
  by_cases hl : a.length = b.length
  · have hl2 : ((a.length : Int) != (b.length : Int)) = false := by rw [hl]; simp
    go_enter Try.func23, Try.ntmps23
    go_wp2
    have HL := Lib.hid hl
    clear hl
    go_loopw [5] (fun v wr => ∃ i n : Nat, i ≤ b.length ∧ v = .int .i64 i ∧ wr = w.drewN n ∧ Hid (SQ a b i)) (fun v _ => b.length - (intOf v).toNat)
    case atStart => exact ⟨0, 0, Nat.zero_le _, rfl, rfl, rfl⟩
    case round =>
      obtain ⟨i, n, hi, rfl, rfl, hq⟩ := hrel
      by_cases hlt : i < b.length
      · have ga : a[i]? = some (a[i]'(by rw [HL.out]; exact hlt)) := List.getElem?_eq_getElem _
        have gb : b[i]? = some b[i] := List.getElem?_eq_getElem hlt
        generalize a[i]'(by rw [HL.out]; exact hlt) = x at ga
        generalize b[i] = y at gb
        obtain ⟨aa', ca', hva, -, -, hcell⟩ := H.out.1
        obtain ⟨ab', cb', hvb, -, -, hcell2⟩ := H.out.2
        rw [e1] at hva
        rw [e2] at hvb
        cases hva
        cases hvb
        obtain ⟨b1, o1, rfl, k1⟩ := hcell i (.string x) (by simp [ga])
        obtain ⟨b2, o2, rfl, k2⟩ := hcell2 i (.string y) (by simp [gb])
        have HG := Lib.hid (And.intro ga gb)
        clear hcell hcell2 ga gb
        have hil : (i : Int) < (a.length : Int) := by rw [HL.out]; omega
        have qq := bytes_neq x y
        by_cases he : x = y
        · rw [show (!decide (x = y)) = false by simp [he]] at qq
          have HE := Lib.hid he
          clear he
          go_wp2
          go_region
          go_wp2
          refine ⟨⟨i + 1, n + 1, by omega, by go_num, rfl, ?_⟩, by simp [intOf]; omega⟩
          show SQ a b (i + 1)
          have := hq.out
          unfold SQ at this ⊢
          rw [List.take_add_one, List.take_add_one, this, HG.out.1, HG.out.2, HE.out]
        · rw [show (!decide (x = y)) = true by simp [he]] at qq
          have HE := Lib.hid he
          clear he
          go_wp2
          go_region
          go_wp2
          go_ret
          have : decide (a = b) = false := by
            rw [decide_eq_false]
            intro hc
            subst hc
            have := HG.out.1.symm.trans HG.out.2
            injection this with this
            exact HE.out this
          rw [this]
          exact ⟨rfl, n + 1, rfl⟩
      · have hil : ¬ i < a.length := by rw [HL.out]; exact hlt
        go_wp2
        go_ret
        have : decide (a = b) = true := by
          rw [decide_eq_true]
          have := hq.out
          unfold SQ at this
          rw [List.take_of_length_le (by have := HL.out; omega), List.take_of_length_le (by omega)] at this
          exact this
        rw [this]
        exact ⟨rfl, n, rfl⟩
  · have hl2 : ((a.length : Int) != (b.length : Int)) = true := by rw [bne_iff_ne]; omega
    have E : Hid (decide (a = b) = false) := by
      show _ = _
      rw [decide_eq_false]
      intro hc
      exact hl (by rw [hc])
    clear hl
    go_enter Try.func23, Try.ntmps23
    go_wp2
    go_ret
    rw [E.out]
    exact ⟨rfl, 0, rfl⟩
end Go.Proofs.Ytcbjokofjmefnaa
