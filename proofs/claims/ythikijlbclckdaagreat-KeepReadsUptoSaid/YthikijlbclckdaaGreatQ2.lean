/- KeepReads: contracts (J Kc Wr Wq Wx). -/
import Derived.Test.YthikijlbclckdaaGreatQ1
import Derived.Test.YthikijlbclckdaaGreatProg
import Derived.KernelRfl
import Derived.WalkLawsBesides
import Derived.Lib.Hide
import Derived.Laws.Bits64b
import Derived.WalkSpells
namespace Go.Proofs.YthikijlbclckdaaGreat
set_option maxRecDepth 100000
set_option maxHeartbeats 40000000
set_option linter.unusedSimpArgs false
set_option linter.unusedVariables false
open Go.RowKit
def ltS (a b : ByteArray) : Bool := Op.bytesLess a.data.toList b.data.toList
def LF (a b : ByteArray) (i : Nat) : Prop := ltS a b = Op.bytesLess (a.data.toList.drop i) (b.data.toList.drop i)
theorem drop_at (a : ByteArray) (i : Nat) (h : i < a.size) : a.data.toList.drop i = a[i] :: a.data.toList.drop (i + 1) := by
 rw [List.drop_eq_getElem_cons (by simpa using h)]; rfl
theorem less_step {a b : ByteArray} {i : Nat} (h1 : i < a.size) (h2 : i < b.size) (hq : LF a b i) (he : a[i] = b[i]) : LF a b (i + 1) := by
 unfold LF at hq ⊢
 rw [hq, drop_at a i h1, drop_at b i h2, he]
 simp [Op.bytesLess]
theorem less_found {a b : ByteArray} {i : Nat} (h1 : i < a.size) (h2 : i < b.size) (hq : LF a b i) (he : a[i] ≠ b[i]) : ltS a b = decide ((a[i].toNat : Int) < (b[i].toNat : Int)) := by
 unfold LF at hq
 rw [hq, drop_at a i h1, drop_at b i h2]
 have hb : (a[i] == b[i]) = false := beq_eq_false_iff_ne.2 he
 simp only [Op.bytesLess, hb, Bool.false_and, Bool.or_false]
 rw [Bool.eq_iff_iff]
 simp [UInt8.lt_iff_toNat_lt]
theorem less_end {a b : ByteArray} {i : Nat} (h1 : i ≤ a.size) (h2 : i ≤ b.size) (he : i = a.size ∨ i = b.size) (hq : LF a b i) : ltS a b = decide (a.size < b.size) := by
 unfold LF at hq
 rw [hq]
 have ha : a.data.toList.length = a.size := Array.length_toList
 have hb : b.data.toList.length = b.size := Array.length_toList
 by_cases h : i = b.size
 ·
  rw [List.drop_of_length_le (l := b.data.toList) (by omega), decide_eq_false (by omega)]
  cases a.data.toList.drop i <;> rfl
 ·
  rw [List.drop_of_length_le (l := a.data.toList) (by omega), decide_eq_true (by omega), drop_at b i (by omega)]
  rfl
theorem less_any (a b : ByteArray) (w : World) (ha : a.size ≤ 4611686018427387904) :
  Calls Tryz.prog 17 #[.string a, .string b] w fun e w' => e = .returned (.bool (ltS a b)) ∧ ∃ n, w' = w.drewN n := by
 go_enter Tryz.func17, Tryz.ntmps17
 go_wp2
 go_loopw [5] (fun v wr => ∃ i n : Nat, i ≤ a.size ∧ i ≤ b.size ∧ v = .int .i64 i ∧ wr = w.drewN n ∧ Hid (LF a b i)) (fun v _ => a.size - (intOf v).toNat)
 case atStart => exact ⟨0, 0, Nat.zero_le _, Nat.zero_le _, rfl, rfl, rfl⟩
 case round =>
  obtain ⟨i, n, hi1, hi2, rfl, rfl, hq⟩ := hrel
  by_cases h1 : i < a.size
  ·
   by_cases h2 : i < b.size
   ·
    by_cases he : a[i] = b[i]
    ·
     have HE := hid he
     have hq2 : ((a[i].toNat : Int) != (b[i].toNat : Int)) = false := by rw [he]; simp
     clear he
     go_wp2
     go_region
     go_wp2
     exact ⟨⟨i + 1, n + 1, by omega, by omega, by go_num, rfl, less_step h1 h2 hq.out HE.out⟩, by simp [intOf]; omega⟩
    ·
     have HE := hid he
     have hq2 : ((a[i].toNat : Int) != (b[i].toNat : Int)) = true := by
      rw [bne_iff_ne]
      intro hc
      exact he (UInt8.toNat_inj.1 (by omega))
     clear he
     go_wp2
     go_region
     go_wp2
     go_region
     go_wp2
     go_ret
     rw [less_found h1 h2 hq.out HE.out]
     exact ⟨by simp, n + 2, rfl⟩
   ·
    go_wp2
    go_ret
    rw [less_end hi1 hi2 (by omega) hq.out]
    exact ⟨rfl, n, rfl⟩
  ·
   go_wp2
   go_ret
   rw [less_end hi1 hi2 (by omega) hq.out]
   exact ⟨rfl, n, rfl⟩
end Go.Proofs.YthikijlbclckdaaGreat
namespace Go.Proofs.YthikijlbclckdaaGreat
set_option maxRecDepth 100000
set_option maxHeartbeats 40000000
set_option linter.unusedSimpArgs false
set_option linter.unusedVariables false
open Go.RowKit
def ltr (c : UInt8) : Bool := decide (97 ≤ c.toNat) && decide (c.toNat ≤ 122)
def okc (c : UInt8) : Bool := ltr c || (decide (48 ≤ c.toNat) && decide (c.toNat ≤ 57)) || decide (c.toNat = 95)
def words : List ByteArray := [⟨#[97, 110, 100]⟩, ⟨#[111, 114]⟩, ⟨#[110, 111, 116]⟩, ⟨#[116, 114, 117, 101]⟩, ⟨#[102, 97, 108, 115, 101]⟩, ⟨#[108, 101, 110]⟩]
def inL (s : ByteArray) (l : List ByteArray) : Bool := l.any fun x => decide (s = x)
theorem inL_yes {s : ByteArray} {l : List ByteArray} {i : Nat} (h : l[i]? = some s) : inL s l = true := List.any_eq_true.2 ⟨s, List.mem_of_getElem? h, decide_eq_true rfl⟩
theorem inL_snoc (s x : ByteArray) (l : List ByteArray) : inL s (l ++ [x]) = (inL s l || decide (s = x)) := by simp [inL]
theorem bytes_eq2 (x y : ByteArray) : (x.toList == y.toList) = decide (x = y) := by
 by_cases h : x = y
 ·
  subst h; simp
 ·
  simp only [h, decide_false]
  rw [beq_eq_false_iff_ne]
  intro he
  rw [ByteArray.toList_eq, ByteArray.toList_eq] at he
  exact h (ByteArray.ext (Array.toList_inj.1 he))
def named (s : ByteArray) : Bool := decide (1 ≤ s.size) && decide (s.size ≤ 32) && ltr (s.data.toList.headD 0) && s.data.toList.all okc && !inL s words
theorem named_short {s : ByteArray} (h : s.size < 1 ∨ 32 < s.size) : named s = false := by
 unfold named
 rcases h with h | h
 ·
  rw [decide_eq_false (by omega : ¬ 1 ≤ s.size)]; rfl
 ·
  rw [decide_eq_false (by omega : ¬ s.size ≤ 32)]; simp
theorem head_at {s : ByteArray} (h : 0 < s.size) : s.data.toList.headD 0 = s[0] := by
 have e := drop_at s 0 h
 rw [List.drop_zero] at e
 rw [e]
 rfl
theorem named_head {s : ByteArray} (h : 0 < s.size) (hl : ltr s[0] = false) : named s = false := by
 unfold named
 rw [head_at h, hl]; simp
theorem named_bad {s : ByteArray} {i : Nat} (h : i < s.size) (hc : okc s[i] = false) : named s = false := by
 unfold named
 have : s.data.toList.all okc = false := by
  rw [Bool.eq_false_iff]
  intro ha
  rw [List.all_eq_true] at ha
  have := ha s[i] (by simp [ByteArray.getElem_eq_getElem_data])
  rw [hc] at this
  cases this
 rw [this]; simp
theorem named_end {s : ByteArray} (h1 : 1 ≤ s.size) (h2 : s.size ≤ 32) (hl : ltr s[0] = true) (ha : ∀ j (h : j < s.size), okc s[j] = true) : named s = !inL s words := by
 unfold named
 have : s.data.toList.all okc = true := by
  rw [List.all_eq_true]
  intro c hc
  obtain ⟨j, hj, rfl⟩ := List.mem_iff_getElem.1 hc
  have := ha j (by simpa using hj)
  simpa [ByteArray.getElem_eq_getElem_data] using this
 rw [head_at (by omega), hl, this, decide_eq_true h1, decide_eq_true h2]; rfl
theorem okc_iff (c : UInt8) : okc c = true ↔ (97 ≤ c.toNat ∧ c.toNat ≤ 122) ∨ (48 ≤ c.toNat ∧ c.toNat ≤ 57) ∨ c.toNat = 95 := by
 simp [okc, ltr, or_assoc]
theorem ltr_iff (c : UInt8) : ltr c = true ↔ (97 ≤ c.toNat ∧ c.toNat ≤ 122) := by simp [ltr]
theorem index_any (v : Value) (xs : List ByteArray) (s : ByteArray) (w : World) (h : SlR w v (xs.map Value.string)) (hl : xs.length ≤ 1000) :
  Calls Tryz.prog 155 #[v, .string s] w fun e w' => ∃ n : Int, e = .returned (.int .i64 n) ∧ decide (n ≥ 0) = inL s xs ∧ w = w' := by
 have hxl : (xs.map Value.string).length = xs.length := by simp
 have H := hid h
 obtain ⟨a, cap, rfl, h1, h2, -⟩ := h
 rw [hxl] at h1 h2
 unfold maxLen at h1
 rw [hxl]
 go_enter Tryz.func155, Tryz.ntmps155
 go_wp2
 go_loop [8] (fun vi => ∃ i : Nat, i ≤ xs.length ∧ vi = .int .i64 i ∧ Hid (inL s (xs.take i) = false)) (fun vi => xs.length - (intOf vi).toNat)
 case atStart => exact ⟨0, Nat.zero_le _, rfl, rfl⟩
 case round =>
  obtain ⟨i, hi, rfl, hR⟩ := hrel
  by_cases hlt : i < xs.length
  ·
   have hxi : xs[i]? = some xs[i] := List.getElem?_eq_getElem hlt
   generalize hx : xs[i] = x at hxi
   obtain ⟨a', cap', hv, -, -, hcell⟩ := H.out
   cases hv
   obtain ⟨b, off, rfl, hc⟩ := hcell i (.string x) (by simp [hxi])
   have HX := hid hxi
   clear hcell hxi hx
   by_cases he : s = x
   ·
    subst he
    go_wp2
    go_ret
    exact ⟨i, rfl, by rw [decide_eq_true (by omega), inL_yes HX.out], rfl⟩
   ·
    have he2 : (s.toList == x.toList) = false := by rw [bytes_eq2, decide_eq_false he]
    go_wp2
    refine ⟨⟨i + 1, by omega, by go_num, ?_⟩, by simp [intOf]; omega⟩
    show inL s (xs.take (i + 1)) = false
    rw [show xs.take (i + 1) = xs.take i ++ [x] by simp [List.take_add_one, HX.out], inL_snoc, hR.out, decide_eq_false he]
    rfl
  ·
   have : i = xs.length := by omega
   subst this
   have hno := hR.out
   rw [List.take_length] at hno
   have HNo := hid hno
   clear hno
   go_wp2
   go_ret
   exact ⟨-1, rfl, by rw [decide_eq_false (by omega), HNo.out], rfl⟩
theorem contains_any (v : Value) (xs : List ByteArray) (s : ByteArray) (w : World) (h : SlR w v (xs.map Value.string)) (hl : xs.length ≤ 1000) :
  Calls Tryz.prog 138 #[v, .string s] w fun e w' => e = .returned (.bool (inL s xs)) ∧ w = w' := by
 go_enter Tryz.func138, Tryz.ntmps138
 go_wp2_with fail
 refine (index_any v xs s w h hl).mono ?_
 rintro e w1 ⟨n, rfl, hn, rfl⟩
 have HN := hid hn
 clear hn
 go_wp2
 go_ret
 rw [← HN.out]
 exact ⟨by simp, rfl⟩
theorem cls (n : Nat) : (97 ≤ n ∧ n ≤ 122) ∨ (48 ≤ n ∧ n ≤ 57) ∨ n = 95 ∨ n < 48 ∨ (57 < n ∧ n < 95) ∨ n = 96 ∨ 122 < n := by omega
theorem named_any (s : ByteArray) (w : World) : Calls Tryz.prog 123 #[.string s] w fun e w' => e = .returned (.bool (named s)) ∧ Below w.heap.size w w' := by
 by_cases h1 : s.size < 1
 ·
  have E := hid (named_short (.inl h1))
  go_enter Tryz.func123, Tryz.ntmps123
  go_wp2
  go_ret
  rw [E.out]
  exact ⟨rfl, Below.refl _ _⟩
 by_cases h2 : 32 < s.size
 ·
  have E := hid (named_short (.inr h2))
  go_enter Tryz.func123, Tryz.ntmps123
  go_wp2
  go_ret
  rw [E.out]
  exact ⟨rfl, Below.refl _ _⟩
 have h0 : 0 < s.size := by omega
 by_cases hl : ltr s[0] = true
 ·
  have hl2 := (ltr_iff _).1 hl
  obtain ⟨hl3, hl4⟩ := hl2
  have HL := hid hl
  clear hl
  go_enter Tryz.func123, Tryz.ntmps123
  go_wp2
  go_loop [25] (fun vi => ∃ i : Nat, i ≤ s.size ∧ vi = .int .i64 i ∧ Hid (∀ j (h : j < s.size), j < i → okc s[j] = true)) (fun vi => s.size - (intOf vi).toNat)
  case atStart => exact ⟨0, Nat.zero_le _, rfl, fun j _ hj => by omega⟩
  case round =>
   obtain ⟨i, hi, rfl, hR⟩ := hrel
   by_cases hlt : i < s.size
   ·
    by_cases hok : okc s[i] = true
    ·
     have hstep : Hid (∀ j (h : j < s.size), j < i + 1 → okc s[j] = true) := by
      intro j hj hji
      by_cases he : j = i
      ·
       subst he; exact hok
      ·
       exact hR.out j hj (by omega)
     have hok2 := (okc_iff _).1 hok
     clear hok
     rcases hok2 with ⟨k1, k2⟩ | ⟨k1, k2⟩ | k1
     all_goals
      go_wp2
      exact ⟨⟨i + 1, by omega, by go_num, hstep.out⟩, by simp [intOf]; omega⟩
    ·
     have E := hid (named_bad hlt (by simpa using hok))
     have hno := mt (okc_iff s[i]).2 hok
     clear hok
     rcases cls s[i].toNat with ⟨k1, k2⟩ | ⟨k1, k2⟩ | k1 | k1 | ⟨k1, k2⟩ | k1 | k1
     ·
      omega
     ·
      omega
     ·
      omega
     all_goals
      have hq : ((s[i].toNat : Int) != 95) = true := by rw [bne_iff_ne]; omega
      clear hno
      go_wp2
      go_ret
      rw [E.out]
      exact ⟨rfl, Below.refl _ _⟩
   ·
    have hin : i = s.size := by omega
    subst hin
    have E := hid (named_end (by omega) (by omega) HL.out (fun j hj => hR.out j hj hj))
    go_wp2_with fail
    refine (contains_any _ words s _ (by exact SlR.boxes _ _ (But.refl (fun _ => False) _) (fun h => h) (by simp [maxLen])) (by decide)).mono ?_
    rintro e w1 ⟨rfl, rfl⟩
    go_wp2
    go_ret
    rw [E.out]
    exact ⟨rfl, (Below.refl _ _).alloc (Nat.le_refl _) _⟩
 ·
  have E := hid (named_head h0 (by simpa using hl))
  have hl2 : s[0].toNat < 97 ∨ 122 < s[0].toNat := by
   have := mt (ltr_iff s[0]).2 hl
   omega
  clear hl
  rcases hl2 with k1 | k1
  all_goals
   go_enter Tryz.func123, Tryz.ntmps123
   go_wp2
   go_ret
   rw [E.out]
   exact ⟨rfl, Below.refl _ _⟩
theorem inL_words (s : ByteArray) : inL s words = (s.toList == [97, 110, 100] || (s.toList == [111, 114] || (s.toList == [110, 111, 116] || (s.toList == [116, 114, 117, 101] || (s.toList == [102, 97, 108, 115, 101] || s.toList == [108, 101, 110]))))) := by
 have e : ∀ a : Array UInt8, decide (s = ⟨a⟩) = (s.toList == a.toList) := fun a => by rw [← bytes_eq2, ByteArray.toList_eq (⟨a⟩ : ByteArray)]
 simp only [inL, words, List.any_cons, List.any_nil, e, Bool.or_false]
theorem rnamed_any (s : ByteArray) (w : World) : Calls Tryz.prog 125 #[.string s] w fun e w' => e = .returned (.bool (named s)) ∧ ∃ n, w' = w.drewN n := by
 by_cases h1 : s.size < 1
 ·
  have E := hid (named_short (.inl h1))
  go_enter Tryz.func125, Tryz.ntmps125
  go_wp2
  go_ret
  rw [E.out]
  exact ⟨rfl, 0, rfl⟩
 by_cases h2 : 32 < s.size
 ·
  have E := hid (named_short (.inr h2))
  go_enter Tryz.func125, Tryz.ntmps125
  go_wp2
  go_ret
  rw [E.out]
  exact ⟨rfl, 0, rfl⟩
 have h0 : 0 < s.size := by omega
 go_enter Tryz.func125, Tryz.ntmps125
 go_wp2
 go_loopw [3] (fun vi wr => ∃ i n : Nat, i ≤ s.size ∧ vi = .int .i64 i ∧ wr = w.drewN n ∧ Hid (∀ j (h : j < s.size), j < i → okc s[j] = true ∧ (j = 0 → ltr s[0] = true))) (fun vi _ => s.size - (intOf vi).toNat)
 case atStart => exact ⟨0, 0, Nat.zero_le _, rfl, rfl, fun j _ hj => by omega⟩
 case round =>
  obtain ⟨i, n, hi, rfl, rfl, hR⟩ := hrel
  by_cases hlt : i < s.size
  ·
   by_cases hok : okc s[i] = true ∧ (i = 0 → ltr s[0] = true)
   ·
    have hstep : Hid (∀ j (h : j < s.size), j < i + 1 → okc s[j] = true ∧ (j = 0 → ltr s[0] = true)) := by
     intro j hj hji
     by_cases he : j = i
     ·
      subst he; exact hok
     ·
      exact hR.out j hj (by omega)
    have hok2 := (okc_iff _).1 hok.1
    by_cases hi0 : i = 0
    ·
     subst hi0
     have k := (ltr_iff _).1 (hok.2 rfl)
     obtain ⟨k1, k2⟩ := k
     clear hok hok2
     go_wp2
     exact ⟨⟨1, n, by omega, by go_num, rfl, hstep.out⟩, by simp [intOf]; omega⟩
    ·
     have hq0 : ((i : Int) == 0) = false := by rw [beq_eq_false_iff_ne]; omega
     clear hok
     rcases hok2 with ⟨k1, k2⟩ | ⟨k1, k2⟩ | k1
     all_goals
      go_wp2
      exact ⟨⟨i + 1, n, by omega, by go_num, rfl, hstep.out⟩, by simp [intOf]; omega⟩
   ·
    have E : Hid (named s = false) := by
     show _ = _
     by_cases ho : okc s[i] = true
     ·
      exact named_head h0 (by simpa using fun h => hok ⟨ho, fun _ => h⟩)
     ·
      exact named_bad hlt (by simpa using ho)
    have hno : (i = 0 ∧ (s[i].toNat < 97 ∨ 122 < s[i].toNat)) ∨ (i ≠ 0 ∧ ¬ ((97 ≤ s[i].toNat ∧ s[i].toNat ≤ 122) ∨ (48 ≤ s[i].toNat ∧ s[i].toNat ≤ 57) ∨ s[i].toNat = 95)) := by
     by_cases hi0 : i = 0
     ·
      subst hi0
      have h3 : ¬ (97 ≤ s[0].toNat ∧ s[0].toNat ≤ 122) := fun h => hok ⟨(okc_iff _).2 (.inl h), fun _ => (ltr_iff _).2 h⟩
      exact .inl ⟨rfl, by omega⟩
     ·
      exact .inr ⟨hi0, fun h => hok ⟨(okc_iff _).2 h, fun h => absurd h hi0⟩⟩
    clear hok
    rcases hno with ⟨rfl, k⟩ | ⟨hi0, k⟩
    ·
     rcases cls s[0].toNat with ⟨k1, k2⟩ | ⟨k1, k2⟩ | k1 | k1 | ⟨k1, k2⟩ | k1 | k1
     ·
      omega
     all_goals
      clear k
      go_wp2
      all_goals first
       | (go_ret; rw [E.out]; exact ⟨rfl, n, rfl⟩)
       | (exfalso; rename_i hx; simp only [Bool.not_eq_false', decide_eq_true_eq] at hx; omega)
    ·
     have hq0 : ((i : Int) == 0) = false := by rw [beq_eq_false_iff_ne]; omega
     rcases cls s[i].toNat with ⟨k1, k2⟩ | ⟨k1, k2⟩ | k1 | k1 | ⟨k1, k2⟩ | k1 | k1
     ·
      omega
     ·
      omega
     ·
      omega
     all_goals
      have hq : ((s[i].toNat : Int) == 95) = false := by rw [beq_eq_false_iff_ne]; omega
      clear k
      go_wp2
      all_goals first
       | (go_ret; rw [E.out]; exact ⟨rfl, n, rfl⟩)
       | (exfalso; rename_i hx; simp only [Bool.not_eq_false', decide_eq_true_eq] at hx; omega)
  ·
   have hin : i = s.size := by omega
   subst hin
   have E := hid (named_end (by omega) (by omega) ((hR.out 0 h0 h0).2 rfl) (fun j hj => (hR.out j hj hj).1))
   have HW := hid (inL_words s)
   go_wp2_with fail
   all_goals
    go_ret
    refine ⟨?_, n, rfl⟩
    rw [E.out, HW.out]
    first
     | (simp [*]; done)
     | (simp [Bool.not_or, Bool.and_assoc]; done)
end Go.Proofs.YthikijlbclckdaaGreat
namespace Go.Proofs.YthikijlbclckdaaGreat
set_option maxRecDepth 100000
set_option maxHeartbeats 40000000
set_option linter.unusedSimpArgs false
set_option linter.unusedVariables false
open Go.RowKit
def numL : List UInt8 → Nat → Nat → Nat × Nat × Int
 | [], _, _ => (0, 0, 2)
 | b :: l, i, v =>
  if (i = 9 ∧ 1 < b.toNat) ∨ (0 < i ∧ b.toNat = 0) then (0, 0, 3)
  else if b.toNat < 128 then (v + b.toNat * 128 ^ i, i + 1, 0) else numL l (i + 1) (v + b.toNat % 128 * 128 ^ i)
def numS (s : ByteArray) : Nat × Nat × Int := numL s.data.toList 0 0
structure RdV where
 s : ByteArray
 e : Int
def takeR {α : Type} (z : α) (f : ByteArray → α × Nat × Int) (r : RdV) : α × RdV :=
 if r.e = 0 then (if (f r.s).2.2 = 0 then ((f r.s).1, ⟨r.s.extract (f r.s).2.1 r.s.size, 0⟩) else (z, ⟨r.s, (f r.s).2.2⟩)) else (z, r)
def uintR (r : RdV) : Nat × RdV := takeR 0 numS r
def sgn (v : Nat) : Int := if v % 2 = 0 then ((v / 2 : Nat) : Int) else -((v / 2 : Nat) : Int) - 1
def intR (r : RdV) : Int × RdV := (sgn (uintR r).1, (uintR r).2)
def byteF (s : ByteArray) : Nat × Nat × Int := if s.size = 0 then (0, 0, 2) else ((s.data.toList.headD 0).toNat, 1, 0)
def byteR (r : RdV) : Nat × RdV := takeR 0 byteF r
def textF (most : Int) (s : ByteArray) : ByteArray × Nat × Int :=
 if (numS s).2.2 ≠ 0 then (⟨#[]⟩, 0, (numS s).2.2)
 else if most < (numS s).1 then (⟨#[]⟩, 0, 13)
 else if s.size - (numS s).2.1 < (numS s).1 then (⟨#[]⟩, 0, 2)
 else (s.extract (numS s).2.1 ((numS s).2.1 + (numS s).1), (numS s).2.1 + (numS s).1, 0)
def textR (most : Int) (r : RdV) : ByteArray × RdV := takeR ⟨#[]⟩ (textF most) r
def endR (r : RdV) : Int := if r.e = 0 ∧ r.s.size ≠ 0 then 3 else r.e
structure NumOk (l : List UInt8) (i : Nat) (x : Nat × Nat × Int) : Prop where
 val : x.1 < 18446744073709551616
 len : x.2.1 ≤ i + l.length
 pos : x.2.2 = 0 → i < x.2.1 ∧ x.2.1 ≤ 10
 err : x.2.2 = 0 ∨ x.2.2 = 2 ∨ x.2.2 = 3
theorem numL_ok : ∀ (l : List UInt8) (i v : Nat), i ≤ 9 → v < 128 ^ i → NumOk l i (numL l i v)
 | [], i, v, _, _ => ⟨by simp [numL], by simp [numL], by simp [numL], by simp [numL]⟩
 | b :: l, i, v, hi, hv => by
  have hb := b.toNat_lt
  have h128 : 128 ^ i ≤ 128 ^ 9 := Nat.pow_le_pow_right (by omega) hi
  have hm : b.toNat % 128 * 128 ^ i ≤ 127 * 128 ^ i := Nat.mul_le_mul_right _ (by omega)
  simp only [numL]
  split
  ·
   exact ⟨by simp, by simp, by simp, by simp⟩
  ·
   rename_i h1
   split
   ·
    rename_i h2
    refine ⟨?_, by simp only [List.length_cons]; omega, fun _ => ⟨by simp, by simp; omega⟩, by simp⟩
    show v + b.toNat * 128 ^ i < 18446744073709551616
    rcases Nat.lt_or_ge i 9 with h9 | h9
    ·
     have h8 : 128 ^ i ≤ 128 ^ 8 := Nat.pow_le_pow_right (by omega) (by omega)
     have h3 : b.toNat * 128 ^ i ≤ 127 * 128 ^ i := Nat.mul_le_mul_right _ (by omega)
     omega
    ·
     have : i = 9 := by omega
     subst this
     have h3 : b.toNat * 128 ^ 9 ≤ 1 * 128 ^ 9 := Nat.mul_le_mul_right _ (by omega)
     omega
   ·
    rename_i h2
    have hi9 : i ≠ 9 := by omega
    have hs : v + b.toNat % 128 * 128 ^ i < 128 ^ (i + 1) := by rw [Nat.pow_succ]; omega
    have ih := numL_ok l (i + 1) _ (by omega) hs
    exact ⟨ih.val, by have := ih.len; simp only [List.length_cons]; omega, fun h => ⟨by have := (ih.pos h).1; omega, (ih.pos h).2⟩, ih.err⟩
theorem numS_ok (s : ByteArray) : NumOk s.data.toList 0 (numS s) := numL_ok _ 0 0 (by omega) (by simp)
theorem numS_val (s : ByteArray) : (numS s).1 < 18446744073709551616 := (numS_ok s).val
theorem numS_len (s : ByteArray) : (numS s).2.1 ≤ s.size := by have := (numS_ok s).len; simpa using this
theorem sgn_in {v : Nat} (h : v < 18446744073709551616) : -9223372036854775808 ≤ sgn v ∧ sgn v ≤ 9223372036854775807 := by
 unfold sgn; split <;> omega
theorem extract_size (s : ByteArray) (k n : Nat) : (s.extract k n).size = min n s.size - k := by simp [ByteArray.size_extract]
theorem takeR_size {α : Type} (z : α) (f : ByteArray → α × Nat × Int) (r : RdV) : (takeR z f r).2.s.size ≤ r.s.size := by
 unfold takeR
 split
 ·
  split
  ·
   show (r.s.extract _ r.s.size).size ≤ _
   rw [extract_size]; omega
  ·
   exact Nat.le_refl _
 ·
  exact Nat.le_refl _
theorem and127_nat : ∀ a : Fin 256, (a.val &&& 127) = a.val % 128 := by decide
theorem and127 (b : Nat) (h : b < 256) : bits .and .u8 (b : Int) 127 = ((b % 128 : Nat) : Int) := by
 have h1 : (BitVec.ofInt 8 (b : Int)).toNat = b := by
  rw [BitVec.ofInt_natCast, BitVec.toNat_ofNat]; exact Nat.mod_eq_of_lt (by omega)
 have h2 : (BitVec.ofInt 8 (127 : Int)).toNat = 127 := by decide
 show IntKind.u8.wrap ((BitVec.ofInt 8 (b : Int) &&& BitVec.ofInt 8 (127 : Int)).toNat : Int) = _
 rw [BitVec.toNat_and, h1, h2, and127_nat ⟨b, h⟩]
 show (((b % 128 : Nat) : Int) % 256) = _
 omega
theorem num_or (n b k : Nat) (hb : b < 256) (hn : n < 128 ^ k) (hk : k ≤ 9) (h9 : k = 9 → b ≤ 1) :
  bits .or .u64 (n : Int) (IntKind.u64.wrap (IntKind.u64.wrap (bits .and .u8 (b : Int) 127) * 2 ^ (7 * k))) = ((n + b % 128 * 128 ^ k : Nat) : Int) := by
 have e : (2 : Nat) ^ (7 * k) = 128 ^ k := by rw [Nat.pow_mul]
 have hp : 128 ^ k ≤ 128 ^ 9 := Nat.pow_le_pow_right (by omega) hk
 have hm : b % 128 * 128 ^ k < 18446744073709551616 := by
  rcases Nat.lt_or_ge k 9 with h | h
  ·
   have h8 : 128 ^ k ≤ 128 ^ 8 := Nat.pow_le_pow_right (by omega) (by omega)
   have h3 : b % 128 * 128 ^ k ≤ 127 * 128 ^ k := Nat.mul_le_mul_right _ (by omega)
   omega
  ·
   have : k = 9 := by omega
   subst this
   have := h9 rfl
   have h3 : b % 128 * 128 ^ 9 ≤ 1 * 128 ^ 9 := Nat.mul_le_mul_right _ (by omega)
   omega
 have e2 : ((b % 128 : Nat) : Int) * 2 ^ (7 * k) = ((b % 128 * 128 ^ k : Nat) : Int) := by
  rw [← e]; push_cast; rfl
 have e1 : IntKind.u64.wrap ((b % 128 : Nat) : Int) = ((b % 128 : Nat) : Int) := by rw [IntKind.wrap_u64]; omega
 have e3 : IntKind.u64.wrap ((b % 128 * 128 ^ k : Nat) : Int) = ((b % 128 * 128 ^ k : Nat) : Int) := by rw [IntKind.wrap_u64]; omega
 rw [and127 b hb, e1, e2, e3, bits_or_u64_nat _ _ (by omega) hm]
 congr 1
 have h1 := Nat.shiftLeft_add_eq_or_of_lt (a := b % 128) (b := n) (i := 7 * k) (by rw [e]; exact hn)
 rw [Nat.shiftLeft_eq, e] at h1
 rw [Nat.or_comm, ← h1]
 omega
theorem xor_ones64 (a : Nat) (ha : a ≤ 9223372036854775807) : bits .xor .i64 (a : Int) (-1) = -(a : Int) - 1 := by
 have h1 : (BitVec.ofInt 64 (a : Int)).toNat = a := by
  rw [BitVec.ofInt_natCast, BitVec.toNat_ofNat]; exact Nat.mod_eq_of_lt (by omega)
 have h2 : (BitVec.ofInt 64 (-1 : Int)).toNat = 18446744073709551615 := by decide
 show IntKind.i64.wrap ((BitVec.ofInt 64 (a : Int) ^^^ BitVec.ofInt 64 (-1 : Int)).toNat : Int) = _
 rw [BitVec.toNat_xor, h1, h2, xor_ones a (by omega)]
 rw [IntKind.wrap_i64]
 omega
theorem xor_zero64 (a : Nat) (ha : a ≤ 9223372036854775807) : bits .xor .i64 (a : Int) 0 = (a : Int) := by
 have h1 : (BitVec.ofInt 64 (a : Int)).toNat = a := by
  rw [BitVec.ofInt_natCast, BitVec.toNat_ofNat]; exact Nat.mod_eq_of_lt (by omega)
 have h2 : (BitVec.ofInt 64 (0 : Int)).toNat = 0 := by decide
 show IntKind.i64.wrap ((BitVec.ofInt 64 (a : Int) ^^^ BitVec.ofInt 64 (0 : Int)).toNat : Int) = _
 rw [BitVec.toNat_xor, h1, h2, Nat.xor_zero]
 rw [IntKind.wrap_i64]
 omega
theorem sgn_bits (v : Nat) (hv : v < 18446744073709551616) : bits .xor .i64 ((v : Int) / 2) (wrap64 (-wrap64 (bits .and .u64 (v : Int) 1))) = sgn v := by
 have e1 : bits .and .u64 (v : Int) 1 = ((v % 2 : Nat) : Int) := by
  have h := bits_and_u64_nat v 1 hv (by omega)
  rw [Nat.and_one_is_mod] at h
  exact h
 rw [e1]
 have e2 : (v : Int) / 2 = ((v / 2 : Nat) : Int) := by omega
 rw [e2]
 unfold sgn
 rcases Nat.mod_two_eq_zero_or_one v with h | h
 ·
  rw [h, if_pos rfl, show wrap64 (-wrap64 ((0 : Nat) : Int)) = 0 by unfold wrap64; omega]
  exact xor_zero64 (v / 2) (by omega)
 ·
  rw [h, if_neg (by omega), show wrap64 (-wrap64 ((1 : Nat) : Int)) = -1 by unfold wrap64; omega]
  exact xor_ones64 (v / 2) (by omega)
theorem bytes_len (s : ByteArray) : s.toList.length = s.size := by rw [ByteArray.toList_eq, Array.length_toList]; rfl
theorem bytes_nil {s : ByteArray} (h : s.size = 0) : s.toList = [] := List.length_eq_zero_iff.1 ((bytes_len s).trans h)
theorem bytes_some {s : ByteArray} (h : s.size ≠ 0) : s.toList.isEmpty = false := by
 cases e : s.toList with
 | nil => exfalso; apply h; rw [← bytes_len s, e]; rfl
 | cons a l => rfl
def sgnF (s : ByteArray) : Int × Nat × Int := (sgn (numS s).1, (numS s).2)
theorem byteF_len (s : ByteArray) : (byteF s).2.1 ≤ s.size := by unfold byteF; split <;> simp; omega
theorem sgn0 : sgn 0 = 0 := by simp [sgn]
theorem take_sgn (r : RdV) : takeR 0 sgnF r = intR r := by
 unfold intR uintR takeR sgnF
 by_cases h : r.e = 0
 ·
  rw [if_pos h, if_pos h]
  by_cases h2 : (numS r.s).2.2 = 0
  ·
   rw [if_pos h2, if_pos h2]
  ·
   rw [if_neg h2, if_neg h2]; simp only [sgn0]
 ·
  rw [if_neg h, if_neg h]; simp only [sgn0]
theorem textF_len (most : Int) (s : ByteArray) : (textF most s).2.1 ≤ s.size := by
 have := numS_len s
 unfold textF
 split
 ·
  exact Nat.zero_le _
 ·
  split
  ·
   exact Nat.zero_le _
  ·
   split
   ·
    exact Nat.zero_le _
   ·
    show (numS s).2.1 + (numS s).1 ≤ s.size
    omega
end Go.Proofs.YthikijlbclckdaaGreat
namespace Go.Proofs.YthikijlbclckdaaGreat
set_option maxRecDepth 100000
set_option maxHeartbeats 40000000
set_option linter.unusedSimpArgs false
set_option linter.unusedVariables false
open Go.RowKit
def IsR (T : TypeId) (w : World) (rb : Nat) (r : RdV) : Prop := w.heap[rb]? = some (.cells #[.string r.s, .int .i64 r.e] T (0, 0))
abbrev Rb (rb : Nat) : World → World → Prop := But (fun k => k = rb)
theorem number_any (rb : Nat) (s : ByteArray) (e : Int) (w : World) (h : IsR 168 w rb ⟨s, e⟩) (hs : s.size ≤ 140737488355328) :
  Calls Tryz.prog 128 #[.pointer (some ⟨rb, 0, none⟩)] w fun e' w' => e' = .returned (.tuple #[.int .u64 (numS s).1, .int .i64 (numS s).2.1, .int .i64 (numS s).2.2]) ∧ w' = w := by
 have hc := cell_of h 0
 have hc : w.cell? ⟨rb, 0, none⟩ = some (.string s) := hc
 go_enter Tryz.func128, Tryz.ntmps128
 go_wp2
 go_loop [5, 13] (fun v i => ∃ k n : Nat, k ≤ s.size ∧ k ≤ 9 ∧ i = .int .i64 k ∧ v = .int .u64 n ∧ Hid (numL (s.data.toList.drop k) k n = numS s ∧ n < 128 ^ k)) (fun _ i => s.size - (intOf i).toNat)
 case atStart => exact ⟨0, 0, Nat.zero_le _, by omega, rfl, rfl, rfl, by simp⟩
 case round =>
  obtain ⟨k, n, hk, hk9, rfl, rfl, hR⟩ := hrel
  by_cases hlt : k < s.size
  ·
   have hby := s[k].toNat_lt
   have hb := hid (show numS s = numL (s[k] :: s.data.toList.drop (k + 1)) k n by rw [← drop_at s k hlt]; exact hR.out.1.symm)
   have hor : Hid ((k = 9 → s[k].toNat ≤ 1) → bits .or .u64 (n : Int) (IntKind.u64.wrap (IntKind.u64.wrap (bits .and .u8 (s[k].toNat : Int) 127) * 2 ^ (7 * k))) = ((n + s[k].toNat % 128 * 128 ^ k : Nat) : Int)) := fun h9 => num_or n _ k hby hR.out.2 hk9 h9
   by_cases hbad : (k = 9 ∧ 1 < s[k].toNat) ∨ (0 < k ∧ s[k].toNat = 0)
   ·
    have e := hid (show numS s = (0, 0, 3) by rw [hb.out, numL, if_pos hbad])
    clear hb hor
    by_cases h9 : k = 9 ∧ 1 < s[k].toNat
    ·
     have b1 : decide (1 < (s[k].toNat : Int)) = true := by simp; omega
     obtain ⟨rfl, -⟩ := h9
     go_wp2
     go_ret3
     rw [e.out]
     exact ⟨rfl, rfl⟩
    ·
     have h0 : 0 < k := by omega
     have b0 : ((s[k].toNat : Int) == 0) = true := by simp; omega
     have b1 : decide (1 < (s[k].toNat : Int)) = false := by simp; omega
     go_wp2
     all_goals (go_ret3; rw [e.out]; exact ⟨rfl, rfl⟩)
   ·
    by_cases hsm : s[k].toNat < 128
    ·
     have e := hid (show numS s = (n + s[k].toNat * 128 ^ k, k + 1, 0) by rw [hb.out, numL, if_neg hbad, if_pos hsm])
     have hor' := hid (hor.out (fun h9 => by omega))
     have b0 : 0 < k → ((s[k].toNat : Int) == 0) = false := by intro h0; simp; omega
     by_cases h9 : k = 9
     ·
      subst h9
      have b1 : decide (1 < (s[9].toNat : Int)) = false := by simp; omega
      go_wp2
      all_goals (go_ret3; rw [e.out])
      all_goals exact ⟨by have h := hor'.out; rw [Nat.mod_eq_of_lt hsm] at h; rw [← h]; rfl, rfl⟩
     ·
      go_wp2
      all_goals (go_ret3; rw [e.out])
      all_goals exact ⟨by have h := hor'.out; rw [Nat.mod_eq_of_lt hsm] at h; rw [← h]; rfl, rfl⟩
    ·
     have h9 : k ≠ 9 := by omega
     have e := hid (show numL (s.data.toList.drop (k + 1)) (k + 1) (n + s[k].toNat % 128 * 128 ^ k) = numS s by rw [hb.out, numL, if_neg hbad, if_neg hsm])
     have hor' := hid (hor.out (fun h9 => by omega))
     have hlt2 : Hid (n + s[k].toNat % 128 * 128 ^ k < 128 ^ (k + 1)) := by
      have hm : s[k].toNat % 128 * 128 ^ k ≤ 127 * 128 ^ k := Nat.mul_le_mul_right _ (by omega)
      have := hR.out.2
      show _ < _
      rw [Nat.pow_succ]; omega
     clear hb hor
     have b0 : 0 < k → ((s[k].toNat : Int) == 0) = false := by intro h0; simp; omega
     go_wp2
     all_goals
      go_round
      case rel => exact ⟨k + 1, _, by omega, by omega, by go_num, by rw [hor'.out], e.out, hlt2.out⟩
      case measure => simp [intOf]; omega
  ·
   have hin : k = s.size := by omega
   subst hin
   have e := hid (show numS s = (0, 0, 2) by rw [← hR.out.1, List.drop_eq_nil_of_le (by simp)]; rfl)
   go_wp2
   go_ret3
   rw [e.out]
   exact ⟨rfl, rfl⟩
theorem IsR.c0 {T : TypeId} {w : World} {rb : Nat} {r : RdV} (h : IsR T w rb r) : w.cell? ⟨rb, 0, none⟩ = some (.string r.s) := cell_of h 0
theorem IsR.c1 {T : TypeId} {w : World} {rb : Nat} {r : RdV} (h : IsR T w rb r) : w.cell? ⟨rb, 1, none⟩ = some (.int .i64 r.e) := cell_of h 1
theorem IsR.f (i : Nat) {T : TypeId} {w : World} {rb : Nat} {r : RdV} (h : IsR T w rb r) : w.frozen? ⟨rb, i, none⟩ = false := free_of h i
theorem IsR.set0 {T : TypeId} {w : World} {rb : Nat} {r : RdV} (h : IsR T w rb r) (s : ByteArray) : IsR T (w.setCell ⟨rb, 0, none⟩ (.string s)) rb ⟨s, r.e⟩ := setCell_at h 0 _
theorem IsR.set1 {T : TypeId} {w : World} {rb : Nat} {r : RdV} (h : IsR T w rb r) (e : Int) : IsR T (w.setCell ⟨rb, 1, none⟩ (.int .i64 e)) rb ⟨r.s, e⟩ := setCell_at h 1 _
theorem IsR.grow {T : TypeId} {w w' : World} {rb : Nat} {r : RdV} (h : IsR T w rb r) (hb : Below w.heap.size w w') : IsR T w' rb r := (hb.block rb (heap_lt h)).trans h
theorem Rb.set {w : World} (rb i : Nat) (v : Value) : Rb rb w (w.setCell ⟨rb, i, none⟩ v) := But.setCell (F := fun k => k = rb) (But.refl _ w) (p := ⟨rb, i, none⟩) (fun _ => rfl) v
theorem signed_any (rb : Nat) (s : ByteArray) (e : Int) (w : World) (h : IsR 168 w rb ⟨s, e⟩) (hs : s.size ≤ 140737488355328) :
  Calls Tryz.prog 131 #[.pointer (some ⟨rb, 0, none⟩)] w fun e' w' => e' = .returned (.tuple #[.int .i64 (sgnF s).1, .int .i64 (sgnF s).2.1, .int .i64 (sgnF s).2.2]) ∧ w' = w := by
 have hv := numS_val s
 go_enter Tryz.func131, Tryz.ntmps131
 go_wp2_with fail
 refine (number_any rb s e w h hs).mono ?_
 rintro e1 w1 ⟨rfl, rfl⟩
 go_wp2
 go_ret3
 rw [sgn_bits _ hv]
 exact ⟨rfl, rfl⟩
theorem byte_any (rb : Nat) (s : ByteArray) (e : Int) (w : World) (h : IsR 168 w rb ⟨s, e⟩) (hs : s.size ≤ 140737488355328) :
  Calls Tryz.prog 165 #[.pointer (some ⟨rb, 0, none⟩)] w fun e' w' => e' = .returned (.tuple #[.int .u8 (byteF s).1, .int .i64 (byteF s).2.1, .int .i64 (byteF s).2.2]) ∧ w' = w := by
 have hc := h.c0
 dsimp only at hc
 by_cases h0 : s.size = 0
 ·
  have e : byteF s = (0, 0, 2) := if_pos h0
  rw [e]
  have hl := bytes_nil h0
  go_enter Tryz.func165, Tryz.ntmps165
  go_wp2
  go_ret3
  exact ⟨rfl, rfl⟩
 ·
  have e : byteF s = ((s[0]'(by omega)).toNat, 1, 0) := by unfold byteF; rw [if_neg h0, head_at (by omega)]
  rw [e]
  have hl := bytes_some h0
  have hl2 : 0 < s.size := by omega
  clear e
  go_enter Tryz.func165, Tryz.ntmps165
  go_wp2
  go_ret3
  exact ⟨rfl, rfl⟩
theorem take_uint (rb : Nat) (r : RdV) (w : World) (h : IsR 168 w rb r) (hs : r.s.size ≤ 140737488355328) :
  Calls Tryz.prog 127 #[.pointer (some ⟨rb, 0, none⟩), .func (.func 128) #[.pointer (some ⟨rb, 0, none⟩)] #[]] w
   fun e' w' => e' = .returned (.int .u64 ↑ (takeR 0 numS r).1) ∧ IsR 168 w' rb (takeR 0 numS r).2 ∧ Rb rb w w' := by
 obtain ⟨s, e⟩ := r
 have H := hid h
 have c0 := h.c0
 have c1 := h.c1
 have f0 := IsR.f 0 h
 have f1 := IsR.f 1 h
 dsimp only at c0 c1 hs
 have hn := numS_len s
 have Hc := hid (number_any rb s e w h hs)
 clear h
 by_cases he : e = 0
 ·
  subst he
  have ht : takeR 0 numS ⟨s, 0⟩ = if (numS s).2.2 = 0 then ((numS s).1, ⟨s.extract (numS s).2.1 s.size, 0⟩) else (0, ⟨s, (numS s).2.2⟩) := rfl
  rw [ht]
  clear ht
  revert Hc hn
  generalize numS s = x
  obtain ⟨v, n, er⟩ := x
  intro hn Hc
  dsimp only at Hc hn ⊢
  by_cases hr : er = 0
  ·
   subst hr
   rw [if_pos rfl]
   go_enter Tryz.func127, Tryz.ntmps127
   go_wp2_with fail
   refine Hc.out.mono ?_
   rintro e1 w1 ⟨rfl, rfl⟩
   go_wp2
   go_ret
   exact ⟨rfl, H.out.set0 _, Rb.set rb 0 _⟩
  ·
   rw [if_neg hr]
   have hr1 : (er != 0) = true := by simpa using hr
   go_enter Tryz.func127, Tryz.ntmps127
   go_wp2_with fail
   refine Hc.out.mono ?_
   rintro e1 w1 ⟨rfl, rfl⟩
   go_wp2
   go_ret
   exact ⟨rfl, H.out.set1 er, Rb.set rb 1 _⟩
 ·
  have ht : takeR 0 numS ⟨s, e⟩ = (0, ⟨s, e⟩) := if_neg he
  rw [ht]
  have he1 : (e != 0) = true := by simpa using he
  go_enter Tryz.func127, Tryz.ntmps127
  go_wp2
  go_ret
  exact ⟨rfl, H.out, But.refl _ _⟩
theorem take_int (rb : Nat) (r : RdV) (w : World) (h : IsR 168 w rb r) (hs : r.s.size ≤ 140737488355328) :
  Calls Tryz.prog 130 #[.pointer (some ⟨rb, 0, none⟩), .func (.func 131) #[.pointer (some ⟨rb, 0, none⟩)] #[]] w
   fun e' w' => e' = .returned (.int .i64  (takeR 0 sgnF r).1) ∧ IsR 168 w' rb (takeR 0 sgnF r).2 ∧ Rb rb w w' := by
 obtain ⟨s, e⟩ := r
 have H := hid h
 have c0 := h.c0
 have c1 := h.c1
 have f0 := IsR.f 0 h
 have f1 := IsR.f 1 h
 dsimp only at c0 c1 hs
 have hn : (sgnF s).2.1 ≤ s.size := numS_len s
 have Hc := hid (signed_any rb s e w h hs)
 clear h
 by_cases he : e = 0
 ·
  subst he
  have ht : takeR 0 sgnF ⟨s, 0⟩ = if (sgnF s).2.2 = 0 then ((sgnF s).1, ⟨s.extract (sgnF s).2.1 s.size, 0⟩) else (0, ⟨s, (sgnF s).2.2⟩) := rfl
  rw [ht]
  clear ht
  revert Hc hn
  generalize sgnF s = x
  obtain ⟨v, n, er⟩ := x
  intro hn Hc
  dsimp only at Hc hn ⊢
  by_cases hr : er = 0
  ·
   subst hr
   rw [if_pos rfl]
   go_enter Tryz.func130, Tryz.ntmps130
   go_wp2_with fail
   refine Hc.out.mono ?_
   rintro e1 w1 ⟨rfl, rfl⟩
   go_wp2
   go_ret
   exact ⟨rfl, H.out.set0 _, Rb.set rb 0 _⟩
  ·
   rw [if_neg hr]
   have hr1 : (er != 0) = true := by simpa using hr
   go_enter Tryz.func130, Tryz.ntmps130
   go_wp2_with fail
   refine Hc.out.mono ?_
   rintro e1 w1 ⟨rfl, rfl⟩
   go_wp2
   go_ret
   exact ⟨rfl, H.out.set1 er, Rb.set rb 1 _⟩
 ·
  have ht : takeR 0 sgnF ⟨s, e⟩ = (0, ⟨s, e⟩) := if_neg he
  rw [ht]
  have he1 : (e != 0) = true := by simpa using he
  go_enter Tryz.func130, Tryz.ntmps130
  go_wp2
  go_ret
  exact ⟨rfl, H.out, But.refl _ _⟩
theorem take_byte (rb : Nat) (r : RdV) (w : World) (h : IsR 168 w rb r) (hs : r.s.size ≤ 140737488355328) :
  Calls Tryz.prog 164 #[.pointer (some ⟨rb, 0, none⟩), .func (.func 165) #[.pointer (some ⟨rb, 0, none⟩)] #[]] w
   fun e' w' => e' = .returned (.int .u8 ↑ (takeR 0 byteF r).1) ∧ IsR 168 w' rb (takeR 0 byteF r).2 ∧ Rb rb w w' := by
 obtain ⟨s, e⟩ := r
 have H := hid h
 have c0 := h.c0
 have c1 := h.c1
 have f0 := IsR.f 0 h
 have f1 := IsR.f 1 h
 dsimp only at c0 c1 hs
 have hn := byteF_len s
 have Hc := hid (byte_any rb s e w h hs)
 clear h
 by_cases he : e = 0
 ·
  subst he
  have ht : takeR 0 byteF ⟨s, 0⟩ = if (byteF s).2.2 = 0 then ((byteF s).1, ⟨s.extract (byteF s).2.1 s.size, 0⟩) else (0, ⟨s, (byteF s).2.2⟩) := rfl
  rw [ht]
  clear ht
  revert Hc hn
  generalize byteF s = x
  obtain ⟨v, n, er⟩ := x
  intro hn Hc
  dsimp only at Hc hn ⊢
  by_cases hr : er = 0
  ·
   subst hr
   rw [if_pos rfl]
   go_enter Tryz.func164, Tryz.ntmps164
   go_wp2_with fail
   refine Hc.out.mono ?_
   rintro e1 w1 ⟨rfl, rfl⟩
   go_wp2
   go_ret
   exact ⟨rfl, H.out.set0 _, Rb.set rb 0 _⟩
  ·
   rw [if_neg hr]
   have hr1 : (er != 0) = true := by simpa using hr
   go_enter Tryz.func164, Tryz.ntmps164
   go_wp2_with fail
   refine Hc.out.mono ?_
   rintro e1 w1 ⟨rfl, rfl⟩
   go_wp2
   go_ret
   exact ⟨rfl, H.out.set1 er, Rb.set rb 1 _⟩
 ·
  have ht : takeR 0 byteF ⟨s, e⟩ = (0, ⟨s, e⟩) := if_neg he
  rw [ht]
  have he1 : (e != 0) = true := by simpa using he
  go_enter Tryz.func164, Tryz.ntmps164
  go_wp2
  go_ret
  exact ⟨rfl, H.out, But.refl _ _⟩
theorem rdUint_any (rb : Nat) (r : RdV) (w : World) (h : IsR 168 w rb r) (hs : r.s.size ≤ 140737488355328) :
  Calls Tryz.prog 87 #[.pointer (some ⟨rb, 0, none⟩)] w fun e' w' => e' = .returned (.int .u64 (uintR r).1) ∧ IsR 168 w' rb (uintR r).2 ∧ Rb rb w w' := by
 have Hc := hid (take_uint rb r w h hs)
 have H := hid h
 clear h
 go_enter Tryz.func87, Tryz.ntmps87
 go_wp2_with fail
 refine Hc.out.mono ?_
 rintro e1 w1 ⟨rfl, h1, b1⟩
 have H1 := hid h1
 have B1 := hid b1
 clear h1 b1
 go_wp2
 go_ret
 exact ⟨rfl, H1.out, B1.out⟩
theorem rdInt_any (rb : Nat) (r : RdV) (w : World) (h : IsR 168 w rb r) (hs : r.s.size ≤ 140737488355328) :
  Calls Tryz.prog 90 #[.pointer (some ⟨rb, 0, none⟩)] w fun e' w' => e' = .returned (.int .i64 (intR r).1) ∧ IsR 168 w' rb (intR r).2 ∧ Rb rb w w' := by
 have Hc := take_int rb r w h hs
 rw [take_sgn] at Hc
 have Hc := hid Hc
 have H := hid h
 clear h
 go_enter Tryz.func90, Tryz.ntmps90
 go_wp2_with fail
 refine Hc.out.mono ?_
 rintro e1 w1 ⟨rfl, h1, b1⟩
 have H1 := hid h1
 have B1 := hid b1
 clear h1 b1
 go_wp2
 go_ret
 exact ⟨rfl, H1.out, B1.out⟩
theorem rdByte_any (rb : Nat) (r : RdV) (w : World) (h : IsR 168 w rb r) (hs : r.s.size ≤ 140737488355328) :
  Calls Tryz.prog 156 #[.pointer (some ⟨rb, 0, none⟩)] w fun e' w' => e' = .returned (.int .u8 (byteR r).1) ∧ IsR 168 w' rb (byteR r).2 ∧ Rb rb w w' := by
 have Hc := hid (take_byte rb r w h hs)
 have H := hid h
 clear h
 go_enter Tryz.func156, Tryz.ntmps156
 go_wp2_with fail
 refine Hc.out.mono ?_
 rintro e1 w1 ⟨rfl, h1, b1⟩
 have H1 := hid h1
 have B1 := hid b1
 clear h1 b1
 go_wp2
 go_ret
 exact ⟨rfl, H1.out, B1.out⟩
theorem rdErr_any (rb : Nat) (r : RdV) (w : World) (h : IsR 168 w rb r) :
  Calls Tryz.prog 101 #[.pointer (some ⟨rb, 0, none⟩)] w fun e' w' => e' = .returned (.int .i64 r.e) ∧ w = w' := by
 have c1 := h.c1
 clear h
 go_enter Tryz.func101, Tryz.ntmps101
 go_wp2
 go_ret
 exact ⟨rfl, rfl⟩
theorem rdEnd_any (rb : Nat) (r : RdV) (w : World) (h : IsR 168 w rb r) :
  Calls Tryz.prog 35 #[.pointer (some ⟨rb, 0, none⟩)] w fun e' w' => e' = .returned (.int .i64 (endR r)) ∧ w = w' := by
 have c0 := h.c0
 have Hc := hid (rdErr_any rb r w h)
 clear h
 by_cases he : r.e = 0
 ·
  by_cases hz : r.s.size = 0
  ·
   have hl := bytes_nil hz
   have e : endR r = r.e := if_neg (by omega)
   rw [e]
   have he1 : (r.e == 0) = true := by simpa using he
   clear e he
   go_enter Tryz.func35, Tryz.ntmps35
   go_wp2_with fail
   refine Hc.out.mono ?_
   rintro e1 w1 ⟨rfl, rfl⟩
   go_wp2
   go_ret
   exact ⟨rfl, rfl⟩
  ·
   have hl := bytes_some hz
   have e : endR r = 3 := if_pos ⟨he, hz⟩
   rw [e]
   have he1 : (r.e == 0) = true := by simpa using he
   clear e he
   go_enter Tryz.func35, Tryz.ntmps35
   go_wp2_with fail
   refine Hc.out.mono ?_
   rintro e1 w1 ⟨rfl, rfl⟩
   go_wp2
   go_ret
   exact ⟨rfl, rfl⟩
 ·
  have e : endR r = r.e := if_neg (fun h => he h.1)
  rw [e]
  have he1 : (r.e == 0) = false := by simpa using he
  go_enter Tryz.func35, Tryz.ntmps35
  go_wp2_with fail
  refine Hc.out.mono ?_
  rintro e1 w1 ⟨rfl, rfl⟩
  go_wp2
  go_ret
  exact ⟨rfl, rfl⟩
end Go.Proofs.YthikijlbclckdaaGreat
namespace Go.Proofs.YthikijlbclckdaaGreat
set_option maxRecDepth 100000
set_option maxHeartbeats 40000000
set_option linter.unusedSimpArgs false
set_option linter.unusedVariables false
open Go.RowKit
theorem textc_any (rb : Nat) (s : ByteArray) (e : Int) (w : World) (h : IsR 168 w rb ⟨s, e⟩) (hs : s.size ≤ 140737488355328) (most : Int) (hm0 : 0 ≤ most) (hm1 : most ≤ 1000000) (pb mb : Nat)
  (hp : w.cell? ⟨pb, 0, none⟩ = some (.pointer (some ⟨rb, 0, none⟩))) (hmb : w.cell? ⟨mb, 0, none⟩ = some (.int .i64 most)) :
  Calls Tryz.prog 140 #[.pointer (some ⟨pb, 0, none⟩), .pointer (some ⟨mb, 0, none⟩)] w
   fun e' w' => e' = .returned (.tuple #[.string (textF most s).1, .int .i64 (textF most s).2.1, .int .i64 (textF most s).2.2]) ∧ w' = w := by
 have c0 := h.c0
 dsimp only at c0
 have hl := numS_len s
 have hv := numS_val s
 have Hc := hid (number_any rb s e w h hs)
 have ht : textF most s = (if (numS s).2.2 ≠ 0 then (⟨#[]⟩, 0, (numS s).2.2) else if most < (numS s).1 then (⟨#[]⟩, 0, 13) else if s.size - (numS s).2.1 < (numS s).1 then (⟨#[]⟩, 0, 2)
  else (s.extract (numS s).2.1 ((numS s).2.1 + (numS s).1), (numS s).2.1 + (numS s).1, 0)) := rfl
 rw [ht]
 clear ht h
 revert hl hv Hc
 generalize numS s = x
 obtain ⟨n, k, er⟩ := x
 intro hl hv Hc
 dsimp only at hl hv Hc ⊢
 by_cases hr : er = 0
 case neg =>
  rw [if_pos hr]
  have hr1 : (er != 0) = true := by simpa using hr
  go_enter Tryz.func140, Tryz.ntmps140
  go_wp2_with fail
  refine Hc.out.mono ?_
  rintro e1 w1 ⟨rfl, rfl⟩
  go_wp2
  go_ret3
  exact ⟨rfl, rfl⟩
 subst hr
 rw [if_neg (by simp)]
 have hmn : decide (most < 0) = false := by simp; omega
 by_cases h1 : most < (n : Int)
 ·
  rw [if_pos h1]
  have h1' : decide (most < (n : Int)) = true := by simpa using h1
  go_enter Tryz.func140, Tryz.ntmps140
  go_wp2_with fail
  refine Hc.out.mono ?_
  rintro e1 w1 ⟨rfl, rfl⟩
  go_wp2
  go_ret3
  exact ⟨rfl, rfl⟩
 ·
  rw [if_neg h1]
  have h1' : decide (most < (n : Int)) = false := by simp; omega
  by_cases h2 : s.size - k < n
  ·
   rw [if_pos h2]
   have h2' : decide ((s.size : Int) - (k : Int) < (n : Int)) = true := by simp; omega
   go_enter Tryz.func140, Tryz.ntmps140
   go_wp2_with fail
   refine Hc.out.mono ?_
   rintro e1 w1 ⟨rfl, rfl⟩
   go_wp2
   go_ret3
   exact ⟨rfl, rfl⟩
  ·
   rw [if_neg h2]
   have h2' : decide ((s.size : Int) - (k : Int) < (n : Int)) = false := by simp; omega
   have h3 : n + k ≤ s.size := by omega
   have h4 : (k : Int) + (n : Int) ≤ (s.size : Int) := by omega
   have h5 : (k : Int) ≤ (k : Int) + (n : Int) := by omega
   go_enter Tryz.func140, Tryz.ntmps140
   go_wp2_with fail
   refine Hc.out.mono ?_
   rintro e1 w1 ⟨rfl, rfl⟩
   go_wp2
   go_ret3
   exact ⟨by push_cast; rfl, rfl⟩
theorem take_text (rb : Nat) (r : RdV) (w : World) (h : IsR 168 w rb r) (hs : r.s.size ≤ 140737488355328) (most : Int) (hm0 : 0 ≤ most) (hm1 : most ≤ 1000000) (pb mb : Nat)
  (hp : w.cell? ⟨pb, 0, none⟩ = some (.pointer (some ⟨rb, 0, none⟩))) (hmb : w.cell? ⟨mb, 0, none⟩ = some (.int .i64 most)) :
  Calls Tryz.prog 139 #[.pointer (some ⟨rb, 0, none⟩), .func (.func 140) #[] #[.pointer (some ⟨pb, 0, none⟩), .pointer (some ⟨mb, 0, none⟩)]] w
   fun e' w' => e' = .returned (.string (takeR ⟨#[]⟩ (textF most) r).1) ∧ IsR 168 w' rb (takeR ⟨#[]⟩ (textF most) r).2 ∧ Rb rb w w' := by
 obtain ⟨s, e⟩ := r
 have H := hid h
 have c0 := h.c0
 have c1 := h.c1
 have f0 := IsR.f 0 h
 have f1 := IsR.f 1 h
 dsimp only at c0 c1 hs
 have hn := textF_len most s
 have Hc := hid (textc_any rb s e w h hs most hm0 hm1 pb mb hp hmb)
 clear h
 by_cases he : e = 0
 ·
  subst he
  have ht : takeR ⟨#[]⟩ (textF most) ⟨s, 0⟩ = if (textF most s).2.2 = 0 then ((textF most s).1, ⟨s.extract (textF most s).2.1 s.size, 0⟩) else (⟨#[]⟩, ⟨s, (textF most s).2.2⟩) := rfl
  rw [ht]
  clear ht
  revert Hc hn
  generalize textF most s = x
  obtain ⟨v, n, er⟩ := x
  intro hn Hc
  dsimp only at Hc hn ⊢
  by_cases hr : er = 0
  ·
   subst hr
   rw [if_pos rfl]
   go_enter Tryz.func139, Tryz.ntmps139
   go_wp2_with fail
   refine Hc.out.mono ?_
   rintro e1 w1 ⟨rfl, rfl⟩
   go_wp2
   go_ret
   exact ⟨rfl, H.out.set0 _, Rb.set rb 0 _⟩
  ·
   rw [if_neg hr]
   have hr1 : (er != 0) = true := by simpa using hr
   go_enter Tryz.func139, Tryz.ntmps139
   go_wp2_with fail
   refine Hc.out.mono ?_
   rintro e1 w1 ⟨rfl, rfl⟩
   go_wp2
   go_ret
   exact ⟨rfl, H.out.set1 er, Rb.set rb 1 _⟩
 ·
  have ht : takeR ⟨#[]⟩ (textF most) ⟨s, e⟩ = (⟨#[]⟩, ⟨s, e⟩) := if_neg he
  rw [ht]
  have he1 : (e != 0) = true := by simpa using he
  go_enter Tryz.func139, Tryz.ntmps139
  go_wp2
  go_ret
  exact ⟨rfl, H.out, But.refl _ _⟩
theorem rdText_any (rb : Nat) (r : RdV) (w : World) (h : IsR 168 w rb r) (hs : r.s.size ≤ 140737488355328) (most : Int) (hm0 : 0 ≤ most) (hm1 : most ≤ 1000000) :
  Calls Tryz.prog 129 #[.pointer (some ⟨rb, 0, none⟩), .int .i64 most] w fun e' w' => e' = .returned (.string (textR most r).1) ∧ IsR 168 w' rb (textR most r).2 ∧ Rb rb w w' := by
 go_enter Tryz.func129, Tryz.ntmps129
 go_wp2_with fail
 have hb : Below w.heap.size w ((w.alloc (.cells #[.pointer (some ⟨rb, 0, none⟩)] 78)).alloc (.cells #[.int .i64 most] 3)) := ((Below.refl _ w).alloc (Nat.le_refl _) _).alloc (by simp) _
 have hp0 := alloc_new w (.cells #[.pointer (some ⟨rb, 0, none⟩)] 78)
 have hp := cell_of ((alloc_old (.cells #[.int .i64 most] 3) (heap_lt hp0)).trans hp0) 0
 have hm := cell_of (alloc_new2 w (.cells #[.pointer (some ⟨rb, 0, none⟩)] 78) (.cells #[.int .i64 most] 3)) 0
 clear hp0
 have H := hid (h.grow hb)
 clear h
 generalize (w.alloc (.cells #[.pointer (some ⟨rb, 0, none⟩)] 78)).alloc (.cells #[.int .i64 most] 3) = w1 at hb hp hm H ⊢
 refine (take_text rb r w1 H.out hs most hm0 hm1 w.heap.size (w.heap.size + 1) hp hm).mono ?_
 rintro e1 w2 ⟨rfl, h2, b2⟩
 have H2 := hid h2
 have B2 := hid ((But.of hb).trans (F := fun k => k = rb) b2)
 clear hb h2 b2
 go_wp2
 go_ret
 exact ⟨rfl, H2.out, B2.out⟩
end Go.Proofs.YthikijlbclckdaaGreat
