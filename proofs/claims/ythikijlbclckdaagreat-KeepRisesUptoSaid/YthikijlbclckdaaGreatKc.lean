/- Names and values. -/
import Derived.Test.YthikijlbclckdaaGreatKb
import Derived.Test.YthikijlbclckdaaGreatJ
namespace Go.Proofs.YthikijlbclckdaaGreat
set_option linter.unusedSimpArgs false
set_option linter.unusedVariables false
open Go.RowKit

def ltr (c : UInt8) : Bool := decide (97 ≤ c.toNat) && decide (c.toNat ≤ 122)
def okc (c : UInt8) : Bool := ltr c || (decide (48 ≤ c.toNat) && decide (c.toNat ≤ 57)) || decide (c.toNat = 95)
def words : List ByteArray := [⟨#[97, 110, 100]⟩, ⟨#[111, 114]⟩, ⟨#[110, 111, 116]⟩, ⟨#[116, 114, 117, 101]⟩, ⟨#[102, 97, 108, 115, 101]⟩, ⟨#[108, 101, 110]⟩]
def inL (s : ByteArray) (l : List ByteArray) : Bool := l.any fun x => decide (s = x)
theorem inL_yes {s : ByteArray} {l : List ByteArray} {i : Nat} (h : l[i]? = some s) : inL s l = true := List.any_eq_true.2 ⟨s, List.mem_of_getElem? h, decide_eq_true rfl⟩
theorem inL_snoc (s x : ByteArray) (l : List ByteArray) : inL s (l ++ [x]) = (inL s l || decide (s = x)) := by simp [inL]
theorem bytes_eq2 (x y : ByteArray) : (x.toList == y.toList) = decide (x = y) := by
  by_cases h : x = y
  · subst h; simp
  · simp only [h, decide_false]
    rw [beq_eq_false_iff_ne]
    intro he
    rw [ByteArray.toList_eq, ByteArray.toList_eq] at he
    exact h (ByteArray.ext (Array.toList_inj.1 he))
/-- Is a text a name? -/
def named (s : ByteArray) : Bool := decide (1 ≤ s.size) && decide (s.size ≤ 32) && ltr (s.data.toList.headD 0) && s.data.toList.all okc && !inL s words
theorem named_short {s : ByteArray} (h : s.size < 1 ∨ 32 < s.size) : named s = false := by
  unfold named
  rcases h with h | h
  · rw [decide_eq_false (by omega : ¬ 1 ≤ s.size)]; rfl
  · rw [decide_eq_false (by omega : ¬ s.size ≤ 32)]; simp
theorem head_at {s : ByteArray} (h : 0 < s.size) : s.data.toList.headD 0 = s[0] := by
  have e := drop_at s 0 h
  rw [List.drop_zero] at e
  rw [e]
  rfl
theorem named_head {s : ByteArray} (h : 0 < s.size) (hl : ltr s[0] = false) : named s = false := by
  unfold named
  rw [head_at h, hl]; simp
theorem named_bad {s : ByteArray} {i : Nat} (h : i < s.size) (hc : okc s[i] = false) : named s = false := by
  unfold named
  have : s.data.toList.all okc = false := by
    rw [Bool.eq_false_iff]
    intro ha
    rw [List.all_eq_true] at ha
    have := ha s[i] (by simp [ByteArray.getElem_eq_getElem_data])
    rw [hc] at this
    cases this
  rw [this]; simp
theorem named_end {s : ByteArray} (h1 : 1 ≤ s.size) (h2 : s.size ≤ 32) (hl : ltr s[0] = true) (ha : ∀ j (h : j < s.size), okc s[j] = true) : named s = !inL s words := by
  unfold named
  have : s.data.toList.all okc = true := by
    rw [List.all_eq_true]
    intro c hc
    obtain ⟨j, hj, rfl⟩ := List.mem_iff_getElem.1 hc
    have := ha j (by simpa using hj)
    simpa [ByteArray.getElem_eq_getElem_data] using this
  rw [head_at (by omega), hl, this, decide_eq_true h1, decide_eq_true h2]; rfl
theorem okc_iff (c : UInt8) : okc c = true ↔ (97 ≤ c.toNat ∧ c.toNat ≤ 122) ∨ (48 ≤ c.toNat ∧ c.toNat ≤ 57) ∨ c.toNat = 95 := by
  simp [okc, ltr, or_assoc]
theorem ltr_iff (c : UInt8) : ltr c = true ↔ (97 ≤ c.toNat ∧ c.toNat ≤ 122) := by simp [ltr]
set_option maxHeartbeats 2000000 in
theorem index_any (v : Value) (xs : List ByteArray) (s : ByteArray) (w : World) (h : SlR w v (xs.map Value.string)) (hl : xs.length ≤ 1000) :
    Calls Tryz.prog 155 #[v, .string s] w fun e w' => ∃ n : Int, e = .returned (.int .i64 n) ∧ decide (n ≥ 0) = inL s xs ∧ w = w' := by
  have hxl : (xs.map Value.string).length = xs.length := by simp
  have H := Lib.hid h
  obtain ⟨a, cap, rfl, h1, h2, -⟩ := h
  rw [hxl] at h1 h2
  unfold maxLen at h1
  rw [hxl]
  go_enter Tryz.func155, Tryz.ntmps155
  go_wp2
  go_loop [8] (fun vi => ∃ i : Nat, i ≤ xs.length ∧ vi = .int .i64 i ∧ Hid (inL s (xs.take i) = false)) (fun vi => xs.length - (intOf vi).toNat)
  case atStart => exact ⟨0, Nat.zero_le _, rfl, rfl⟩
  case round =>
    obtain ⟨i, hi, rfl, hR⟩ := hrel
    by_cases hlt : i < xs.length
    · have hxi : xs[i]? = some xs[i] := List.getElem?_eq_getElem hlt
      generalize hx : xs[i] = x at hxi
      obtain ⟨a', cap', hv, -, -, hcell⟩ := H.out
      cases hv
      obtain ⟨b, off, rfl, hc⟩ := hcell i (.string x) (by simp [hxi])
      have HX := Lib.hid hxi
      clear hcell hxi hx
      by_cases he : s = x
      · subst he
        go_wp2
        go_ret
        exact ⟨i, rfl, by rw [decide_eq_true (by omega), inL_yes HX.out], rfl⟩
      · have he2 : (s.toList == x.toList) = false := by rw [bytes_eq2, decide_eq_false he]
        go_wp2
        refine ⟨⟨i + 1, by omega, by go_num, ?_⟩, by simp [intOf]; omega⟩
        show inL s (xs.take (i + 1)) = false
        rw [show xs.take (i + 1) = xs.take i ++ [x] by simp [List.take_add_one, HX.out], inL_snoc, hR.out, decide_eq_false he]
        rfl
    · have : i = xs.length := by omega
      subst this
      have hno := hR.out
      rw [List.take_length] at hno
      have HNo := Lib.hid hno
      clear hno
      go_wp2
      go_ret
      exact ⟨-1, rfl, by rw [decide_eq_false (by omega), HNo.out], rfl⟩
theorem contains_any (v : Value) (xs : List ByteArray) (s : ByteArray) (w : World) (h : SlR w v (xs.map Value.string)) (hl : xs.length ≤ 1000) :
    Calls Tryz.prog 138 #[v, .string s] w fun e w' => e = .returned (.bool (inL s xs)) ∧ w = w' := by
  go_enter Tryz.func138, Tryz.ntmps138
  go_wp2_with fail
  refine (index_any v xs s w h hl).mono ?_
  rintro e w1 ⟨n, rfl, hn, rfl⟩
  have HN := Lib.hid hn
  clear hn
  go_wp2
  go_ret
  rw [← HN.out]
  exact ⟨by simp, rfl⟩
theorem cls (n : Nat) : (97 ≤ n ∧ n ≤ 122) ∨ (48 ≤ n ∧ n ≤ 57) ∨ n = 95 ∨ n < 48 ∨ (57 < n ∧ n < 95) ∨ n = 96 ∨ 122 < n := by omega
set_option maxHeartbeats 4000000 in
theorem named_any (s : ByteArray) (w : World) : Calls Tryz.prog 123 #[.string s] w fun e w' => e = .returned (.bool (named s)) ∧ Below w.heap.size w w' := by
  by_cases h1 : s.size < 1
  · have E := Lib.hid (named_short (.inl h1))
    go_enter Tryz.func123, Tryz.ntmps123
    go_wp2
    go_ret
    rw [E.out]
    exact ⟨rfl, Below.refl _ _⟩
  by_cases h2 : 32 < s.size
  · have E := Lib.hid (named_short (.inr h2))
    go_enter Tryz.func123, Tryz.ntmps123
    go_wp2
    go_ret
    rw [E.out]
    exact ⟨rfl, Below.refl _ _⟩
  have h0 : 0 < s.size := by omega
  by_cases hl : ltr s[0] = true
  · have hl2 := (ltr_iff _).1 hl
    obtain ⟨hl3, hl4⟩ := hl2
    have HL := Lib.hid hl
    clear hl
    go_enter Tryz.func123, Tryz.ntmps123
    go_wp2
    go_loop [25] (fun vi => ∃ i : Nat, i ≤ s.size ∧ vi = .int .i64 i ∧ Hid (∀ j (h : j < s.size), j < i → okc s[j] = true)) (fun vi => s.size - (intOf vi).toNat)
    case atStart => exact ⟨0, Nat.zero_le _, rfl, fun j _ hj => by omega⟩
    case round =>
      obtain ⟨i, hi, rfl, hR⟩ := hrel
      by_cases hlt : i < s.size
      · by_cases hok : okc s[i] = true
        · have hstep : Hid (∀ j (h : j < s.size), j < i + 1 → okc s[j] = true) := by
            intro j hj hji
            by_cases he : j = i
            · subst he; exact hok
            · exact hR.out j hj (by omega)
          have hok2 := (okc_iff _).1 hok
          clear hok
          rcases hok2 with ⟨k1, k2⟩ | ⟨k1, k2⟩ | k1
          all_goals
            go_wp2
            exact ⟨⟨i + 1, by omega, by go_num, hstep.out⟩, by simp [intOf]; omega⟩
        · have E := Lib.hid (named_bad hlt (by simpa using hok))
          have hno := mt (okc_iff s[i]).2 hok
          clear hok
          rcases cls s[i].toNat with ⟨k1, k2⟩ | ⟨k1, k2⟩ | k1 | k1 | ⟨k1, k2⟩ | k1 | k1
          · omega
          · omega
          · omega
          all_goals
            have hq : ((s[i].toNat : Int) != 95) = true := by rw [bne_iff_ne]; omega
            clear hno
            go_wp2
            go_ret
            rw [E.out]
            exact ⟨rfl, Below.refl _ _⟩
      · have hin : i = s.size := by omega
        subst hin
        have E := Lib.hid (named_end (by omega) (by omega) HL.out (fun j hj => hR.out j hj hj))
        go_wp2_with fail
        refine (contains_any _ words s _ (by exact SlR.boxes _ _ (But.refl (fun _ => False) _) (fun h => h) (by simp [maxLen])) (by decide)).mono ?_
        rintro e w1 ⟨rfl, rfl⟩
        go_wp2
        go_ret
        rw [E.out]
        exact ⟨rfl, (Below.refl _ _).alloc (Nat.le_refl _) _⟩
  · have E := Lib.hid (named_head h0 (by simpa using hl))
    have hl2 : s[0].toNat < 97 ∨ 122 < s[0].toNat := by
      have := mt (ltr_iff s[0]).2 hl
      omega
    clear hl
    rcases hl2 with k1 | k1
    all_goals
      go_enter Tryz.func123, Tryz.ntmps123
      go_wp2
      go_ret
      rw [E.out]
      exact ⟨rfl, Below.refl _ _⟩
theorem inL_words (s : ByteArray) : inL s words = (s.toList == [97, 110, 100] || (s.toList == [111, 114] || (s.toList == [110, 111, 116] || (s.toList == [116, 114, 117, 101] || (s.toList == [102, 97, 108, 115, 101] || s.toList == [108, 101, 110]))))) := by
  have e : ∀ a : Array UInt8, decide (s = ⟨a⟩) = (s.toList == a.toList) := fun a => by rw [← bytes_eq2, ByteArray.toList_eq (⟨a⟩ : ByteArray)]
  simp only [inL, words, List.any_cons, List.any_nil, e, Bool.or_false]
set_option maxHeartbeats 4000000 in
theorem rnamed_any (s : ByteArray) (w : World) : Calls Tryz.prog 125 #[.string s] w fun e w' => e = .returned (.bool (named s)) ∧ ∃ n, w' = w.drewN n := by
  by_cases h1 : s.size < 1
  · have E := Lib.hid (named_short (.inl h1))
    go_enter Tryz.func125, Tryz.ntmps125
    go_wp2
    go_ret
    rw [E.out]
    exact ⟨rfl, 0, rfl⟩
  by_cases h2 : 32 < s.size
  · have E := Lib.hid (named_short (.inr h2))
    go_enter Tryz.func125, Tryz.ntmps125
    go_wp2
    go_ret
    rw [E.out]
    exact ⟨rfl, 0, rfl⟩
  have h0 : 0 < s.size := by omega
  go_enter Tryz.func125, Tryz.ntmps125
  go_wp2
  go_loopw [3] (fun vi wr => ∃ i n : Nat, i ≤ s.size ∧ vi = .int .i64 i ∧ wr = w.drewN n ∧ Hid (∀ j (h : j < s.size), j < i → okc s[j] = true ∧ (j = 0 → ltr s[0] = true))) (fun vi _ => s.size - (intOf vi).toNat)
  case atStart => exact ⟨0, 0, Nat.zero_le _, rfl, rfl, fun j _ hj => by omega⟩
  case round =>
    obtain ⟨i, n, hi, rfl, rfl, hR⟩ := hrel
    by_cases hlt : i < s.size
    · by_cases hok : okc s[i] = true ∧ (i = 0 → ltr s[0] = true)
      · have hstep : Hid (∀ j (h : j < s.size), j < i + 1 → okc s[j] = true ∧ (j = 0 → ltr s[0] = true)) := by
          intro j hj hji
          by_cases he : j = i
          · subst he; exact hok
          · exact hR.out j hj (by omega)
        have hok2 := (okc_iff _).1 hok.1
        by_cases hi0 : i = 0
        · subst hi0
          have k := (ltr_iff _).1 (hok.2 rfl)
          obtain ⟨k1, k2⟩ := k
          clear hok hok2
          go_wp2
          exact ⟨⟨1, n, by omega, by go_num, rfl, hstep.out⟩, by simp [intOf]; omega⟩
        · have hq0 : ((i : Int) == 0) = false := by rw [beq_eq_false_iff_ne]; omega
          clear hok
          rcases hok2 with ⟨k1, k2⟩ | ⟨k1, k2⟩ | k1
          all_goals
            go_wp2
            exact ⟨⟨i + 1, n, by omega, by go_num, rfl, hstep.out⟩, by simp [intOf]; omega⟩
      · have E : Hid (named s = false) := by
          show _ = _
          by_cases ho : okc s[i] = true
          · exact named_head h0 (by simpa using fun h => hok ⟨ho, fun _ => h⟩)
          · exact named_bad hlt (by simpa using ho)
        have hno : (i = 0 ∧ (s[i].toNat < 97 ∨ 122 < s[i].toNat)) ∨ (i ≠ 0 ∧ ¬ ((97 ≤ s[i].toNat ∧ s[i].toNat ≤ 122) ∨ (48 ≤ s[i].toNat ∧ s[i].toNat ≤ 57) ∨ s[i].toNat = 95)) := by
          by_cases hi0 : i = 0
          · subst hi0
            have h3 : ¬ (97 ≤ s[0].toNat ∧ s[0].toNat ≤ 122) := fun h => hok ⟨(okc_iff _).2 (.inl h), fun _ => (ltr_iff _).2 h⟩
            exact .inl ⟨rfl, by omega⟩
          · exact .inr ⟨hi0, fun h => hok ⟨(okc_iff _).2 h, fun h => absurd h hi0⟩⟩
        clear hok
        rcases hno with ⟨rfl, k⟩ | ⟨hi0, k⟩
        · rcases cls s[0].toNat with ⟨k1, k2⟩ | ⟨k1, k2⟩ | k1 | k1 | ⟨k1, k2⟩ | k1 | k1
          · omega
          all_goals
            clear k
            go_wp2
            all_goals first
              | (go_ret; rw [E.out]; exact ⟨rfl, n, rfl⟩)
              | (exfalso; rename_i hx; simp only [Bool.not_eq_false', decide_eq_true_eq] at hx; omega)
        · have hq0 : ((i : Int) == 0) = false := by rw [beq_eq_false_iff_ne]; omega
          rcases cls s[i].toNat with ⟨k1, k2⟩ | ⟨k1, k2⟩ | k1 | k1 | ⟨k1, k2⟩ | k1 | k1
          · omega
          · omega
          · omega
          all_goals
            have hq : ((s[i].toNat : Int) == 95) = false := by rw [beq_eq_false_iff_ne]; omega
            clear k
            go_wp2
            all_goals first
              | (go_ret; rw [E.out]; exact ⟨rfl, n, rfl⟩)
              | (exfalso; rename_i hx; simp only [Bool.not_eq_false', decide_eq_true_eq] at hx; omega)
    · have hin : i = s.size := by omega
      subst hin
      have E := Lib.hid (named_end (by omega) (by omega) ((hR.out 0 h0 h0).2 rfl) (fun j hj => (hR.out j hj hj).1))
      have HW := Lib.hid (inL_words s)
      go_wp2_with fail
      all_goals
        go_ret
        refine ⟨?_, n, rfl⟩
        rw [E.out, HW.out]
        first
          | (simp [*]; done)
          | (simp [Bool.not_or, Bool.and_assoc]; done)
end Go.Proofs.YthikijlbclckdaaGreat
