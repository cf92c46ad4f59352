/- Keep: contracts (Kc Kd Ke). -/
import Derived.Test.YthikijlbclckdaaGreatT2
import Derived.Deep.QuietTactic
import Derived.BigQuiet
import Derived.Deep.RegionWith
namespace Go.Proofs.YthikijlbclckdaaGreat
set_option maxRecDepth 100000
set_option maxHeartbeats 40000000
set_option linter.unusedSimpArgs false
set_option linter.unusedVariables false
open Go.RowKit
def ltr (c : UInt8) : Bool := decide (97 ≤ c.toNat) && decide (c.toNat ≤ 122)
def okc (c : UInt8) : Bool := ltr c || (decide (48 ≤ c.toNat) && decide (c.toNat ≤ 57)) || decide (c.toNat = 95)
def words : List ByteArray := [⟨#[97, 110, 100]⟩, ⟨#[111, 114]⟩, ⟨#[110, 111, 116]⟩, ⟨#[116, 114, 117, 101]⟩, ⟨#[102, 97, 108, 115, 101]⟩, ⟨#[108, 101, 110]⟩]
def inL (s : ByteArray) (l : List ByteArray) : Bool := l.any fun x => decide (s = x)
theorem inL_yes {s : ByteArray} {l : List ByteArray} {i : Nat} (h : l[i]? = some s) : inL s l = true := List.any_eq_true.2 ⟨s, List.mem_of_getElem? h, decide_eq_true rfl⟩
theorem inL_snoc (s x : ByteArray) (l : List ByteArray) : inL s (l ++ [x]) = (inL s l || decide (s = x)) := by simp [inL]
theorem bytes_eq2 (x y : ByteArray) : (x.toList == y.toList) = decide (x = y) := by
 by_cases h : x = y
 ·
  subst h; simp
 ·
  simp only [h, decide_false]
  rw [beq_eq_false_iff_ne]
  intro he
  rw [ByteArray.toList_eq, ByteArray.toList_eq] at he
  exact h (ByteArray.ext (Array.toList_inj.1 he))
def named (s : ByteArray) : Bool := decide (1 ≤ s.size) && decide (s.size ≤ 32) && ltr (s.data.toList.headD 0) && s.data.toList.all okc && !inL s words
theorem named_short {s : ByteArray} (h : s.size < 1 ∨ 32 < s.size) : named s = false := by
 unfold named
 rcases h with h | h
 ·
  rw [decide_eq_false (by omega : ¬ 1 ≤ s.size)]; rfl
 ·
  rw [decide_eq_false (by omega : ¬ s.size ≤ 32)]; simp
theorem head_at {s : ByteArray} (h : 0 < s.size) : s.data.toList.headD 0 = s[0] := by
 have e := drop_at s 0 h
 rw [List.drop_zero] at e
 rw [e]
 rfl
theorem named_head {s : ByteArray} (h : 0 < s.size) (hl : ltr s[0] = false) : named s = false := by
 unfold named
 rw [head_at h, hl]; simp
theorem named_bad {s : ByteArray} {i : Nat} (h : i < s.size) (hc : okc s[i] = false) : named s = false := by
 unfold named
 have : s.data.toList.all okc = false := by
  rw [Bool.eq_false_iff]
  intro ha
  rw [List.all_eq_true] at ha
  have := ha s[i] (by simp [ByteArray.getElem_eq_getElem_data])
  rw [hc] at this
  cases this
 rw [this]; simp
theorem named_end {s : ByteArray} (h1 : 1 ≤ s.size) (h2 : s.size ≤ 32) (hl : ltr s[0] = true) (ha : ∀ j (h : j < s.size), okc s[j] = true) : named s = !inL s words := by
 unfold named
 have : s.data.toList.all okc = true := by
  rw [List.all_eq_true]
  intro c hc
  obtain ⟨j, hj, rfl⟩ := List.mem_iff_getElem.1 hc
  have := ha j (by simpa using hj)
  simpa [ByteArray.getElem_eq_getElem_data] using this
 rw [head_at (by omega), hl, this, decide_eq_true h1, decide_eq_true h2]; rfl
theorem okc_iff (c : UInt8) : okc c = true ↔ (97 ≤ c.toNat ∧ c.toNat ≤ 122) ∨ (48 ≤ c.toNat ∧ c.toNat ≤ 57) ∨ c.toNat = 95 := by
 simp [okc, ltr, or_assoc]
theorem ltr_iff (c : UInt8) : ltr c = true ↔ (97 ≤ c.toNat ∧ c.toNat ≤ 122) := by simp [ltr]
theorem index_any (v : Value) (xs : List ByteArray) (s : ByteArray) (w : World) (h : SlR w v (xs.map Value.string)) (hl : xs.length ≤ 1000) :
  Calls Tryz.prog 155 #[v, .string s] w fun e w' => ∃ n : Int, e = .returned (.int .i64 n) ∧ decide (n ≥ 0) = inL s xs ∧ w = w' := by
 have hxl : (xs.map Value.string).length = xs.length := by simp
 have H := hid h
 obtain ⟨a, cap, rfl, h1, h2, -⟩ := h
 rw [hxl] at h1 h2
 unfold maxLen at h1
 rw [hxl]
 go_enter Tryz.func155, Tryz.ntmps155
 go_wp2
 go_loop [8] (fun vi => ∃ i : Nat, i ≤ xs.length ∧ vi = .int .i64 i ∧ Hid (inL s (xs.take i) = false)) (fun vi => xs.length - (intOf vi).toNat)
 case atStart => exact ⟨0, Nat.zero_le _, rfl, rfl⟩
 case round =>
  obtain ⟨i, hi, rfl, hR⟩ := hrel
  by_cases hlt : i < xs.length
  ·
   have hxi : xs[i]? = some xs[i] := List.getElem?_eq_getElem hlt
   generalize hx : xs[i] = x at hxi
   obtain ⟨a', cap', hv, -, -, hcell⟩ := H.out
   cases hv
   obtain ⟨b, off, rfl, hc⟩ := hcell i (.string x) (by simp [hxi])
   have HX := hid hxi
   clear hcell hxi hx
   by_cases he : s = x
   ·
    subst he
    go_wp2
    go_ret
    exact ⟨i, rfl, by rw [decide_eq_true (by omega), inL_yes HX.out], rfl⟩
   ·
    have he2 : (s.toList == x.toList) = false := by rw [bytes_eq2, decide_eq_false he]
    go_wp2
    refine ⟨⟨i + 1, by omega, by go_num, ?_⟩, by simp [intOf]; omega⟩
    show inL s (xs.take (i + 1)) = false
    rw [show xs.take (i + 1) = xs.take i ++ [x] by simp [List.take_add_one, HX.out], inL_snoc, hR.out, decide_eq_false he]
    rfl
  ·
   have : i = xs.length := by omega
   subst this
   have hno := hR.out
   rw [List.take_length] at hno
   have HNo := hid hno
   clear hno
   go_wp2
   go_ret
   exact ⟨-1, rfl, by rw [decide_eq_false (by omega), HNo.out], rfl⟩
theorem contains_any (v : Value) (xs : List ByteArray) (s : ByteArray) (w : World) (h : SlR w v (xs.map Value.string)) (hl : xs.length ≤ 1000) :
  Calls Tryz.prog 138 #[v, .string s] w fun e w' => e = .returned (.bool (inL s xs)) ∧ w = w' := by
 go_enter Tryz.func138, Tryz.ntmps138
 go_wp2_with fail
 refine (index_any v xs s w h hl).mono ?_
 rintro e w1 ⟨n, rfl, hn, rfl⟩
 have HN := hid hn
 clear hn
 go_wp2
 go_ret
 rw [← HN.out]
 exact ⟨by simp, rfl⟩
theorem cls (n : Nat) : (97 ≤ n ∧ n ≤ 122) ∨ (48 ≤ n ∧ n ≤ 57) ∨ n = 95 ∨ n < 48 ∨ (57 < n ∧ n < 95) ∨ n = 96 ∨ 122 < n := by omega
theorem named_any (s : ByteArray) (w : World) : Calls Tryz.prog 123 #[.string s] w fun e w' => e = .returned (.bool (named s)) ∧ Below w.heap.size w w' := by
 by_cases h1 : s.size < 1
 ·
  have E := hid (named_short (.inl h1))
  go_enter Tryz.func123, Tryz.ntmps123
  go_wp2
  go_ret
  rw [E.out]
  exact ⟨rfl, Below.refl _ _⟩
 by_cases h2 : 32 < s.size
 ·
  have E := hid (named_short (.inr h2))
  go_enter Tryz.func123, Tryz.ntmps123
  go_wp2
  go_ret
  rw [E.out]
  exact ⟨rfl, Below.refl _ _⟩
 have h0 : 0 < s.size := by omega
 by_cases hl : ltr s[0] = true
 ·
  have hl2 := (ltr_iff _).1 hl
  obtain ⟨hl3, hl4⟩ := hl2
  have HL := hid hl
  clear hl
  go_enter Tryz.func123, Tryz.ntmps123
  go_wp2
  go_loop [25] (fun vi => ∃ i : Nat, i ≤ s.size ∧ vi = .int .i64 i ∧ Hid (∀ j (h : j < s.size), j < i → okc s[j] = true)) (fun vi => s.size - (intOf vi).toNat)
  case atStart => exact ⟨0, Nat.zero_le _, rfl, fun j _ hj => by omega⟩
  case round =>
   obtain ⟨i, hi, rfl, hR⟩ := hrel
   by_cases hlt : i < s.size
   ·
    by_cases hok : okc s[i] = true
    ·
     have hstep : Hid (∀ j (h : j < s.size), j < i + 1 → okc s[j] = true) := by
      intro j hj hji
      by_cases he : j = i
      ·
       subst he; exact hok
      ·
       exact hR.out j hj (by omega)
     have hok2 := (okc_iff _).1 hok
     clear hok
     rcases hok2 with ⟨k1, k2⟩ | ⟨k1, k2⟩ | k1
     all_goals
      go_wp2
      exact ⟨⟨i + 1, by omega, by go_num, hstep.out⟩, by simp [intOf]; omega⟩
    ·
     have E := hid (named_bad hlt (by simpa using hok))
     have hno := mt (okc_iff s[i]).2 hok
     clear hok
     rcases cls s[i].toNat with ⟨k1, k2⟩ | ⟨k1, k2⟩ | k1 | k1 | ⟨k1, k2⟩ | k1 | k1
     ·
      omega
     ·
      omega
     ·
      omega
     all_goals
      have hq : ((s[i].toNat : Int) != 95) = true := by rw [bne_iff_ne]; omega
      clear hno
      go_wp2
      go_ret
      rw [E.out]
      exact ⟨rfl, Below.refl _ _⟩
   ·
    have hin : i = s.size := by omega
    subst hin
    have E := hid (named_end (by omega) (by omega) HL.out (fun j hj => hR.out j hj hj))
    go_wp2_with fail
    refine (contains_any _ words s _ (by exact SlR.boxes _ _ (But.refl (fun _ => False) _) (fun h => h) (by simp [maxLen])) (by decide)).mono ?_
    rintro e w1 ⟨rfl, rfl⟩
    go_wp2
    go_ret
    rw [E.out]
    exact ⟨rfl, (Below.refl _ _).alloc (Nat.le_refl _) _⟩
 ·
  have E := hid (named_head h0 (by simpa using hl))
  have hl2 : s[0].toNat < 97 ∨ 122 < s[0].toNat := by
   have := mt (ltr_iff s[0]).2 hl
   omega
  clear hl
  rcases hl2 with k1 | k1
  all_goals
   go_enter Tryz.func123, Tryz.ntmps123
   go_wp2
   go_ret
   rw [E.out]
   exact ⟨rfl, Below.refl _ _⟩
theorem inL_words (s : ByteArray) : inL s words = (s.toList == [97, 110, 100] || (s.toList == [111, 114] || (s.toList == [110, 111, 116] || (s.toList == [116, 114, 117, 101] || (s.toList == [102, 97, 108, 115, 101] || s.toList == [108, 101, 110]))))) := by
 have e : ∀ a : Array UInt8, decide (s = ⟨a⟩) = (s.toList == a.toList) := fun a => by rw [← bytes_eq2, ByteArray.toList_eq (⟨a⟩ : ByteArray)]
 simp only [inL, words, List.any_cons, List.any_nil, e, Bool.or_false]
theorem rnamed_any (s : ByteArray) (w : World) : Calls Tryz.prog 125 #[.string s] w fun e w' => e = .returned (.bool (named s)) ∧ ∃ n, w' = w.drewN n := by
 by_cases h1 : s.size < 1
 ·
  have E := hid (named_short (.inl h1))
  go_enter Tryz.func125, Tryz.ntmps125
  go_wp2
  go_ret
  rw [E.out]
  exact ⟨rfl, 0, rfl⟩
 by_cases h2 : 32 < s.size
 ·
  have E := hid (named_short (.inr h2))
  go_enter Tryz.func125, Tryz.ntmps125
  go_wp2
  go_ret
  rw [E.out]
  exact ⟨rfl, 0, rfl⟩
 have h0 : 0 < s.size := by omega
 go_enter Tryz.func125, Tryz.ntmps125
 go_wp2
 go_loopw [3] (fun vi wr => ∃ i n : Nat, i ≤ s.size ∧ vi = .int .i64 i ∧ wr = w.drewN n ∧ Hid (∀ j (h : j < s.size), j < i → okc s[j] = true ∧ (j = 0 → ltr s[0] = true))) (fun vi _ => s.size - (intOf vi).toNat)
 case atStart => exact ⟨0, 0, Nat.zero_le _, rfl, rfl, fun j _ hj => by omega⟩
 case round =>
  obtain ⟨i, n, hi, rfl, rfl, hR⟩ := hrel
  by_cases hlt : i < s.size
  ·
   by_cases hok : okc s[i] = true ∧ (i = 0 → ltr s[0] = true)
   ·
    have hstep : Hid (∀ j (h : j < s.size), j < i + 1 → okc s[j] = true ∧ (j = 0 → ltr s[0] = true)) := by
     intro j hj hji
     by_cases he : j = i
     ·
      subst he; exact hok
     ·
      exact hR.out j hj (by omega)
    have hok2 := (okc_iff _).1 hok.1
    by_cases hi0 : i = 0
    ·
     subst hi0
     have k := (ltr_iff _).1 (hok.2 rfl)
     obtain ⟨k1, k2⟩ := k
     clear hok hok2
     go_wp2
     exact ⟨⟨1, n, by omega, by go_num, rfl, hstep.out⟩, by simp [intOf]; omega⟩
    ·
     have hq0 : ((i : Int) == 0) = false := by rw [beq_eq_false_iff_ne]; omega
     clear hok
     rcases hok2 with ⟨k1, k2⟩ | ⟨k1, k2⟩ | k1
     all_goals
      go_wp2
      exact ⟨⟨i + 1, n, by omega, by go_num, rfl, hstep.out⟩, by simp [intOf]; omega⟩
   ·
    have E : Hid (named s = false) := by
     show _ = _
     by_cases ho : okc s[i] = true
     ·
      exact named_head h0 (by simpa using fun h => hok ⟨ho, fun _ => h⟩)
     ·
      exact named_bad hlt (by simpa using ho)
    have hno : (i = 0 ∧ (s[i].toNat < 97 ∨ 122 < s[i].toNat)) ∨ (i ≠ 0 ∧ ¬ ((97 ≤ s[i].toNat ∧ s[i].toNat ≤ 122) ∨ (48 ≤ s[i].toNat ∧ s[i].toNat ≤ 57) ∨ s[i].toNat = 95)) := by
     by_cases hi0 : i = 0
     ·
      subst hi0
      have h3 : ¬ (97 ≤ s[0].toNat ∧ s[0].toNat ≤ 122) := fun h => hok ⟨(okc_iff _).2 (.inl h), fun _ => (ltr_iff _).2 h⟩
      exact .inl ⟨rfl, by omega⟩
     ·
      exact .inr ⟨hi0, fun h => hok ⟨(okc_iff _).2 h, fun h => absurd h hi0⟩⟩
    clear hok
    rcases hno with ⟨rfl, k⟩ | ⟨hi0, k⟩
    ·
     rcases cls s[0].toNat with ⟨k1, k2⟩ | ⟨k1, k2⟩ | k1 | k1 | ⟨k1, k2⟩ | k1 | k1
     ·
      omega
     all_goals
      clear k
      go_wp2
      all_goals first
       | (go_ret; rw [E.out]; exact ⟨rfl, n, rfl⟩)
       | (exfalso; rename_i hx; simp only [Bool.not_eq_false', decide_eq_true_eq] at hx; omega)
    ·
     have hq0 : ((i : Int) == 0) = false := by rw [beq_eq_false_iff_ne]; omega
     rcases cls s[i].toNat with ⟨k1, k2⟩ | ⟨k1, k2⟩ | k1 | k1 | ⟨k1, k2⟩ | k1 | k1
     ·
      omega
     ·
      omega
     ·
      omega
     all_goals
      have hq : ((s[i].toNat : Int) == 95) = false := by rw [beq_eq_false_iff_ne]; omega
      clear k
      go_wp2
      all_goals first
       | (go_ret; rw [E.out]; exact ⟨rfl, n, rfl⟩)
       | (exfalso; rename_i hx; simp only [Bool.not_eq_false', decide_eq_true_eq] at hx; omega)
  ·
   have hin : i = s.size := by omega
   subst hin
   have E := hid (named_end (by omega) (by omega) ((hR.out 0 h0 h0).2 rfl) (fun j hj => (hR.out j hj hj).1))
   have HW := hid (inL_words s)
   go_wp2_with fail
   all_goals
    go_ret
    refine ⟨?_, n, rfl⟩
    rw [E.out, HW.out]
    first
     | (simp [*]; done)
     | (simp [Bool.not_or, Bool.and_assoc]; done)
end Go.Proofs.YthikijlbclckdaaGreat
namespace Go.Proofs.YthikijlbclckdaaGreat
set_option maxRecDepth 100000
set_option maxHeartbeats 40000000
set_option linter.unusedSimpArgs false
set_option linter.unusedVariables false
open Go.RowKit
structure ValV where
 k : Int
 n : Int
 s : ByteArray
def ValV.enc (v : ValV) : Value := .agg #[.int .i64 v.k, .int .i64 v.n, .string v.s]
def eS (s : ByteArray) : Bool := s.toList == []
def mayV (v : ValV) : Bool := if v.k = 3 then v.n == 0 && decide (v.s.size ≤ 1024) else if v.k = 1 then eS v.s else if v.k = 2 then (v.n == 0 || v.n == 1) && eS v.s else false
theorem may_any (v : ValV) (w : World) : Calls Tryz.prog 124 #[v.enc] w fun e w' => e = .returned (.bool (mayV v)) ∧ Below w.heap.size w w' := by
 obtain ⟨k, n, s⟩ := v
 have hb : Hid (∀ o, Below w.heap.size w (w.alloc o)) := fun o => (Below.refl _ w).alloc (Nat.le_refl _) o
 show Calls Tryz.prog 124 #[.agg #[.int .i64 k, .int .i64 n, .string s]] w _
 by_cases h2 : k = 2
 ·
  subst h2
  by_cases h0 : n = 0
  ·
   subst h0
   have E : Hid (mayV ⟨2, 0, s⟩ = (s.toList == [])) := by show _ = _; simp [mayV, eS]
   go_enter Tryz.func124, Tryz.ntmps124
   go_wp2
   go_ret
   rw [E.out]
   exact ⟨by first | rfl | (simp; done), hb.out _⟩
  ·
   have hq0 : (n != 0) = true := by rw [bne_iff_ne]; exact h0
   by_cases h1 : n = 1
   ·
    subst h1
    have E : Hid (mayV ⟨2, 1, s⟩ = (s.toList == [])) := by show _ = _; simp [mayV, eS]
    clear h0
    go_enter Tryz.func124, Tryz.ntmps124
    go_wp2
    go_ret
    rw [E.out]
    exact ⟨by first | rfl | (simp; done), hb.out _⟩
   ·
    have hq1 : (n != 1) = true := by rw [bne_iff_ne]; exact h1
    have E : Hid (mayV ⟨2, n, s⟩ = false) := by show _ = _; simp [mayV, h0, h1]
    clear h0 h1
    go_enter Tryz.func124, Tryz.ntmps124
    go_wp2
    go_ret
    rw [E.out]
    exact ⟨by first | rfl | (simp; done), hb.out _⟩
 have q2 : (k == 2) = false := beq_eq_false_iff_ne.2 h2
 by_cases h1 : k = 1
 ·
  subst h1
  have E : Hid (mayV ⟨1, n, s⟩ = (s.toList == [])) := by show _ = _; simp [mayV, eS]
  clear h2
  go_enter Tryz.func124, Tryz.ntmps124
  go_wp2
  go_ret
  rw [E.out]
  exact ⟨by first | rfl | (simp; done), hb.out _⟩
 have q1 : (k == 1) = false := beq_eq_false_iff_ne.2 h1
 by_cases h3 : k = 3
 ·
  subst h3
  have E : Hid (mayV ⟨3, n, s⟩ = (n == 0 && decide (s.size ≤ 1024))) := by show _ = _; simp [mayV]
  clear h1 h2
  by_cases h0 : n = 0
  ·
   subst h0
   go_enter Tryz.func124, Tryz.ntmps124
   go_wp2
   all_goals
    go_ret
    rw [E.out]
    refine ⟨?_, hb.out _⟩
    simp [*]
    try omega
  ·
   have hq0 : (n == 0) = false := beq_eq_false_iff_ne.2 h0
   go_enter Tryz.func124, Tryz.ntmps124
   go_wp2
   go_ret
   rw [E.out, hq0]
   exact ⟨by first | rfl | (simp; done), hb.out _⟩
 have q3 : (k == 3) = false := beq_eq_false_iff_ne.2 h3
 have E : Hid (mayV ⟨k, n, s⟩ = false) := by show _ = _; simp [mayV, h1, h2, h3]
 clear h1 h2 h3
 go_enter Tryz.func124, Tryz.ntmps124
 go_wp2
 go_ret
 rw [E.out]
 exact ⟨by first | rfl | (simp; done), hb.out _⟩
theorem rmay_any (v : ValV) (w : World) : Calls Tryz.prog 126 #[v.enc] w fun e w' => e = .returned (.bool (mayV v)) ∧ Below w.heap.size w w' := by
 obtain ⟨k, n, s⟩ := v
 have hb : Hid (∀ o, Below w.heap.size w (w.alloc o)) := fun o => (Below.refl _ w).alloc (Nat.le_refl _) o
 show Calls Tryz.prog 126 #[.agg #[.int .i64 k, .int .i64 n, .string s]] w _
 by_cases h3 : k = 3
 ·
  subst h3
  have E : Hid (mayV ⟨3, n, s⟩ = (n == 0 && decide (s.size ≤ 1024))) := by show _ = _; simp [mayV]
  by_cases h0 : n = 0
  ·
   subst h0
   go_enter Tryz.func126, Tryz.ntmps126
   go_wp2
   all_goals
    go_ret
    rw [E.out]
    refine ⟨?_, hb.out _⟩
    simp [*]
    try omega
  ·
   have hq0 : (n == 0) = false := beq_eq_false_iff_ne.2 h0
   go_enter Tryz.func126, Tryz.ntmps126
   go_wp2
   go_ret
   rw [E.out, hq0]
   exact ⟨by first | rfl | (simp; done), hb.out _⟩
 have q3 : (k == 3) = false := beq_eq_false_iff_ne.2 h3
 cases hs : (s.toList == []) with
 | false =>
  have E : Hid (mayV ⟨k, n, s⟩ = false) := by show _ = _; simp only [mayV, eS, hs, h3, if_false, Bool.and_false]; split <;> (try split) <;> rfl
  clear h3
  go_enter Tryz.func126, Tryz.ntmps126
  go_wp2
  go_ret
  rw [E.out]
  exact ⟨by first | rfl | (simp; done), hb.out _⟩
 | true =>
  by_cases h1 : k = 1
  ·
   subst h1
   have E : Hid (mayV ⟨1, n, s⟩ = true) := by show _ = _; simp [mayV, eS, hs]
   go_enter Tryz.func126, Tryz.ntmps126
   go_wp2
   go_ret
   rw [E.out]
   exact ⟨by first | rfl | (simp; done), hb.out _⟩
  have q1 : (k == 1) = false := beq_eq_false_iff_ne.2 h1
  by_cases h2 : k = 2
  ·
   subst h2
   by_cases h0 : n = 0
   ·
    subst h0
    have E : Hid (mayV ⟨2, 0, s⟩ = true) := by show _ = _; simp [mayV, eS, hs]
    go_enter Tryz.func126, Tryz.ntmps126
    go_wp2
    go_ret
    rw [E.out]
    exact ⟨by first | rfl | (simp; done), hb.out _⟩
   ·
    have hq0 : (n == 0) = false := beq_eq_false_iff_ne.2 h0
    have E : Hid (mayV ⟨2, n, s⟩ = (n == 1)) := by show _ = _; simp [mayV, eS, hs, h0]
    clear h0
    go_enter Tryz.func126, Tryz.ntmps126
    go_wp2
    go_ret
    rw [E.out]
    exact ⟨by first | rfl | (simp; done), hb.out _⟩
  have q2 : (k == 2) = false := beq_eq_false_iff_ne.2 h2
  have E : Hid (mayV ⟨k, n, s⟩ = false) := by show _ = _; simp [mayV, h1, h2, h3]
  clear h1 h2 h3
  go_enter Tryz.func126, Tryz.ntmps126
  go_wp2
  go_ret
  rw [E.out]
  exact ⟨by first | rfl | (simp; done), hb.out _⟩
end Go.Proofs.YthikijlbclckdaaGreat
namespace Go.Proofs.YthikijlbclckdaaGreat
set_option maxRecDepth 100000
set_option maxHeartbeats 40000000
set_option linter.unusedSimpArgs false
set_option linter.unusedVariables false
open Go.RowKit
def kS (k : Int) : ByteArray := ⟨#[(k % 256).toNat.toUInt8]⟩
def valS (v : ValV) : ByteArray := if mayV v then (if v.k = 3 then kS 3 ++ txS v.s else kS v.k ++ inS v.n) else ⟨#[]⟩
structure VOk (v : ValV) : Prop where
 n0 : -9223372036854775808 ≤ v.n
 n1 : v.n ≤ 9223372036854775807
 s : v.s.size ≤ 2097152
theorem kS_size (k : Int) : (kS k).size = 1 := rfl
theorem txS_size {s : ByteArray} (hs : s.size ≤ 2097152) : (txS s).size ≤ s.size + 10 := by
 unfold txS
 rw [ByteArray.size_append]
 have := uvS_size s.size
 have := Lib.uvarint_length64 (show s.size < 18446744073709551616 by omega)
 omega
theorem inS_size {n : Int} (h0 : -9223372036854775808 ≤ n) (h1 : n ≤ 9223372036854775807) : (inS n).size ≤ 10 := by
 have h1 := uvS_size (zig n)
 have h2 := Lib.uvarint_length64 (zig_lt n h0 (by assumption))
 show (uvS (zig n)).size ≤ 10
 omega
theorem one_at (W : World) (g n : Nat) (z : Int) (c : ByteArray) (hn : n < 256) (hz : z = n) (hc : c = ⟨#[n.toUInt8]⟩) (hg : W.cell? ⟨g, 0, none⟩ = some (.int .u8 z)) :
  (convert 184 9 (.slice (some ⟨g, 0, none⟩) 1 1)).run Tryz.prog W = .ok (.string c) W := by
 have h : n.toUInt8.toNat = n := by simp [Nat.toUInt8, UInt8.toNat_ofNat']; omega
 subst hz hc
 refine run_convert_bytes_back _ _ _ 5 ⟨g, 0, none⟩ 1 [n.toUInt8] Tryz.underlying184 Tryz.underlying5 Tryz.underlying9 ?_
 intro j hj
 have : j = 0 := by simp at hj; exact hj
 subst this
 simpa [h, Addr.add] using hg
theorem vbytes_any (v : ValV) (hv : VOk v) (w : World) : Calls Tryz.prog 117 #[v.enc] w fun e w' => e = .returned (.string (valS v)) ∧ Below w.heap.size w w' := by
 obtain ⟨k, n, s⟩ := v
 obtain ⟨hn0, hn1, hs⟩ := hv
 dsimp only at hn0 hn1 hs
 obtain ⟨c, hc⟩ : ∃ c : ByteArray, c = kS k := ⟨_, rfl⟩
 have hcs : c.size = 1 := by rw [hc]; rfl
 have Hc := hid hc
 clear hc
 have htx := txS_size hs
 have hin := inS_size hn0 hn1
 show Calls Tryz.prog 117 #[.agg #[.int .i64 k, .int .i64 n, .string s]] w _
 go_enter Tryz.func117, Tryz.ntmps117
 go_wp2_with fail
 let W := (w.alloc (.cells #[.int .i64 k, .int .i64 n, .string s] 175)).alloc (.cells #[.int .u8 (k % 256)] 5)
 have hW : Hid (Below w.heap.size w W) := ((Below.refl _ w).alloc (Nat.le_refl _) _).alloc (by simp) _
 have hb0 : W.heap[w.heap.size]? = some (.cells #[.int .i64 k, .int .i64 n, .string s] 175) := (alloc_old _ (by simp)).trans (alloc_new _ _)
 have k0 := cell_of hb0 0
 have k1 := cell_of hb0 1
 have k2 := cell_of hb0 2
 have hg : W.cell? ⟨w.heap.size + 1, 0, none⟩ = some (.int .u8 (k % 256)) := by
  have h := alloc_new (w.alloc (.cells #[.int .i64 k, .int .i64 n, .string s] 175)) (.cells #[.int .u8 (k % 256)] 5)
  rw [show (w.alloc (.cells #[.int .i64 k, .int .i64 n, .string s] 175)).heap.size = w.heap.size + 1 by simp] at h
  exact cell_of h 0
 rw [one_at W (w.heap.size + 1) (k % 256).toNat (k % 256) c (by omega) (by omega) Hc.out hg]
 have hlt : w.heap.size < W.heap.size := by simp [W]; omega
 clear hg hb0
 clear_value W
 simp only [Result.andThen]
 rw [Oper.upon_value]
 go_wp2_with fail
 refine (may_any ⟨k, n, s⟩ W).mono ?_
 rintro e w1 ⟨rfl, b1⟩
 have j0 := (b1.cell (p := ⟨w.heap.size, 0, none⟩) hlt).trans k0
 have j1 := (b1.cell (p := ⟨w.heap.size, 1, none⟩) hlt).trans k1
 have j2 := (b1.cell (p := ⟨w.heap.size, 2, none⟩) hlt).trans k2
 have B1 := hid (hW.out.trans (b1.mono hW.out.size))
 have hz1 := b1.size
 clear b1 k0 k1 k2
 cases hm : mayV ⟨k, n, s⟩ with
 | false =>
  have E : Hid (valS ⟨k, n, s⟩ = ⟨#[]⟩) := by show _ = _; unfold valS; rw [hm]; rfl
  clear hm
  go_wp2
  go_ret
  rw [E.out]
  exact ⟨rfl, B1.out⟩
 | true =>
  by_cases h3 : k = 3
  ·
   have E : Hid (valS ⟨k, n, s⟩ = c ++ txS s) := by show _ = _; unfold valS; rw [hm, if_pos rfl, if_pos h3, Hc.out, h3]
   have q3 : (k == 3) = true := beq_iff_eq.2 h3
   clear hm h3
   go_wp2_with fail
   refine (wtext_any s (by omega) w1).mono ?_
   rintro e w2 ⟨rfl, b2⟩
   go_wp2
   go_ret
   rw [E.out]
   exact ⟨rfl, B1.out.trans (b2.mono B1.out.size)⟩
  ·
   have E : Hid (valS ⟨k, n, s⟩ = c ++ inS n) := by show _ = _; unfold valS; rw [hm, if_pos rfl, if_neg h3, Hc.out]
   have q3 : (k == 3) = false := beq_eq_false_iff_ne.2 h3
   clear hm h3
   go_wp2_with fail
   refine (wint_in n hn0 hn1 w1).mono ?_
   rintro e w2 ⟨rfl, b2⟩
   go_wp2
   go_ret
   rw [E.out]
   exact ⟨rfl, B1.out.trans (b2.mono B1.out.size)⟩
theorem rbytes_any (v : ValV) (hv : VOk v) (w : World) : Calls Tryz.prog 122 #[v.enc] w fun e w' => e = .returned (.string (valS v)) ∧ Below w.heap.size w w' := by
 obtain ⟨k, n, s⟩ := v
 obtain ⟨hn0, hn1, hs⟩ := hv
 dsimp only at hn0 hn1 hs
 obtain ⟨c, hc⟩ : ∃ c : ByteArray, c = kS k := ⟨_, rfl⟩
 have hcs : c.size = 1 := by rw [hc]; rfl
 have Hc := hid hc
 clear hc
 have htx := txS_size hs
 have hin := inS_size hn0 hn1
 show Calls Tryz.prog 122 #[.agg #[.int .i64 k, .int .i64 n, .string s]] w _
 go_enter Tryz.func122, Tryz.ntmps122
 go_wp2_with fail
 let W := w.alloc (.cells #[.int .i64 k, .int .i64 n, .string s] 175)
 have hW : Hid (Below w.heap.size w W) := (Below.refl _ w).alloc (Nat.le_refl _) _
 have hb0 : W.heap[w.heap.size]? = some (.cells #[.int .i64 k, .int .i64 n, .string s] 175) := alloc_new _ _
 have k0 := cell_of hb0 0
 have k1 := cell_of hb0 1
 have k2 := cell_of hb0 2
 have hlt : w.heap.size < W.heap.size := by simp [W]
 clear hb0
 refine (rmay_any ⟨k, n, s⟩ W).mono ?_
 clear_value W
 rintro e w1 ⟨rfl, b1⟩
 have j0 := (b1.cell (p := ⟨w.heap.size, 0, none⟩) hlt).trans k0
 have j1 := (b1.cell (p := ⟨w.heap.size, 1, none⟩) hlt).trans k1
 have j2 := (b1.cell (p := ⟨w.heap.size, 2, none⟩) hlt).trans k2
 have B1 := hid (hW.out.trans (b1.mono hW.out.size))
 have hz1 := b1.size
 clear b1 k0 k1 k2
 cases hm : mayV ⟨k, n, s⟩ with
 | false =>
  have E : Hid (valS ⟨k, n, s⟩ = ⟨#[]⟩) := by show _ = _; unfold valS; rw [hm]; rfl
  clear hm
  go_wp2
  go_ret
  rw [E.out]
  exact ⟨rfl, B1.out⟩
 | true =>
  by_cases h3 : k = 3
  ·
   have E : Hid (valS ⟨k, n, s⟩ = ⟨#[3]⟩ ++ txS s) := by show _ = _; unfold valS; rw [hm, if_pos rfl, if_pos h3]; rfl
   have q3 : (k == 3) = true := beq_iff_eq.2 h3
   clear hm h3
   go_wp2_with fail
   refine (rtext_any s (by omega) w1).mono ?_
   rintro e w2 ⟨rfl, b2⟩
   go_wp2
   go_ret
   rw [E.out]
   exact ⟨rfl, B1.out.trans (b2.mono B1.out.size)⟩
  ·
   have E : Hid (valS ⟨k, n, s⟩ = c ++ inS n) := by show _ = _; unfold valS; rw [hm, if_pos rfl, if_neg h3, Hc.out]
   have q3 : (k == 3) = false := beq_eq_false_iff_ne.2 h3
   clear hm h3
   have hconv : ∀ (W : World) (g : Nat), W.cell? ⟨g, 0, none⟩ = some (.int .u8 (IntKind.u8.wrap k)) → (convert 184 9 (.slice (some ⟨g, 0, none⟩) 1 1)).run Tryz.prog W = .ok (.string c) W :=
    fun W g hg => one_at W g (k % 256).toNat (IntKind.u8.wrap k) c (by omega) (by rw [IntKind.wrap_u8]; omega) Hc.out hg
   have hlt1 : w.heap.size < w1.heap.size := Nat.lt_of_lt_of_le hlt hz1
   go_wp2_with fail
   go_region_with (go_at_call 121 ; refine (rint_in n hn0 hn1 _).mono ?_; rintro e w2 ⟨rfl, b2⟩; have jj := fun h => b2.cell (p := ⟨w1.heap.size, 0, none⟩) h; have hbb : Below w1.heap.size w1 w2 := (by first | exact ⟨b2.os, b2.tape, b2.output, b2.size, b2.block⟩ | exact ⟨b2.os, b2.tape, b2.output, Nat.le_trans (by simp) b2.size, fun k hk => (b2.block k (by simp; omega)).trans (alloc_old _ hk)⟩); have i0 := (hbb.cell (p := ⟨w.heap.size, 0, none⟩) hlt1).trans j0; have hbh := hid hbb; clear hbb; have hb2 := hid b2; clear b2)
   all_goals
    have X : Below w.heap.size w w2 := B1.out.trans (hbh.out.mono B1.out.size)
    have HX := hid X
    clear X
    go_wp2
    go_ret
    rw [E.out]
    first
     | exact ⟨rfl, HX.out⟩
     | exact ⟨rfl, HX.out.alloc HX.out.size _⟩
     | exact ⟨rfl, ⟨(HX.out.alloc HX.out.size _).os, (HX.out.alloc HX.out.size _).tape, (HX.out.alloc HX.out.size _).output, (HX.out.alloc HX.out.size _).size, (HX.out.alloc HX.out.size _).block⟩⟩
end Go.Proofs.YthikijlbclckdaaGreat
