/- Values and variables. -/
import Derived.Test.YthikijlbclckdaaGreatKc
import Derived.Deep.QuietTactic
import Derived.BigQuiet
namespace Go.Proofs.YthikijlbclckdaaGreat
set_option linter.unusedSimpArgs false
set_option linter.unusedVariables false
open Go.RowKit

structure ValV where
  k : Int
  n : Int
  s : ByteArray
def ValV.enc (v : ValV) : Value := .agg #[.int .i64 v.k, .int .i64 v.n, .string v.s]
def eS (s : ByteArray) : Bool := s.toList == []
/-- May a value be? -/
def mayV (v : ValV) : Bool := if v.k = 3 then v.n == 0 && decide (v.s.size ≤ 1024) else if v.k = 1 then eS v.s else if v.k = 2 then (v.n == 0 || v.n == 1) && eS v.s else false
set_option maxHeartbeats 2000000 in
theorem may_any (v : ValV) (w : World) : Calls Tryz.prog 124 #[v.enc] w fun e w' => e = .returned (.bool (mayV v)) ∧ Below w.heap.size w w' := by
  obtain ⟨k, n, s⟩ := v
  have hb : Hid (∀ o, Below w.heap.size w (w.alloc o)) := fun o => (Below.refl _ w).alloc (Nat.le_refl _) o
  show Calls Tryz.prog 124 #[.agg #[.int .i64 k, .int .i64 n, .string s]] w _
  by_cases h2 : k = 2
  · subst h2
    by_cases h0 : n = 0
    · subst h0
      have E : Hid (mayV ⟨2, 0, s⟩ = (s.toList == [])) := by show _ = _; simp [mayV, eS]
      go_enter Tryz.func124, Tryz.ntmps124
      go_wp2
      go_ret
      rw [E.out]
      exact ⟨by first | rfl | (simp; done), hb.out _⟩
    · have hq0 : (n != 0) = true := by rw [bne_iff_ne]; exact h0
      by_cases h1 : n = 1
      · subst h1
        have E : Hid (mayV ⟨2, 1, s⟩ = (s.toList == [])) := by show _ = _; simp [mayV, eS]
        clear h0
        go_enter Tryz.func124, Tryz.ntmps124
        go_wp2
        go_ret
        rw [E.out]
        exact ⟨by first | rfl | (simp; done), hb.out _⟩
      · have hq1 : (n != 1) = true := by rw [bne_iff_ne]; exact h1
        have E : Hid (mayV ⟨2, n, s⟩ = false) := by show _ = _; simp [mayV, h0, h1]
        clear h0 h1
        go_enter Tryz.func124, Tryz.ntmps124
        go_wp2
        go_ret
        rw [E.out]
        exact ⟨by first | rfl | (simp; done), hb.out _⟩
  have q2 : (k == 2) = false := beq_eq_false_iff_ne.2 h2
  by_cases h1 : k = 1
  · subst h1
    have E : Hid (mayV ⟨1, n, s⟩ = (s.toList == [])) := by show _ = _; simp [mayV, eS]
    clear h2
    go_enter Tryz.func124, Tryz.ntmps124
    go_wp2
    go_ret
    rw [E.out]
    exact ⟨by first | rfl | (simp; done), hb.out _⟩
  have q1 : (k == 1) = false := beq_eq_false_iff_ne.2 h1
  by_cases h3 : k = 3
  · subst h3
    have E : Hid (mayV ⟨3, n, s⟩ = (n == 0 && decide (s.size ≤ 1024))) := by show _ = _; simp [mayV]
    clear h1 h2
    by_cases h0 : n = 0
    · subst h0
      go_enter Tryz.func124, Tryz.ntmps124
      go_wp2
      all_goals
        go_ret
        rw [E.out]
        refine ⟨?_, hb.out _⟩
        simp [*]
        try omega
    · have hq0 : (n == 0) = false := beq_eq_false_iff_ne.2 h0
      go_enter Tryz.func124, Tryz.ntmps124
      go_wp2
      go_ret
      rw [E.out, hq0]
      exact ⟨by first | rfl | (simp; done), hb.out _⟩
  have q3 : (k == 3) = false := beq_eq_false_iff_ne.2 h3
  have E : Hid (mayV ⟨k, n, s⟩ = false) := by show _ = _; simp [mayV, h1, h2, h3]
  clear h1 h2 h3
  go_enter Tryz.func124, Tryz.ntmps124
  go_wp2
  go_ret
  rw [E.out]
  exact ⟨by first | rfl | (simp; done), hb.out _⟩
set_option maxHeartbeats 2000000 in
theorem rmay_any (v : ValV) (w : World) : Calls Tryz.prog 126 #[v.enc] w fun e w' => e = .returned (.bool (mayV v)) ∧ Below w.heap.size w w' := by
  obtain ⟨k, n, s⟩ := v
  have hb : Hid (∀ o, Below w.heap.size w (w.alloc o)) := fun o => (Below.refl _ w).alloc (Nat.le_refl _) o
  show Calls Tryz.prog 126 #[.agg #[.int .i64 k, .int .i64 n, .string s]] w _
  by_cases h3 : k = 3
  · subst h3
    have E : Hid (mayV ⟨3, n, s⟩ = (n == 0 && decide (s.size ≤ 1024))) := by show _ = _; simp [mayV]
    by_cases h0 : n = 0
    · subst h0
      go_enter Tryz.func126, Tryz.ntmps126
      go_wp2
      all_goals
        go_ret
        rw [E.out]
        refine ⟨?_, hb.out _⟩
        simp [*]
        try omega
    · have hq0 : (n == 0) = false := beq_eq_false_iff_ne.2 h0
      go_enter Tryz.func126, Tryz.ntmps126
      go_wp2
      go_ret
      rw [E.out, hq0]
      exact ⟨by first | rfl | (simp; done), hb.out _⟩
  have q3 : (k == 3) = false := beq_eq_false_iff_ne.2 h3
  cases hs : (s.toList == []) with
  | false =>
    have E : Hid (mayV ⟨k, n, s⟩ = false) := by show _ = _; simp only [mayV, eS, hs, h3, if_false, Bool.and_false]; split <;> (try split) <;> rfl
    clear h3
    go_enter Tryz.func126, Tryz.ntmps126
    go_wp2
    go_ret
    rw [E.out]
    exact ⟨by first | rfl | (simp; done), hb.out _⟩
  | true =>
    by_cases h1 : k = 1
    · subst h1
      have E : Hid (mayV ⟨1, n, s⟩ = true) := by show _ = _; simp [mayV, eS, hs]
      go_enter Tryz.func126, Tryz.ntmps126
      go_wp2
      go_ret
      rw [E.out]
      exact ⟨by first | rfl | (simp; done), hb.out _⟩
    have q1 : (k == 1) = false := beq_eq_false_iff_ne.2 h1
    by_cases h2 : k = 2
    · subst h2
      by_cases h0 : n = 0
      · subst h0
        have E : Hid (mayV ⟨2, 0, s⟩ = true) := by show _ = _; simp [mayV, eS, hs]
        go_enter Tryz.func126, Tryz.ntmps126
        go_wp2
        go_ret
        rw [E.out]
        exact ⟨by first | rfl | (simp; done), hb.out _⟩
      · have hq0 : (n == 0) = false := beq_eq_false_iff_ne.2 h0
        have E : Hid (mayV ⟨2, n, s⟩ = (n == 1)) := by show _ = _; simp [mayV, eS, hs, h0]
        clear h0
        go_enter Tryz.func126, Tryz.ntmps126
        go_wp2
        go_ret
        rw [E.out]
        exact ⟨by first | rfl | (simp; done), hb.out _⟩
    have q2 : (k == 2) = false := beq_eq_false_iff_ne.2 h2
    have E : Hid (mayV ⟨k, n, s⟩ = false) := by show _ = _; simp [mayV, h1, h2, h3]
    clear h1 h2 h3
    go_enter Tryz.func126, Tryz.ntmps126
    go_wp2
    go_ret
    rw [E.out]
    exact ⟨by first | rfl | (simp; done), hb.out _⟩
end Go.Proofs.YthikijlbclckdaaGreat
