/- The disk: reading, syncing, cutting, deleting, power. -/
import Derived.Test.YtcbjokofjmefnaaD
namespace Go.Proofs.Ytcbjokofjmefnaa
open Go.RowKit

theorem find_cases (d : DiskV) (k : ByteArray) : (d.off = true ∧ findE d k = 7 ∧ findF d k = ⟨noS, 0⟩) ∨ (∃ x, d.off = false ∧ mlook d.files k = some x ∧ findE d k = 0 ∧ findF d k = x) ∨
    (d.off = false ∧ mlook d.files k = none ∧ findE d k = 5 ∧ findF d k = ⟨noS, 0⟩) := by
  cases ho : d.off with
  | true => exact .inl ⟨rfl, by simp [findE, ho], by simp [findF, ho]⟩
  | false =>
    refine .inr ?_
    cases hl : mlook d.files k with
    | none => exact .inr ⟨rfl, rfl, by simp [findE, ho, mhas, hl], by simp [findF, ho, fileOr, hl]⟩
    | some x => exact .inl ⟨x, rfl, rfl, by simp [findE, ho, mhas, hl], by simp [findF, ho, fileOr, hl]⟩

/-! Read -/
theorem read_nil (k : ByteArray) (w : World) :
    Calls Try.prog 14 #[.pointer none, .string k] w fun e w' => e = .returned (.tuple #[.string noS, .int .i64 1]) ∧ Below w.heap.size w w' := by
  go_enter Try.func14, Try.ntmps14
  go_wp2_with fail
  refine (find_nil k w).mono ?_
  rintro e w1 ⟨rfl, hb1⟩
  have Hb1 := Lib.hid hb1
  clear hb1
  go_wp2
  go_ret2
  exact ⟨rfl, Hb1.out.alloc Hb1.out.size _⟩
theorem read_any (sb mb : Nat) (d : DiskV) (k : ByteArray) (w : World) (h : IsDisk w sb mb d) :
    Calls Try.prog 14 #[.pointer (some ⟨sb, 0, none⟩), .string k] w fun e w' => e = .returned (.tuple #[.string (findF d k).b, .int .i64 (findE d k)]) ∧ Below w.heap.size w w' := by
  go_enter Try.func14, Try.ntmps14
  go_wp2_with fail
  refine (find_any sb mb d k w h).mono ?_
  rintro e w1 ⟨rfl, hb1⟩
  generalize hx : findF d k = x
  generalize hy : findE d k = y
  have Hb1 := Lib.hid hb1
  have Hx := Lib.hid hx
  have Hy := Lib.hid hy
  clear hb1 h hx hy
  go_wp2
  go_ret2
  rw [Hx.out, Hy.out]
  exact ⟨rfl, Hb1.out.alloc Hb1.out.size _⟩

/-! Sync -/
def syE (d : DiskV) (k : ByteArray) : Int := if findE d k = 0 then actE d else findE d k
def syD (d : DiskV) (k : ByteArray) : DiskV := if findE d k = 0 then chD d k ⟨(findF d k).b, (findF d k).b.size⟩ else d
theorem sync_nil (k : ByteArray) (w : World) :
    Calls Try.prog 12 #[.pointer none, .string k] w fun e w' => e = .returned (.int .i64 1) ∧ Below w.heap.size w w' := by
  go_enter Try.func12, Try.ntmps12
  go_wp2_with fail
  refine (find_nil k w).mono ?_
  rintro e w1 ⟨rfl, hb1⟩
  have Hb1 := Lib.hid hb1
  clear hb1
  go_wp2
  go_ret
  exact ⟨rfl, Hb1.out.alloc Hb1.out.size _⟩
theorem sync_any (sb mb : Nat) (d : DiskV) (k : ByteArray) (w : World) (h : IsDisk w sb mb d) :
    Calls Try.prog 12 #[.pointer (some ⟨sb, 0, none⟩), .string k] w fun e w' => e = .returned (.int .i64 (syE d k)) ∧ IsDisk w' sb mb (syD d k) ∧ But (Own sb mb) w w' := by
  go_enter Try.func12, Try.ntmps12
  go_wp2_with fail
  refine (find_any sb mb d k w h).mono ?_
  rintro e w1 ⟨rfl, hb1⟩
  have Hd1 := Lib.hid (h.below hb1)
  have Hb1 := Lib.hid hb1
  clear hb1 h
  rcases find_cases d k with ⟨_, e1, e2⟩ | ⟨x, _, _, e1, e2⟩ | ⟨_, _, e1, e2⟩
  · have E : Hid (syE d k = 7 ∧ syD d k = d) := ⟨by simp [syE, e1], by simp [syD, e1]⟩
    rw [e1, e2]
    clear e1 e2
    go_wp2
    go_ret
    rw [E.out.1, E.out.2]
    exact ⟨rfl, Hd1.out.below ((Below.refl _ _).alloc (Nat.le_refl _) _), But.of (Hb1.out.alloc Hb1.out.size _)⟩
  · have E : Hid (syE d k = actE d ∧ syD d k = chD d k ⟨x.b, x.b.size⟩) := ⟨by simp [syE, e1], by simp [syD, e1, e2]⟩
    rw [e1, e2]
    clear e1 e2
    go_wp2_with fail
    refine (change_any sb mb d k ⟨x.b, x.b.size⟩ _ (Hd1.out.below ((Below.refl _ _).alloc (Nat.le_refl _) _))).mono ?_
    rintro e w2 ⟨rfl, hd2, hb2⟩
    have Hd2 := Lib.hid hd2
    have Hb2 := Lib.hid hb2
    clear hd2 hb2
    go_wp2
    go_ret
    rw [E.out.1, E.out.2]
    exact ⟨rfl, Hd2.out, (But.of (Hb1.out.alloc Hb1.out.size _)).trans Hb2.out⟩
  · have E : Hid (syE d k = 5 ∧ syD d k = d) := ⟨by simp [syE, e1], by simp [syD, e1]⟩
    rw [e1, e2]
    clear e1 e2
    go_wp2
    go_ret
    rw [E.out.1, E.out.2]
    exact ⟨rfl, Hd1.out.below ((Below.refl _ _).alloc (Nat.le_refl _) _), But.of (Hb1.out.alloc Hb1.out.size _)⟩

/-! Off, Power, New -/
theorem off_nil (w : World) : Calls Try.prog 16 #[.pointer none] w fun e w' => e = .returned (.bool false) ∧ w = w' := by
  go_enter Try.func16, Try.ntmps16
  go_wp2
  go_ret
  exact ⟨rfl, rfl⟩
theorem off_any (sb mb : Nat) (d : DiskV) (w : World) (h : IsDisk w sb mb d) :
    Calls Try.prog 16 #[.pointer (some ⟨sb, 0, none⟩)] w fun e w' => e = .returned (.bool d.off) ∧ w = w' := by
  have c2 := h.c2
  generalize d.off = x at c2
  clear h
  go_enter Try.func16, Try.ntmps16
  go_wp2
  go_ret
  exact ⟨rfl, rfl⟩
theorem power_nil (n : Int) (w : World) : Calls Try.prog 15 #[.pointer none, .int .i64 n] w fun e w' => e = .returned (.tuple #[]) ∧ w = w' := by
  go_enter Try.func15, Try.ntmps15
  go_wp2
  go_end0
  exact ⟨rfl, rfl⟩
def poD (d : DiskV) (n : Int) : DiskV := { d with power := if -1 > n then -1 else n }
theorem power_any (sb mb : Nat) (d : DiskV) (n : Int) (w : World) (h : IsDisk w sb mb d) (hn : n ≤ 9223372036854775807) :
    Calls Try.prog 15 #[.pointer (some ⟨sb, 0, none⟩), .int .i64 n] w fun e w' => e = .returned (.tuple #[]) ∧ IsDisk w' sb mb (poD d n) ∧ But (Own sb mb) w w' := by
  have c1 := h.c1
  have f1 := h.fr 1
  have H := Lib.hid h
  clear h
  go_enter Try.func15, Try.ntmps15
  go_wp2
  all_goals go_end0
  · have E : poD d n = { d with power := -1 } := by unfold poD; rw [if_pos (by omega)]
    rw [E]
    exact ⟨rfl, H.out.setPower (-1) (by omega), (But.refl _ _).setCell (fun _ => .inl rfl) _⟩
  · have E : poD d n = { d with power := n } := by unfold poD; rw [if_neg (by omega)]
    rw [E]
    exact ⟨rfl, H.out.setPower n (by omega), (But.refl _ _).setCell (fun _ => .inl rfl) _⟩
theorem new_any (w : World) : Calls Try.prog 10 #[] w fun e w' => ∃ sb mb, e = .returned (.pointer (some ⟨sb, 0, none⟩)) ∧ IsDisk w' sb mb ⟨[], -1, false⟩ ∧ Below w.heap.size w w' ∧ w.heap.size ≤ sb ∧ w.heap.size ≤ mb := by
  have hmm := @run_makeMap Try.prog
  go_enter Try.func10, Try.ntmps10
  go_wp2
  go_ret
  refine ⟨_, w.heap.size, rfl, ⟨alloc_new2 _ _ _, (MapAt.made w FileV.enc).same (alloc_old _ (by simp)), by decide⟩, ((Below.refl _ _).alloc (Nat.le_refl _) _).alloc (by simp) _, by simp, Nat.le_refl _⟩

/-! Cut -/
def minI (a b : Int) : Int := if b < a then b else a
def cuBad (d : DiskV) (k : ByteArray) (n : Int) : Int := if findE d k = 0 then (if n < 0 ∨ ((findF d k).b.size : Int) < n then 1 else 0) else findE d k
def cuE (d : DiskV) (k : ByteArray) (n : Int) : Int := if cuBad d k n = 0 then actE d else cuBad d k n
def cuD (d : DiskV) (k : ByteArray) (n : Int) : DiskV := if cuBad d k n = 0 then chD d k ⟨(findF d k).b.extract 0 n.toNat, minI (findF d k).safe n⟩ else d
theorem cut_nil (k : ByteArray) (n : Int) (w : World) :
    Calls Try.prog 17 #[.pointer none, .string k, .int .i64 n] w fun e w' => e = .returned (.int .i64 1) ∧ Below w.heap.size w w' := by
  go_enter Try.func17, Try.ntmps17
  go_wp2_with fail
  refine (find_nil k w).mono ?_
  rintro e w1 ⟨rfl, hb1⟩
  have Hb1 := Lib.hid hb1
  clear hb1
  go_wp2
  go_ret
  exact ⟨rfl, Hb1.out.alloc Hb1.out.size _⟩
set_option maxHeartbeats 1000000 in
theorem cut_any (sb mb : Nat) (d : DiskV) (k : ByteArray) (n : Int) (w : World) (h : IsDisk w sb mb d) (hok : DOk d) :
    Calls Try.prog 17 #[.pointer (some ⟨sb, 0, none⟩), .string k, .int .i64 n] w fun e w' => e = .returned (.int .i64 (cuE d k n)) ∧ IsDisk w' sb mb (cuD d k n) ∧ But (Own sb mb) w w' := by
  go_enter Try.func17, Try.ntmps17
  go_wp2_with fail
  refine (find_any sb mb d k w h).mono ?_
  rintro e w1 ⟨rfl, hb1⟩
  have Hd1 := Lib.hid (h.below hb1)
  have Hb1 := Lib.hid hb1
  clear hb1 h
  rcases find_cases d k with ⟨_, e1, e2⟩ | ⟨x, _, hl, e1, e2⟩ | ⟨_, _, e1, e2⟩
  · have E : Hid (cuE d k n = 7 ∧ cuD d k n = d) := by
      have hb : cuBad d k n = 7 := by simp [cuBad, e1]
      exact ⟨by simp [cuE, hb], by simp [cuD, hb]⟩
    rw [e1, e2]
    clear e1 e2
    go_wp2
    go_ret
    rw [E.out.1, E.out.2]
    exact ⟨rfl, Hd1.out.below ((Below.refl _ _).alloc (Nat.le_refl _) _), But.of (Hb1.out.alloc Hb1.out.size _)⟩
  · have hx := (hok.each _ (mlook_mem hl)).1
    simp only at hx
    rw [e1, e2]
    by_cases hn : n < 0 ∨ (x.b.size : Int) < n
    · have E : Hid (cuE d k n = 1 ∧ cuD d k n = d) := by
        have hb : cuBad d k n = 1 := by unfold cuBad; rw [if_pos e1, e2, if_pos hn]
        exact ⟨by simp [cuE, hb], by simp [cuD, hb]⟩
      clear e1 e2 hl hok
      rcases hn with hn | hn
      · go_wp2
        go_ret
        rw [E.out.1, E.out.2]
        exact ⟨rfl, Hd1.out.below ((Below.refl _ _).alloc (Nat.le_refl _) _), But.of (Hb1.out.alloc Hb1.out.size _)⟩
      · have hn0 : ¬ n < 0 := by omega
        go_wp2
        go_ret
        rw [E.out.1, E.out.2]
        exact ⟨rfl, Hd1.out.below ((Below.refl _ _).alloc (Nat.le_refl _) _), But.of (Hb1.out.alloc Hb1.out.size _)⟩
    · have E : Hid (cuE d k n = actE d ∧ cuD d k n = chD d k ⟨x.b.extract 0 n.toNat, minI x.safe n⟩) := by
        have hb : cuBad d k n = 0 := by unfold cuBad; rw [if_pos e1, e2, if_neg hn]
        exact ⟨by simp [cuE, hb], by simp [cuD, hb, e2]⟩
      have h1 : 0 ≤ n := by omega
      have h2 : n ≤ (x.b.size : Int) := by omega
      clear e1 e2 hl hn hok
      obtain ⟨m, rfl⟩ := Int.eq_ofNat_of_zero_le h1
      go_wp2
      go_region
      all_goals go_wp2_with fail
      · have E2 : Hid (minI x.safe (m : Int) = (m : Int)) := by unfold minI; rw [if_pos (by omega)]; rfl
        refine (change_any sb mb d k ⟨x.b.extract 0 m, (m : Int)⟩ _ (by exact (Hd1.out.alloc _).drew)).mono ?_
        rintro e w2 ⟨rfl, hd2, hb2⟩
        have Hd2 := Lib.hid hd2
        have Hb2 := Lib.hid hb2
        clear hd2 hb2
        go_wp2
        go_ret
        rw [E.out.1, E.out.2, E2.out]
        exact ⟨rfl, Hd2.out, ((But.of (Hb1.out.alloc Hb1.out.size _)).drew).trans Hb2.out⟩
      · have E2 : Hid (minI x.safe (m : Int) = x.safe) := by unfold minI; rw [if_neg (by omega)]; rfl
        refine (change_any sb mb d k ⟨x.b.extract 0 m, x.safe⟩ _ (by exact (Hd1.out.alloc _).drew)).mono ?_
        rintro e w2 ⟨rfl, hd2, hb2⟩
        have Hd2 := Lib.hid hd2
        have Hb2 := Lib.hid hb2
        clear hd2 hb2
        go_wp2
        go_ret
        rw [E.out.1, E.out.2, E2.out]
        exact ⟨rfl, Hd2.out, ((But.of (Hb1.out.alloc Hb1.out.size _)).drew).trans Hb2.out⟩
  · have E : Hid (cuE d k n = 5 ∧ cuD d k n = d) := by
      have hb : cuBad d k n = 5 := by simp [cuBad, e1]
      exact ⟨by simp [cuE, hb], by simp [cuD, hb]⟩
    rw [e1, e2]
    clear e1 e2
    go_wp2
    go_ret
    rw [E.out.1, E.out.2]
    exact ⟨rfl, Hd1.out.below ((Below.refl _ _).alloc (Nat.le_refl _) _), But.of (Hb1.out.alloc Hb1.out.size _)⟩

/-! Delete -/
def deE (d : DiskV) (k : ByteArray) : Int := if findE d k = 0 then actE d else findE d k
def deD (d : DiskV) (k : ByteArray) : DiskV := if findE d k = 0 then (if d.power = 0 then actD d else { actD d with files := mdel d.files k }) else d
theorem delete_nil (k : ByteArray) (w : World) :
    Calls Try.prog 18 #[.pointer none, .string k] w fun e w' => e = .returned (.int .i64 1) ∧ Below w.heap.size w w' := by
  go_enter Try.func18, Try.ntmps18
  go_wp2_with fail
  refine (find_nil k w).mono ?_
  rintro e w1 ⟨rfl, hb1⟩
  have Hb1 := Lib.hid hb1
  clear hb1
  go_wp2
  go_ret
  exact ⟨rfl, Hb1.out.alloc Hb1.out.size _⟩
theorem delete_any (sb mb : Nat) (d : DiskV) (k : ByteArray) (w : World) (h : IsDisk w sb mb d) :
    Calls Try.prog 18 #[.pointer (some ⟨sb, 0, none⟩), .string k] w fun e w' => e = .returned (.int .i64 (deE d k)) ∧ IsDisk w' sb mb (deD d k) ∧ But (Own sb mb) w w' := by
  go_enter Try.func18, Try.ntmps18
  go_wp2_with fail
  refine (find_any sb mb d k w h).mono ?_
  rintro e w1 ⟨rfl, hb1⟩
  have Hd1 := Lib.hid (h.below hb1)
  have Hb1 := Lib.hid hb1
  clear hb1 h
  rcases find_cases d k with ⟨_, e1, e2⟩ | ⟨x, _, _, e1, e2⟩ | ⟨_, _, e1, e2⟩
  · have E : Hid (deE d k = 7 ∧ deD d k = d) := ⟨by simp [deE, e1], by simp [deD, e1]⟩
    rw [e1, e2]
    clear e1 e2
    go_wp2
    go_ret
    rw [E.out.1, E.out.2]
    exact ⟨rfl, Hd1.out.below ((Below.refl _ _).alloc (Nat.le_refl _) _), But.of (Hb1.out.alloc Hb1.out.size _)⟩
  · have E : Hid (deE d k = actE d ∧ deD d k = if d.power = 0 then actD d else { actD d with files := mdel d.files k }) := ⟨by simp [deE, e1], by simp [deD, e1]⟩
    rw [e1, e2]
    clear e1 e2
    go_wp2_with fail
    refine (act_any sb mb d _ (Hd1.out.below ((Below.refl _ _).alloc (Nat.le_refl _) _))).mono ?_
    rintro e w2 ⟨rfl, hd2, hb2⟩
    have c0 := hd2.c0
    by_cases h0 : d.power = 0
    · have E2 : Hid (actE d = 7) := by unfold actE; rw [if_pos h0]; rfl
      have E3 : Hid ((if d.power = 0 then actD d else { actD d with files := mdel d.files k }) = actD d) := by rw [if_pos h0]; rfl
      rw [E2.out]
      have Hd2 := Lib.hid hd2
      have Hb2 := Lib.hid hb2
      clear hd2 hb2 h0
      go_wp2
      go_ret
      rw [E.out.1, E.out.2, E2.out, E3.out]
      exact ⟨rfl, Hd2.out, (But.of (Hb1.out.alloc Hb1.out.size _)).trans Hb2.out⟩
    · have E2 : Hid (actE d = 0) := by unfold actE; rw [if_neg h0]; rfl
      have E3 : Hid ((if d.power = 0 then actD d else { actD d with files := mdel d.files k }) = { actD d with files := mdel (actD d).files k }) := by rw [if_neg h0, actD_files]; rfl
      rw [E2.out]
      obtain ⟨o, hu, hm⟩ := hd2.mp.delete (P := Try.prog) Try.underlying58 Try.underlying9 k
      have Hd2 := Lib.hid hd2
      have Hb2 := Lib.hid hb2
      have Hm := Lib.hid hm
      clear hd2 hb2 h0 hm
      go_wp2
      go_ret
      rw [E.out.1, E.out.2, E2.out, E3.out]
      exact ⟨rfl, Hd2.out.setMap o _ Hm.out, ((But.of (Hb1.out.alloc Hb1.out.size _)).trans Hb2.out).setB (fun _ => .inr rfl) o⟩
  · have E : Hid (deE d k = 5 ∧ deD d k = d) := ⟨by simp [deE, e1], by simp [deD, e1]⟩
    rw [e1, e2]
    clear e1 e2
    go_wp2
    go_ret
    rw [E.out.1, E.out.2]
    exact ⟨rfl, Hd1.out.below ((Below.refl _ _).alloc (Nat.le_refl _) _), But.of (Hb1.out.alloc Hb1.out.size _)⟩
end Go.Proofs.Ytcbjokofjmefnaa
