/- The reference's disk: what it is in memory, and what its calls do to it. -/
import Derived.Test.YtcbjokofjmefnaaA
import Derived.Test.YtcbjokofjmefnaaProg
import Derived.KernelRfl
import Derived.WalkLawsBesides
import Derived.Lib.Hide
namespace Go.Proofs.Ytcbjokofjmefnaa
open Go.RowKit

structure FileR where
  n : ByteArray
  s : ByteArray
  t : ByteArray
structure RefV where
  F : List FileR
  power : Int
  off : Bool
def flatR (F : List FileR) : List Value := F.flatMap fun f => [.string f.n, .string f.s, .string f.t]
theorem flatR_len (F : List FileR) : (flatR F).length = F.length * 3 := by
  induction F with
  | nil => rfl
  | cons f F ih => simp only [flatR, List.flatMap_cons, List.length_append, List.length_cons, List.length_nil] at ih ⊢; omega
theorem flatR_at (F : List FileR) (i : Nat) (f : FileR) (h : F[i]? = some f) : (flatR F)[i * 3]? = some (.string f.n) ∧ (flatR F)[i * 3 + 1]? = some (.string f.s) ∧ (flatR F)[i * 3 + 2]? = some (.string f.t) := by
  induction F generalizing i with
  | nil => simp at h
  | cons g F ih =>
    cases i with
    | zero => simp at h; subst h; simp [flatR]
    | succ i =>
      have := ih i (by simpa using h)
      have e : flatR (g :: F) = [.string g.n, .string g.s, .string g.t] ++ flatR F := rfl
      rw [e]
      refine ⟨?_, ?_, ?_⟩
      · rw [List.getElem?_append_right (by simp; omega)]; simpa [Nat.succ_mul, show (i + 1) * 3 - 3 = i * 3 by omega] using this.1
      · rw [List.getElem?_append_right (by simp; omega)]; simpa [show (i + 1) * 3 + 1 - 3 = i * 3 + 1 by omega] using this.2.1
      · rw [List.getElem?_append_right (by simp; omega)]; simpa [show (i + 1) * 3 + 2 - 3 = i * 3 + 2 by omega] using this.2.2
theorem flatR_append (F G : List FileR) : flatR (F ++ G) = flatR F ++ flatR G := by simp [flatR]
theorem flatR_setT (F : List FileR) (i : Nat) (f : FileR) (h : F[i]? = some f) (x : ByteArray) : (flatR F).set (i * 3 + 2) (.string x) = flatR (F.set i { f with t := x }) := by
  induction F generalizing i with
  | nil => simp at h
  | cons g F ih =>
    cases i with
    | zero => simp at h; subst h; simp [flatR]
    | succ i =>
      have e : ∀ G, flatR (g :: G) = .string g.n :: .string g.s :: .string g.t :: flatR G := fun _ => rfl
      rw [e, show (i + 1) * 3 + 2 = i * 3 + 2 + 1 + 1 + 1 by omega, List.set_cons_succ, List.set_cons_succ, List.set_cons_succ, ih i (by simpa using h)]
      rfl
theorem flatR_setS (F : List FileR) (i : Nat) (f : FileR) (h : F[i]? = some f) (x : ByteArray) : (flatR F).set (i * 3 + 1) (.string x) = flatR (F.set i { f with s := x }) := by
  induction F generalizing i with
  | nil => simp at h
  | cons g F ih =>
    cases i with
    | zero => simp at h; subst h; simp [flatR]
    | succ i =>
      have e : ∀ G, flatR (g :: G) = .string g.n :: .string g.s :: .string g.t :: flatR G := fun _ => rfl
      rw [e, show (i + 1) * 3 + 1 = i * 3 + 1 + 1 + 1 + 1 by omega, List.set_cons_succ, List.set_cons_succ, List.set_cons_succ, ih i (by simpa using h)]
      rfl

/-- A store into a row that is owned. -/
theorem own_set {w : World} {base e size n : Nat} {g cap : Nat} {xs : List Value} (h : w.ownsRow base e size (.slice (some ⟨g, 0, none⟩) n cap) n xs) (j : Nat) (u : Value) :
    (w.setCell ⟨g, j, none⟩ u).ownsRow base e size (.slice (some ⟨g, 0, none⟩) n cap) n (xs.set j u) := by
  refine ⟨by rw [List.length_set]; exact h.1, ?_⟩
  rcases h.2 with ⟨hn, _⟩ | ⟨g', cap', cur, hv, hb, hh, hnc, hcm, hsz, htk⟩
  · cases hn
  · cases hv
    refine .inr ⟨g, cap, cur.setIfInBounds j u, rfl, hb, setCell_at hh j u, hnc, hcm, by simpa using hsz, ?_⟩
    rw [Array.toList_setIfInBounds, List.take_set, htk]
theorem own_at {w : World} {base e size n : Nat} {v : Value} {xs : List Value} (h : w.ownsRow base e size v n xs) {j : Nat} {u : Value} (hu : xs[j]? = some u) :
    ∃ g cap, v = .slice (some ⟨g, 0, none⟩) n cap ∧ base ≤ g ∧ n ≤ cap ∧ cap ≤ maxLen ∧ w.frozen? ⟨g, j, none⟩ = false ∧ ∀ i x, xs[i]? = some x → w.cell? ⟨g, i, none⟩ = some x := by
  rcases h.2 with ⟨rfl, rfl⟩ | ⟨g, cap, cur, rfl, hb, hh, hnc, hcm, hsz, htk⟩
  · have := h.1
    simp at this
    subst this
    simp at hu
  · refine ⟨g, cap, rfl, hb, hnc, hcm, free_of hh j, fun i x hx => ?_⟩
    rw [cell_of hh]
    rw [← htk, List.getElem?_take] at hx
    split at hx
    · simpa using hx
    · cases hx

/-- The reference's disk in memory: its block, its list. -/
structure IsRef (w : World) (rb : Nat) (v : Value) (r : RefV) : Prop where
  st : w.heap[rb]? = some (.cells #[v, .int .i64 r.power, .bool r.off] 50 (0, 0))
  row : w.ownsRow 0 53 3 v r.F.length (flatR r.F)
  pw : -1 ≤ r.power ∧ r.power ≤ 9223372036854775807
def OwnR (rb : Nat) (v : Value) (k : Nat) : Prop := k = rb ∨ v.ownBlock = some k
section
variable {w w' : World} {rb : Nat} {v : Value} {r : RefV}
theorem IsRef.lt (h : IsRef w rb v r) : rb < w.heap.size := heap_lt h.st
theorem IsRef.ltv (h : IsRef w rb v r) (k : Nat) (hk : v.ownBlock = some k) : k < w.heap.size := (h.row.lt k hk).2
theorem IsRef.ne (h : IsRef w rb v r) (k : Nat) (hk : v.ownBlock = some k) : k ≠ rb := by
  intro e
  subst e
  rcases h.row.2 with ⟨rfl, _⟩ | ⟨g, cap, cur, rfl, _, hh, _⟩
  · simp [Value.ownBlock] at hk
  · simp [Value.ownBlock] at hk
    subst hk
    have := h.st
    rw [hh] at this
    injection this with this
    injection this with _ ht
    exact absurd ht (by decide)
theorem IsRef.same (h : IsRef w rb v r) (h1 : w'.heap[rb]? = w.heap[rb]?) (h2 : ∀ k, v.ownBlock = some k → w'.heap[k]? = w.heap[k]?) : IsRef w' rb v r := by
  refine ⟨h1.trans h.st, ⟨h.row.1, ?_⟩, h.pw⟩
  rcases h.row.2 with hn | ⟨g, cap, cur, rfl, hb, hh, rest⟩
  · exact .inl hn
  · exact .inr ⟨g, cap, cur, rfl, hb, (h2 g rfl).trans hh, rest⟩
theorem IsRef.below (h : IsRef w rb v r) (hb : Below w.heap.size w w') : IsRef w' rb v r := h.same (hb.block _ h.lt) (fun k hk => hb.block _ (h.ltv k hk))
theorem IsRef.but {F : Nat → Prop} (h : IsRef w rb v r) (hb : But F w w') (h1 : ¬ F rb) (h2 : ∀ k, v.ownBlock = some k → ¬ F k) : IsRef w' rb v r := h.same (hb.block _ h.lt h1) (fun k hk => hb.block _ (h.ltv k hk) (h2 k hk))
theorem IsRef.alloc (h : IsRef w rb v r) (o : Obj) : IsRef (w.alloc o) rb v r := h.below ((Below.refl _ _).alloc (Nat.le_refl _) o)
theorem IsRef.drew (h : IsRef w rb v r) : IsRef w.drew rb v r := h.same rfl (fun _ _ => rfl)
theorem IsRef.drewN (h : IsRef w rb v r) (n : Nat) : IsRef (w.drewN n) rb v r := h.same rfl (fun _ _ => rfl)
theorem IsRef.c0 (h : IsRef w rb v r) : w.cell? ⟨rb, 0, none⟩ = some v := cell_of h.st 0
theorem IsRef.c1 (h : IsRef w rb v r) : w.cell? ⟨rb, 1, none⟩ = some (.int .i64 r.power) := cell_of h.st 1
theorem IsRef.c2 (h : IsRef w rb v r) : w.cell? ⟨rb, 2, none⟩ = some (.bool r.off) := cell_of h.st 2
theorem IsRef.fr (h : IsRef w rb v r) (i : Nat) : w.frozen? ⟨rb, i, none⟩ = false := free_of h.st i
theorem IsRef.setOff (h : IsRef w rb v r) (b : Bool) : IsRef (w.setCell ⟨rb, 2, none⟩ (.bool b)) rb v { r with off := b } := by
  have hs : IsRef (w.setCell ⟨rb, 2, none⟩ (.bool b)) rb v { r with off := b } := by
    refine ⟨by rw [setCell_at h.st]; rfl, ⟨h.row.1, ?_⟩, h.pw⟩
    rcases h.row.2 with hn | ⟨g, cap, cur, hv, hb, hh, rest⟩
    · exact .inl hn
    · exact .inr ⟨g, cap, cur, hv, hb, (Below.heap_setCell _ _ _ _ (h.ne g (by rw [hv]; rfl))).trans hh, rest⟩
  exact hs
theorem IsRef.setPower (h : IsRef w rb v r) (p : Int) (hp : -1 ≤ p ∧ p ≤ 9223372036854775807) : IsRef (w.setCell ⟨rb, 1, none⟩ (.int .i64 p)) rb v { r with power := p } := by
  refine ⟨by rw [setCell_at h.st]; rfl, ⟨h.row.1, ?_⟩, hp⟩
  rcases h.row.2 with hn | ⟨g, cap, cur, hv, hb, hh, rest⟩
  · exact .inl hn
  · exact .inr ⟨g, cap, cur, hv, hb, (Below.heap_setCell _ _ _ _ (h.ne g (by rw [hv]; rfl))).trans hh, rest⟩
/-- Another list. -/
theorem IsRef.setF (h : IsRef w rb v r) (v2 : Value) (F : List FileR) (hr : w.ownsRow 0 53 3 v2 F.length (flatR F)) : IsRef (w.setCell ⟨rb, 0, none⟩ v2) rb v2 { r with F := F } := by
  refine ⟨by rw [setCell_at h.st]; rfl, ⟨hr.1, ?_⟩, h.pw⟩
  rcases hr.2 with hn | ⟨g, cap, cur, hv, hb, hh, rest⟩
  · exact .inl hn
  · refine .inr ⟨g, cap, cur, hv, hb, (Below.heap_setCell _ _ _ _ ?_).trans hh, rest⟩
    intro e
    subst e
    have := h.st
    rw [hh] at this
    injection this with this
    injection this with _ ht
    exact absurd ht (by decide)
/-- A store into one of its files. -/
theorem IsRef.store {g cap j : Nat} {u : Value} {F : List FileR} (h : IsRef w rb (.slice (some ⟨g, 0, none⟩) r.F.length cap) r) (hF : (flatR r.F).set j u = flatR F) (hl : F.length = r.F.length) :
    IsRef (w.setCell ⟨g, j, none⟩ u) rb (.slice (some ⟨g, 0, none⟩) r.F.length cap) { r with F := F } := by
  refine ⟨(Below.heap_setCell _ _ _ _ (Ne.symm (h.ne g rfl))).trans h.st, ?_, h.pw⟩
  have := own_set h.row j u
  rw [hF] at this
  simpa only [hl] using this
end

/-! find -/
def rfind (F : List FileR) (k : ByteArray) : Int :=
  match F with
  | [] => -1
  | f :: F => if f.n = k then 0 else if rfind F k = -1 then -1 else rfind F k + 1
theorem rfind_ge (F : List FileR) (k : ByteArray) : -1 ≤ rfind F k ∧ rfind F k < F.length := by
  induction F with
  | nil => simp [rfind]
  | cons f F ih => simp only [rfind, List.length_cons]; split <;> (try split) <;> omega
theorem rfind_drop (F : List FileR) (k : ByteArray) (i : Nat) (f : FileR) (h : F[i]? = some f) : rfind (F.drop i) k = if f.n = k then 0 else if rfind (F.drop (i + 1)) k = -1 then -1 else rfind (F.drop (i + 1)) k + 1 := by
  have hi := (List.getElem?_eq_some_iff.1 h)
  obtain ⟨hi, he⟩ := hi
  rw [List.drop_eq_getElem_cons hi, he]
  rfl
/-- At each place i so far: nothing was found. -/
def RF (F : List FileR) (k : ByteArray) (i : Nat) : Prop := rfind F k = if rfind (F.drop i) k = -1 then -1 else rfind (F.drop i) k + i
theorem bytes_eq_iff (x y : ByteArray) : (x.toList == y.toList) = decide (x = y) := by
  by_cases h : x = y
  · subst h; simp
  · simp only [h, decide_false]
    rw [beq_eq_false_iff_ne]
    intro he
    rw [ByteArray.toList_eq, ByteArray.toList_eq] at he
    exact h (ByteArray.ext (Array.toList_inj.1 he))

set_option maxHeartbeats 1000000 in
theorem rfind_any (rb : Nat) (v : Value) (r : RefV) (k : ByteArray) (w : World) (h : IsRef w rb v r) (hF : r.F.length ≤ 1000000) :
    Calls Try.prog 42 #[.pointer (some ⟨rb, 0, none⟩), .string k] w fun e w' => e = .returned (.int .i64 (rfind r.F k)) ∧ w = w' := by
  have c0 := h.c0
  have HR := Lib.hid h.row
  clear h
  obtain ⟨a, cap, rfl⟩ : ∃ a cap, v = .slice a r.F.length cap := by
    rcases HR.out.2 with ⟨rfl, hn⟩ | ⟨g, cap, cur, rfl, _⟩
    · exact ⟨none, 0, by rw [hn]⟩
    · exact ⟨_, cap, rfl⟩
  go_enter Try.func42, Try.ntmps42
  go_wp2
  go_loop [5] (fun i => ∃ n : Nat, n ≤ r.F.length ∧ i = .int .i64 n ∧ Hid (RF r.F k n)) (fun i => r.F.length - (intOf i).toNat)
  case atStart => exact ⟨0, Nat.zero_le _, rfl, by show rfind _ _ = _; simp only [List.drop_zero, Int.natCast_zero, Int.add_zero]; split <;> first | assumption | rfl⟩
  case round =>
    obtain ⟨n, hn, rfl, hq⟩ := hrel
    by_cases hlt : n < r.F.length
    · have hfe : r.F[n]? = some r.F[n] := List.getElem?_eq_getElem hlt
      generalize r.F[n] = f at hfe
      have hfl := flatR_at r.F n f hfe
      obtain ⟨g, cap', hv, -, -, -, -, hcell⟩ := own_at HR.out hfl.1
      cases hv
      have hc := hcell _ _ hfl.1
      have hd := rfind_drop r.F k n f hfe
      have hg := rfind_ge (r.F.drop (n + 1)) k
      have HD := Lib.hid hd
      clear hfe hfl hcell hd
      have hqq := bytes_eq_iff f.n k
      by_cases he : f.n = k
      · rw [show decide (f.n = k) = true by simp [he]] at hqq
        have HE := Lib.hid he
        clear he
        go_wp2
        go_ret
        have h1 := hq.out
        unfold RF at h1
        rw [HD.out, if_pos HE.out, if_neg (by omega)] at h1
        rw [h1, Int.zero_add]
        exact ⟨rfl, rfl⟩
      · rw [show decide (f.n = k) = false by simp [he]] at hqq
        have HE := Lib.hid he
        clear he
        go_wp2
        go_round
        case rel =>
          refine ⟨n + 1, by omega, by go_num, ?_⟩
          have h1 := hq.out
          show RF r.F k (n + 1)
          unfold RF at h1 ⊢
          rw [h1, HD.out, if_neg HE.out]
          split <;> split <;> (try split) <;> omega
        case measure => simp [intOf]; omega
    · have hn' : n = r.F.length := by omega
      subst hn'
      go_wp2
      go_ret
      have h1 := hq.out
      unfold RF at h1
      rw [List.drop_length] at h1
      rw [h1]
      exact ⟨rfl, rfl⟩
end Go.Proofs.Ytcbjokofjmefnaa
