/- Keep: contracts (Ky Bd). -/
import Derived.Test.YthikijlbclckdaaGreatT19
import Derived.Test.YthikijlbclckdaaGreatT27
import Derived.Test.YthikijlbclckdaaGreatT28
namespace Go.Proofs.YthikijlbclckdaaGreat
set_option maxRecDepth 100000
set_option maxHeartbeats 40000000
set_option linter.unusedSimpArgs false
set_option linter.unusedVariables false
open Go.RowKit
def rdS (l : List RowV) : StateV := (readS l).getD state0
def rdE (l : List RowV) : Int := if (readS l).isSome then 0 else 3
theorem ReadT.is {l : List RowV} {w w' : World} {v : Value} (h : ReadT l w v w') : ∃ vp vi vt vj vr vs vk vl vm, v = .tuple #[.agg #[U (rdS l).pos, U (rdS l).done, U (rdS l).made, vp, vi, vt, vj, vr, vs, vk, vl, vm], .int .i64 (rdE l)] ∧
  StateAt w' [U (rdS l).pos, U (rdS l).done, U (rdS l).made, vp, vi, vt, vj, vr, vs, vk, vl, vm] (rdS l) vp vi vt vj vr vs vk vl vm := by
 unfold ReadT at h
 unfold rdS rdE
 cases hr : readS l with
 | none =>
  rw [hr] at h
  dsimp only at h
  exact ⟨_, _, _, _, _, _, _, _, _, h, stateAt0 w'⟩
 | some s =>
  rw [hr] at h
  dsimp only at h
  obtain ⟨cs, vp, vi, vt, vj, vr, vs, vk, vl, vm, h1, h2⟩ := h
  have h3 := h2.cells
  subst h3
  exact ⟨vp, vi, vt, vj, vr, vs, vk, vl, vm, h1, h2⟩
end Go.Proofs.YthikijlbclckdaaGreat
namespace Go.Proofs.YthikijlbclckdaaGreat
set_option maxRecDepth 100000
set_option maxHeartbeats 40000000
set_option linter.unusedSimpArgs false
set_option linter.unusedVariables false
open Go.RowKit
theorem rows_key (s : StateV) (hb : boundsB s = true) : ∀ x ∈ rows s, Sz x.1 := by
 unfold boundsB at hb
 simp only [Bool.and_eq_true, List.all_eq_true] at hb
 obtain ⟨⟨⟨⟨⟨⟨⟨⟨bp, -⟩, -⟩, -⟩, -⟩, -⟩, -⟩, -⟩, -⟩ := hb
 intro x hx
 rw [rows_eq] at hx
 unfold restL at hx
 simp only [List.mem_cons, List.mem_append, List.mem_map] at hx
 unfold Sz
 rcases hx with rfl | ⟨y, -, rfl⟩ | ⟨y, -, rfl⟩ | ⟨y, -, rfl⟩ | ⟨y, -, rfl⟩ | ⟨y, -, rfl⟩ | ⟨y, hy, rfl⟩ | ⟨y, -, rfl⟩ | ⟨y, -, rfl⟩ | ⟨y, -, rfl⟩
 ·
  show (c1 97).size ≤ _; rw [show (c1 97).size = 1 from rfl]; omega
 ·
  show (keyS _ _ _).size ≤ _; rw [keyS_sz0]; omega
 ·
  show (keyS _ _ _).size ≤ _; rw [keyS_sz0]; omega
 ·
  show (keyS _ _ _).size ≤ _; rw [keyS_sz0]; omega
 ·
  show (keyS _ _ _).size ≤ _; rw [keyS_sz1]; omega
 ·
  show (keyS _ _ _).size ≤ _; rw [keyS_sz1]; omega
 ·
  have h := bp y hy
  unfold bDep textB at h
  simp only [List.all_cons, List.all_nil, Bool.and_true, decide_eq_true_eq] at h
  show (c1 112 ++ y.id).size ≤ _
  rw [app_size, show (c1 112).size = 1 from rfl]
  omega
 ·
  show (keyS _ _ _).size ≤ _; rw [keyS_sz1]; omega
 ·
  show (keyS _ _ _).size ≤ _; rw [keyS_sz1]; omega
 ·
  show (keyS _ _ _).size ≤ _; rw [keyS_sz0]; omega
theorem rows_szs (s : StateV) (hm : mayB s = true) : ∀ x ∈ rows s, Sz x.1 ∧ Sz x.2 := by
 obtain ⟨hb, hv, -⟩ := may_rows hm
 intro x hx
 refine ⟨rows_key s hb x hx, ?_⟩
 obtain ⟨i, hi⟩ := List.mem_iff_getElem?.1 hx
 have := hv i x hi
 unfold Sz
 omega
theorem rows_tot (s : StateV) : (rows s).length = tot s + 1 := by
 rw [rows_count]
 unfold tot
 omega
end Go.Proofs.YthikijlbclckdaaGreat
