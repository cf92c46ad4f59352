/- KeepRows, KeepRises: their walks, at an argument as the row's form reads it. -/
import Derived.Test.YthikijlbclckdaaGreatKv
import Derived.Test.YthikijlbclckdaaGreatRd
namespace Go.Proofs.YthikijlbclckdaaGreat
set_option linter.unusedSimpArgs false
set_option linter.unusedVariables false
open Go.RowKit
theorem keepRows_law (s : StateV) (c : Array Value) (w : World) {S : Nat → Prop} (h : rdState.R S w (Value.agg c).cells.toList s) (hb : rdState.bulk s ≤ 2097152) :
    Calls Tryz.prog 3 #[.agg c] w fun e w' => e = .returned (.bool true) ∧ Below w.heap.size w w' := by
  obtain ⟨⟨vp, vi, vt, vj, vr, vs, vk, vl, vm, hst⟩, hok⟩ := rdState_at h hb
  exact keepRows_any s hok c.toList vp vi vt vj vr vs vk vl vm w hst
theorem keepRises_law (s : StateV) (c : Array Value) (w : World) {S : Nat → Prop} (h : rdState.R S w (Value.agg c).cells.toList s) (hb : rdState.bulk s ≤ 2097152) :
    Calls Tryz.prog 4 #[.agg c] w fun e w' => e = .returned (.bool true) ∧ Below w.heap.size w w' := by
  obtain ⟨⟨vp, vi, vt, vj, vr, vs, vk, vl, vm, hst⟩, hok⟩ := rdState_at h hb
  exact keepRises_any s hok c.toList vp vi vt vj vr vs vk vl vm w hst
end Go.Proofs.YthikijlbclckdaaGreat
