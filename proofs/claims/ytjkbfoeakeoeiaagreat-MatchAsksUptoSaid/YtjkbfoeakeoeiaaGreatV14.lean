/- Keep: contracts (By). -/
import Derived.Test.YtjkbfoeakeoeiaaGreatV9
namespace Go.Proofs.YtjkbfoeakeoeiaaGreat
set_option maxRecDepth 100000
set_option maxHeartbeats 40000000
set_option linter.unusedSimpArgs false
set_option linter.unusedVariables false
open Go.RowKit
section
variable {P : Program} {c : Code} {Q : Exit → Act → World → Prop} {a : Act} {W : World} {b i1 i2 i3 i4 : Nat} {cs : Array Value} {v1 v2 v3 v4 : Value} {T : TypeId}
theorem wp_set2 (h : W.heap[b]? = some (.cells cs T (0, 0)))
    (k : ∀ W', W'.heap[b]? = some (.cells ((cs.setIfInBounds i1 v1).setIfInBounds i2 v2) T (0, 0)) → Hid (But (fun i => i = b) W W') → c.wp P Q a W') : c.wp P Q a ((W.setCell ⟨b, i1, none⟩ v1).setCell ⟨b, i2, none⟩ v2) :=
  k _ (setCell_at (setCell_at h i1 v1) i2 v2) ((set_but W b i1 v1).trans (set_but _ b i2 v2))
theorem wp_set3 (h : W.heap[b]? = some (.cells cs T (0, 0)))
    (k : ∀ W', W'.heap[b]? = some (.cells (((cs.setIfInBounds i1 v1).setIfInBounds i2 v2).setIfInBounds i3 v3) T (0, 0)) → Hid (But (fun i => i = b) W W') → c.wp P Q a W') : c.wp P Q a (((W.setCell ⟨b, i1, none⟩ v1).setCell ⟨b, i2, none⟩ v2).setCell ⟨b, i3, none⟩ v3) :=
  k _ (setCell_at (setCell_at (setCell_at h i1 v1) i2 v2) i3 v3) (((set_but W b i1 v1).trans (set_but _ b i2 v2)).trans (set_but _ b i3 v3))
theorem wp_set4 (h : W.heap[b]? = some (.cells cs T (0, 0)))
    (k : ∀ W', W'.heap[b]? = some (.cells ((((cs.setIfInBounds i1 v1).setIfInBounds i2 v2).setIfInBounds i3 v3).setIfInBounds i4 v4) T (0, 0)) → Hid (But (fun i => i = b) W W') → c.wp P Q a W') : c.wp P Q a ((((W.setCell ⟨b, i1, none⟩ v1).setCell ⟨b, i2, none⟩ v2).setCell ⟨b, i3, none⟩ v3).setCell ⟨b, i4, none⟩ v4) :=
  k _ (setCell_at (setCell_at (setCell_at (setCell_at h i1 v1) i2 v2) i3 v3) i4 v4) ((((set_but W b i1 v1).trans (set_but _ b i2 v2)).trans (set_but _ b i3 v3)).trans (set_but _ b i4 v4))
end
end Go.Proofs.YtjkbfoeakeoeiaaGreat
