/- The readings of this program's types. -/
import Derived.Test.YtcbjokofjmefnaaR
import Derived.Test.YtcbjokofjmefnaaProg
import Derived.KernelRfl
namespace Go.Proofs.Ytcbjokofjmefnaa
open Go.RowKit

theorem cells_string : Try.prog.cellsOf 9 = 1 := by kernel_rfl
theorem cells_int : Try.prog.cellsOf 3 = 1 := by kernel_rfl
theorem bytes_string : Try.prog.bytesOf 9 = 16 := by kernel_rfl
theorem cells_ints : Try.prog.cellsOf 30 = 1 := by kernel_rfl
theorem cells_strings : Try.prog.cellsOf 22 = 1 := by kernel_rfl
noncomputable def repStr : Rep Try.prog 9 ByteArray := Rep.str Try.underlying9 cells_string
noncomputable def repInt : Rep Try.prog 3 Int := Rep.int .i64 Try.underlying3 cells_int
noncomputable def repStrs : Rep Try.prog 22 (List ByteArray) := Rep.slice repStr Try.underlying22 cells_strings (by rw [cells_string]; exact Nat.one_pos)
noncomputable def repInts : Rep Try.prog 30 (List Int) := Rep.slice repInt Try.underlying30 cells_ints (by rw [cells_int]; exact Nat.one_pos)

theorem SR_str {S : Nat → Prop} {w : World} {v : Value} {xs : List ByteArray} (h : repStr.SR S w v xs) :
    ∃ a cap, v = .slice a xs.length cap ∧ xs.length ≤ cap ∧ cap ≤ 8796093022208 ∧ ∀ i x, xs[i]? = some x → ∃ b off, a = some ⟨b, off, none⟩ ∧ S b ∧ w.cell? ⟨b, off + i, none⟩ = some (.string x) ∧ x.size ≤ 140737488351232 := by
  obtain ⟨a, cap, hv, h1, h2, h3, h4⟩ := h
  rw [bytes_string] at h3
  refine ⟨a, cap, hv, h1, by unfold reachBytes at h3; omega, fun i x hx => ?_⟩
  obtain ⟨b, off, ha, hb, cs, ⟨rfl, hs⟩, hc⟩ := h4 i x hx
  refine ⟨b, off, ha, hb, ?_, by unfold reachBytes at hs; omega⟩
  have := hc 0 (.string x) rfl
  rwa [cells_string, Nat.mul_one] at this
theorem SR_int {S : Nat → Prop} {w : World} {v : Value} {xs : List Int} (h : repInt.SR S w v xs) :
    ∃ a cap, v = .slice a xs.length cap ∧ xs.length ≤ cap ∧ cap ≤ 140737488351232 ∧ ∀ i x, xs[i]? = some x → ∃ b off, a = some ⟨b, off, none⟩ ∧ S b ∧ w.cell? ⟨b, off + i, none⟩ = some (.int .i64 x) ∧ (Lit.int .i64 x).wf = true := by
  obtain ⟨a, cap, hv, h1, h2, h3, h4⟩ := h
  rw [show Try.prog.bytesOf 3 = 8 by kernel_rfl] at h3
  refine ⟨a, cap, hv, h1, by unfold reachBytes at h3; omega, fun i x hx => ?_⟩
  obtain ⟨b, off, ha, hb, cs, ⟨rfl, hs⟩, hc⟩ := h4 i x hx
  refine ⟨b, off, ha, hb, ?_, hs⟩
  have := hc 0 (.int .i64 x) rfl
  rwa [cells_int, Nat.mul_one] at this
/-- Ints that are read, as cells. -/
theorem SR_ints {S : Nat → Prop} {w : World} {v : Value} {xs : List Int} (h : repInt.SR S w v xs) : SlR w v (xs.map (Value.int .i64)) := by
  obtain ⟨a, cap, rfl, h1, h2, h3⟩ := SR_int h
  refine ⟨a, cap, by simp, by simp; unfold maxLen; omega, by simpa using h1, fun i u hu => ?_⟩
  simp only [List.getElem?_map, Option.map_eq_some_iff] at hu
  obtain ⟨x, hx, rfl⟩ := hu
  obtain ⟨b, off, ha, _, hc, _⟩ := h3 i x hx
  exact ⟨b, off, ha, hc⟩
end Go.Proofs.Ytcbjokofjmefnaa
