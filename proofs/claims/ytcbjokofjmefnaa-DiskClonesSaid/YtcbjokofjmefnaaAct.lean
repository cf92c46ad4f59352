/- The acts' list, read. -/
import Derived.Test.YtcbjokofjmefnaaZ
import Derived.Test.YtcbjokofjmefnaaT
import Derived.Test.YtcbjokofjmefnaaS
namespace Go.Proofs.Ytcbjokofjmefnaa
open Go.RowKit

abbrev ActT : Type := Int × Int × ByteArray × ByteArray × List Int × Unit
theorem cells_act : Try.prog.cellsOf 44 = 5 := by kernel_rfl
theorem cells_acts : Try.prog.cellsOf 40 = 1 := by kernel_rfl
noncomputable def repAct : Rep Try.prog 44 ActT :=
  Rep.struct Try.underlying44 (Fl.cons repInt (Fl.cons repInt (Fl.cons repStr (Fl.cons repStr (Fl.cons repInts (Fl.nil _)))))) id
noncomputable def repActs : Rep Try.prog 40 (List ActT) := Rep.slice repAct Try.underlying40 cells_acts (by rw [cells_act]; omega)
/-- One act, as it lies. -/
structure ActAt (S : Nat → Prop) (w : World) (cs : List Value) (x : ActT) (kv : Value) : Prop where
  cs_eq : cs = [.int .i64 x.1, .int .i64 x.2.1, .string x.2.2.1, .string x.2.2.2.1, kv]
  keep : repInt.SR S w kv x.2.2.2.2.1
  n : x.2.1 ≤ 9223372036854775807
  s : x.2.2.2.1.size ≤ 140737488351232
set_option maxRecDepth 100000 in
theorem open_act {S : Nat → Prop} {w : World} {cs : List Value} {x : ActT} (h : repAct.R S w cs x) : ∃ kv, ActAt S w cs x kv := by
  obtain ⟨hl, y, ⟨h0, h1, h2, h3, h4, _⟩, rfl⟩ := h
  rw [cells_act] at hl
  match cs, hl with
  | [c0, c1, c2, c3, c4], _ =>
    obtain ⟨h0, -⟩ := h0
    obtain ⟨h1, b1⟩ := h1
    obtain ⟨h2, b2⟩ := h2
    obtain ⟨h3, b3⟩ := h3
    obtain ⟨kv, h4, hk⟩ := h4
    simp only [cells_string, cells_int, cells_ints, List.drop_succ_cons, List.drop_zero, List.take_succ_cons, List.take_zero, List.cons.injEq, and_true] at h0 h1 h2 h3 h4
    subst h0 h1 h2 h3 h4
    refine ⟨c4, rfl, hk, ?_, b3⟩
    simp [Lit.wf, IntKind.min, IntKind.max, IntKind.signed, IntKind.bits] at b1
    exact b1.2
theorem SR_act {S : Nat → Prop} {w : World} {v : Value} {xs : List ActT} (h : repAct.SR S w v xs) :
    ∃ a cap, v = .slice a xs.length cap ∧ xs.length ≤ cap ∧ cap ≤ 140737488351232 ∧ ∀ i x, xs[i]? = some x → ∃ b off kv, a = some ⟨b, off, none⟩ ∧ S b ∧
      w.cell? ⟨b, off + i * 5, none⟩ = some (.int .i64 x.1) ∧ w.cell? ⟨b, off + i * 5 + 1, none⟩ = some (.int .i64 x.2.1) ∧ w.cell? ⟨b, off + i * 5 + 2, none⟩ = some (.string x.2.2.1) ∧ w.cell? ⟨b, off + i * 5 + 3, none⟩ = some (.string x.2.2.2.1) ∧ w.cell? ⟨b, off + i * 5 + 4, none⟩ = some kv ∧
      repInt.SR S w kv x.2.2.2.2.1 ∧ x.2.1 ≤ 9223372036854775807 ∧ x.2.2.2.1.size ≤ 140737488351232 := by
  obtain ⟨a, cap, hv, h1, h2, h3, h4⟩ := h
  have hb : Try.prog.bytesOf 44 = 72 := by kernel_rfl
  rw [hb] at h3
  refine ⟨a, cap, hv, h1, by unfold reachBytes at h3; omega, fun i x hx => ?_⟩
  obtain ⟨b, off, ha, hb, cs, hr, hc⟩ := h4 i x hx
  obtain ⟨kv, hA⟩ := open_act hr
  have e := hA.cs_eq
  subst e
  rw [cells_act] at hc
  refine ⟨b, off, kv, ha, hb, ?_, ?_, ?_, ?_, ?_, hA.keep, hA.n, hA.s⟩
  · exact hc 0 _ rfl
  · exact hc 1 _ rfl
  · exact hc 2 _ rfl
  · exact hc 3 _ rfl
  · exact hc 4 _ rfl
end Go.Proofs.Ytcbjokofjmefnaa
