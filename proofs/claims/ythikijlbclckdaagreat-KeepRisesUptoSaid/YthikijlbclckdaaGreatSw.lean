/- The library's builder of texts: what WriteString does to one that the call has made. No condition but the lengths'. -/
import Derived.Test.YthikijlbclckdaaGreatA
import Derived.Test.YthikijlbclckdaaGreatProg
import Derived.Lib.FrozenHead
import Derived.Lib.UnsafeStr
import Derived.Lib.Builder
namespace Go.Proofs.YthikijlbclckdaaGreat
set_option linter.unusedSimpArgs false
set_option linter.unusedVariables false
open Go.RowKit

abbrev IsB (B b : Nat) (s : ByteArray) (w : World) : Prop := Lib.IsBuilderF 186 5 B b (Lib.strCells s) w
theorem strCells_add (s t : ByteArray) : Lib.strCells (s ++ t) = Lib.strCells s ++ Lib.strCells t := by
  simp [Lib.strCells]
theorem info_builder : (Tryz.prog.info? 186).map (·.size) = some 2 := by kernel_rfl
theorem info_byte : (Tryz.prog.info? 5).map (fun i => (i.zero, i.size, i.bytes)) = some (some (.int .u8 0), 1, 1) := by kernel_rfl
set_option maxRecDepth 100000 in
set_option maxHeartbeats 2000000 in
theorem copyCheck_any (B b : Nat) (bs : List Value) (w : World) (h : Lib.IsBuilderF 186 5 B b bs w) :
    Calls Tryz.prog 137 #[.pointer (some ⟨b, 0, none⟩)] w fun e w' => e = .returned (.tuple #[]) ∧ Lib.BuilderAtF 186 5 B b (.pointer (some ⟨b, 0, none⟩)) bs w' ∧ Below B w w' := by
  obtain ⟨j, hj, hjs⟩ := Option.map_eq_some_iff.1 info_builder
  have Hj := Lib.hid hj
  have Hjs := Lib.hid hjs
  clear hj hjs
  rcases h with h | h
  · have hc := h.cell0
    have hf := h.frozen0
    have Hs := Lib.hid h.shape
    have hu := Lib.hid (h.used (.pointer (some ⟨b, 0, none⟩)))
    have hB := h.1
    clear h
    go_enter Tryz.func137, Tryz.ntmps137
    go_wp2
    rw [Lib.run_to_unsafe w ⟨b, 0, none⟩ Tryz.underlying183 Tryz.underlying223 Hj.out (by rw [Hjs.out]; decide) Hs.out (Nat.zero_lt_succ 1)]
    simp only [Result.andThen]
    rw [Oper.upon_value]
    go_wp2
    rw [run_callFunc_extern Tryz.func154 (by kernel_rfl) (by kernel_rfl) (by kernel_rfl) (e := Extern.AbiNoEscape.same) (by kernel_rfl)]
    rw [Lib.run_noEscape]
    simp only [Result.andThen]
    rw [Oper.upon_value]
    go_wp2
    rw [Lib.run_from_unsafe w ⟨b, 0, none⟩ Tryz.underlying223 Tryz.underlying183 Hj.out Hs.out (by kernel_rfl)]
    simp only [Result.andThen]
    rw [Oper.upon_value]
    go_wp2
    go_end0
    exact ⟨rfl, hu.out, (Below.refl B w).setCell (p := ⟨b, 0, none⟩) hB _⟩
  · have hc := h.cell0
    have H := Lib.hid h
    clear h
    go_enter Tryz.func137, Tryz.ntmps137
    go_wp2
    rw [Lib.run_neq_ptr_same w _ Tryz.underlying183 Hj.out]
    go_wp2
    go_end0
    exact ⟨rfl, H.out, Below.refl B w⟩
set_option maxRecDepth 100000 in
set_option maxHeartbeats 2000000 in
theorem wstr_any (B b : Nat) (t s : ByteArray) (w : World) (h : IsB B b t w) (hlen : t.size + s.size ≤ 140737488355328) (hBw : B ≤ w.heap.size) :
    Calls Tryz.prog 116 #[.pointer (some ⟨b, 0, none⟩), .string s] w fun e w' => e = .returned (.tuple #[.int .i64 s.size, .nilIface]) ∧ IsB B b (t ++ s) w' ∧ Below B w w' := by
  obtain ⟨i0, hi, hz0, hz1, hz2⟩ := info_parts info_byte
  have H := Lib.hid h
  clear h
  go_enter Tryz.func116, Tryz.ntmps116
  go_wp2_with (go_at_call 137; refine (copyCheck_any B b _ w H.out).mono ?_)
  rintro e w1 ⟨rfl, ⟨hB, v, hbk, hown, hne⟩, hb1⟩
  have c0 : w1.cell? ⟨b, 0, none⟩ = some (.pointer (some ⟨b, 0, none⟩)) := by rw [Lib.cell_of_heap hbk]; rfl
  have c1 : w1.cell? ⟨b, 1, none⟩ = some v := by rw [Lib.cell_of_heap hbk]; rfl
  have hz := hb1.size
  go_wp2_with (at_builtin; refine Lib.wpList_append_own_stringF _ rfl _ _ 184 9 rfl B 5 i0 Tryz.underlying184 Tryz.underlying9 hi hz0 hz1 hz2 _ _ _ rfl hown s rfl ?c3 ?c4 ?c5 ?_)
  case c3 => unfold maxLen; simp only [Lib.strCells_length]; omega
  case c4 => simp only [Lib.strCells_length]; omega
  case c5 => omega
  intro v' w2 hown' hgrow _
  have hlt := heap_lt hbk
  have hb2 : w2.heap[b]? = some (.cells #[.pointer (some ⟨b, 0, none⟩), v] 186 (0, 0)) := by
    rw [hgrow.block b hlt (fun e => hne e.symm)]
    exact hbk
  have d0 : w2.cell? ⟨b, 0, none⟩ = some (.pointer (some ⟨b, 0, none⟩)) := by rw [Lib.cell_of_heap hb2]; rfl
  have d1 : w2.cell? ⟨b, 1, none⟩ = some v := by rw [Lib.cell_of_heap hb2]; rfl
  have f1 : w2.frozen? ⟨b, 1, none⟩ = false := Lib.frozen_of_heap hb2 1
  obtain ⟨ao, n', cap, rfl⟩ : ∃ ao n' cap, v' = .slice ao n' cap := by
    rcases hown'.2 with ⟨hv, _⟩ | ⟨g, cap, cur, fz, hv, _⟩
    · exact ⟨_, _, _, hv⟩
    · exact ⟨_, _, _, hv⟩
  have hnew : Hid (IsB B b (t ++ s) (w2.setCell ⟨b, 1, none⟩ (.slice ao n' cap))) := .inr (by
    rw [strCells_add]
    exact Lib.BuilderAtF.put (T := 186) (e := 5) hB hb2 (bs' := Lib.strCells t ++ Lib.strCells s) (by simpa [Lib.strCells_length] using hown') (by decide))
  have hbel : Hid (Below B w (w2.setCell ⟨b, 1, none⟩ (.slice ao n' cap))) := (hb1.grown hgrow (by omega) (fun k hk => (hown.lt k hk).1)).setCell (p := ⟨b, 1, none⟩) hB _
  go_wp2
  go_ret2
  exact ⟨rfl, hnew.out, hbel.out⟩
theorem Lib_at_grow {T e : TypeId} {B b : Nat} {p : Value} {bs : List Value} {w w' : World} (h : Lib.BuilderAtF T e B b p bs w) (hb : Below w.heap.size w w') : Lib.BuilderAtF T e B b p bs w' := by
  obtain ⟨hB, v, hh, hown, hne⟩ := h
  refine ⟨hB, v, (hb.block b (heap_lt hh)).trans hh, ⟨hown.1, ?_⟩, hne⟩
  rcases hown.2 with hn | ⟨g, cap, cur, fz, hv, hg, hh2, r⟩
  · exact .inl hn
  · exact .inr ⟨g, cap, cur, fz, hv, hg, (hb.block g (heap_lt hh2)).trans hh2, r⟩
theorem IsB.grow {B b : Nat} {s : ByteArray} {w w' : World} (h : IsB B b s w) (hb : Below w.heap.size w w') : IsB B b s w' :=
  h.elim (fun x => .inl (Lib_at_grow x hb)) (fun x => .inr (Lib_at_grow x hb))
end Go.Proofs.YthikijlbclckdaaGreat
