/- The disk's names, sorted. -/
import Derived.Test.YtcbjokofjmefnaaD
import Derived.Test.YtcbjokofjmefnaaI
namespace Go.Proofs.Ytcbjokofjmefnaa
open Go.RowKit Go.WideShapes Go.WideMaps

/-- A map's keys, rising. -/
def skeys {α : Type} (l : Fm α) : List ByteArray := ((l.map fun p => p.1.data.toList).mergeSort leB).map fun b => ⟨b.toArray⟩
theorem skeys_length {α : Type} (l : Fm α) : (skeys l).length = l.length := by simp [skeys]

section
variable {α : Type} {P : Program} {w : World} {enc : α → Value} {mb K : Nat} {m : Fm α}
def anyR (_ : Value) : Option (DataW Unit × List MemPlace) := some (.nil, [])
theorem MapAt.owns (h : MapAt w mb enc m) (hK : P.underlying K = some .string) (hm : m.length ≤ maxLen) (hk : ∀ p ∈ m, p.1.size ≤ maxLen) :
    ∃ D, w.ownsMap P K anyR mb m.length D ∧ (strKeys D).Perm (m.map fun p => p.1.data.toList) ∧ Maps.size D = m.length := by
  obtain ⟨l, ck, hb, rfl, hst⟩ := h
  have hsz : (ents enc l).size = (strip l).length := by simp [ents, strip]
  have hown : w.ownsMap P K anyR mb (strip l).length (.map (((ents enc l).toList.map (WideElems.rg P K anyR)).foldr DataW.insert [])) := by
    refine ⟨_, _, hb, ⟨by omega, hst, ?_⟩, by omega, rfl⟩
    intro x hx
    simp only [ents, List.mem_map] at hx
    obtain ⟨p, hp, rfl⟩ := hx
    exact ⟨_, WideElems.rd_mk (keyOf_string_mk hK (hk (p.1, p.2.1) (by simp only [strip, List.mem_map]; exact ⟨p, hp, rfl⟩))) (show anyR _ = some (.nil, []) from rfl)⟩
  refine ⟨_, hown, ?_, ?_⟩
  · show (((ents enc l).toList.map (WideElems.rg P K anyR)).foldr DataW.insert []).map (fun p => strOf p.1) |>.Perm _
    refine ((sorted_perm _).map _).trans ?_
    rw [List.map_map]
    refine List.Perm.of_eq ?_
    simp only [ents, strip, List.map_map]
    refine List.map_congr_left fun p hp => ?_
    have := WideElems.rg_of (WideElems.rd_mk (P := P) (k := K) (R := anyR) (born := p.2.2) (keyOf_string_mk hK (hk (p.1, p.2.1) (by simp only [strip, List.mem_map]; exact ⟨p, hp, rfl⟩))) (show anyR (enc p.2.1) = some (.nil, []) from rfl))
    simp [Function.comp_def, this, strOf]
  · show Maps.size (.map _) = _
    simp [Maps.size, length_sorted, ents, strip]
end


theorem names_any (mb : Nat) (m : Fm FileV) (w : World) (h : MapAt w mb FileV.enc m) (hm : m.length ≤ 1000000) (hk : ∀ p ∈ m, p.1.size ≤ maxLen) :
    Calls Try.prog 29 #[.map (some mb)] w fun e w' => ∃ v, e = .returned v ∧ w'.ownsRow w.heap.size 9 1 v m.length ((skeys m).map Value.string) ∧ Below w.heap.size w w' := by
  obtain ⟨D, hown, hperm, hsz⟩ := h.owns (P := Try.prog) Try.underlying9 (by unfold maxLen; omega) hk
  refine (callsIn_wide (n := 6)).1 ?_
  have hfK : Fence.wide.fn 40 := trivial
  have hfS : Fence.wide.fn 39 := trivial
  refine callsIn_of_wp Try.func29 rfl trivial ?_ rfl
  simp only [Try.ntmps29, List.size_toArray, List.length_cons, List.length_nil, Nat.reduceAdd, Nat.reduceSub, Array.replicate_succ, Array.replicate_zero, List.push_toArray, List.append_toArray, List.nil_append, List.cons_append]
  have HS := Lib.hid hsz
  have HP := Lib.hid hperm
  have hmx : Maps.size D ≤ maxLen := by rw [hsz]; unfold maxLen; omega
  have hby : Maps.size D * 16 ≤ 140737488355328 := by rw [hsz]; omega
  clear hsz hperm hk h hm
  gi_wp2_with (first
    | (gi_at_call 40; refine (Try.maps_Keys_40 _ _).mono ?_; rintro e w' ⟨rfl, rfl⟩)
    | (gi_at_call 39; refine (Try.slices_Sorted_keys_39_40 mb _ D anyR w hown hmx hby).mono ?_; rintro e w' ⟨v, ss, rfl, hS, hrow, hnil, hb⟩))
  go_ret
  have hss : (ss.mergeSort (fun x y => decide (x ≤ y))) = (m.map fun p => p.1.data.toList).mergeSort leB := mergeSort_of_perm (hS.trans HP.out)
  have hl : ss.length = m.length := by have := (hS.trans HP.out).length_eq; simpa using this
  refine ⟨v, rfl, ?_, ((Below.refl _ w).alloc (Nat.le_refl _) _).trans (hb.mono (by simp))⟩
  rw [hss, hl] at hrow
  have he : (skeys m).map Value.string = ((m.map fun p => p.1.data.toList).mergeSort leB).map Go.Proofs.encStr := by simp [skeys, Function.comp_def]
  rw [he]
  exact ownsRow_base_a hrow (by simp)

theorem Names_nil (w : World) : Calls Try.prog 24 #[.pointer none] w fun e w' => e = .returned (.slice none 0 0) ∧ w = w' := by
  go_enter Try.func24, Try.ntmps24
  go_wp2
  go_ret
  exact ⟨rfl, rfl⟩
theorem Names_any (sb mb : Nat) (d : DiskV) (w : World) (h : IsDisk w sb mb d) (hok : DOk d) :
    Calls Try.prog 24 #[.pointer (some ⟨sb, 0, none⟩)] w fun e w' => ∃ v, e = .returned v ∧ w'.ownsRow w.heap.size 9 1 v d.files.length ((skeys d.files).map Value.string) ∧ Below w.heap.size w w' := by
  have c0 := h.c0
  have H := Lib.hid h
  have HO := Lib.hid hok
  clear h hok
  go_enter Try.func24, Try.ntmps24
  go_wp2_with fail
  refine (names_any mb d.files w H.out.mp (by have := HO.out.many; omega) (fun p hp => by have := HO.out.each p hp; unfold maxLen; omega)).mono ?_
  rintro e w1 ⟨v, rfl, hrow, hb⟩
  go_wp2
  go_ret
  exact ⟨v, rfl, hrow, hb⟩
end Go.Proofs.Ytcbjokofjmefnaa
