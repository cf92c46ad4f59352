/- The reference's disk: Clone. -/
import Derived.Test.YtcbjokofjmefnaaU
import Derived.Deep.RegionLawGrows
namespace Go.Proofs.Ytcbjokofjmefnaa
open Go.RowKit

theorem flatR_one (F : List FileR) : ∀ u ∈ flatR F, u.oneCell' = true := by
  intro u hu
  simp only [flatR, List.mem_flatMap, List.mem_cons, List.not_mem_nil, or_false] at hu
  obtain ⟨f, -, rfl | rfl | rfl⟩ := hu <;> rfl
theorem run_app_none {P : Program} (w : World) (t ty e : TypeId) (i : TypeInfo) (ht : P.underlying t = some (.slice e)) (hi : P.info? e = some i) (ao : Option Addr) (cap : Nat) :
    (Builtin.append_ #[t, t] ty #[.slice none 0 0, .slice ao 0 cap]).run P w = .ok (.slice none 0 0) w := by
  cases ao with
  | none => simp [Builtin.append_, run_underlying ht, sizeOf, typeInfo, hi, Builtin.lenOf, Builtin.firstCells, go_sem, Result.andThen]
  | some b =>
    simp [Builtin.append_, run_underlying ht, sizeOf, typeInfo, hi, Builtin.lenOf, go_sem, Result.andThen]
/-- An append onto nil, of a list that lies somewhere. -/
theorem step_app_nil {ops : Array Oper} {o : Oper} {a : Act} {w : World} {K : Act → World → Prop} {Q : Exit → Act → World → Prop} {E : Prop} (F : List FileR) (ao : Option Addr) (cap : Nat)
    (hg : o.guard = none) (s x : Operand) (hop : o.op = Op.call { callee := Callee.builtin Builtin.append, args := #[s, x], argTypes := #[48, 48] })
    (hs : a.eval s = .slice none 0 0) (hx : a.eval x = .slice ao F.length cap) (hr : w.ownsRow 0 53 3 (.slice ao F.length cap) F.length (flatR F)) (hF : F.length ≤ 256)
    (hK : ∀ ao' cap' w', w'.ownsRow w.heap.size 53 3 (.slice ao' F.length cap') F.length (flatR F) → w.grownBy w' none → K (a.put o.dst (.slice ao' F.length cap')) w') :
    if Region.wanted o (yielded ops a.tmps) = true then Oper.wp Try.prog o a w K Q else E := by
  obtain ⟨i0, hi, hz0, hz1, hz2⟩ := info_parts info_file
  by_cases hF0 : F = []
  · subst hF0
    have hw : Region.wanted o (yielded ops a.tmps) = true := by simp [Region.wanted, hg]
    rw [if_pos hw]
    have hrun := run_app_none (P := Try.prog) w 48 o.type 53 i0 Try.underlying48 hi ao cap
    have hK' := hK none 0 w (World.ownsRow_nil _ _ _ _) (World.grownBy.refl _ _)
    simp only [List.length_nil] at hx hK'
    unfold Oper.wp
    simp [execOp, hop, resolve, invoke, builtin, hs, hx, hrun, Result.andThen]
    exact hK'
  · have hpos : 0 < F.length := List.length_pos_iff.2 hF0
    rcases hr.2 with ⟨hv, hn⟩ | ⟨g, cap2, cur, hv, -, hh, hnc, hcm, hsz, htk⟩
    · omega
    · cases hv
      refine step_append_grows hg s x 48 hop 53 i0 _ 3 48 Try.underlying48 hi hz0 hz1 hz2 rfl (by decide) none 0 0 [] hs (fun _ => ⟨rfl, rfl⟩) rfl (by simp) ⟨g, 0, none⟩ F.length cap (flatR F) hx (flatR_len F) ?_ (flatR_one F) (by omega) (by unfold maxLen; omega) (by omega) ?_
      · intro j u hu
        have := own_at hr hu
        obtain ⟨g', cap', hv, -, -, -, -, hcell⟩ := this
        cases hv
        have := hcell j u hu
        have e : (⟨g, 0, none⟩ : Addr).add j = ⟨g, j, none⟩ := by
          by_cases hj : j = 0 <;> simp [Addr.add, hj]
        rw [e]
        exact this
      · intro v' w' h1 h2
        rw [Nat.zero_add] at h1
        obtain ⟨a', c', rfl⟩ := own_slice h1
        exact hK a' c' w' h1 h2

set_option maxHeartbeats 1000000 in
theorem rclone_any (rb : Nat) (v : Value) (r : RefV) (w : World) (h : IsRef w rb v r) (hF : r.F.length ≤ 256) :
    Calls Try.prog 21 #[.pointer (some ⟨rb, 0, none⟩)] w fun e w' => ∃ rb' v', e = .returned (.pointer (some ⟨rb', 0, none⟩)) ∧ IsRef w' rb' v' r ∧ w.heap.size ≤ rb' ∧ (∀ k, v'.ownBlock = some k → w.heap.size ≤ k) ∧ Below w.heap.size w w' := by
  obtain ⟨a, cap, rfl⟩ := own_slice h.row
  have c0 := h.c0
  have c1 := h.c1
  have c2 := h.c2
  have hrl := h.lt
  have H := Lib.hid h
  clear h
  go_enter Try.func21, Try.ntmps21
  go_wp2_with fail
  go_region
  go_wp2_with fail
  have hd : IsRef ((w.alloc (.cells #[.slice none 0 0, .int .i64 r.power, .bool r.off] 50)).drew) rb (.slice a r.F.length cap) r := (H.out.alloc _).drew
  go_region_law (refine step_app_nil r.F a cap rfl _ _ rfl (by simp [Act.eval]) (by simp [Act.eval]) (by exact hd.row) hF ?_; intro ao' cap' w' hown hgrow; have kh := (hgrow.block w.heap.size (by simp) (by simp)).trans (alloc_new _ _); have k0 := cell_of kh 0; have kf := free_of kh 0; have HO := Lib.hid hown; have HG := Lib.hid hgrow; have hz := hgrow.size; have KH := Lib.hid kh; clear hown hgrow kh)
  all_goals
    go_wp2
    go_ret
    have h0 : IsRef w' w.heap.size (.slice none 0 0) ⟨[], r.power, r.off⟩ := ⟨KH.out, World.ownsRow_nil _ _ _ _, H.out.pw⟩
    have hz2 : w.heap.size + 1 ≤ w'.heap.size := by simpa using hz
    have hb : Below w.heap.size w w' := ⟨HG.out.os, HG.out.tape, HG.out.output, by omega, fun k hk => (HG.out.block k (by simp; omega) (by simp)).trans (alloc_old _ hk)⟩
    refine ⟨w.heap.size, .slice ao' r.F.length cap', rfl, h0.setF (.slice ao' r.F.length cap') r.F (ownsRow_base_a HO.out (Nat.zero_le _)), Nat.le_refl _, ?_, hb.setCell (Nat.le_refl _) _⟩
    intro k hk
    have := (HO.out.lt k hk).1
    simp at this
    omega
end Go.Proofs.Ytcbjokofjmefnaa
