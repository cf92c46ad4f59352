/- KeepReads: contracts (Sm). -/
import Derived.Test.YthikijlbclckdaaGreatQ4
import Derived.Test.YthikijlbclckdaaGreatQ8
namespace Go.Proofs.YthikijlbclckdaaGreat
set_option maxRecDepth 100000
set_option maxHeartbeats 40000000
set_option linter.unusedSimpArgs false
set_option linter.unusedVariables false
open Go.IntWalk Go.RowKit
theorem take_snoc2 {α : Type} {l : List α} {i : Nat} {x : α} (h : l[i]? = some x) : l.take (i + 1) = l.take i ++ [x] := by rw [List.take_add_one, h]; rfl
theorem bytes_eq7 {a b : ByteArray} (h : a.toList = b.toList) : a = b := by
 rw [Lib.toList_data, Lib.toList_data] at h
 exact ByteArray.ext (Array.toList_inj.1 h)
theorem vsame_any (l m : List VarV) (u1 u2 : Value) (w : World) (h1 : VarsAt w u1 l) (h2 : VarsAt w u2 m) :
  Calls Tryz.prog 44 #[u1, u2] w fun e w' => (∃ o, e = .returned (.bool o) ∧ (o = true ↔ l = m)) ∧ Below w.heap.size w w' := by
 have H1 := hid h1
 have H2 := hid h2
 obtain ⟨a1, c1', rfl, hc1, hm1, -⟩ := h1
 obtain ⟨a2, c2', rfl, hc2, hm2, -⟩ := h2
 go_enter Tryz.func44, Tryz.ntmps44
 by_cases hll : l.length = m.length
 ·
  have q0 : ((l.length : Int) != (m.length : Int)) = false := by simp [hll]
  go_wp2
  go_loopw [5] (fun vi wr => ∃ i : Nat, i ≤ l.length ∧ vi = .int .i64 i ∧ Hid (l.take i = m.take i) ∧ Hid (Below w.heap.size w wr)) (fun vi _ => l.length - (intOf vi).toNat)
  case atStart => exact ⟨0, Nat.zero_le _, rfl, rfl, Below.refl _ _⟩
  case round =>
   obtain ⟨i, hi, rfl, hT, hR⟩ := hrel
   by_cases hlt : i < l.length
   ·
    obtain ⟨⟨xn, ⟨xk, xi, xs⟩⟩, hx⟩ : ∃ x, l[i]? = some x := ⟨_, List.getElem?_eq_getElem hlt⟩
    obtain ⟨⟨yn, ⟨yk, yi, ys⟩⟩, hy⟩ : ∃ x, m[i]? = some x := ⟨_, List.getElem?_eq_getElem (by omega)⟩
    obtain ⟨as1, cs1, es1, ls1, ms1, gx⟩ := VarsAt.below H1.out hR.out
    obtain ⟨b1, o1, rfl, x0, x1, x2, x3⟩ := gx i _ hx
    cases es1
    clear gx
    obtain ⟨as2, cs2, es2, ls2, ms2, gy⟩ := VarsAt.below H2.out hR.out
    obtain ⟨b2, o2, rfl, y0, y1, y2, y3⟩ := gy i _ hy
    cases es2
    clear gy
    have hb1 := World.block_lt_of_cell? wr _ x0
    have hb2 := World.block_lt_of_cell? wr _ y0
    dsimp only at hb1 hb2 x0 x1 x2 x3 y0 y1 y2 y3
    have hs : Hid (l.take (i + 1) = m.take (i + 1) ↔ (⟨xn, ⟨xk, xi, xs⟩⟩ : VarV) = ⟨yn, ⟨yk, yi, ys⟩⟩) := by
     show _ ↔ _
     rw [take_snoc2 hx, take_snoc2 hy, hT.out]
     simp
    clear hx hy
    by_cases he : (⟨xn, ⟨xk, xi, xs⟩⟩ : VarV) = ⟨yn, ⟨yk, yi, ys⟩⟩
    ·
     replace hs := hid (hs.out.2 he)
     simp only [VarV.mk.injEq, ValV.mk.injEq] at he
     obtain ⟨rfl, rfl, rfl, rfl⟩ := he
     go_wp2_with fail
     refine wp_par (fun _ => False) (fun _ => True) (List.replicate 9 false) _ [.fix ?_, .fix ?_, .fix ?_, .fix ?_, .fix ?_, .fix ?_, .fix ?_, .fix ?_, .fix (.bool false)] (by kernel_rfl) (by kernel_rfl) (by simp only [List.length_replicate, List.drop_succ_cons, List.drop_zero, List.drop_nil]; with_reducible rfl) rfl (fun _ _ _ _ _ => ⟨fun h => h, fun h => h⟩) (fun _ _ h _ => h) trivial ?_
     rotate_left 8
     iterate 8
      first
       | (refine par_skip (a' := ?_) (by rfl) (by rfl) ?_ ?_ ?_; rotate_left 1; with_reducible rfl; (simp only [lays]; with_reducible rfl))
       | (refine par_run (a' := ?_) (by rfl) (by rfl) (fun w' hb hn => ?_) ?_ ?_; rotate_left 1; (have hc := hb.cells; go_simp; (try simp (disch := omega) only [nrm, toNatUp, iteOmega]); first | with_reducible rfl | (go_simp; with_reducible rfl)); (simp only [lays]; with_reducible rfl))
     refine par_run (a' := ?a55k8) (by rfl) (by rfl) (fun w' hb hn => ?h55k8) ?p55k8 ?g55k8
     case h55k8 => (have hc := hb.cells; go_simp; (try simp (disch := omega) only [nrm, toNatUp, iteOmega]); first | done | simp)
     case p55k8 => (simp only [lays]; with_reducible rfl)
     refine par_end (fun w9 hb9 hf9 _ => ?_)
     replace hb9 := hb9.grow
     try refine wpList_none ?_
     have hbb := hid (hR.out.trans (hb9.mono hR.out.size))
     clear hb9
     go_wp2
     go_roundw
     case rel => exact ⟨i + 1, by omega, by go_num, hs, hbb⟩
     case measure => simp [intOf]; omega
    ·
     replace hs := hid (mt hs.out.1 he)
     replace he := hid he
     go_wp2_with fail
     refine wp_par (fun _ => False) (fun _ => True) (List.replicate 9 false) _ [.fix ?_, .fix ?_, .fix ?_, .fix ?_, .fix ?_, .fix ?_, .fix ?_, .fix ?_, .fix (.bool true)] (by kernel_rfl) (by kernel_rfl) (by simp only [List.length_replicate, List.drop_succ_cons, List.drop_zero, List.drop_nil]; with_reducible rfl) rfl (fun _ _ _ _ _ => ⟨fun h => h, fun h => h⟩) (fun _ _ h _ => h) trivial ?_
     rotate_left 8
     iterate 8
      first
       | (refine par_skip (a' := ?_) (by rfl) (by rfl) ?_ ?_ ?_; rotate_left 1; with_reducible rfl; (simp only [lays]; with_reducible rfl))
       | (refine par_run (a' := ?_) (by rfl) (by rfl) (fun w' hb hn => ?_) ?_ ?_; rotate_left 1; (have hc := hb.cells; go_simp; (try simp (disch := omega) only [nrm, toNatUp, iteOmega]); first | with_reducible rfl | (go_simp; with_reducible rfl)); (simp only [lays]; with_reducible rfl))
     refine par_run (a' := ?a76k8) (by rfl) (by rfl) (fun w' hb hn => ?h76k8) ?p76k8 ?g76k8
     case h76k8 => (have hc := hb.cells; go_simp; (try simp (disch := omega) only [nrm, toNatUp, iteOmega]); ((try intros); (try intro); exact absurd (by simp only [VarV.mk.injEq, ValV.mk.injEq]; (repeat' apply And.intro) <;> first | assumption | (apply bytes_eq7; assumption)) he.out))
     case p76k8 => (simp only [lays]; with_reducible rfl)
     refine par_end (fun w9 hb9 hf9 _ => ?_)
     replace hb9 := hb9.grow
     try refine wpList_none ?_
     have hbb := hid (hR.out.trans (hb9.mono hR.out.size))
     clear hb9
     go_wp2
     go_ret
     exact ⟨⟨false, rfl, by simp; intro h; exact hs.out (by rw [h])⟩, hbb.out⟩
   ·
    obtain rfl : i = l.length := by omega
    go_wp2
    go_ret
    refine ⟨⟨true, rfl, by simp only [true_iff]; have := hT.out; rw [List.take_of_length_le (Nat.le_refl _), hll, List.take_of_length_le (Nat.le_refl _)] at this; exact this⟩, hR.out⟩
 ·
  have q0 : ((l.length : Int) != (m.length : Int)) = true := by simp; omega
  go_wp2
  go_ret
  exact ⟨⟨false, rfl, by simp; intro h; exact hll (by rw [h])⟩, Below.refl _ _⟩
end Go.Proofs.YthikijlbclckdaaGreat
