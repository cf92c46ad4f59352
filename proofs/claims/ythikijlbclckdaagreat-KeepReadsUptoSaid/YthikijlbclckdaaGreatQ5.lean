/- KeepReads: contracts (Kf Kg). -/
import Derived.Test.YthikijlbclckdaaGreatQ3
import Derived.Test.YthikijlbclckdaaGreatQ4
import Derived.Deep.QuietTactic
import Derived.BigQuiet
namespace Go.Proofs.YthikijlbclckdaaGreat
set_option maxRecDepth 100000
set_option maxHeartbeats 40000000
set_option linter.unusedSimpArgs false
set_option linter.unusedVariables false
open Go.IntWalk Go.RowKit
structure VarV where
 name : ByteArray
 v : ValV
structure VarOk (x : VarV) : Prop where
 name : x.name.size ≤ 2097152
 v : VOk x.v
def VarsAt (w : World) (v : Value) (l : List VarV) : Prop :=
 ∃ a cap, v = .slice a l.length cap ∧ l.length ≤ cap ∧ l.length ≤ 140737488355328 ∧ ∀ i x, l[i]? = some x → ∃ b off, a = some ⟨b, off, none⟩ ∧
  w.cell? ⟨b, off + i * 4, none⟩ = some (.string x.name) ∧ w.cell? ⟨b, off + i * 4 + 1, none⟩ = some (.int .i64 x.v.k) ∧ w.cell? ⟨b, off + i * 4 + 2, none⟩ = some (.int .i64 x.v.n) ∧ w.cell? ⟨b, off + i * 4 + 3, none⟩ = some (.string x.v.s)
theorem VarsAt.below {w W : World} {v : Value} {l : List VarV} (h : VarsAt w v l) (hb : Below w.heap.size w W) : VarsAt W v l := by
 obtain ⟨a, cap, hv, h1, h2, h3⟩ := h
 refine ⟨a, cap, hv, h1, h2, fun i x hx => ?_⟩
 obtain ⟨b, off, ha, c0, c1, c2, c3⟩ := h3 i x hx
 have k : ∀ j u, w.cell? ⟨b, j, none⟩ = some u → W.cell? ⟨b, j, none⟩ = some u := fun j u hc => (hb.cell (p := ⟨b, j, none⟩) (World.block_lt_of_cell? w _ hc)).trans hc
 exact ⟨b, off, ha, k _ _ c0, k _ _ c1, k _ _ c2, k _ _ c3⟩
def okAt (l : List VarV) (i : Nat) : Bool :=
 match l[i]? with
 | none => true
 | some x => named x.name && mayV x.v && (match i with | 0 => true | j + 1 => ltS (match l[j]? with | none => ⟨#[]⟩ | some y => y.name) x.name)
def rightV (l : List VarV) : Bool := decide (l.length ≤ 16) && (List.range l.length).all (okAt l)
theorem right_long {l : List VarV} (h : 16 < l.length) : rightV l = false := by
 unfold rightV
 rw [decide_eq_false (by omega)]; rfl
theorem right_bad {l : List VarV} {i : Nat} (hi : i < l.length) (h : okAt l i = false) : rightV l = false := by
 unfold rightV
 have : (List.range l.length).all (okAt l) = false := by
  rw [Bool.eq_false_iff]
  intro ha
  rw [List.all_eq_true] at ha
  have := ha i (List.mem_range.2 hi)
  rw [h] at this
  cases this
 rw [this, Bool.and_false]
theorem right_end {l : List VarV} (h1 : l.length ≤ 16) (h : ∀ i, i < l.length → okAt l i = true) : rightV l = true := by
 unfold rightV
 rw [decide_eq_true h1, Bool.true_and, List.all_eq_true]
 exact fun i hi => h i (List.mem_range.1 hi)
theorem right_any (v : Value) (l : List VarV) (w : World) (h : VarsAt w v l) : Calls Tryz.prog 82 #[v] w fun e w' => e = .returned (.bool (rightV l)) ∧ Below w.heap.size w w' := by
 have H := hid h
 obtain ⟨a, cap, rfl, h1, h2, -⟩ := h
 by_cases hl : 16 < l.length
 ·
  have E := hid (right_long hl)
  go_enter Tryz.func82, Tryz.ntmps82
  go_wp2
  go_ret
  rw [E.out]
  exact ⟨rfl, Below.refl _ _⟩
 ·
  go_enter Tryz.func82, Tryz.ntmps82
  go_wp2
  go_loopw [10] (fun vi wr => ∃ i : Nat, i ≤ l.length ∧ vi = .int .i64 i ∧ Hid ((∀ j, j < i → okAt l j = true) ∧ Below w.heap.size w wr)) (fun vi _ => l.length - (intOf vi).toNat)
  case atStart => exact ⟨0, Nat.zero_le _, rfl, fun j hj => by omega, Below.refl _ _⟩
  case round =>
   obtain ⟨i, hi, rfl, hR⟩ := hrel
   by_cases hlt : i < l.length
   ·
    obtain ⟨x, hx⟩ : ∃ x, l[i]? = some x := ⟨_, List.getElem?_eq_getElem hlt⟩
    obtain ⟨y, hy⟩ : ∃ y, l[i - 1]? = some y := ⟨_, List.getElem?_eq_getElem (by omega)⟩
    obtain ⟨a', cap', hv, -, -, hcell⟩ := H.out.below hR.out.2
    cases hv
    obtain ⟨b, off, rfl, c0, c1, c2, c3⟩ := hcell i x hx
    obtain ⟨b2, off2, he2, d0, -, -, -⟩ := hcell (i - 1) y hy
    cases he2
    obtain ⟨nm, k, n, s⟩ := x
    obtain ⟨nm2, v2⟩ := y
    dsimp only at c0 c1 c2 c3 d0
    have Hx := hid hx
    have Hy := hid hy
    have hbl := World.block_lt_of_cell? wr _ c0
    dsimp only at hbl
    clear hcell hx hy
    go_wp2_with fail
    have hst := alloc_new wr (.cells #[.string nm, .int .i64 k, .int .i64 n, .string s] 177)
    have hW := hid (hR.out.2.alloc hR.out.2.size (.cells #[.string nm, .int .i64 k, .int .i64 n, .string s] 177))
    have hrnd : okAt l i = true → Hid (∀ j, j < i + 1 → okAt l j = true) := fun hok j hj => by
     by_cases hji : j = i
     ·
      subst hji; exact hok
     ·
      exact hR.out.1 j (by omega)
    have Hrnd := hid hrnd
    clear hrnd
    cases hnm : named nm with
    | false =>
     have E : Hid (rightV l = false) := right_bad hlt (by simp [okAt, Hx.out, hnm])
     refine wp_par (fun _ => False) (fun _ => True) (List.replicate 25 false) _ [.fix ?_, .fix ?_, .fix ?_, .fix ?_, .fix ?_, .fix ?_, .fix ?_, .fix ?_, .fix ?_, .fix ?_, .fix ?_, .fix ?_, .fix ?_, .fix ?_, .fix ?_, .fix ?_, .fix ?_, .fix ?_, .fix ?_, .fix ?_, .fix ?_, .fix ?_, .fix ?_, .fix ?_, .fix ?_] (by kernel_rfl) (by kernel_rfl) (by simp only [List.length_replicate, List.drop_succ_cons, List.drop_zero, List.drop_nil]; with_reducible rfl) rfl (fun _ _ _ _ _ => ⟨fun h => h, fun h => h⟩) (fun _ _ h _ => h) trivial ?_
     rotate_left 25
     iterate 25
      first
       | (refine par_skip (a' := ?_) (by rfl) (by rfl) ?_ ?_ ?_; rotate_left 1; with_reducible rfl; (simp only [lays]; with_reducible rfl))
       | (refine par_run (a' := ?_) (by rfl) (by rfl) (fun w' hb hn => ?_) ?_ ?_; rotate_left 1; (have hc := hb.cells; go_simp; (try simp (disch := omega) only [nrm, toNatUp, iteOmega]); first | with_reducible rfl | (go_simp; with_reducible rfl)); (simp only [lays]; with_reducible rfl))
       | (refine par_call (a' := ?_) (f := ?_) (args := ?_) (by rfl) (by rfl) (fun w' => ?_) (fun w' hb hn => ?_) ?_ ?_; rotate_left 3; (go_simp; constructor <;> with_reducible rfl); ((have h := named_any nm w'; rw [hnm] at h; exact h)); (simp only [lays]; with_reducible rfl))
     refine par_end (fun w9 hb9 hf9 _ => ?_)
     replace hb9 := hb9.grow
     try refine wpList_none ?_
     go_wp2
     go_ret
     rw [E.out]
     exact ⟨rfl, hW.out.trans (hb9.mono hW.out.size)⟩
    | true =>
     cases hmy : mayV ⟨k, n, s⟩ with
     | false =>
      have E : Hid (rightV l = false) := right_bad hlt (by simp [okAt, Hx.out, hnm, hmy])
      refine wp_par (fun _ => False) (fun _ => True) (List.replicate 25 false) _ [.fix ?_, .fix ?_, .fix ?_, .fix ?_, .fix ?_, .fix ?_, .fix ?_, .fix ?_, .fix ?_, .fix ?_, .fix ?_, .fix ?_, .fix ?_, .fix ?_, .fix ?_, .fix ?_, .fix ?_, .fix ?_, .fix ?_, .fix ?_, .fix ?_, .fix ?_, .fix ?_, .fix ?_, .fix ?_] (by kernel_rfl) (by kernel_rfl) (by simp only [List.length_replicate, List.drop_succ_cons, List.drop_zero, List.drop_nil]; with_reducible rfl) rfl (fun _ _ _ _ _ => ⟨fun h => h, fun h => h⟩) (fun _ _ h _ => h) trivial ?_
      rotate_left 25
      iterate 25
       first
        | (refine par_skip (a' := ?_) (by rfl) (by rfl) ?_ ?_ ?_; rotate_left 1; with_reducible rfl; (simp only [lays]; with_reducible rfl))
        | (refine par_run (a' := ?_) (by rfl) (by rfl) (fun w' hb hn => ?_) ?_ ?_; rotate_left 1; (have hc := hb.cells; go_simp; (try simp (disch := omega) only [nrm, toNatUp, iteOmega]); first | with_reducible rfl | (go_simp; with_reducible rfl)); (simp only [lays]; with_reducible rfl))
        | (refine par_call (a' := ?_) (f := ?_) (args := ?_) (by rfl) (by rfl) (fun w' => ?_) (fun w' hb hn => ?_) ?_ ?_; rotate_left 3; (go_simp; constructor <;> with_reducible rfl); ((have h := named_any nm w'; rw [hnm] at h; exact h)); (simp only [lays]; with_reducible rfl))
        | (refine par_call (a' := ?_) (f := ?_) (args := ?_) (by rfl) (by rfl) (fun w' => ?_) (fun w' hb hn => ?_) ?_ ?_; rotate_left 3; (go_simp; constructor <;> with_reducible rfl); ((have h := may_any ⟨k, n, s⟩ w'; rw [hmy] at h; exact h)); (simp only [lays]; with_reducible rfl))
      refine par_end (fun w9 hb9 hf9 _ => ?_)
      replace hb9 := hb9.grow
      try refine wpList_none ?_
      go_wp2
      go_ret
      rw [E.out]
      exact ⟨rfl, hW.out.trans (hb9.mono hW.out.size)⟩
     | true =>
      by_cases h0 : i = 0
      ·
       have hok : Hid (okAt l i = true) := by
        show _ = _
        subst h0
        simp [okAt, Hx.out, hnm, hmy]
       have q0 : decide (0 < (i : Int)) = false := by simp [h0]
       have q0' : decide (0 < i) = false := by simp [h0]
       refine wp_par (fun _ => False) (fun _ => True) (List.replicate 25 false) _ [.fix ?_, .fix ?_, .fix ?_, .fix ?_, .fix ?_, .fix ?_, .fix ?_, .fix ?_, .fix ?_, .fix ?_, .fix ?_, .fix ?_, .fix ?_, .fix ?_, .fix ?_, .fix ?_, .fix ?_, .fix ?_, .fix ?_, .fix ?_, .fix ?_, .fix ?_, .fix ?_, .fix ?_, .fix ?_] (by kernel_rfl) (by kernel_rfl) (by simp only [List.length_replicate, List.drop_succ_cons, List.drop_zero, List.drop_nil]; with_reducible rfl) rfl (fun _ _ _ _ _ => ⟨fun h => h, fun h => h⟩) (fun _ _ h _ => h) trivial ?_
       rotate_left 25
       iterate 25
        first
         | (refine par_skip (a' := ?_) (by rfl) (by rfl) ?_ ?_ ?_; rotate_left 1; with_reducible rfl; (simp only [lays]; with_reducible rfl))
         | (refine par_run (a' := ?_) (by rfl) (by rfl) (fun w' hb hn => ?_) ?_ ?_; rotate_left 1; (have hc := hb.cells; go_simp; (try simp (disch := omega) only [nrm, toNatUp, iteOmega]); first | with_reducible rfl | (go_simp; with_reducible rfl)); (simp only [lays]; with_reducible rfl))
         | (refine par_call (a' := ?_) (f := ?_) (args := ?_) (by rfl) (by rfl) (fun w' => ?_) (fun w' hb hn => ?_) ?_ ?_; rotate_left 3; (go_simp; constructor <;> with_reducible rfl); ((have h := named_any nm w'; rw [hnm] at h; exact h)); (simp only [lays]; with_reducible rfl))
         | (refine par_call (a' := ?_) (f := ?_) (args := ?_) (by rfl) (by rfl) (fun w' => ?_) (fun w' hb hn => ?_) ?_ ?_; rotate_left 3; (go_simp; constructor <;> with_reducible rfl); ((have h := may_any ⟨k, n, s⟩ w'; rw [hmy] at h; exact h)); (simp only [lays]; with_reducible rfl))
       refine par_end (fun w9 hb9 hf9 _ => ?_)
       replace hb9 := hb9.grow
       try refine wpList_none ?_
       have hbb := hid (hW.out.trans (hb9.mono hW.out.size))
       clear hb9
       go_wp2
       go_roundw
       case rel => exact ⟨i + 1, by omega, by go_num, Hrnd.out hok.out, hbb.out⟩
       case measure => simp [intOf]; omega
      ·
       have q0 : decide (0 < (i : Int)) = true := by simp; omega
       have q0' : decide (0 < i) = true := by simp; omega
       have hi1 : 1 ≤ i := by omega
       refine wp_par (fun _ => False) (fun _ => True) (List.replicate 25 false) _ [.fix ?_, .fix ?_, .fix ?_, .fix ?_, .fix ?_, .fix ?_, .fix ?_, .fix ?_, .fix ?_, .fix ?_, .fix ?_, .fix ?_, .fix ?_, .fix ?_, .fix ?_, .fix ?_, .fix ?_, .fix ?_, .fix ?_, .fix ?_, .fix ?_, .fix ?_, .fix ?_, .fix ?_, .fix ?_] (by kernel_rfl) (by kernel_rfl) (by simp only [List.length_replicate, List.drop_succ_cons, List.drop_zero, List.drop_nil]; with_reducible rfl) rfl (fun _ _ _ _ _ => ⟨fun h => h, fun h => h⟩) (fun _ _ h _ => h) trivial ?_
       rotate_left 25
       iterate 25
        first
         | (refine par_skip (a' := ?_) (by rfl) (by rfl) ?_ ?_ ?_; rotate_left 1; with_reducible rfl; (simp only [lays]; with_reducible rfl))
         | (refine par_run (a' := ?_) (by rfl) (by rfl) (fun w' hb hn => ?_) ?_ ?_; rotate_left 1; (have hc := hb.cells; go_simp; (try simp (disch := omega) only [nrm, toNatUp, iteOmega]); first | with_reducible rfl | (go_simp; with_reducible rfl)); (simp only [lays]; with_reducible rfl))
         | (refine par_call (a' := ?_) (f := ?_) (args := ?_) (by rfl) (by rfl) (fun w' => ?_) (fun w' hb hn => ?_) ?_ ?_; rotate_left 3; (go_simp; constructor <;> with_reducible rfl); ((have h := named_any nm w'; rw [hnm] at h; exact h)); (simp only [lays]; with_reducible rfl))
         | (refine par_call (a' := ?_) (f := ?_) (args := ?_) (by rfl) (by rfl) (fun w' => ?_) (fun w' hb hn => ?_) ?_ ?_; rotate_left 3; (go_simp; constructor <;> with_reducible rfl); ((have h := may_any ⟨k, n, s⟩ w'; rw [hmy] at h; exact h)); (simp only [lays]; with_reducible rfl))
       refine par_end (fun w9 hb9 hf9 _ => ?_)
       replace hb9 := hb9.grow
       try refine wpList_none ?_
       cases hl2 : Op.bytesLess nm2.toList nm.toList with
       | true =>
        have hok : Hid (okAt l i = true) := by
         show _ = _
         obtain ⟨j, rfl⟩ : ∃ j, i = j + 1 := ⟨i - 1, by omega⟩
         have hy' := Hy.out
         simp only [Nat.add_sub_cancel] at hy'
         simp only [ByteArray.toList_eq] at hl2
         simp [okAt, Hx.out, hnm, hmy, hy', ltS, hl2]
        have hbb := hid (hW.out.trans (hb9.mono hW.out.size))
        clear hb9
        go_wp2
        go_roundw
        case rel => exact ⟨i + 1, by omega, by go_num, Hrnd.out hok.out, hbb.out⟩
        case measure => simp [intOf]; omega
       | false =>
        have E : Hid (rightV l = false) := right_bad hlt (by
         obtain ⟨j, rfl⟩ : ∃ j, i = j + 1 := ⟨i - 1, by omega⟩
         have hy' := Hy.out
         simp only [Nat.add_sub_cancel] at hy'
         simp only [ByteArray.toList_eq] at hl2
         simp [okAt, Hx.out, hy', ltS, hl2])
        go_wp2
        go_ret
        rw [E.out]
        exact ⟨rfl, hW.out.trans (hb9.mono hW.out.size)⟩
   ·
    have hin : i = l.length := by omega
    subst hin
    have E := hid (right_end (by omega) hR.out.1)
    go_wp2
    go_ret
    rw [E.out]
    exact ⟨rfl, hR.out.2⟩
end Go.Proofs.YthikijlbclckdaaGreat
namespace Go.Proofs.YthikijlbclckdaaGreat
set_option maxRecDepth 100000
set_option maxHeartbeats 40000000
set_option linter.unusedSimpArgs false
set_option linter.unusedVariables false
open Go.RowKit
theorem rright_any (v : Value) (l : List VarV) (w : World) (hok : ∀ x ∈ l, VarOk x) (h : VarsAt w v l) : Calls Tryz.prog 83 #[v] w fun e w' => e = .returned (.bool (rightV l)) ∧ Below w.heap.size w w' := by
 have H := hid h
 have HO := hid hok
 clear hok
 obtain ⟨a, cap, rfl, h1, h2, -⟩ := h
 by_cases hl : 16 < l.length
 ·
  have E := hid (right_long hl)
  go_enter Tryz.func83, Tryz.ntmps83
  go_wp2
  go_ret
  rw [E.out]
  exact ⟨rfl, Below.refl _ _⟩
 ·
  go_enter Tryz.func83, Tryz.ntmps83
  go_wp2
  go_loopw [3] (fun vi wr => ∃ i : Nat, i ≤ l.length ∧ vi = .int .i64 i ∧ Hid ((∀ j, j < i → okAt l j = true) ∧ Below w.heap.size w wr)) (fun vi _ => l.length - (intOf vi).toNat)
  case atStart => exact ⟨0, Nat.zero_le _, rfl, fun j hj => by omega, Below.refl _ _⟩
  case round =>
   obtain ⟨i, hi, rfl, hR⟩ := hrel
   by_cases hlt : i < l.length
   ·
    obtain ⟨x, hx⟩ : ∃ x, l[i]? = some x := ⟨_, List.getElem?_eq_getElem hlt⟩
    obtain ⟨a', cap', hv, -, -, hcell⟩ := H.out.below hR.out.2
    cases hv
    obtain ⟨b, off, rfl, c0, c1, c2, c3⟩ := hcell i x hx
    obtain ⟨nm, k, n, s⟩ := x
    dsimp only at c0 c1 c2 c3
    have Hx := hid hx
    have hbl := World.block_lt_of_cell? wr _ c0
    dsimp only at hbl
    have HC := hid hcell
    clear hcell hx
    go_wp2_with fail
    refine (rnamed_any nm wr).mono ?_
    rintro e w4 ⟨rfl, nd, rfl⟩
    go_wp2_with fail
    refine (rmay_any ⟨k, n, s⟩ (wr.drewN nd)).mono ?_
    rintro e w5 ⟨rfl, b5⟩
    have hb5 : Hid (Below wr.heap.size wr w5) := ⟨b5.os, b5.tape, b5.output, b5.size, b5.block⟩
    clear b5
    have B5 := hid (hR.out.2.trans (hb5.out.mono hR.out.2.size))
    have e0 := (hb5.out.cell (p := ⟨b, off + i * 4, none⟩) hbl).trans c0
    cases hnm : named nm with
    | false =>
     have E : Hid (rightV l = false) := right_bad hlt (by simp [okAt, Hx.out, hnm])
     go_wp2
     go_ret
     rw [E.out]
     exact ⟨rfl, B5.out⟩
    | true =>
     cases hmy : mayV ⟨k, n, s⟩ with
     | false =>
      have E : Hid (rightV l = false) := right_bad hlt (by simp [okAt, Hx.out, hmy])
      go_wp2
      go_ret
      rw [E.out]
      exact ⟨rfl, B5.out⟩
     | true =>
      cases i with
      | zero =>
       have hstep : Hid (∀ j, j < 1 → okAt l j = true) := by
        intro j hj
        have : j = 0 := by omega
        subst this
        simp [okAt, Hx.out, hnm, hmy]
       go_wp2_with fail
       go_quiet (fail)
       go_wp2
       exact ⟨⟨1, by omega, by go_num, hstep.out, ⟨B5.out.os, B5.out.tape, B5.out.output, B5.out.size, B5.out.block⟩⟩, by simp [intOf]; omega⟩
      | succ j =>
       obtain ⟨y, hy⟩ : ∃ y, l[j]? = some y := ⟨_, List.getElem?_eq_getElem (by omega)⟩
       obtain ⟨b', off', hb', p0, -, -, -⟩ := HC.out j y hy
       cases hb'
       have hys := (HO.out y (List.mem_of_getElem? hy)).name
       have q0 := (hb5.out.cell (p := ⟨b, off + j * 4, none⟩) (World.block_lt_of_cell? wr _ p0)).trans p0
       obtain ⟨yn, yv⟩ := y
       dsimp only at p0 q0 hys
       have Hy := hid hy
       clear hy p0
       have hless : ∀ W, Calls Tryz.prog 17 #[.string yn, .string nm] W fun e w' => e = .returned (.bool (ltS yn nm)) ∧ ∃ n, w' = W.drewN n := fun W => less_any yn nm W (by omega)
       cases hlt2 : ltS yn nm with
       | true =>
        have hstep : Hid (∀ i, i < j + 1 + 1 → okAt l i = true) := by
         intro i hi
         by_cases he : i = j + 1
         ·
          subst he
          simp [okAt, Hx.out, Hy.out, hnm, hmy, hlt2]
         ·
          exact hR.out.1 i (by omega)
        rw [hlt2] at hless
        go_wp2_with fail
        go_quiet (first | (go_at_call 17 ; exact Calls.quiet_of (hless _)))
        go_wp2
        exact ⟨⟨j + 1 + 1, by omega, by go_num, hstep.out, ⟨B5.out.os, B5.out.tape, B5.out.output, B5.out.size, B5.out.block⟩⟩, by simp [intOf]; omega⟩
       | false =>
        have E : Hid (rightV l = false) := right_bad hlt (by simp [okAt, Hx.out, Hy.out, hlt2])
        rw [hlt2] at hless
        go_wp2_with fail
        go_quiet (first | (go_at_call 17 ; exact Calls.quiet_of (hless _)))
        go_wp2
        go_ret
        rw [E.out]
        exact ⟨rfl, ⟨B5.out.os, B5.out.tape, B5.out.output, B5.out.size, B5.out.block⟩⟩
   ·
    have hin : i = l.length := by omega
    subst hin
    have E := hid (right_end (by omega) hR.out.1)
    go_wp2
    go_ret
    rw [E.out]
    exact ⟨rfl, hR.out.2⟩
end Go.Proofs.YthikijlbclckdaaGreat
