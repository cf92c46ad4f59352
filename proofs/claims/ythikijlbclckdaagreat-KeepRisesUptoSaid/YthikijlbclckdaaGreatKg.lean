/- Variables: may they be? The reference's. -/
import Derived.Test.YthikijlbclckdaaGreatKf
import Derived.Deep.QuietTactic
import Derived.BigQuiet
namespace Go.Proofs.YthikijlbclckdaaGreat
set_option linter.unusedSimpArgs false
set_option linter.unusedVariables false
open Go.RowKit

set_option maxRecDepth 100000 in
set_option maxHeartbeats 4000000 in
theorem rright_any (v : Value) (l : List VarV) (w : World) (hok : ∀ x ∈ l, VarOk x) (h : VarsAt w v l) : Calls Tryz.prog 83 #[v] w fun e w' => e = .returned (.bool (rightV l)) ∧ Below w.heap.size w w' := by
  have H := Lib.hid h
  have HO := Lib.hid hok
  clear hok
  obtain ⟨a, cap, rfl, h1, h2, -⟩ := h
  by_cases hl : 16 < l.length
  · have E := Lib.hid (right_long hl)
    go_enter Tryz.func83, Tryz.ntmps83
    go_wp2
    go_ret
    rw [E.out]
    exact ⟨rfl, Below.refl _ _⟩
  · go_enter Tryz.func83, Tryz.ntmps83
    go_wp2
    go_loopw [3] (fun vi wr => ∃ i : Nat, i ≤ l.length ∧ vi = .int .i64 i ∧ Hid ((∀ j, j < i → okAt l j = true) ∧ Below w.heap.size w wr)) (fun vi _ => l.length - (intOf vi).toNat)
    case atStart => exact ⟨0, Nat.zero_le _, rfl, fun j hj => by omega, Below.refl _ _⟩
    case round =>
      obtain ⟨i, hi, rfl, hR⟩ := hrel
      by_cases hlt : i < l.length
      · obtain ⟨x, hx⟩ : ∃ x, l[i]? = some x := ⟨_, List.getElem?_eq_getElem hlt⟩
        obtain ⟨a', cap', hv, -, -, hcell⟩ := H.out.below hR.out.2
        cases hv
        obtain ⟨b, off, rfl, c0, c1, c2, c3⟩ := hcell i x hx
        obtain ⟨nm, k, n, s⟩ := x
        dsimp only at c0 c1 c2 c3
        have Hx := Lib.hid hx
        have hbl := World.block_lt_of_cell? wr _ c0
        dsimp only at hbl
        have HC := Lib.hid hcell
        clear hcell hx
        go_wp2_with fail
        refine (rnamed_any nm wr).mono ?_
        rintro e w4 ⟨rfl, nd, rfl⟩
        go_wp2_with fail
        refine (rmay_any ⟨k, n, s⟩ (wr.drewN nd)).mono ?_
        rintro e w5 ⟨rfl, b5⟩
        have hb5 : Hid (Below wr.heap.size wr w5) := ⟨b5.os, b5.tape, b5.output, b5.size, b5.block⟩
        clear b5
        have B5 := Lib.hid (hR.out.2.trans (hb5.out.mono hR.out.2.size))
        have e0 := (hb5.out.cell (p := ⟨b, off + i * 4, none⟩) hbl).trans c0
        cases hnm : named nm with
        | false =>
          have E : Hid (rightV l = false) := right_bad hlt (by simp [okAt, Hx.out, hnm])
          go_wp2
          go_ret
          rw [E.out]
          exact ⟨rfl, B5.out⟩
        | true =>
          cases hmy : mayV ⟨k, n, s⟩ with
          | false =>
            have E : Hid (rightV l = false) := right_bad hlt (by simp [okAt, Hx.out, hmy])
            go_wp2
            go_ret
            rw [E.out]
            exact ⟨rfl, B5.out⟩
          | true =>
            cases i with
            | zero =>
              have hstep : Hid (∀ j, j < 1 → okAt l j = true) := by
                intro j hj
                have : j = 0 := by omega
                subst this
                simp [okAt, Hx.out, hnm, hmy]
              go_wp2_with fail
              go_quiet (fail)
              go_wp2
              exact ⟨⟨1, by omega, by go_num, hstep.out, ⟨B5.out.os, B5.out.tape, B5.out.output, B5.out.size, B5.out.block⟩⟩, by simp [intOf]; omega⟩
            | succ j =>
              obtain ⟨y, hy⟩ : ∃ y, l[j]? = some y := ⟨_, List.getElem?_eq_getElem (by omega)⟩
              obtain ⟨b', off', hb', p0, -, -, -⟩ := HC.out j y hy
              cases hb'
              have hys := (HO.out y (List.mem_of_getElem? hy)).name
              have q0 := (hb5.out.cell (p := ⟨b, off + j * 4, none⟩) (World.block_lt_of_cell? wr _ p0)).trans p0
              obtain ⟨yn, yv⟩ := y
              dsimp only at p0 q0 hys
              have Hy := Lib.hid hy
              clear hy p0
              have hless : ∀ W, Calls Tryz.prog 17 #[.string yn, .string nm] W fun e w' => e = .returned (.bool (ltS yn nm)) ∧ ∃ n, w' = W.drewN n := fun W => less_any yn nm W (by omega)
              cases hlt2 : ltS yn nm with
              | true =>
                have hstep : Hid (∀ i, i < j + 1 + 1 → okAt l i = true) := by
                  intro i hi
                  by_cases he : i = j + 1
                  · subst he
                    simp [okAt, Hx.out, Hy.out, hnm, hmy, hlt2]
                  · exact hR.out.1 i (by omega)
                rw [hlt2] at hless
                go_wp2_with fail
                go_quiet (first | (go_at_call 17 ; exact Calls.quiet_of (hless _)))
                go_wp2
                exact ⟨⟨j + 1 + 1, by omega, by go_num, hstep.out, ⟨B5.out.os, B5.out.tape, B5.out.output, B5.out.size, B5.out.block⟩⟩, by simp [intOf]; omega⟩
              | false =>
                have E : Hid (rightV l = false) := right_bad hlt (by simp [okAt, Hx.out, Hy.out, hlt2])
                rw [hlt2] at hless
                go_wp2_with fail
                go_quiet (first | (go_at_call 17 ; exact Calls.quiet_of (hless _)))
                go_wp2
                go_ret
                rw [E.out]
                exact ⟨rfl, ⟨B5.out.os, B5.out.tape, B5.out.output, B5.out.size, B5.out.block⟩⟩
      · have hin : i = l.length := by omega
        subst hin
        have E := Lib.hid (right_end (by omega) hR.out.1)
        go_wp2
        go_ret
        rw [E.out]
        exact ⟨rfl, hR.out.2⟩
end Go.Proofs.YthikijlbclckdaaGreat
