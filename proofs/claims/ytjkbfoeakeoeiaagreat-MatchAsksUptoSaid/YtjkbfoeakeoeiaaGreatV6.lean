/- Keep: contracts (Kf Kg Sw Sb Kh St Fa Sf Fd Fe). -/
import Derived.Test.YtjkbfoeakeoeiaaGreatV1
import Derived.Test.YtjkbfoeakeoeiaaGreatV2
import Derived.Test.YtjkbfoeakeoeiaaGreatV3
import Derived.Test.YtjkbfoeakeoeiaaGreatV5
import Derived.Deep.QuietTactic
import Derived.BigQuiet
import Derived.Test.YtjkbfoeakeoeiaaGreatProg
import Derived.Lib.FrozenHead
import Derived.Lib.UnsafeStr
import Derived.Lib.Builder
import Derived.Shelf.Strings.Builder1
import Derived.Shelf.Small.Strs
import Derived.Shelf.Strings.BuilderF
import Derived.Shelf.Strings.BuilderK
namespace Go.Proofs.YtjkbfoeakeoeiaaGreat
set_option maxRecDepth 100000
set_option maxHeartbeats 40000000
set_option linter.unusedSimpArgs false
set_option linter.unusedVariables false
open Go.IntWalk Go.RowKit
structure VarV where
  name : ByteArray
  v : ValV
structure VarOk (x : VarV) : Prop where
  name : x.name.size ≤ 2097152
  v : VOk x.v
def VarsAt (w : World) (v : Value) (l : List VarV) : Prop :=
  ∃ a cap, v = .slice a l.length cap ∧ l.length ≤ cap ∧ l.length ≤ 140737488355328 ∧ ∀ i x, l[i]? = some x → ∃ b off, a = some ⟨b, off, none⟩ ∧
    w.cell? ⟨b, off + i * 4, none⟩ = some (.string x.name) ∧ w.cell? ⟨b, off + i * 4 + 1, none⟩ = some (.int .i64 x.v.k) ∧ w.cell? ⟨b, off + i * 4 + 2, none⟩ = some (.int .i64 x.v.n) ∧ w.cell? ⟨b, off + i * 4 + 3, none⟩ = some (.string x.v.s)
theorem VarsAt.below {w W : World} {v : Value} {l : List VarV} (h : VarsAt w v l) (hb : Below w.heap.size w W) : VarsAt W v l := by
  obtain ⟨a, cap, hv, h1, h2, h3⟩ := h
  refine ⟨a, cap, hv, h1, h2, fun i x hx => ?_⟩
  obtain ⟨b, off, ha, c0, c1, c2, c3⟩ := h3 i x hx
  have k : ∀ j u, w.cell? ⟨b, j, none⟩ = some u → W.cell? ⟨b, j, none⟩ = some u := fun j u hc => (hb.cell (p := ⟨b, j, none⟩) (World.block_lt_of_cell? w _ hc)).trans hc
  exact ⟨b, off, ha, k _ _ c0, k _ _ c1, k _ _ c2, k _ _ c3⟩
def okAt (l : List VarV) (i : Nat) : Bool :=
  match l[i]? with
  | none => true
  | some x => named x.name && mayV x.v && (match i with | 0 => true | j + 1 => ltS (match l[j]? with | none => ⟨#[]⟩ | some y => y.name) x.name)
def rightV (l : List VarV) : Bool := decide (l.length ≤ 16) && (List.range l.length).all (okAt l)
theorem right_long {l : List VarV} (h : 16 < l.length) : rightV l = false := by
  unfold rightV
  rw [decide_eq_false (by omega)]; rfl
theorem right_bad {l : List VarV} {i : Nat} (hi : i < l.length) (h : okAt l i = false) : rightV l = false := by
  unfold rightV
  have : (List.range l.length).all (okAt l) = false := by
    rw [Bool.eq_false_iff]
    intro ha
    rw [List.all_eq_true] at ha
    have := ha i (List.mem_range.2 hi)
    rw [h] at this
    cases this
  rw [this, Bool.and_false]
theorem right_end {l : List VarV} (h1 : l.length ≤ 16) (h : ∀ i, i < l.length → okAt l i = true) : rightV l = true := by
  unfold rightV
  rw [decide_eq_true h1, Bool.true_and, List.all_eq_true]
  exact fun i hi => h i (List.mem_range.1 hi)
theorem right_any (v : Value) (l : List VarV) (w : World) (h : VarsAt w v l) : Calls Tryz.prog 27 #[v] w fun e w' => e = .returned (.bool (rightV l)) ∧ Below w.heap.size w w' := by
  have H := hid h
  obtain ⟨a, cap, rfl, h1, h2, -⟩ := h
  by_cases hl : 16 < l.length
  · have E := hid (right_long hl)
    go_enter Tryz.func27, Tryz.ntmps27
    go_wp2
    go_ret
    rw [E.out]
    exact ⟨rfl, Below.refl _ _⟩
  · go_enter Tryz.func27, Tryz.ntmps27
    go_wp2
    go_loopw [10] (fun vi wr => ∃ i : Nat, i ≤ l.length ∧ vi = .int .i64 i ∧ Hid ((∀ j, j < i → okAt l j = true) ∧ Below w.heap.size w wr)) (fun vi _ => l.length - (intOf vi).toNat)
    case atStart => exact ⟨0, Nat.zero_le _, rfl, fun j hj => by omega, Below.refl _ _⟩
    case round =>
      obtain ⟨i, hi, rfl, hR⟩ := hrel
      by_cases hlt : i < l.length
      · obtain ⟨x, hx⟩ : ∃ x, l[i]? = some x := ⟨_, List.getElem?_eq_getElem hlt⟩
        obtain ⟨y, hy⟩ : ∃ y, l[i - 1]? = some y := ⟨_, List.getElem?_eq_getElem (by omega)⟩
        obtain ⟨a', cap', hv, -, -, hcell⟩ := H.out.below hR.out.2
        cases hv
        obtain ⟨b, off, rfl, c0, c1, c2, c3⟩ := hcell i x hx
        obtain ⟨b2, off2, he2, d0, -, -, -⟩ := hcell (i - 1) y hy
        cases he2
        obtain ⟨nm, k, n, s⟩ := x
        obtain ⟨nm2, v2⟩ := y
        dsimp only at c0 c1 c2 c3 d0
        have Hx := hid hx
        have Hy := hid hy
        have hbl := World.block_lt_of_cell? wr _ c0
        dsimp only at hbl
        clear hcell hx hy
        go_wp2_with fail
        have hst := alloc_new wr (.cells #[.string nm, .int .i64 k, .int .i64 n, .string s] 80)
        have hW := hid (hR.out.2.alloc hR.out.2.size (.cells #[.string nm, .int .i64 k, .int .i64 n, .string s] 80))
        have hrnd : okAt l i = true → Hid (∀ j, j < i + 1 → okAt l j = true) := fun hok j hj => by
          by_cases hji : j = i
          · subst hji; exact hok
          · exact hR.out.1 j (by omega)
        have Hrnd := hid hrnd
        clear hrnd
        cases hnm : named nm with
        | false =>
          have E : Hid (rightV l = false) := right_bad hlt (by simp [okAt, Hx.out, hnm])
          refine wp_par (fun _ => False) (fun _ => True) (List.replicate 25 false) _ [.fix ?_, .fix ?_, .fix ?_, .fix ?_, .fix ?_, .fix ?_, .fix ?_, .fix ?_, .fix ?_, .fix ?_, .fix ?_, .fix ?_, .fix ?_, .fix ?_, .fix ?_, .fix ?_, .fix ?_, .fix ?_, .fix ?_, .fix ?_, .fix ?_, .fix ?_, .fix ?_, .fix ?_, .fix ?_] (by kernel_rfl) (by kernel_rfl) (by simp only [List.length_replicate, List.drop_succ_cons, List.drop_zero, List.drop_nil]; with_reducible rfl) rfl (fun _ _ _ _ _ => ⟨fun h => h, fun h => h⟩) (fun _ _ h _ => h) trivial ?_
          rotate_left 25
          iterate 25
            first
              | (refine par_skip (a' := ?_) (by rfl) (by rfl) ?_ ?_ ?_; rotate_left 1; with_reducible rfl; (simp only [Act.put, List.setIfInBounds_toArray, List.set_cons_zero, List.set_cons_succ]; with_reducible rfl))
              | (refine par_run (a' := ?_) (by rfl) (by rfl) (fun w' hb hn => ?_) ?_ ?_; rotate_left 1; (have hc := hb.cells; first | (go_simp; (try simp (disch := omega) only [IntWalk.i64_in, IntWalk.i32_in, IntWalk.u64_in, IntWalk.u8_in, IntWalk.u32_in, toNatUp, iteOmega]); with_reducible rfl) | (go_simp; (try simp (disch := omega) only [IntWalk.i64_in, IntWalk.i32_in, IntWalk.u64_in, IntWalk.u8_in, IntWalk.u32_in, toNatUp, iteOmega]); go_simp; with_reducible rfl)); (simp only [Act.put, List.setIfInBounds_toArray, List.set_cons_zero, List.set_cons_succ]; with_reducible rfl))
              | (refine par_call (a' := ?_) (f := ?_) (args := ?_) (by rfl) (by rfl) (fun w' => ?_) (fun w' hb hn => ?_) ?_ ?_; rotate_left 3; (go_simp; constructor <;> with_reducible rfl); ((have h := named_any nm w'; rw [hnm] at h; exact h)); (simp only [Act.put, List.setIfInBounds_toArray, List.set_cons_zero, List.set_cons_succ]; with_reducible rfl))
          refine par_end (fun w9 hb9 hf9 _ => ?_)
          replace hb9 := hb9.grow
          try refine wpList_none ?_
          go_wp2
          go_ret
          rw [E.out]
          exact ⟨rfl, hW.out.trans (hb9.mono hW.out.size)⟩
        | true =>
          cases hmy : mayV ⟨k, n, s⟩ with
          | false =>
            have E : Hid (rightV l = false) := right_bad hlt (by simp [okAt, Hx.out, hnm, hmy])
            refine wp_par (fun _ => False) (fun _ => True) (List.replicate 25 false) _ [.fix ?_, .fix ?_, .fix ?_, .fix ?_, .fix ?_, .fix ?_, .fix ?_, .fix ?_, .fix ?_, .fix ?_, .fix ?_, .fix ?_, .fix ?_, .fix ?_, .fix ?_, .fix ?_, .fix ?_, .fix ?_, .fix ?_, .fix ?_, .fix ?_, .fix ?_, .fix ?_, .fix ?_, .fix ?_] (by kernel_rfl) (by kernel_rfl) (by simp only [List.length_replicate, List.drop_succ_cons, List.drop_zero, List.drop_nil]; with_reducible rfl) rfl (fun _ _ _ _ _ => ⟨fun h => h, fun h => h⟩) (fun _ _ h _ => h) trivial ?_
            rotate_left 25
            iterate 25
              first
                | (refine par_skip (a' := ?_) (by rfl) (by rfl) ?_ ?_ ?_; rotate_left 1; with_reducible rfl; (simp only [Act.put, List.setIfInBounds_toArray, List.set_cons_zero, List.set_cons_succ]; with_reducible rfl))
                | (refine par_run (a' := ?_) (by rfl) (by rfl) (fun w' hb hn => ?_) ?_ ?_; rotate_left 1; (have hc := hb.cells; first | (go_simp; (try simp (disch := omega) only [IntWalk.i64_in, IntWalk.i32_in, IntWalk.u64_in, IntWalk.u8_in, IntWalk.u32_in, toNatUp, iteOmega]); with_reducible rfl) | (go_simp; (try simp (disch := omega) only [IntWalk.i64_in, IntWalk.i32_in, IntWalk.u64_in, IntWalk.u8_in, IntWalk.u32_in, toNatUp, iteOmega]); go_simp; with_reducible rfl)); (simp only [Act.put, List.setIfInBounds_toArray, List.set_cons_zero, List.set_cons_succ]; with_reducible rfl))
                | (refine par_call (a' := ?_) (f := ?_) (args := ?_) (by rfl) (by rfl) (fun w' => ?_) (fun w' hb hn => ?_) ?_ ?_; rotate_left 3; (go_simp; constructor <;> with_reducible rfl); ((have h := named_any nm w'; rw [hnm] at h; exact h)); (simp only [Act.put, List.setIfInBounds_toArray, List.set_cons_zero, List.set_cons_succ]; with_reducible rfl))
                | (refine par_call (a' := ?_) (f := ?_) (args := ?_) (by rfl) (by rfl) (fun w' => ?_) (fun w' hb hn => ?_) ?_ ?_; rotate_left 3; (go_simp; constructor <;> with_reducible rfl); ((have h := may_any ⟨k, n, s⟩ w'; rw [hmy] at h; exact h)); (simp only [Act.put, List.setIfInBounds_toArray, List.set_cons_zero, List.set_cons_succ]; with_reducible rfl))
            refine par_end (fun w9 hb9 hf9 _ => ?_)
            replace hb9 := hb9.grow
            try refine wpList_none ?_
            go_wp2
            go_ret
            rw [E.out]
            exact ⟨rfl, hW.out.trans (hb9.mono hW.out.size)⟩
          | true =>
            by_cases h0 : i = 0
            · have hok : Hid (okAt l i = true) := by
                show _ = _
                subst h0
                simp [okAt, Hx.out, hnm, hmy]
              have q0 : decide (0 < (i : Int)) = false := by simp [h0]
              have q0' : decide (0 < i) = false := by simp [h0]
              refine wp_par (fun _ => False) (fun _ => True) (List.replicate 25 false) _ [.fix ?_, .fix ?_, .fix ?_, .fix ?_, .fix ?_, .fix ?_, .fix ?_, .fix ?_, .fix ?_, .fix ?_, .fix ?_, .fix ?_, .fix ?_, .fix ?_, .fix ?_, .fix ?_, .fix ?_, .fix ?_, .fix ?_, .fix ?_, .fix ?_, .fix ?_, .fix ?_, .fix ?_, .fix ?_] (by kernel_rfl) (by kernel_rfl) (by simp only [List.length_replicate, List.drop_succ_cons, List.drop_zero, List.drop_nil]; with_reducible rfl) rfl (fun _ _ _ _ _ => ⟨fun h => h, fun h => h⟩) (fun _ _ h _ => h) trivial ?_
              rotate_left 25
              iterate 25
                first
                  | (refine par_skip (a' := ?_) (by rfl) (by rfl) ?_ ?_ ?_; rotate_left 1; with_reducible rfl; (simp only [Act.put, List.setIfInBounds_toArray, List.set_cons_zero, List.set_cons_succ]; with_reducible rfl))
                  | (refine par_run (a' := ?_) (by rfl) (by rfl) (fun w' hb hn => ?_) ?_ ?_; rotate_left 1; (have hc := hb.cells; first | (go_simp; (try simp (disch := omega) only [IntWalk.i64_in, IntWalk.i32_in, IntWalk.u64_in, IntWalk.u8_in, IntWalk.u32_in, toNatUp, iteOmega]); with_reducible rfl) | (go_simp; (try simp (disch := omega) only [IntWalk.i64_in, IntWalk.i32_in, IntWalk.u64_in, IntWalk.u8_in, IntWalk.u32_in, toNatUp, iteOmega]); go_simp; with_reducible rfl)); (simp only [Act.put, List.setIfInBounds_toArray, List.set_cons_zero, List.set_cons_succ]; with_reducible rfl))
                  | (refine par_call (a' := ?_) (f := ?_) (args := ?_) (by rfl) (by rfl) (fun w' => ?_) (fun w' hb hn => ?_) ?_ ?_; rotate_left 3; (go_simp; constructor <;> with_reducible rfl); ((have h := named_any nm w'; rw [hnm] at h; exact h)); (simp only [Act.put, List.setIfInBounds_toArray, List.set_cons_zero, List.set_cons_succ]; with_reducible rfl))
                  | (refine par_call (a' := ?_) (f := ?_) (args := ?_) (by rfl) (by rfl) (fun w' => ?_) (fun w' hb hn => ?_) ?_ ?_; rotate_left 3; (go_simp; constructor <;> with_reducible rfl); ((have h := may_any ⟨k, n, s⟩ w'; rw [hmy] at h; exact h)); (simp only [Act.put, List.setIfInBounds_toArray, List.set_cons_zero, List.set_cons_succ]; with_reducible rfl))
              refine par_end (fun w9 hb9 hf9 _ => ?_)
              replace hb9 := hb9.grow
              try refine wpList_none ?_
              have hbb := hid (hW.out.trans (hb9.mono hW.out.size))
              clear hb9
              go_wp2
              go_roundw
              case rel => exact ⟨i + 1, by omega, by go_num, Hrnd.out hok.out, hbb.out⟩
              case measure => simp [intOf]; omega
            · have q0 : decide (0 < (i : Int)) = true := by simp; omega
              have q0' : decide (0 < i) = true := by simp; omega
              have hi1 : 1 ≤ i := by omega
              refine wp_par (fun _ => False) (fun _ => True) (List.replicate 25 false) _ [.fix ?_, .fix ?_, .fix ?_, .fix ?_, .fix ?_, .fix ?_, .fix ?_, .fix ?_, .fix ?_, .fix ?_, .fix ?_, .fix ?_, .fix ?_, .fix ?_, .fix ?_, .fix ?_, .fix ?_, .fix ?_, .fix ?_, .fix ?_, .fix ?_, .fix ?_, .fix ?_, .fix ?_, .fix ?_] (by kernel_rfl) (by kernel_rfl) (by simp only [List.length_replicate, List.drop_succ_cons, List.drop_zero, List.drop_nil]; with_reducible rfl) rfl (fun _ _ _ _ _ => ⟨fun h => h, fun h => h⟩) (fun _ _ h _ => h) trivial ?_
              rotate_left 25
              iterate 25
                first
                  | (refine par_skip (a' := ?_) (by rfl) (by rfl) ?_ ?_ ?_; rotate_left 1; with_reducible rfl; (simp only [Act.put, List.setIfInBounds_toArray, List.set_cons_zero, List.set_cons_succ]; with_reducible rfl))
                  | (refine par_run (a' := ?_) (by rfl) (by rfl) (fun w' hb hn => ?_) ?_ ?_; rotate_left 1; (have hc := hb.cells; first | (go_simp; (try simp (disch := omega) only [IntWalk.i64_in, IntWalk.i32_in, IntWalk.u64_in, IntWalk.u8_in, IntWalk.u32_in, toNatUp, iteOmega]); with_reducible rfl) | (go_simp; (try simp (disch := omega) only [IntWalk.i64_in, IntWalk.i32_in, IntWalk.u64_in, IntWalk.u8_in, IntWalk.u32_in, toNatUp, iteOmega]); go_simp; with_reducible rfl)); (simp only [Act.put, List.setIfInBounds_toArray, List.set_cons_zero, List.set_cons_succ]; with_reducible rfl))
                  | (refine par_call (a' := ?_) (f := ?_) (args := ?_) (by rfl) (by rfl) (fun w' => ?_) (fun w' hb hn => ?_) ?_ ?_; rotate_left 3; (go_simp; constructor <;> with_reducible rfl); ((have h := named_any nm w'; rw [hnm] at h; exact h)); (simp only [Act.put, List.setIfInBounds_toArray, List.set_cons_zero, List.set_cons_succ]; with_reducible rfl))
                  | (refine par_call (a' := ?_) (f := ?_) (args := ?_) (by rfl) (by rfl) (fun w' => ?_) (fun w' hb hn => ?_) ?_ ?_; rotate_left 3; (go_simp; constructor <;> with_reducible rfl); ((have h := may_any ⟨k, n, s⟩ w'; rw [hmy] at h; exact h)); (simp only [Act.put, List.setIfInBounds_toArray, List.set_cons_zero, List.set_cons_succ]; with_reducible rfl))
              refine par_end (fun w9 hb9 hf9 _ => ?_)
              replace hb9 := hb9.grow
              try refine wpList_none ?_
              cases hl2 : Op.bytesLess nm2.toList nm.toList with
              | true =>
                have hok : Hid (okAt l i = true) := by
                  show _ = _
                  obtain ⟨j, rfl⟩ : ∃ j, i = j + 1 := ⟨i - 1, by omega⟩
                  have hy' := Hy.out
                  simp only [Nat.add_sub_cancel] at hy'
                  simp only [ByteArray.toList_eq] at hl2
                  simp [okAt, Hx.out, hnm, hmy, hy', ltS, hl2]
                have hbb := hid (hW.out.trans (hb9.mono hW.out.size))
                clear hb9
                go_wp2
                go_roundw
                case rel => exact ⟨i + 1, by omega, by go_num, Hrnd.out hok.out, hbb.out⟩
                case measure => simp [intOf]; omega
              | false =>
                have E : Hid (rightV l = false) := right_bad hlt (by
                  obtain ⟨j, rfl⟩ : ∃ j, i = j + 1 := ⟨i - 1, by omega⟩
                  have hy' := Hy.out
                  simp only [Nat.add_sub_cancel] at hy'
                  simp only [ByteArray.toList_eq] at hl2
                  simp [okAt, Hx.out, hy', ltS, hl2])
                go_wp2
                go_ret
                rw [E.out]
                exact ⟨rfl, hW.out.trans (hb9.mono hW.out.size)⟩
      · have hin : i = l.length := by omega
        subst hin
        have E := hid (right_end (by omega) hR.out.1)
        go_wp2
        go_ret
        rw [E.out]
        exact ⟨rfl, hR.out.2⟩
end Go.Proofs.YtjkbfoeakeoeiaaGreat
namespace Go.Proofs.YtjkbfoeakeoeiaaGreat
set_option maxRecDepth 100000
set_option maxHeartbeats 40000000
set_option linter.unusedSimpArgs false
set_option linter.unusedVariables false
open Go.RowKit
end Go.Proofs.YtjkbfoeakeoeiaaGreat
namespace Go.Proofs.YtjkbfoeakeoeiaaGreat
set_option maxRecDepth 100000
set_option maxHeartbeats 40000000
set_option linter.unusedSimpArgs false
set_option linter.unusedVariables false
open Go.RowKit
abbrev IsB (B b : Nat) (s : ByteArray) (w : World) : Prop := Lib.IsBuilderF 135 5 B b (Lib.strCells s) w
theorem strCells_add (s t : ByteArray) : Lib.strCells (s ++ t) = Lib.strCells s ++ Lib.strCells t := by
  simp [Lib.strCells]
theorem info_builder : (Tryz.prog.info? 135).map (·.size) = some 2 := by kernel_rfl
theorem info_byte : (Tryz.prog.info? 5).map (fun i => (i.zero, i.size, i.bytes)) = some (some (.int .u8 0), 1, 1) := by kernel_rfl
theorem copyCheck_any (B b : Nat) (bs : List Value) (w : World) (h : Lib.IsBuilderF 135 5 B b bs w) :
    Calls Tryz.prog 75 #[.pointer (some ⟨b, 0, none⟩)] w fun e w' => e = .returned (.tuple #[]) ∧ Lib.BuilderAtF 135 5 B b (.pointer (some ⟨b, 0, none⟩)) bs w' ∧ Below B w w' := by
  obtain ⟨j, hj, hjs⟩ := Option.map_eq_some_iff.1 info_builder
  have Hj := hid hj
  have Hjs := hid hjs
  clear hj hjs
  rcases h with h | h
  · have hc := h.cell0
    have hf := h.frozen0
    have Hs := hid h.shape
    have hu := hid (h.used (.pointer (some ⟨b, 0, none⟩)))
    have hB := h.1
    clear h
    go_enter Tryz.func75, Tryz.ntmps75
    go_wp2
    rw [Lib.run_to_unsafe w ⟨b, 0, none⟩ Tryz.underlying132 Tryz.underlying160 Hj.out (by rw [Hjs.out]; decide) Hs.out (Nat.zero_lt_succ 1)]
    simp only [Result.andThen]
    rw [Oper.upon_value]
    go_wp2
    rw [run_callFunc_extern Tryz.func81 (by kernel_rfl) (by kernel_rfl) (by kernel_rfl) (e := Extern.AbiNoEscape.same) (by kernel_rfl)]
    rw [Lib.run_noEscape]
    simp only [Result.andThen]
    rw [Oper.upon_value]
    go_wp2
    rw [Lib.run_from_unsafe w ⟨b, 0, none⟩ Tryz.underlying160 Tryz.underlying132 Hj.out Hs.out (by kernel_rfl)]
    simp only [Result.andThen]
    rw [Oper.upon_value]
    go_wp2
    go_end0
    exact ⟨rfl, hu.out, (Below.refl B w).setCell (p := ⟨b, 0, none⟩) hB _⟩
  · have hc := h.cell0
    have H := hid h
    clear h
    go_enter Tryz.func75, Tryz.ntmps75
    go_wp2
    rw [Lib.run_neq_ptr_same w _ Tryz.underlying132 Hj.out]
    go_wp2
    go_end0
    exact ⟨rfl, H.out, Below.refl B w⟩
theorem wstr_any (B b : Nat) (t s : ByteArray) (w : World) (h : IsB B b t w) (hlen : t.size + s.size ≤ 140737488355328) (hBw : B ≤ w.heap.size) :
    Calls Tryz.prog 61 #[.pointer (some ⟨b, 0, none⟩), .string s] w fun e w' => e = .returned (.tuple #[.int .i64 s.size, .nilIface]) ∧ IsB B b (t ++ s) w' ∧ Below B w w' := by
  obtain ⟨i0, hi, hz0, hz1, hz2⟩ := info_parts info_byte
  have H := hid h
  clear h
  go_enter Tryz.func61, Tryz.ntmps61
  go_wp2_with (go_at_call 75; refine (copyCheck_any B b _ w H.out).mono ?_)
  rintro e w1 ⟨rfl, ⟨hB, v, hbk, hown, hne⟩, hb1⟩
  have c0 : w1.cell? ⟨b, 0, none⟩ = some (.pointer (some ⟨b, 0, none⟩)) := by rw [Lib.cell_of_heap hbk]; rfl
  have c1 : w1.cell? ⟨b, 1, none⟩ = some v := by rw [Lib.cell_of_heap hbk]; rfl
  have hz := hb1.size
  go_wp2_with (at_builtin; refine Lib.wpList_append_own_stringF _ rfl _ _ 133 9 rfl B 5 i0 Tryz.underlying133 Tryz.underlying9 hi hz0 hz1 hz2 _ _ _ rfl hown s rfl ?c3 ?c4 ?c5 ?_)
  case c3 => unfold maxLen; simp only [Lib.strCells_length]; omega
  case c4 => simp only [Lib.strCells_length]; omega
  case c5 => omega
  intro v' w2 hown' hgrow _
  have hlt := heap_lt hbk
  have hb2 : w2.heap[b]? = some (.cells #[.pointer (some ⟨b, 0, none⟩), v] 135 (0, 0)) := by
    rw [hgrow.block b hlt (fun e => hne e.symm)]
    exact hbk
  have d0 : w2.cell? ⟨b, 0, none⟩ = some (.pointer (some ⟨b, 0, none⟩)) := by rw [Lib.cell_of_heap hb2]; rfl
  have d1 : w2.cell? ⟨b, 1, none⟩ = some v := by rw [Lib.cell_of_heap hb2]; rfl
  have f1 : w2.frozen? ⟨b, 1, none⟩ = false := Lib.frozen_of_heap hb2 1
  obtain ⟨ao, n', cap, rfl⟩ : ∃ ao n' cap, v' = .slice ao n' cap := by
    rcases hown'.2 with ⟨hv, _⟩ | ⟨g, cap, cur, fz, hv, _⟩
    · exact ⟨_, _, _, hv⟩
    · exact ⟨_, _, _, hv⟩
  have hnew : Hid (IsB B b (t ++ s) (w2.setCell ⟨b, 1, none⟩ (.slice ao n' cap))) := .inr (by
    rw [strCells_add]
    exact Lib.BuilderAtF.put (T := 135) (e := 5) hB hb2 (bs' := Lib.strCells t ++ Lib.strCells s) (by simpa [Lib.strCells_length] using hown') (by decide))
  have hbel : Hid (Below B w (w2.setCell ⟨b, 1, none⟩ (.slice ao n' cap))) := (hb1.grown hgrow (by omega) (fun k hk => (hown.lt k hk).1)).setCell (p := ⟨b, 1, none⟩) hB _
  go_wp2
  go_ret2
  exact ⟨rfl, hnew.out, hbel.out⟩
theorem Lib_at_grow {T e : TypeId} {B b : Nat} {p : Value} {bs : List Value} {w w' : World} (h : Lib.BuilderAtF T e B b p bs w) (hb : Below w.heap.size w w') : Lib.BuilderAtF T e B b p bs w' := by
  obtain ⟨hB, v, hh, hown, hne⟩ := h
  refine ⟨hB, v, (hb.block b (heap_lt hh)).trans hh, ⟨hown.1, ?_⟩, hne⟩
  rcases hown.2 with hn | ⟨g, cap, cur, fz, hv, hg, hh2, r⟩
  · exact .inl hn
  · exact .inr ⟨g, cap, cur, fz, hv, hg, (hb.block g (heap_lt hh2)).trans hh2, r⟩
theorem IsB.grow {B b : Nat} {s : ByteArray} {w w' : World} (h : IsB B b s w) (hb : Below w.heap.size w w') : IsB B b s w' :=
  h.elim (fun x => .inl (Lib_at_grow x hb)) (fun x => .inr (Lib_at_grow x hb))
end Go.Proofs.YtjkbfoeakeoeiaaGreat
namespace Go.Proofs
set_option maxRecDepth 100000
set_option maxHeartbeats 40000000
set_option linter.unusedSimpArgs false
set_option linter.unusedVariables false
open Go.Shelf
def Tryz.lays169_ren : Go.Shelf.Ren := ⟨fun | 169 => 65 | n => n, fun | 70 => 132 | 9 => 9 | 0 => 0 | 72 => 135 | 37 => 133 | 127 => 151 | 3 => 3 | 5 => 5 | n => n, fun | n => n⟩
theorem Tryz.lays169 : Go.Proofs.Lays.n169 Tryz.prog Tryz.lays169_ren := {
  mixed := by kernel_rfl
  f169 := Tryz.func65.trans (congrArg some (by kernel_rfl))
  t0 := Tryz.underlying0
  a0 := Tryz.isAgg0
  z0 := Tryz.sizeOf0
  v0 := Tryz.zeroValue0
  t3 := Tryz.underlying3
  a3 := Tryz.isAgg3
  z3 := Tryz.sizeOf3
  v3 := Tryz.zeroValue3
  t9 := Tryz.underlying9
  a9 := Tryz.isAgg9
  z9 := Tryz.sizeOf9
  v9 := Tryz.zeroValue9
  t37 := Tryz.underlying133
  a37 := Tryz.isAgg133
  z37 := Tryz.sizeOf133
  v37 := Tryz.zeroValue133
  t70 := Tryz.underlying132
  a70 := Tryz.isAgg132
  z70 := Tryz.sizeOf132
  v70 := Tryz.zeroValue132
  t72 := Tryz.underlying135
  a72 := Tryz.isAgg135
  z72 := Tryz.sizeOf135
  v72 := Tryz.zeroValue135
  t127 := Tryz.underlying151
  a127 := Tryz.isAgg151
  z127 := Tryz.sizeOf151
  v127 := Tryz.zeroValue151 }
theorem Tryz.Builder_Extra_169 : Builder.Extra Tryz.prog Tryz.lays169_ren := {
  sizeBuilder := by kernel_rfl
  liesBuilder := by kernel_rfl
  t5 := Tryz.underlying5
  a5 := Tryz.isAgg5
  z5 := Tryz.sizeOf5
  v5 := Tryz.zeroValue5
  infoByte := by kernel_rfl
  cellsByte := by kernel_rfl
  sizeByte := by kernel_rfl
  neB5 := by decide }
open Go.RowKit in
theorem Tryz.Builder_String_any_k (B b : Nat) (l : List UInt8) (w : World) (h : Lib.IsBuilderF 135 5 B b (Lib.byteCells l) w) (hBw : B ≤ w.heap.size) :
    Calls Tryz.prog 65 #[.pointer (some ⟨b, 0, none⟩)] w fun e w' => e = .returned (.string ⟨l.toArray⟩) ∧ (Lib.IsBuilderF 135 5 B b (Lib.byteCells l) w' ∧ Below B w w' ∧ Lib.OthersKept 5 (some b) w w') := Any.Builder_String_any_k Tryz.lays169 Tryz.Builder_Extra_169 B b l w h hBw
end Go.Proofs
namespace Go.Proofs.YtjkbfoeakeoeiaaGreat
set_option maxRecDepth 100000
set_option maxHeartbeats 40000000
set_option linter.unusedSimpArgs false
set_option linter.unusedVariables false
open Go.IntWalk Go.RowKit
def varS (x : VarV) : ByteArray := txS x.name ++ valS x.v
def varsS (l : List VarV) : ByteArray := if rightV l then l.foldl (fun s x => s ++ varS x) (uvS l.length) else ⟨#[]⟩
theorem valS_size {v : ValV} (h : VOk v) : (valS v).size ≤ v.s.size + 11 := by
  unfold valS
  have h1 := txS_size h.s
  have h2 := inS_size h.n0 h.n1
  split
  · split
    · rw [ByteArray.size_append, kS_size]; omega
    · rw [ByteArray.size_append, kS_size]; omega
  · show 0 ≤ _
    omega
theorem varS_size {x : VarV} (h : VarOk x) : (varS x).size ≤ 4194325 := by
  unfold varS
  rw [ByteArray.size_append]
  have h1 := txS_size h.name
  have h2 := valS_size h.v
  have h3 := h.name
  have h4 := h.v.s
  omega
theorem right_le {l : List VarV} (h : rightV l = true) : l.length ≤ 16 := by
  rcases Nat.lt_or_ge 16 l.length with h' | h'
  · rw [right_long h'] at h; cases h
  · exact h'
theorem uv_small (n : Nat) (h : n ≤ 16) : (uvS n).size ≤ 10 := by
  rw [uvS_size]
  exact Lib.uvarint_length64 (by omega)
theorem builder_made (w : World) : IsB w.heap.size w.heap.size ⟨#[]⟩ (w.alloc (.cells #[.pointer none, .slice none 0 0] 135)) := by
  refine .inl ⟨Nat.le_refl _, .slice none 0 0, alloc_new _ _, ⟨rfl, .inl ⟨rfl, rfl⟩⟩, by simp [Value.ownBlock]⟩
theorem varsBytes_any (v : Value) (l : List VarV) (w : World) (hok : ∀ x ∈ l, VarOk x) (h : VarsAt w v l) : Calls Tryz.prog 33 #[v] w fun e w' => e = .returned (.string (varsS l)) ∧ Below w.heap.size w w' := by
  have H := hid h
  obtain ⟨a, cap, rfl, h1, h2, -⟩ := h
  have Hok := hid hok
  clear hok
  go_enter Tryz.func33, Tryz.ntmps33
  go_wp2_with fail
  refine (right_any _ l w H.out).mono ?_
  rintro e w1 ⟨rfl, b1⟩
  cases hr : rightV l with
  | false =>
    have E : Hid (varsS l = ⟨#[]⟩) := by show _ = _; unfold varsS; rw [hr]; rfl
    clear hr
    go_wp2
    go_ret
    rw [E.out]
    exact ⟨rfl, b1⟩
  | true =>
    have hl16 := right_le hr
    have E : Hid (varsS l = l.foldl (fun s x => s ++ varS x) (uvS l.length)) := by show _ = _; unfold varsS; rw [hr]; rfl
    have hu := uv_small l.length hl16
    have B1 := hid b1
    clear hr
    go_wp2_with fail
    have hm := hid (builder_made w1)
    have hz := b1.size
    clear b1
    have hbb := hid ((B1.out.alloc hz (.cells #[.pointer none, .slice none 0 0] 135)))
    have hsz : (w1.alloc (.cells #[.pointer none, .slice none 0 0] 135)).heap.size = w1.heap.size + 1 := by simp
    generalize hW : w1.alloc (.cells #[.pointer none, .slice none 0 0] 135) = W at hm hbb hsz ⊢
    clear hW
    have hbw : w1.heap.size ≤ W.heap.size := by omega
    clear hsz
    generalize hB : w1.heap.size = B at hm hz hbw ⊢
    clear hB
    refine (wuint_any l.length (by omega) _).mono ?_
    rintro e w2 ⟨rfl, b2⟩
    have hb2 := hid (hm.out.grow b2)
    have hz2 := b2.size
    have hbb2 := hid (hbb.out.trans (b2.mono hbb.out.size))
    clear b2
    go_wp2_with fail
    refine (wstr_any B B ⟨#[]⟩ (uvS l.length) w2 hb2.out (by rw [show (⟨#[]⟩ : ByteArray).size = 0 from rfl]; omega) (by omega)).mono ?_
    rintro e w3 ⟨rfl, m3, b3⟩
    have hz3 := b3.size
    have hbb3 := hid (hbb2.out.trans (b3.mono hz))
    have m3 := hid m3
    clear b3
    go_wp2
    go_loopw [16] (fun vi wr => ∃ (i : Nat) (s : ByteArray), i ≤ l.length ∧ vi = .int .i64 i ∧ s.size ≤ 10 + i * 4194325 ∧ Hid (s = (l.take i).foldl (fun s x => s ++ varS x) (uvS l.length) ∧ IsB B B s wr ∧ Below w.heap.size w wr ∧ B ≤ wr.heap.size)) (fun vi _ => l.length - (intOf vi).toNat)
    case atStart => exact ⟨0, uvS l.length, Nat.zero_le _, rfl, by omega, by simp, by have := m3.out; rwa [show (⟨#[]⟩ : ByteArray) ++ uvS l.length = uvS l.length from ByteArray.empty_append] at this, hbb3.out, by omega⟩
    case round =>
      obtain ⟨i, s, hi, rfl, hs, hR⟩ := hrel
      by_cases hlt : i < l.length
      · obtain ⟨x, hx⟩ : ∃ x, l[i]? = some x := ⟨_, List.getElem?_eq_getElem hlt⟩
        obtain ⟨a', cap', hv, -, -, hcell⟩ := H.out.below hR.out.2.2.1
        cases hv
        obtain ⟨b, off, rfl, c0, c1, c2, c3⟩ := hcell i x hx
        have hvo := hid (Hok.out x (List.mem_of_getElem? hx))
        have hvs := varS_size hvo.out
        have hst := hid (app_snoc varS l i x hx (uvS l.length))
        obtain ⟨nm, k, n, t⟩ := x
        dsimp only at c0 c1 c2 c3
        clear hcell hx
        go_wp2_with fail
        have hst0 := alloc_new wr (.cells #[.string nm, .int .i64 k, .int .i64 n, .string t] 80)
        have hW := hid (hR.out.2.2.1.alloc hR.out.2.2.1.size (.cells #[.string nm, .int .i64 k, .int .i64 n, .string t] 80))
        have hM := hid (hR.out.2.1.grow ((Below.refl _ wr).alloc (Nat.le_refl _) (.cells #[.string nm, .int .i64 k, .int .i64 n, .string t] 80)))
        have hsz := hR.out.2.2.2
        have hn := hvo.out.name
        dsimp only at hn
        have hvs' : (txS nm ++ valS ⟨k, n, t⟩).size ≤ 4194325 := hvs
        have hsum := hvs'
        rw [ByteArray.size_append] at hsum
        refine wp_par (fun _ => False) (fun _ => True) (List.replicate 7 false) _ [.fix ?_, .fix ?_, .fix ?_, .fix ?_, .fix ?_, .fix ?_, .fix ?_] (by kernel_rfl) (by kernel_rfl) (by simp only [List.length_replicate, List.drop_succ_cons, List.drop_zero, List.drop_nil]; with_reducible rfl) rfl (fun _ _ _ _ _ => ⟨fun h => h, fun h => h⟩) (fun _ _ h _ => h) trivial ?_
        rotate_left 7
        iterate 7
          first
            | (refine par_skip (a' := ?_) (by rfl) (by rfl) ?_ ?_ ?_; rotate_left 1; with_reducible rfl; (simp only [Act.put, List.setIfInBounds_toArray, List.set_cons_zero, List.set_cons_succ]; with_reducible rfl))
            | (refine par_run (a' := ?_) (by rfl) (by rfl) (fun w' hb hn => ?_) ?_ ?_; rotate_left 1; (have hc := hb.cells; first | (go_simp; (try simp (disch := omega) only [IntWalk.i64_in, IntWalk.i32_in, IntWalk.u64_in, IntWalk.u8_in, IntWalk.u32_in, toNatUp, iteOmega]); with_reducible rfl) | (go_simp; (try simp (disch := omega) only [IntWalk.i64_in, IntWalk.i32_in, IntWalk.u64_in, IntWalk.u8_in, IntWalk.u32_in, toNatUp, iteOmega]); go_simp; with_reducible rfl)); (simp only [Act.put, List.setIfInBounds_toArray, List.set_cons_zero, List.set_cons_succ]; with_reducible rfl))
            | (refine par_call (a' := ?_) (f := ?_) (args := ?_) (by rfl) (by rfl) (fun w' => ?_) (fun w' hb hn => ?_) ?_ ?_; rotate_left 3; (go_simp; constructor <;> with_reducible rfl); (exact wtext_any nm (by omega) w'); (simp only [Act.put, List.setIfInBounds_toArray, List.set_cons_zero, List.set_cons_succ]; with_reducible rfl))
            | (refine par_call (a' := ?_) (f := ?_) (args := ?_) (by rfl) (by rfl) (fun w' => ?_) (fun w' hb hn => ?_) ?_ ?_; rotate_left 3; (go_simp; constructor <;> with_reducible rfl); (exact vbytes_any ⟨k, n, t⟩ hvo.out.v w'); (simp only [Act.put, List.setIfInBounds_toArray, List.set_cons_zero, List.set_cons_succ]; with_reducible rfl))
        refine par_end (fun w9 hb9 hf9 _ => ?_)
        replace hb9 := hb9.grow
        try refine wpList_none ?_
        have hM9 := hid (hM.out.grow hb9)
        have hW9 := hid (hW.out.trans (hb9.mono hW.out.size))
        have hz9 := hb9.size
        simp only [World.size_alloc] at hz9
        clear hb9
        go_wp2_with fail
        refine (wstr_any B B s (txS nm ++ valS ⟨k, n, t⟩) w9 hM9.out (by omega) (by omega)).mono ?_
        rintro e w10 ⟨rfl, m10, b10⟩
        have hz10 := b10.size
        have hb10 := hid (hW9.out.trans (b10.mono hz))
        have hm10 := hid m10
        have hvs2 : (s ++ (txS nm ++ valS ⟨k, n, t⟩)).size ≤ 10 + (i + 1) * 4194325 := by rw [ByteArray.size_append]; omega
        clear m10 b10 hst0
        go_wp2
        go_roundw
        case rel => exact ⟨i + 1, s ++ (txS nm ++ valS ⟨k, n, t⟩), by omega, by go_num, hvs2, by rw [hst.out, hR.out.1]; rfl, hm10.out, hb10.out, by omega⟩
        case measure => simp [intOf]; omega
      · have hin : i = l.length := by omega
        subst hin
        have hfin : Hid (s = varsS l) := by
          have := hR.out.1
          rw [List.take_length] at this
          exact this.trans E.out.symm
        go_wp2_with fail
        refine (Tryz.Builder_String_any_k B B s.data.toList wr hR.out.2.1 hR.out.2.2.2).mono ?_
        rintro e w10 ⟨rfl, -, b10, -⟩
        have hb10 := hid (hR.out.2.2.1.trans (b10.mono hz))
        clear b10
        go_wp2
        go_ret
        rw [← hfin.out]
        exact ⟨by simp, hb10.out⟩
end Go.Proofs.YtjkbfoeakeoeiaaGreat
namespace Go.Proofs.YtjkbfoeakeoeiaaGreat
set_option maxRecDepth 100000
set_option maxHeartbeats 40000000
set_option linter.unusedSimpArgs false
set_option linter.unusedVariables false
open Go.RowKit
structure DepV where
  id : ByteArray
  bytes : ByteArray
structure InstV where
  key : Nat
  id : ByteArray
  vars : List VarV
structure TokV where
  key : Nat
  inst : Nat
  scope : Nat
  node : Int
  by_ : Int
  stuck : ByteArray
structure JobV where
  key : Nat
  token : Nat
  type : ByteArray
  retries : Int
  worker : ByteArray
  till : Int
structure TimV where
  token : Nat
  node : Int
  when_ : Int
structure SubV where
  token : Nat
  inst : Nat
  node : Int
  name : ByteArray
  key : ByteArray
  is : Bool
structure KeptV where
  token : Nat
  msg : Nat
  node : Int
structure LisV where
  token : Nat
  inst : Nat
  node : Int
  name : ByteArray
  key : ByteArray
  msg : Nat
  vars : List VarV
structure MsgV where
  key : Nat
  name : ByteArray
  for_ : ByteArray
  id : ByteArray
  till : Int
  vars : List VarV
  insts : List Nat
structure StateV where
  pos : Nat
  done : Nat
  made : Nat
  procs : List DepV
  insts : List InstV
  tokens : List TokV
  jobs : List JobV
  timers : List TimV
  subs : List SubV
  kept : List KeptV
  listed : List LisV
  msgs : List MsgV
abbrev U (n : Nat) : Value := .int .u64 (n : Int)
abbrev I (n : Int) : Value := .int .i64 n
def natsV (l : List Nat) : List Value := l.map fun n : Nat => Value.int .u64 (n : Int)
def DepV.at_ (_ : World) (cs : List Value) (x : DepV) : Prop := cs = [.string x.id, .string x.bytes]
def InstV.at_ (w : World) (cs : List Value) (x : InstV) : Prop := ∃ v, cs = [U x.key, .string x.id, v] ∧ VarsAt w v x.vars
def TokV.at_ (_ : World) (cs : List Value) (x : TokV) : Prop := cs = [U x.key, U x.inst, U x.scope, I x.node, I x.by_, .string x.stuck]
def JobV.at_ (_ : World) (cs : List Value) (x : JobV) : Prop := cs = [U x.key, U x.token, .string x.type, I x.retries, .string x.worker, I x.till]
def TimV.at_ (_ : World) (cs : List Value) (x : TimV) : Prop := cs = [U x.token, I x.node, I x.when_]
def SubV.at_ (_ : World) (cs : List Value) (x : SubV) : Prop := cs = [U x.token, U x.inst, I x.node, .string x.name, .string x.key, .bool x.is]
def KeptV.at_ (_ : World) (cs : List Value) (x : KeptV) : Prop := cs = [U x.token, U x.msg, I x.node]
def LisV.at_ (w : World) (cs : List Value) (x : LisV) : Prop := ∃ v, cs = [U x.token, U x.inst, I x.node, .string x.name, .string x.key, U x.msg, v] ∧ VarsAt w v x.vars
def MsgV.at_ (w : World) (cs : List Value) (x : MsgV) : Prop := ∃ v u, cs = [U x.key, .string x.name, .string x.for_, .string x.id, I x.till, v, u] ∧ VarsAt w v x.vars ∧ SlR w u (natsV x.insts)
def ListAt {α : Type} (R : World → List Value → α → Prop) (size : Nat) (w : World) (v : Value) (l : List α) : Prop :=
  ∃ a cap, v = .slice a l.length cap ∧ l.length ≤ cap ∧ l.length ≤ maxLen ∧ ∀ (i : Nat) (x : α), l[i]? = some x → ∃ b off cs, a = some ⟨b, off, none⟩ ∧ cs.length = size ∧ R w cs x ∧ ∀ j u, cs[j]? = some u → w.cell? ⟨b, off + i * size + j, none⟩ = some u
def Stable {α : Type} (R : World → List Value → α → Prop) : Prop := ∀ w w' cs x, R w cs x → Below w.heap.size w w' → R w' cs x
theorem ListAt.grow {α : Type} {R : World → List Value → α → Prop} {size : Nat} {w w' : World} {v : Value} {l : List α} (hs : Stable R) (h : ListAt R size w v l) (hb : Below w.heap.size w w') : ListAt R size w' v l := by
  obtain ⟨a, cap, hv, h1, h2, h3⟩ := h
  refine ⟨a, cap, hv, h1, h2, fun i x hx => ?_⟩
  obtain ⟨b, off, cs, ha, hl, hr, hc⟩ := h3 i x hx
  exact ⟨b, off, cs, ha, hl, hs _ _ _ _ hr hb, fun j u hu => (hb.cell (p := ⟨b, off + i * size + j, none⟩) (World.block_lt_of_cell? w _ (hc j u hu))).trans (hc j u hu)⟩
theorem DepV.st : Stable DepV.at_ := fun _ _ _ _ h _ => h
theorem InstV.st : Stable InstV.at_ := fun _ _ _ _ h hb => by obtain ⟨v, h1, h2⟩ := h; exact ⟨v, h1, h2.below hb⟩
theorem TokV.st : Stable TokV.at_ := fun _ _ _ _ h _ => h
theorem JobV.st : Stable JobV.at_ := fun _ _ _ _ h _ => h
theorem TimV.st : Stable TimV.at_ := fun _ _ _ _ h _ => h
theorem SubV.st : Stable SubV.at_ := fun _ _ _ _ h _ => h
theorem KeptV.st : Stable KeptV.at_ := fun _ _ _ _ h _ => h
theorem LisV.st : Stable LisV.at_ := fun _ _ _ _ h hb => by obtain ⟨v, h1, h2⟩ := h; exact ⟨v, h1, h2.below hb⟩
theorem MsgV.st : Stable MsgV.at_ := fun _ _ _ _ h hb => by obtain ⟨v, u, h1, h2, h3⟩ := h; exact ⟨v, u, h1, h2.below hb, h3.below hb⟩
structure StateAt (w : World) (cs : List Value) (s : StateV) (vp vi vt vj vr vs vk vl vm : Value) : Prop where
  cells : cs = [U s.pos, U s.done, U s.made, vp, vi, vt, vj, vr, vs, vk, vl, vm]
  procs : ListAt DepV.at_ 2 w vp s.procs
  insts : ListAt InstV.at_ 3 w vi s.insts
  tokens : ListAt TokV.at_ 6 w vt s.tokens
  jobs : ListAt JobV.at_ 6 w vj s.jobs
  timers : ListAt TimV.at_ 3 w vr s.timers
  subs : ListAt SubV.at_ 6 w vs s.subs
  kept : ListAt KeptV.at_ 3 w vk s.kept
  listed : ListAt LisV.at_ 7 w vl s.listed
  msgs : ListAt MsgV.at_ 7 w vm s.msgs
theorem StateAt.grow {w w' : World} {cs : List Value} {s : StateV} {vp vi vt vj vr vs vk vl vm : Value} (h : StateAt w cs s vp vi vt vj vr vs vk vl vm) (hb : Below w.heap.size w w') : StateAt w' cs s vp vi vt vj vr vs vk vl vm :=
  ⟨h.cells, h.procs.grow DepV.st hb, h.insts.grow InstV.st hb, h.tokens.grow TokV.st hb, h.jobs.grow JobV.st hb, h.timers.grow TimV.st hb, h.subs.grow SubV.st hb, h.kept.grow KeptV.st hb, h.listed.grow LisV.st hb, h.msgs.grow MsgV.st hb⟩
def U64 (n : Nat) : Prop := n < 18446744073709551616
def I64 (n : Int) : Prop := -9223372036854775808 ≤ n ∧ n ≤ 9223372036854775807
def Sz (s : ByteArray) : Prop := s.size ≤ 2097152
structure DepOk (x : DepV) : Prop where
  id : Sz x.id
  bytes : Sz x.bytes
structure InstOk (x : InstV) : Prop where
  key : U64 x.key
  id : Sz x.id
  vars : ∀ y ∈ x.vars, VarOk y
structure TokOk (x : TokV) : Prop where
  key : U64 x.key
  inst : U64 x.inst
  scope : U64 x.scope
  node : I64 x.node
  by_ : I64 x.by_
  stuck : Sz x.stuck
structure JobOk (x : JobV) : Prop where
  key : U64 x.key
  token : U64 x.token
  type : Sz x.type
  retries : I64 x.retries
  worker : Sz x.worker
  till : I64 x.till
structure TimOk (x : TimV) : Prop where
  token : U64 x.token
  node : I64 x.node
  when_ : I64 x.when_
structure SubOk (x : SubV) : Prop where
  token : U64 x.token
  inst : U64 x.inst
  node : I64 x.node
  name : Sz x.name
  key : Sz x.key
structure KeptOk (x : KeptV) : Prop where
  token : U64 x.token
  msg : U64 x.msg
  node : I64 x.node
structure LisOk (x : LisV) : Prop where
  token : U64 x.token
  inst : U64 x.inst
  node : I64 x.node
  name : Sz x.name
  key : Sz x.key
  msg : U64 x.msg
  vars : ∀ y ∈ x.vars, VarOk y
structure MsgOk (x : MsgV) : Prop where
  key : U64 x.key
  name : Sz x.name
  for_ : Sz x.for_
  id : Sz x.id
  till : I64 x.till
  vars : ∀ y ∈ x.vars, VarOk y
  insts : ∀ n ∈ x.insts, U64 n
  many : x.insts.length ≤ 2097152
structure StateOk (s : StateV) : Prop where
  pos : U64 s.pos
  done : U64 s.done
  made : U64 s.made
  procs : ∀ x ∈ s.procs, DepOk x
  insts : ∀ x ∈ s.insts, InstOk x
  tokens : ∀ x ∈ s.tokens, TokOk x
  jobs : ∀ x ∈ s.jobs, JobOk x
  timers : ∀ x ∈ s.timers, TimOk x
  subs : ∀ x ∈ s.subs, SubOk x
  kept : ∀ x ∈ s.kept, KeptOk x
  listed : ∀ x ∈ s.listed, LisOk x
  msgs : ∀ x ∈ s.msgs, MsgOk x
  many : s.procs.length + s.insts.length + s.tokens.length + s.jobs.length + s.timers.length + s.subs.length + s.kept.length + s.listed.length + s.msgs.length ≤ 2097152
end Go.Proofs.YtjkbfoeakeoeiaaGreat
namespace Go.Proofs.YtjkbfoeakeoeiaaGreat
set_option maxRecDepth 100000
set_option maxHeartbeats 40000000
set_option linter.unusedSimpArgs false
set_option linter.unusedVariables false
open Go.RowKit
structure RecV where
  cls : Int
  kind : Int
  from_ : Nat
  time : Int
  key : Nat
  key2 : Nat
  key3 : Nat
  n : Int
  m : Int
  a : ByteArray
  b : ByteArray
  c : ByteArray
  vars : List VarV
def rec0 : RecV := ⟨0, 0, 0, 0, 0, 0, 0, 0, 0, ⟨#[]⟩, ⟨#[]⟩, ⟨#[]⟩, []⟩
def w64 (n : Nat) : Nat := n % 18446744073709551616
def putBy {α : Type} (o : α → α → Int) (l : List α) (x : α) : List α := match l.findIdx? (fun y => decide (o y x = 0)) with
  | some i => l.set i x
  | none => match l.findIdx? (fun y => decide (o y x > 0)) with
    | some i => l.take i ++ x :: l.drop i
    | none => l ++ [x]
def changeBy {α : Type} (p : α → Bool) (f : α → α) (l : List α) : List α := match l.findIdx? p with
  | some i => l.modify i f
  | none => l
def withoutBy {α : Type} (p : α → Bool) (l : List α) : List α := l.filter fun x => !p x
def cmpN (a b : Nat) : Int := if a < b then -1 else if a = b then 0 else 1
def cmpZ (a b : Int) : Int := if a < b then -1 else if a = b then 0 else 1
def cmpP (a : Nat) (i : Int) (b : Nat) (k : Int) : Int := if cmpN a b = 0 then cmpZ i k else cmpN a b
def ofLis (r : RecV) (x : LisV) : Bool := decide (x.token = r.key) && decide (x.node = r.n)
def ofMsg (r : RecV) (m : MsgV) : Bool := decide (m.key = r.key2)
def evListed (s : StateV) (r : RecV) : StateV := { s with listed := putBy (fun x y : LisV => cmpP x.token x.node y.token y.node) s.listed ⟨r.key, r.key2, r.n, r.a, r.b, 0, []⟩ }
def evPublished (s : StateV) (r : RecV) : StateV := { s with msgs := putBy (fun x y : MsgV => cmpN x.key y.key) s.msgs ⟨r.key, r.a, r.b, r.c, r.n, r.vars, []⟩, made := w64 (s.made + 1) }
def evExpired (s : StateV) (r : RecV) : StateV := { s with msgs := withoutBy (fun m : MsgV => decide (m.key = r.key)) s.msgs }
def evSending (s : StateV) (r : RecV) : StateV := match s.listed.find? (ofLis r), s.msgs.find? (ofMsg r) with
  | some x, some m => { s with listed := changeBy (ofLis r) (fun y => { y with msg := r.key2, vars := m.vars }) s.listed, msgs := changeBy (ofMsg r) (fun y => { y with insts := y.insts ++ [x.inst] }) s.msgs }
  | _, _ => s
def evMatched (s : StateV) (r : RecV) : StateV := { s with listed := withoutBy (ofLis r) s.listed }
def evMissed (s : StateV) (r : RecV) : StateV := match s.listed.find? (ofLis r) with
  | some x => { s with listed := withoutBy (ofLis r) s.listed, msgs := changeBy (ofMsg r) (fun y => { y with insts := withoutBy (fun k => decide (k = x.inst)) y.insts }) s.msgs }
  | none => s
def eventV (s : StateV) (r : RecV) : StateV :=
  if r.kind = 18 then evListed s r else if r.kind = 19 then evPublished s r else if r.kind = 20 then evExpired s r else if r.kind = 21 then evSending s r
  else if r.kind = 22 then evMatched s r else if r.kind = 23 then evMissed s r else s
def applyV (s : StateV) (pos : Nat) (r : RecV) : StateV :=
  if r.cls = 2 then eventV { s with pos := pos, done := max s.done r.from_ } r else if r.cls = 3 then { s with pos := pos, done := max s.done r.from_ } else { s with pos := pos }
structure WorkV where
  s : StateV
  part : Int
  pos : Nat
  now : Int
  ev : List RecV
  steps : Int
def beginV (s : StateV) (part : Int) (pos : Nat) (now : Int) : WorkV := ⟨s, part, pos, now, [], 0⟩
def emitV (w : WorkV) (r : RecV) : WorkV :=
  { w with ev := w.ev ++ [{ r with cls := 2, from_ := w.pos, time := w.now }], s := applyV w.s (w64 (w.s.pos + 1)) { r with cls := 2, from_ := w.pos, time := w.now } }
def keyOfW (w : WorkV) : Nat := w64 ((w.part % 18446744073709551616).toNat * 1099511627776 + w.s.made + 1)
def recS (r : RecV) : ByteArray :=
  ⟨#[UInt8.ofNat (r.cls % 256).toNat, UInt8.ofNat (r.kind % 256).toNat]⟩ ++ (uvS r.from_ ++ inS r.time) ++ (uvS r.key ++ uvS r.key2 ++ uvS r.key3) ++ (inS r.n ++ inS r.m) ++ (txS r.a ++ txS r.b ++ txS r.c) ++ varsS r.vars
def mayR (r : RecV) : Bool :=
  decide (1 ≤ r.cls) && decide (r.cls ≤ 3) && decide (1 ≤ r.kind) && decide (r.kind ≤ if r.cls = 2 then 24 else 16) && (decide (r.cls = 1) == decide (r.from_ = 0)) && decide (0 ≤ r.time) && decide (r.time ≤ 1099511627776)
    && decide (r.a.size ≤ if r.cls = 1 ∧ r.kind = 1 then 8192 else 32) && decide (r.b.size ≤ if r.cls = 2 ∧ r.kind = 1 then 8192 else 1024) && decide (r.c.size ≤ 32) && rightV r.vars && decide ((recS r).size ≤ 4096)
def shardV (key : ByteArray) (parts : Int) : Int := if parts < 1 then 0 else ((key.data.toList.foldl (fun h b => (31 * h + b.toNat) % 4294967296) 0 : Nat) : Int) % parts
def homeV (key : Nat) : Int := ((key / 1099511627776 % 2147483648 : Nat) : Int)
def livesV (w : WorkV) (m : MsgV) : Bool := decide (m.till > w.now)
def suitsV (m : MsgV) (x : LisV) : Bool := decide (m.name = x.name) && decide (m.for_ = x.key) && decide (x.msg = 0) && decide (m.insts.length < 500) && !decide (x.inst ∈ m.insts)
def sendR (x : LisV) (key : Nat) : RecV := { rec0 with kind := 21, key := x.token, n := x.node, key2 := key }
def pubStep (key : Nat) (a : WorkV × Nat) (x : LisV) : WorkV × Nat :=
  match a.1.s.msgs.find? (fun m => decide (m.key = key)) with
  | some m => if 0 < a.2 ∧ suitsV m x = true then (emitV a.1 (sendR x key), a.2 - 1) else a
  | none => a
def pubR (w : WorkV) (r : RecV) : RecV := { rec0 with kind := 19, key := keyOfW w, a := r.a, b := r.b, c := r.c, n := w.now + r.n, vars := r.vars }
def publishV (w : WorkV) (r : RecV) : WorkV × Int :=
  if named r.a = false ∨ 1024 < r.b.size ∨ 32 < r.c.size ∨ r.n < 0 ∨ 1048576 < r.n ∨ rightV r.vars = false then (w, 1)
  else if r.c.size ≠ 0 ∧ w.s.msgs.any (fun m => livesV w m && decide (m.name = r.a) && decide (m.for_ = r.b) && decide (m.id = r.c)) = true then (w, 6)
  else if 3000 < (varsS r.vars).size ∨ mayR { pubR w r with cls := 2, from_ := w.pos, time := w.now } = false then (w, 13)
  else
    let w1 := emitV w (pubR w r)
    let w2 := (w1.s.listed.foldl (pubStep (keyOfW w)) (w1, 100)).1
    (if r.n = 0 then emitV w2 { rec0 with kind := 20, key := keyOfW w } else w2, 0)
def pendSub (parts : Int) (x : SubV) : List (Int × RecV) := if x.is = true then [] else [(shardV x.key parts, { rec0 with cls := 1, kind := 12, key := x.token, key2 := x.inst, n := x.node, a := x.name, b := x.key })]
def pendLis (x : LisV) : List (Int × RecV) := if x.msg = 0 then [] else [(homeV x.token, { rec0 with cls := 1, kind := 14, key := x.token, n := x.node, key2 := x.msg, vars := x.vars })]
def pendingV (s : StateV) (parts : Int) : List (Int × RecV) := s.subs.flatMap (pendSub parts) ++ s.listed.flatMap pendLis
end Go.Proofs.YtjkbfoeakeoeiaaGreat
namespace Go.Proofs.YtjkbfoeakeoeiaaGreat
set_option maxRecDepth 100000
set_option maxHeartbeats 40000000
set_option linter.unusedSimpArgs false
set_option linter.unusedVariables false
open Go.RowKit
theorem flat_at {size : Nat} : ∀ (css : List (List Value)), (∀ cs ∈ css, cs.length = size) → ∀ (i : Nat) (cs : List Value), css[i]? = some cs → ∀ (j : Nat) (u : Value), cs[j]? = some u → css.flatten[i * size + j]? = some u
  | [], _, i, cs, h => by simp at h
  | c :: css, hs, i, cs, h => by
    intro j u hu
    have hj : j < cs.length := (List.getElem?_eq_some_iff.1 hu).1
    cases i with
    | zero =>
      simp at h; subst h
      simp only [List.flatten_cons, Nat.zero_mul, Nat.zero_add]
      rw [List.getElem?_append_left hj]; exact hu
    | succ i =>
      have hc := hs c List.mem_cons_self
      have h1 := flat_at css (fun d hd => hs d (List.mem_cons_of_mem _ hd)) i cs (by simpa using h) j u hu
      simp only [List.flatten_cons]
      rw [List.getElem?_append_right (by rw [hc, Nat.add_mul]; omega), hc]
      rw [show (i + 1) * size + j - size = i * size + j by rw [Nat.add_mul]; omega]
      exact h1
end Go.Proofs.YtjkbfoeakeoeiaaGreat
namespace Go.Proofs.YtjkbfoeakeoeiaaGreat
set_option maxRecDepth 100000
set_option maxHeartbeats 40000000
set_option linter.unusedSimpArgs false
set_option linter.unusedVariables false
open Go.RowKit
theorem flat_split {size : Nat} : ∀ (css : List (List Value)), (∀ cs ∈ css, cs.length = size) → ∀ (k : Nat) (u : Value), css.flatten[k]? = some u → ∃ (i j : Nat) (cs : List Value), css[i]? = some cs ∧ cs[j]? = some u ∧ k = i * size + j
  | [], _, k, u, h => by simp at h
  | c :: css, hs, k, u, h => by
    have hc := hs c (by simp)
    rw [List.flatten_cons] at h
    rcases Nat.lt_or_ge k c.length with hk | hk
    · rw [List.getElem?_append_left hk] at h
      exact ⟨0, k, c, rfl, h, by omega⟩
    · rw [List.getElem?_append_right hk] at h
      obtain ⟨i, j, cs, h1, h2, h3⟩ := flat_split css (fun x hx => hs x (List.mem_cons_of_mem _ hx)) _ u h
      refine ⟨i + 1, j, cs, by simpa using h1, h2, ?_⟩
      rw [Nat.succ_mul]
      omega
theorem flat_len {size : Nat} : ∀ (css : List (List Value)), (∀ cs ∈ css, cs.length = size) → css.flatten.length = css.length * size
  | [], _ => by simp
  | c :: css, hs => by
    rw [List.flatten_cons, List.length_append, hs c (by simp), flat_len css (fun x hx => hs x (List.mem_cons_of_mem _ hx)), List.length_cons, Nat.succ_mul]
    omega
theorem ListAt.css {α : Type} {R : World → List Value → α → Prop} {size : Nat} {w : World} {v : Value} {l : List α} (h : ListAt R size w v l) :
    ∃ css : List (List Value), css.length = l.length ∧ (∀ cs ∈ css, cs.length = size) ∧ (∀ (i : Nat) cs x, css[i]? = some cs → l[i]? = some x → R w cs x) ∧ FlatAt size w v l.length css.flatten := by
  obtain ⟨a, cap, rfl, h1, h2, h3⟩ := h
  have hch : ∀ i : Nat, ∃ cs : List Value, ∀ x, l[i]? = some x → ∃ b off, a = some ⟨b, off, none⟩ ∧ cs.length = size ∧ R w cs x ∧ ∀ j u, cs[j]? = some u → w.cell? ⟨b, off + i * size + j, none⟩ = some u := by
    intro i
    cases hx : l[i]? with
    | none => exact ⟨[], fun x hx => by cases hx⟩
    | some x =>
      obtain ⟨b, off, cs, ha, hl, hr, hc⟩ := h3 i x hx
      exact ⟨cs, fun y hy => by cases hy; exact ⟨b, off, ha, hl, hr, hc⟩⟩
  have f : ∃ f : Nat → List Value, ∀ i x, l[i]? = some x → ∃ b off, a = some ⟨b, off, none⟩ ∧ (f i).length = size ∧ R w (f i) x ∧ ∀ j u, (f i)[j]? = some u → w.cell? ⟨b, off + i * size + j, none⟩ = some u := ⟨fun i => Classical.choose (hch i), fun i => Classical.choose_spec (hch i)⟩
  obtain ⟨f, hf⟩ := f
  have hget : ∀ (i : Nat) cs, ((List.range l.length).map f)[i]? = some cs → ∃ x, l[i]? = some x ∧ cs = f i := by
    intro i cs hi
    rw [List.getElem?_map] at hi
    obtain ⟨j, hj, rfl⟩ := Option.map_eq_some_iff.1 hi
    obtain ⟨hlt, rfl⟩ := List.getElem?_eq_some_iff.1 hj
    rw [List.length_range] at hlt
    rw [List.getElem_range]
    exact ⟨_, List.getElem?_eq_getElem hlt, rfl⟩
  have hsz : ∀ cs ∈ (List.range l.length).map f, cs.length = size := by
    intro cs hcs
    obtain ⟨i, hi⟩ := List.mem_iff_getElem?.1 hcs
    obtain ⟨x, hx, rfl⟩ := hget i cs hi
    obtain ⟨_, _, _, hl, _⟩ := hf i x hx
    exact hl
  refine ⟨(List.range l.length).map f, by simp, hsz, ?_, a, cap, rfl, h1, h2, ?_, ?_⟩
  · intro i cs x hi hx
    obtain ⟨y, hy, rfl⟩ := hget i cs hi
    obtain ⟨_, _, _, _, hr, _⟩ := hf i x hx
    exact hr
  · rw [flat_len _ hsz, List.length_map, List.length_range]
  · intro k u hk
    obtain ⟨i, j, cs, hi, hj, rfl⟩ := flat_split _ hsz k u hk
    obtain ⟨x, hx, rfl⟩ := hget i cs hi
    obtain ⟨b, off, ha, _, _, hc⟩ := hf i x hx
    exact ⟨b, off, ha, by rw [← Nat.add_assoc]; exact hc j u hj⟩
theorem ListAt.of_css {α : Type} {R : World → List Value → α → Prop} {size : Nat} {w : World} {v : Value} {l : List α} {css : List (List Value)} (h0 : 0 < size) (hl : css.length = l.length) (hs : ∀ cs ∈ css, cs.length = size)
    (hR : ∀ (i : Nat) cs x, css[i]? = some cs → l[i]? = some x → R w cs x) (hF : FlatAt size w v l.length css.flatten) : ListAt R size w v l := by
  obtain ⟨a, cap, rfl, h1, h2, h3, h4⟩ := hF
  refine ⟨a, cap, rfl, h1, h2, fun i x hx => ?_⟩
  have hi : i < css.length := by rw [hl]; exact (List.getElem?_eq_some_iff.1 hx).1
  have hc : css[i]? = some css[i] := List.getElem?_eq_getElem hi
  have hsz := hs _ (List.getElem_mem hi)
  have hat : ∀ j u, css[i][j]? = some u → ∃ b off, a = some ⟨b, off, none⟩ ∧ w.cell? ⟨b, off + (i * size + j), none⟩ = some u := fun j u hu => h4 _ _ (flat_at css hs i _ hc j u hu)
  obtain ⟨b, off, ha, -⟩ := hat 0 (css[i][0]'(by omega)) (List.getElem?_eq_getElem _)
  refine ⟨b, off, css[i], ha, hsz, hR i _ x hc hx, fun j u hu => ?_⟩
  obtain ⟨b', off', ha', h⟩ := hat j u hu
  rw [ha] at ha'
  cases ha'
  rw [Nat.add_assoc]
  exact h
end Go.Proofs.YtjkbfoeakeoeiaaGreat
namespace Go.Proofs.YtjkbfoeakeoeiaaGreat
set_option maxRecDepth 100000
set_option maxHeartbeats 40000000
set_option linter.unusedSimpArgs false
set_option linter.unusedVariables false
open Go.RowKit
def RecV.at_ (w : World) (cs : List Value) (r : RecV) : Prop := ∃ v, cs = [I r.cls, I r.kind, U r.from_, I r.time, U r.key, U r.key2, U r.key3, I r.n, I r.m, .string r.a, .string r.b, .string r.c, v] ∧ VarsAt w v r.vars
theorem RecV.st : Stable RecV.at_ := fun _ _ _ _ h hb => by obtain ⟨v, h1, h2⟩ := h; exact ⟨v, h1, h2.below hb⟩
structure RecOk (r : RecV) : Prop where
  cls : I64 r.cls
  kind : I64 r.kind
  from_ : U64 r.from_
  time : I64 r.time
  key : U64 r.key
  key2 : U64 r.key2
  key3 : U64 r.key3
  n : I64 r.n
  m : I64 r.m
  a : Sz r.a
  b : Sz r.b
  c : Sz r.c
  vars : ∀ y ∈ r.vars, VarOk y
end Go.Proofs.YtjkbfoeakeoeiaaGreat
