/- Bounds of a state: what the closures do to the truth that they share. -/
import Derived.Test.YthikijlbclckdaaGreatKl
namespace Go.Proofs.YthikijlbclckdaaGreat
set_option linter.unusedSimpArgs false
set_option linter.unusedVariables false
open Go.RowKit
/-- The shared truth, in its block. -/
def OkAt (w : World) (ob : Nat) (b : Bool) : Prop := w.heap[ob]? = some (.cells #[.bool b] 4 (0, 0))
theorem OkAt.cell {w : World} {ob : Nat} {b : Bool} (h : OkAt w ob b) : w.cell? ⟨ob, 0, none⟩ = some (.bool b) := cell_of h 0
theorem OkAt.free {w : World} {ob : Nat} {b : Bool} (h : OkAt w ob b) : w.frozen? ⟨ob, 0, none⟩ = false := free_of h 0
theorem OkAt.set {w : World} {ob : Nat} {b : Bool} (h : OkAt w ob b) (c : Bool) : OkAt (w.setCell ⟨ob, 0, none⟩ (.bool c)) ob c := setCell_at h 0 _
theorem OkAt.grow {w w' : World} {ob : Nat} {b : Bool} (h : OkAt w ob b) (hb : Below w.heap.size w w') : OkAt w' ob b := (hb.block ob (heap_lt h)).trans h
theorem OkAt.lt {w : World} {ob : Nat} {b : Bool} (h : OkAt w ob b) : ob < w.heap.size := heap_lt h
/-- Nothing but the truth's block is another. -/
abbrev Ob (ob : Nat) : World → World → Prop := But (fun k => k = ob)
theorem But.set1 {w : World} (ob : Nat) (v : Value) : Ob ob w (w.setCell ⟨ob, 0, none⟩ v) := But.setCell (F := fun k => k = ob) (But.refl _ w) (p := ⟨ob, 0, none⟩) (fun _ => rfl) v
def smallB (least n : Int) : Bool := decide (least ≤ n) && decide (n ≤ 30000)
def clockB (n : Int) : Bool := decide (0 ≤ n) && decide (n ≤ 4611686018427387904)
def textB (most : Nat) (s : ByteArray) : Bool := decide (s.size ≤ most)
theorem SlR.butOb {w W : World} {v : Value} {vs : List Value} {ob : Nat} (h : SlR w v vs) (hb : Ob ob w W) (hn : ∀ a n cap, v = .slice (some a) n cap → a.block ≠ ob) : SlR W v vs := h.but hb hn
set_option maxRecDepth 100000 in
set_option maxHeartbeats 2000000 in
theorem clock_any (n : Int) (ob : Nat) (b : Bool) (w : World) (h : OkAt w ob b) : Calls Tryz.prog 79 #[.int .i64 n, .pointer (some ⟨ob, 0, none⟩)] w fun e w' => e = .returned (.tuple #[]) ∧ OkAt w' ob (b && clockB n) ∧ Ob ob w w' := by
  have hc := h.cell
  have hf := h.free
  have H := Lib.hid h
  clear h
  cases b with
  | false =>
    go_enter Tryz.func79, Tryz.ntmps79
    go_wp2
    go_end0
    exact ⟨rfl, H.out.set false, But.set1 ob _⟩
  | true =>
    by_cases h0 : 0 ≤ n
    · by_cases h1 : n ≤ 4611686018427387904
      · have E : Hid (clockB n = true) := by show _ = _; simp [clockB, h0, h1]
        have q0 : decide (0 ≤ n) = true := decide_eq_true h0
        have q1 : decide (n ≤ 4611686018427387904) = true := decide_eq_true h1
        go_enter Tryz.func79, Tryz.ntmps79
        go_wp2
        go_end0
        rw [E.out]
        exact ⟨rfl, H.out.set true, But.set1 ob _⟩
      · have E : Hid (clockB n = false) := by show _ = _; simp [clockB, h1]
        have q0 : decide (0 ≤ n) = true := decide_eq_true h0
        have q1 : decide (n ≤ 4611686018427387904) = false := decide_eq_false h1
        go_enter Tryz.func79, Tryz.ntmps79
        go_wp2
        go_end0
        rw [E.out]
        exact ⟨rfl, H.out.set false, But.set1 ob _⟩
    · have E : Hid (clockB n = false) := by show _ = _; simp [clockB, h0]
      have q0 : decide (0 ≤ n) = false := decide_eq_false h0
      go_enter Tryz.func79, Tryz.ntmps79
      go_wp2
      go_end0
      rw [E.out]
      exact ⟨rfl, H.out.set false, But.set1 ob _⟩
set_option maxRecDepth 100000 in
set_option maxHeartbeats 2000000 in
theorem vars_any (v : Value) (l : List VarV) (ob : Nat) (b : Bool) (w : World) (h : OkAt w ob b) (hv : VarsAt w v l) : Calls Tryz.prog 81 #[v, .pointer (some ⟨ob, 0, none⟩)] w fun e w' => e = .returned (.tuple #[]) ∧ OkAt w' ob (b && rightV l) ∧ Ob ob w w' := by
  have hc := h.cell
  have hf := h.free
  have H := Lib.hid h
  have HV := Lib.hid hv
  obtain ⟨a, cap, rfl, -⟩ := hv
  clear h
  cases b with
  | false =>
    go_enter Tryz.func81, Tryz.ntmps81
    go_wp2_with fail
    go_wp2
    go_end0
    exact ⟨rfl, H.out.set false, But.set1 ob _⟩
  | true =>
    go_enter Tryz.func81, Tryz.ntmps81
    go_wp2_with fail
    refine (right_any _ l _ HV.out).mono ?_
    rintro e w1 ⟨rfl, b1⟩
    have H1 := Lib.hid (H.out.grow b1)
    have hc1 := H1.out.cell
    have hf1 := H1.out.free
    have B1 := Lib.hid b1
    clear b1
    go_wp2
    go_end0
    exact ⟨rfl, H1.out.set _, (But.of B1.out).trans (But.set1 ob _)⟩
theorem all_snoc {α : Type} (p : α → Bool) (l : List α) (i : Nat) (x : α) (h : l[i]? = some x) : (l.take (i + 1)).all p = ((l.take i).all p && p x) := by
  rw [List.take_add_one, h]; simp
set_option maxRecDepth 100000 in
set_option maxHeartbeats 4000000 in
theorem small_any (least : Int) (v : Value) (l : List Int) (ob : Nat) (b : Bool) (w : World) (h : OkAt w ob b) (hv : SlR w v (l.map (Value.int .i64))) (hl : l.length ≤ 1000) (hn : ∀ a n cap, v = .slice (some a) n cap → a.block ≠ ob) :
    Calls Tryz.prog 78 #[.int .i64 least, v, .pointer (some ⟨ob, 0, none⟩)] w fun e w' => e = .returned (.tuple #[]) ∧ OkAt w' ob (b && l.all (smallB least)) ∧ Ob ob w w' := by
  have HV := Lib.hid hv
  have HN := Lib.hid hn
  have H := Lib.hid h
  obtain ⟨a, cap, hv, -⟩ := hv
  have hlen : (l.map (Value.int .i64)).length = l.length := List.length_map _
  rw [hlen] at hv
  subst hv
  have Hlen := Lib.hid hlen
  clear h hn hlen
  go_enter Tryz.func78, Tryz.ntmps78
  go_wp2
  go_loopw [6, 9] (fun _ vi wr => ∃ i : Nat, i ≤ l.length ∧ vi = .int .i64 i ∧ Hid (OkAt wr ob (b && (l.take i).all (smallB least)) ∧ Ob ob w wr)) (fun _ vi _ => l.length - (intOf vi).toNat)
  case atStart => exact ⟨0, Nat.zero_le _, rfl, by simpa using H.out, But.refl _ _⟩
  case round =>
    obtain ⟨i, hi, rfl, hR⟩ := hrel
    by_cases hlt : i < l.length
    · obtain ⟨x, hx⟩ : ∃ x, l[i]? = some x := ⟨_, List.getElem?_eq_getElem hlt⟩
      obtain ⟨a', cap', he, -, -, hcell⟩ := HV.out.butOb hR.out.2 HN.out
      rw [Hlen.out] at he
      cases he
      obtain ⟨bb, off, rfl, c0⟩ := hcell i (.int .i64 x) (by simp [hx])
      have hst := Lib.hid (all_snoc (smallB least) l i x hx)
      have hc := hR.out.1.cell
      have hf := hR.out.1.free
      clear hcell hx
      have hfin : ∀ c : Bool, ((b && (l.take i).all (smallB least)) && smallB least x) = c → Hid (OkAt (wr.setCell ⟨ob, 0, none⟩ (.bool c)) ob (b && (l.take (i + 1)).all (smallB least)) ∧ Ob ob w (wr.setCell ⟨ob, 0, none⟩ (.bool c))) := by
        intro c hcc
        refine ⟨?_, hR.out.2.trans (But.set1 ob _)⟩
        rw [hst.out, ← Bool.and_assoc, hcc]
        exact hR.out.1.set c
      have Hfin := Lib.hid hfin
      clear hfin
      generalize (b && (l.take i).all (smallB least)) = ok at hc Hfin
      cases ok with
      | false =>
        have HF := Hfin.out false rfl
        clear Hfin
        go_wp2
        go_roundw
        case rel => exact ⟨i + 1, by omega, by go_num, HF.out⟩
        case measure => simp [intOf]; omega
      | true =>
        by_cases h0 : least ≤ x
        · by_cases h1 : x ≤ 30000
          · have q0 : decide (least ≤ x) = true := decide_eq_true h0
            have q1 : decide (x ≤ 30000) = true := decide_eq_true h1
            have HF := Hfin.out true (by simp [smallB, h0, h1])
            clear Hfin
            go_wp2
            go_roundw
            case rel => exact ⟨i + 1, by omega, by go_num, HF.out⟩
            case measure => simp [intOf]; omega
          · have q0 : decide (least ≤ x) = true := decide_eq_true h0
            have q1 : decide (x ≤ 30000) = false := decide_eq_false h1
            have HF := Hfin.out false (by simp [smallB, h1])
            clear Hfin
            go_wp2
            go_roundw
            case rel => exact ⟨i + 1, by omega, by go_num, HF.out⟩
            case measure => simp [intOf]; omega
        · have q0 : decide (least ≤ x) = false := decide_eq_false h0
          have HF := Hfin.out false (by simp [smallB, h0])
          clear Hfin
          go_wp2
          go_roundw
          case rel => exact ⟨i + 1, by omega, by go_num, HF.out⟩
          case measure => simp [intOf]; omega
    · have hin : i = l.length := by omega
      subst hin
      have hfin : Hid (OkAt wr ob (b && l.all (smallB least)) ∧ Ob ob w wr) := by have := hR.out; rwa [List.take_length] at this
      go_wp2
      go_end0
      exact ⟨rfl, hfin.out.1, hfin.out.2⟩
set_option maxRecDepth 100000 in
set_option maxHeartbeats 4000000 in
theorem text_any (most : Nat) (v : Value) (l : List ByteArray) (ob : Nat) (b : Bool) (w : World) (h : OkAt w ob b) (hv : SlR w v (l.map Value.string)) (hl : l.length ≤ 1000) (hm : most ≤ 1000000) (hs : ∀ x ∈ l, x.size ≤ 2097152) (hn : ∀ a n cap, v = .slice (some a) n cap → a.block ≠ ob) :
    Calls Tryz.prog 80 #[.int .i64 most, v, .pointer (some ⟨ob, 0, none⟩)] w fun e w' => e = .returned (.tuple #[]) ∧ OkAt w' ob (b && l.all (textB most)) ∧ Ob ob w w' := by
  have HV := Lib.hid hv
  have HN := Lib.hid hn
  have H := Lib.hid h
  have HS := Lib.hid hs
  obtain ⟨a, cap, hv, -⟩ := hv
  have hlen : (l.map Value.string).length = l.length := List.length_map _
  rw [hlen] at hv
  subst hv
  have Hlen := Lib.hid hlen
  clear h hn hlen hs
  go_enter Tryz.func80, Tryz.ntmps80
  go_wp2
  go_loopw [6, 9] (fun _ vi wr => ∃ i : Nat, i ≤ l.length ∧ vi = .int .i64 i ∧ Hid (OkAt wr ob (b && (l.take i).all (textB most)) ∧ Ob ob w wr)) (fun _ vi _ => l.length - (intOf vi).toNat)
  case atStart => exact ⟨0, Nat.zero_le _, rfl, by simpa using H.out, But.refl _ _⟩
  case round =>
    obtain ⟨i, hi, rfl, hR⟩ := hrel
    by_cases hlt : i < l.length
    · obtain ⟨x, hx⟩ : ∃ x, l[i]? = some x := ⟨_, List.getElem?_eq_getElem hlt⟩
      obtain ⟨a', cap', he, -, -, hcell⟩ := HV.out.butOb hR.out.2 HN.out
      rw [Hlen.out] at he
      cases he
      obtain ⟨bb, off, rfl, c0⟩ := hcell i (.string x) (by simp [hx])
      have hst := Lib.hid (all_snoc (textB most) l i x hx)
      have hxs := HS.out x (List.mem_of_getElem? hx)
      have hc := hR.out.1.cell
      have hf := hR.out.1.free
      clear hcell hx
      have hfin : ∀ c : Bool, ((b && (l.take i).all (textB most)) && textB most x) = c → Hid (OkAt (wr.setCell ⟨ob, 0, none⟩ (.bool c)) ob (b && (l.take (i + 1)).all (textB most)) ∧ Ob ob w (wr.setCell ⟨ob, 0, none⟩ (.bool c))) := by
        intro c hcc
        refine ⟨?_, hR.out.2.trans (But.set1 ob _)⟩
        rw [hst.out, ← Bool.and_assoc, hcc]
        exact hR.out.1.set c
      have Hfin := Lib.hid hfin
      clear hfin
      generalize (b && (l.take i).all (textB most)) = ok at hc Hfin
      cases ok with
      | false =>
        have HF := Hfin.out false rfl
        clear Hfin
        go_wp2
        go_roundw
        case rel => exact ⟨i + 1, by omega, by go_num, HF.out⟩
        case measure => simp [intOf]; omega
      | true =>
        by_cases h0 : x.size ≤ most
        · have q0 : decide (x.size ≤ most) = true := decide_eq_true h0
          have q1 : decide ((x.size : Int) ≤ most) = true := decide_eq_true (by omega)
          have HF := Hfin.out true (by simp [textB, h0])
          clear Hfin
          go_wp2
          go_roundw
          case rel => exact ⟨i + 1, by omega, by go_num, HF.out⟩
          case measure => simp [intOf]; omega
        · have q0 : decide (x.size ≤ most) = false := decide_eq_false h0
          have q1 : decide ((x.size : Int) ≤ most) = false := decide_eq_false (by omega)
          have HF := Hfin.out false (by simp [textB, h0])
          clear Hfin
          go_wp2
          go_roundw
          case rel => exact ⟨i + 1, by omega, by go_num, HF.out⟩
          case measure => simp [intOf]; omega
    · have hin : i = l.length := by omega
      subst hin
      have hfin : Hid (OkAt wr ob (b && l.all (textB most)) ∧ Ob ob w wr) := by have := hR.out; rwa [List.take_length] at this
      go_wp2
      go_end0
      exact ⟨rfl, hfin.out.1, hfin.out.2⟩
end Go.Proofs.YthikijlbclckdaaGreat
