/- Variables' bytes. -/
import Derived.Test.YthikijlbclckdaaGreatKg
import Derived.Test.YthikijlbclckdaaGreatSw
import Derived.Test.YthikijlbclckdaaGreatSb
namespace Go.Proofs.YthikijlbclckdaaGreat
set_option linter.unusedSimpArgs false
set_option linter.unusedVariables false
open Go.RowKit

def varS (x : VarV) : ByteArray := txS x.name ++ valS x.v
/-- Variables' bytes: none, if they may not be. -/
def varsS (l : List VarV) : ByteArray := if rightV l then l.foldl (fun s x => s ++ varS x) (uvS l.length) else ⟨#[]⟩
theorem valS_size {v : ValV} (h : VOk v) : (valS v).size ≤ v.s.size + 11 := by
  unfold valS
  have h1 := txS_size h.s
  have h2 := inS_size h.n0 h.n1
  split
  · split
    · rw [ByteArray.size_append, kS_size]; omega
    · rw [ByteArray.size_append, kS_size]; omega
  · show 0 ≤ _
    omega
theorem varS_size {x : VarV} (h : VarOk x) : (varS x).size ≤ 4194325 := by
  unfold varS
  rw [ByteArray.size_append]
  have h1 := txS_size h.name
  have h2 := valS_size h.v
  have h3 := h.name
  have h4 := h.v.s
  omega
theorem right_le {l : List VarV} (h : rightV l = true) : l.length ≤ 16 := by
  rcases Nat.lt_or_ge 16 l.length with h' | h'
  · rw [right_long h'] at h; cases h
  · exact h'
theorem uv_small (n : Nat) (h : n ≤ 16) : (uvS n).size ≤ 10 := by
  rw [uvS_size]
  exact Lib.uvarint_length64 (by omega)
theorem builder_made (w : World) : IsB w.heap.size w.heap.size ⟨#[]⟩ (w.alloc (.cells #[.pointer none, .slice none 0 0] 186)) := by
  refine .inl ⟨Nat.le_refl _, .slice none 0 0, alloc_new _ _, ⟨rfl, .inl ⟨rfl, rfl⟩⟩, by simp [Value.ownBlock]⟩
set_option maxRecDepth 100000 in
set_option maxHeartbeats 4000000 in
theorem varsBytes_any (v : Value) (l : List VarV) (w : World) (hok : ∀ x ∈ l, VarOk x) (h : VarsAt w v l) : Calls Tryz.prog 55 #[v] w fun e w' => e = .returned (.string (varsS l)) ∧ Below w.heap.size w w' := by
  have H := Lib.hid h
  obtain ⟨a, cap, rfl, h1, h2, -⟩ := h
  have Hok := Lib.hid hok
  clear hok
  go_enter Tryz.func55, Tryz.ntmps55
  go_wp2_with fail
  refine (right_any _ l w H.out).mono ?_
  rintro e w1 ⟨rfl, b1⟩
  cases hr : rightV l with
  | false =>
    have E : Hid (varsS l = ⟨#[]⟩) := by show _ = _; unfold varsS; rw [hr]; rfl
    clear hr
    go_wp2
    go_ret
    rw [E.out]
    exact ⟨rfl, b1⟩
  | true =>
    have hl16 := right_le hr
    have E : Hid (varsS l = l.foldl (fun s x => s ++ varS x) (uvS l.length)) := by show _ = _; unfold varsS; rw [hr]; rfl
    have hu := uv_small l.length hl16
    have B1 := Lib.hid b1
    clear hr
    go_wp2_with fail
    have hm := Lib.hid (builder_made w1)
    have hz := b1.size
    clear b1
    have hbb := Lib.hid ((B1.out.alloc hz (.cells #[.pointer none, .slice none 0 0] 186)))
    have hsz : (w1.alloc (.cells #[.pointer none, .slice none 0 0] 186)).heap.size = w1.heap.size + 1 := by simp
    generalize hW : w1.alloc (.cells #[.pointer none, .slice none 0 0] 186) = W at hm hbb hsz ⊢
    clear hW
    have hbw : w1.heap.size ≤ W.heap.size := by omega
    clear hsz
    generalize hB : w1.heap.size = B at hm hz hbw ⊢
    clear hB
    refine (wuint_any l.length (by omega) _).mono ?_
    rintro e w2 ⟨rfl, b2⟩
    have hb2 := Lib.hid (hm.out.grow b2)
    have hz2 := b2.size
    have hbb2 := Lib.hid (hbb.out.trans (b2.mono hbb.out.size))
    clear b2
    go_wp2_with fail
    refine (wstr_any B B ⟨#[]⟩ (uvS l.length) w2 hb2.out (by rw [show (⟨#[]⟩ : ByteArray).size = 0 from rfl]; omega) (by omega)).mono ?_
    rintro e w3 ⟨rfl, m3, b3⟩
    have hz3 := b3.size
    have hbb3 := Lib.hid (hbb2.out.trans (b3.mono hz))
    have m3 := Lib.hid m3
    clear b3
    go_wp2
    go_loopw [16] (fun vi wr => ∃ (i : Nat) (s : ByteArray), i ≤ l.length ∧ vi = .int .i64 i ∧ s.size ≤ 10 + i * 4194325 ∧ Hid (s = (l.take i).foldl (fun s x => s ++ varS x) (uvS l.length) ∧ IsB B B s wr ∧ Below w.heap.size w wr ∧ B ≤ wr.heap.size)) (fun vi _ => l.length - (intOf vi).toNat)
    case atStart => exact ⟨0, uvS l.length, Nat.zero_le _, rfl, by omega, by simp, by have := m3.out; rwa [show (⟨#[]⟩ : ByteArray) ++ uvS l.length = uvS l.length from ByteArray.empty_append] at this, hbb3.out, by omega⟩
    case round =>
      obtain ⟨i, s, hi, rfl, hs, hR⟩ := hrel
      by_cases hlt : i < l.length
      · obtain ⟨x, hx⟩ : ∃ x, l[i]? = some x := ⟨_, List.getElem?_eq_getElem hlt⟩
        obtain ⟨a', cap', hv, -, -, hcell⟩ := H.out.below hR.out.2.2.1
        cases hv
        obtain ⟨b, off, rfl, c0, c1, c2, c3⟩ := hcell i x hx
        have hvo := Lib.hid (Hok.out x (List.mem_of_getElem? hx))
        have hvs := varS_size hvo.out
        have hst := Lib.hid (app_snoc varS l i x hx (uvS l.length))
        obtain ⟨nm, k, n, t⟩ := x
        dsimp only at c0 c1 c2 c3
        clear hcell hx
        go_wp2_with fail
        have hst0 := alloc_new wr (.cells #[.string nm, .int .i64 k, .int .i64 n, .string t] 177)
        have hW := Lib.hid (hR.out.2.2.1.alloc hR.out.2.2.1.size (.cells #[.string nm, .int .i64 k, .int .i64 n, .string t] 177))
        have hM := Lib.hid (hR.out.2.1.grow ((Below.refl _ wr).alloc (Nat.le_refl _) (.cells #[.string nm, .int .i64 k, .int .i64 n, .string t] 177)))
        have hsz := hR.out.2.2.2
        have hn := hvo.out.name
        dsimp only at hn
        have hvs' : (txS nm ++ valS ⟨k, n, t⟩).size ≤ 4194325 := hvs
        have hsum := hvs'
        rw [ByteArray.size_append] at hsum
        refine wp_par (fun _ => False) (fun _ => True) (List.replicate 7 false) _ [.fix ?_, .fix ?_, .fix ?_, .fix ?_, .fix ?_, .fix ?_, .fix ?_] (by kernel_rfl) (by kernel_rfl) (by simp only [List.length_replicate, List.drop_succ_cons, List.drop_zero, List.drop_nil]; with_reducible rfl) rfl (fun _ _ _ _ _ => ⟨fun h => h, fun h => h⟩) (fun _ _ h _ => h) trivial ?_
        rotate_left 7
        iterate 7
          first
            | (refine par_skip (a' := ?_) (by rfl) (by rfl) ?_ ?_ ?_; rotate_left 1; with_reducible rfl; (simp only [Act.put, List.setIfInBounds_toArray, List.set_cons_zero, List.set_cons_succ]; with_reducible rfl))
            | (refine par_run (a' := ?_) (by rfl) (by rfl) (fun w' hb hn => ?_) ?_ ?_; rotate_left 1; (have hc := hb.cells; first | (go_simp; (try simp (disch := omega) only [IntWalk.i64_in, IntWalk.i32_in, IntWalk.u64_in, IntWalk.u8_in, IntWalk.u32_in, IntWalk.toNatUp, IntWalk.iteOmega]); with_reducible rfl) | (go_simp; (try simp (disch := omega) only [IntWalk.i64_in, IntWalk.i32_in, IntWalk.u64_in, IntWalk.u8_in, IntWalk.u32_in, IntWalk.toNatUp, IntWalk.iteOmega]); go_simp; with_reducible rfl)); (simp only [Act.put, List.setIfInBounds_toArray, List.set_cons_zero, List.set_cons_succ]; with_reducible rfl))
            | (refine par_call (a' := ?_) (f := ?_) (args := ?_) (by rfl) (by rfl) (fun w' => ?_) (fun w' hb hn => ?_) ?_ ?_; rotate_left 3; (go_simp; constructor <;> with_reducible rfl); (exact wtext_any nm (by omega) w'); (simp only [Act.put, List.setIfInBounds_toArray, List.set_cons_zero, List.set_cons_succ]; with_reducible rfl))
            | (refine par_call (a' := ?_) (f := ?_) (args := ?_) (by rfl) (by rfl) (fun w' => ?_) (fun w' hb hn => ?_) ?_ ?_; rotate_left 3; (go_simp; constructor <;> with_reducible rfl); (exact vbytes_any ⟨k, n, t⟩ hvo.out.v w'); (simp only [Act.put, List.setIfInBounds_toArray, List.set_cons_zero, List.set_cons_succ]; with_reducible rfl))
        refine par_end (fun w9 hb9 hf9 _ => ?_)
        replace hb9 := hb9.grow
        try refine wpList_none ?_
        have hM9 := Lib.hid (hM.out.grow hb9)
        have hW9 := Lib.hid (hW.out.trans (hb9.mono hW.out.size))
        have hz9 := hb9.size
        simp only [World.size_alloc] at hz9
        clear hb9
        go_wp2_with fail
        refine (wstr_any B B s (txS nm ++ valS ⟨k, n, t⟩) w9 hM9.out (by omega) (by omega)).mono ?_
        rintro e w10 ⟨rfl, m10, b10⟩
        have hz10 := b10.size
        have hb10 := Lib.hid (hW9.out.trans (b10.mono hz))
        have hm10 := Lib.hid m10
        have hvs2 : (s ++ (txS nm ++ valS ⟨k, n, t⟩)).size ≤ 10 + (i + 1) * 4194325 := by rw [ByteArray.size_append]; omega
        clear m10 b10 hst0
        go_wp2
        go_roundw
        case rel => exact ⟨i + 1, s ++ (txS nm ++ valS ⟨k, n, t⟩), by omega, by go_num, hvs2, by rw [hst.out, hR.out.1]; rfl, hm10.out, hb10.out, by omega⟩
        case measure => simp [intOf]; omega
      · have hin : i = l.length := by omega
        subst hin
        have hfin : Hid (s = varsS l) := by
          have := hR.out.1
          rw [List.take_length] at this
          exact this.trans E.out.symm
        go_wp2_with fail
        refine (Tryz.Builder_String_any_k B B s.data.toList wr hR.out.2.1 hR.out.2.2.2).mono ?_
        rintro e w10 ⟨rfl, -, b10, -⟩
        have hb10 := Lib.hid (hR.out.2.2.1.trans (b10.mono hz))
        clear b10
        go_wp2
        go_ret
        rw [← hfin.out]
        exact ⟨by simp, hb10.out⟩
set_option maxRecDepth 100000 in
set_option maxHeartbeats 4000000 in
theorem rvarsBytes_any (v : Value) (l : List VarV) (w : World) (hok : ∀ x ∈ l, VarOk x) (h : VarsAt w v l) : Calls Tryz.prog 76 #[v] w fun e w' => e = .returned (.string (varsS l)) ∧ Below w.heap.size w w' := by
  have H := Lib.hid h
  obtain ⟨a, cap, rfl, h1, h2, -⟩ := h
  have Hok := Lib.hid hok
  clear hok
  go_enter Tryz.func76, Tryz.ntmps76
  go_wp2_with fail
  refine (rright_any _ l w Hok.out H.out).mono ?_
  rintro e w1 ⟨rfl, b1⟩
  cases hr : rightV l with
  | false =>
    have E : Hid (varsS l = ⟨#[]⟩) := by show _ = _; unfold varsS; rw [hr]; rfl
    clear hr
    go_wp2
    go_ret
    rw [E.out]
    exact ⟨rfl, b1⟩
  | true =>
    have hl16 := right_le hr
    have E : Hid (varsS l = l.foldl (fun s x => s ++ varS x) (uvS l.length)) := by show _ = _; unfold varsS; rw [hr]; rfl
    have hu := uv_small l.length hl16
    have B1 := Lib.hid b1
    clear hr b1
    go_wp2_with fail
    refine (ruint_any l.length (by omega) _).mono ?_
    rintro e w2 ⟨rfl, b2⟩
    have B2 := Lib.hid (B1.out.trans (b2.mono B1.out.size))
    clear b2
    go_wp2
    go_loopw [4, 5] (fun vs vi wr => ∃ (i : Nat) (s : ByteArray), i ≤ l.length ∧ vi = .int .i64 i ∧ vs = .string s ∧ s.size ≤ 10 + i * 4194325 ∧ Hid (s = (l.take i).foldl (fun s x => s ++ varS x) (uvS l.length) ∧ Below w.heap.size w wr)) (fun _ vi _ => l.length - (intOf vi).toNat)
    case atStart => exact ⟨0, uvS l.length, Nat.zero_le _, rfl, rfl, by omega, by simp, B2.out⟩
    case round =>
      obtain ⟨i, s, hi, rfl, rfl, hs, hR⟩ := hrel
      by_cases hlt : i < l.length
      · obtain ⟨x, hx⟩ : ∃ x, l[i]? = some x := ⟨_, List.getElem?_eq_getElem hlt⟩
        obtain ⟨a', cap', hv, -, -, hcell⟩ := H.out.below hR.out.2
        cases hv
        obtain ⟨b, off, rfl, c0, c1, c2, c3⟩ := hcell i x hx
        have hvo := Lib.hid (Hok.out x (List.mem_of_getElem? hx))
        have hvs := varS_size hvo.out
        have hst := Lib.hid (app_snoc varS l i x hx (uvS l.length))
        obtain ⟨nm, k, n, t⟩ := x
        dsimp only at c0 c1 c2 c3
        have hbl := World.block_lt_of_cell? wr _ c0
        dsimp only at hbl
        clear hcell hx
        go_wp2_with fail
        have hn := hvo.out.name
        dsimp only at hn
        have hvs' : (txS nm ++ valS ⟨k, n, t⟩).size ≤ 4194325 := hvs
        have hsum := hvs'
        rw [ByteArray.size_append] at hsum
        refine wp_par (fun _ => False) (fun _ => True) (List.replicate 16 false) _ [.fix ?_, .fix ?_, .fix ?_, .fix ?_, .fix ?_, .fix ?_, .fix ?_, .fix ?_, .fix ?_, .fix ?_, .fix ?_, .fix ?_, .fix ?_, .fix ?_, .fix ?_, .fix ?_] (by kernel_rfl) (by kernel_rfl) (by simp only [List.length_replicate, List.drop_succ_cons, List.drop_zero, List.drop_nil]; with_reducible rfl) rfl (fun _ _ _ _ _ => ⟨fun h => h, fun h => h⟩) (fun _ _ h _ => h) trivial ?_
        rotate_left 16
        iterate 16
          first
            | (refine par_skip (a' := ?_) (by rfl) (by rfl) ?_ ?_ ?_; rotate_left 1; with_reducible rfl; (simp only [Act.put, List.setIfInBounds_toArray, List.set_cons_zero, List.set_cons_succ]; with_reducible rfl))
            | (refine par_run (a' := ?_) (by rfl) (by rfl) (fun w' hb hn => ?_) ?_ ?_; rotate_left 1; (have hc := hb.cells; first | (go_simp; (try simp (disch := omega) only [IntWalk.i64_in, IntWalk.i32_in, IntWalk.u64_in, IntWalk.u8_in, IntWalk.u32_in, IntWalk.toNatUp, IntWalk.iteOmega]); with_reducible rfl) | (go_simp; (try simp (disch := omega) only [IntWalk.i64_in, IntWalk.i32_in, IntWalk.u64_in, IntWalk.u8_in, IntWalk.u32_in, IntWalk.toNatUp, IntWalk.iteOmega]); go_simp; with_reducible rfl)); (simp only [Act.put, List.setIfInBounds_toArray, List.set_cons_zero, List.set_cons_succ]; with_reducible rfl))
            | (refine par_call (a' := ?_) (f := ?_) (args := ?_) (by rfl) (by rfl) (fun w' => ?_) (fun w' hb hn => ?_) ?_ ?_; rotate_left 3; (go_simp; constructor <;> with_reducible rfl); (exact rtext_any nm (by omega) w'); (simp only [Act.put, List.setIfInBounds_toArray, List.set_cons_zero, List.set_cons_succ]; with_reducible rfl))
            | (refine par_call (a' := ?_) (f := ?_) (args := ?_) (by rfl) (by rfl) (fun w' => ?_) (fun w' hb hn => ?_) ?_ ?_; rotate_left 3; (go_simp; constructor <;> with_reducible rfl); (exact rbytes_any ⟨k, n, t⟩ hvo.out.v w'); (simp only [Act.put, List.setIfInBounds_toArray, List.set_cons_zero, List.set_cons_succ]; with_reducible rfl))
        refine par_end (fun w9 hb9 hf9 _ => ?_)
        replace hb9 := hb9.grow
        try refine wpList_none ?_
        have hW9 := Lib.hid (hR.out.2.trans (hb9.mono hR.out.2.size))
        have hvs2 : (s ++ txS nm ++ valS ⟨k, n, t⟩).size ≤ 10 + (i + 1) * 4194325 := by rw [ByteArray.append_assoc, ByteArray.size_append]; omega
        clear hb9
        go_wp2
        go_roundw
        case rel => exact ⟨i + 1, s ++ txS nm ++ valS ⟨k, n, t⟩, by omega, by go_num, rfl, hvs2, by rw [hst.out, hR.out.1, ByteArray.append_assoc]; rfl, hW9.out⟩
        case measure => simp [intOf]; omega
      · have hin : i = l.length := by omega
        subst hin
        have hfin : Hid (s = varsS l) := by
          have := hR.out.1
          rw [List.take_length] at this
          exact this.trans E.out.symm
        go_wp2
        go_ret
        rw [← hfin.out]
        exact ⟨rfl, hR.out.2⟩
end Go.Proofs.YthikijlbclckdaaGreat
