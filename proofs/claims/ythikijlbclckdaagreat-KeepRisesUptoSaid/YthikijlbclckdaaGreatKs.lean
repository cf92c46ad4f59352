/- May and Rows of both sides; both told side by side. -/
import Derived.Test.YthikijlbclckdaaGreatKp
import Derived.Test.YthikijlbclckdaaGreatKq
import Derived.Test.YthikijlbclckdaaGreatKr
namespace Go.Proofs.YthikijlbclckdaaGreat
set_option linter.unusedSimpArgs false
set_option linter.unusedVariables false
open Go.RowKit
theorem keyS_sz0 (c : UInt8) (k : Nat) : (keyS (c1 c) k []).size = 9 := by
  simp only [keyS, List.foldl_nil, ByteArray.size_append, bigS_size]
  rfl
theorem keyS_sz1 (c : UInt8) (k : Nat) (n : Int) : (keyS (c1 c) k [n]).size = 11 := by
  simp only [keyS, List.foldl_cons, List.foldl_nil, ByteArray.size_append, bigS_size]
  rfl
theorem rowsSz (s : StateV) (h : StateOk s) : RowsSz (rows s) := by
  intro r hr
  unfold rows lists at hr
  simp only [List.flatten_cons, List.flatten_nil, List.append_nil, List.mem_append, List.mem_map, List.mem_singleton] at hr
  rcases hr with rfl | ⟨x, hx, rfl⟩ | ⟨x, hx, rfl⟩ | ⟨x, hx, rfl⟩ | ⟨x, hx, rfl⟩ | ⟨x, hx, rfl⟩ | ⟨x, hx, rfl⟩ | ⟨x, hx, rfl⟩ | ⟨x, hx, rfl⟩ | ⟨x, hx, rfl⟩
  · have h1 := uvS_le h.pos
    have h2 := uvS_le h.done
    have h3 := uvS_le h.made
    simp only [rowA, ByteArray.size_append]
    exact ⟨by simp [c1, ByteArray.size], by omega⟩
  · have o := h.msgs x hx
    have h1 := txS_le o.name
    have h2 := txS_le o.for_
    have h3 := txS_le o.id
    have h4 := inS_le o.till
    have h5 := varsS_le o.vars
    have h6 : (uvS x.insts.length).size ≤ 10 := uvS_le (by have := o.many; unfold U64; omega)
    have h7 := o.many
    have h8 := foldS_le uvS 10 x.insts (fun y hy => uvS_le (o.insts y hy)) (txS x.name ++ txS x.for_ ++ txS x.id ++ inS x.till ++ varsS x.vars ++ uvS x.insts.length)
    simp only [ByteArray.size_append] at h8
    simp only [rowG, keyS_sz0]
    exact ⟨by omega, by omega⟩
  · have o := h.insts x hx
    have h1 := txS_le o.id
    have h5 := varsS_le o.vars
    simp only [rowI, keyS_sz0, ByteArray.size_append]
    exact ⟨by omega, by omega⟩
  · have o := h.jobs x hx
    have h1 := uvS_le o.token
    have h2 := txS_le o.type
    have h3 := inS_le o.retries
    have h4 := txS_le o.worker
    have h5 := inS_le o.till
    simp only [rowJ, keyS_sz0, ByteArray.size_append]
    exact ⟨by omega, by omega⟩
  · have o := h.kept x hx
    have h1 := uvS_le o.msg
    simp only [rowK, keyS_sz1]
    exact ⟨by omega, by omega⟩
  · have o := h.listed x hx
    have h1 := uvS_le o.inst
    have h2 := txS_le o.name
    have h3 := txS_le o.key
    have h4 := uvS_le o.msg
    have h5 := varsS_le o.vars
    simp only [rowL, keyS_sz1, ByteArray.size_append]
    exact ⟨by omega, by omega⟩
  · have o := h.procs x hx
    have h1 := txS_le o.bytes
    have h2 : x.id.size ≤ 2097152 := o.id
    have h3 : (c1 112).size = 1 := rfl
    simp only [rowP, ByteArray.size_append]
    exact ⟨by omega, by omega⟩
  · have o := h.timers x hx
    have h1 := inS_le o.when_
    simp only [rowR, keyS_sz1]
    exact ⟨by omega, by omega⟩
  · have o := h.subs x hx
    have h1 := uvS_le o.inst
    have h2 := txS_le o.name
    have h3 := txS_le o.key
    have h4 : (inS (b01 x.is)).size ≤ 10 := inS_le (by unfold b01 I64; cases x.is <;> decide)
    simp only [rowS, keyS_sz1, ByteArray.size_append]
    exact ⟨by omega, by omega⟩
  · have o := h.tokens x hx
    have h1 := uvS_le o.inst
    have h2 := uvS_le o.scope
    have h3 := inS_le o.node
    have h4 := inS_le o.by_
    have h5 := txS_le o.stuck
    simp only [rowT, keyS_sz0, ByteArray.size_append]
    exact ⟨by omega, by omega⟩
theorem rows_len {s : StateV} (h : StateOk s) : (rows s).length ≤ 4194304 := by
  have h1 := rows_many h
  have h2 : totL (lists s) (lists s).length = (rows s).length := by unfold totL rows; rw [List.take_length]
  rw [← h2]; exact h1
set_option maxRecDepth 100000 in
set_option maxHeartbeats 8000000 in
theorem rsmay_any (s : StateV) (hok : StateOk s) (cs : List Value) (vp vi vt vj vr vs vk vl vm : Value) (w : World) (h : StateAt w cs s vp vi vt vj vr vs vk vl vm) :
    Calls Tryz.prog 16 #[.agg cs.toArray] w fun e w' => e = .returned (.bool (mayB s)) ∧ Below w.heap.size w w' := by
  have H := Lib.hid h
  have Hok := Lib.hid hok
  have Hsz := Lib.hid (rowsSz s hok)
  obtain ⟨hcs, hp, hi, ht, hj, hr, hs, hk, hl, hm⟩ := h
  obtain ⟨ap, cp, rfl, -⟩ := hp
  obtain ⟨ai, ci, rfl, -⟩ := hi
  obtain ⟨at_, ct, rfl, -⟩ := ht
  obtain ⟨aj, cj, rfl, -⟩ := hj
  obtain ⟨ar, cr, rfl, -⟩ := hr
  obtain ⟨as_, cs_, rfl, -⟩ := hs
  obtain ⟨ak, ck, rfl, -⟩ := hk
  obtain ⟨al, cl, rfl, -⟩ := hl
  obtain ⟨am, cm, rfl, -⟩ := hm
  subst hcs
  clear hok
  go_enter Tryz.func16, Tryz.ntmps16
  go_wp2_with fail
  have hst := Lib.hid (alloc_new w (.cells #[U s.pos, U s.done, U s.made, .slice ap s.procs.length cp, .slice ai s.insts.length ci, .slice at_ s.tokens.length ct, .slice aj s.jobs.length cj, .slice ar s.timers.length cr, .slice as_ s.subs.length cs_, .slice ak s.kept.length ck, .slice al s.listed.length cl, .slice am s.msgs.length cm] 33))
  have hB0 := Lib.hid ((Below.refl _ w).alloc (Nat.le_refl _) (.cells #[U s.pos, U s.done, U s.made, .slice ap s.procs.length cp, .slice ai s.insts.length ci, .slice at_ s.tokens.length ct, .slice aj s.jobs.length cj, .slice ar s.timers.length cr, .slice as_ s.subs.length cs_, .slice ak s.kept.length ck, .slice al s.listed.length cl, .slice am s.msgs.length cm] 33))
  have hlt0 : w.heap.size < (w.alloc (.cells #[U s.pos, U s.done, U s.made, .slice ap s.procs.length cp, .slice ai s.insts.length ci, .slice at_ s.tokens.length ct, .slice aj s.jobs.length cj, .slice ar s.timers.length cr, .slice as_ s.subs.length cs_, .slice ak s.kept.length ck, .slice al s.listed.length cl, .slice am s.msgs.length cm] 33)).heap.size := by simp
  generalize w.alloc (.cells #[U s.pos, U s.done, U s.made, .slice ap s.procs.length cp, .slice ai s.insts.length ci, .slice at_ s.tokens.length ct, .slice aj s.jobs.length cj, .slice ar s.timers.length cr, .slice as_ s.subs.length cs_, .slice ak s.kept.length ck, .slice al s.listed.length cl, .slice am s.msgs.length cm] 33) = w0 at hst hB0 hlt0 ⊢
  refine (running_any s Hok.out [U s.pos, U s.done, U s.made, .slice ap s.procs.length cp, .slice ai s.insts.length ci, .slice at_ s.tokens.length ct, .slice aj s.jobs.length cj, .slice ar s.timers.length cr, .slice as_ s.subs.length cs_, .slice ak s.kept.length ck, .slice al s.listed.length cl, .slice am s.msgs.length cm] _ _ _ _ _ _ _ _ _ w0 (H.out.grow hB0.out)).mono ?_
  rintro e w1 ⟨rfl, b1⟩
  have hst1 := Lib.hid ((b1.block w.heap.size hlt0).trans hst.out)
  have hB1 := Lib.hid (hB0.out.trans (b1.mono hB0.out.size))
  clear b1 hst
  have k0 := cell_of hst1.out 0
  have k1 := cell_of hst1.out 1
  have k2 := cell_of hst1.out 2
  have k3 := cell_of hst1.out 3
  have k4 := cell_of hst1.out 4
  have k5 := cell_of hst1.out 5
  have k6 := cell_of hst1.out 6
  have k7 := cell_of hst1.out 7
  have k8 := cell_of hst1.out 8
  have k9 := cell_of hst1.out 9
  have k10 := cell_of hst1.out 10
  have k11 := cell_of hst1.out 11
  go_wp2_with fail
  clear k0 k1 k2 k3 k4 k5 k6 k7 k8 k9 k10 k11
  have hlt1 : w.heap.size < w1.heap.size := heap_lt hst1.out
  refine (waiting_any s Hok.out [U s.pos, U s.done, U s.made, .slice ap s.procs.length cp, .slice ai s.insts.length ci, .slice at_ s.tokens.length ct, .slice aj s.jobs.length cj, .slice ar s.timers.length cr, .slice as_ s.subs.length cs_, .slice ak s.kept.length ck, .slice al s.listed.length cl, .slice am s.msgs.length cm] _ _ _ _ _ _ _ _ _ w1 (H.out.grow hB1.out)).mono ?_
  rintro e w2 ⟨rfl, b2⟩
  have hst2 := Lib.hid ((b2.block w.heap.size hlt1).trans hst1.out)
  have hB2 := Lib.hid (hB1.out.trans (b2.mono hB1.out.size))
  clear b2 hst1
  cases hbr : runB s with
  | false =>
    have E : Hid (mayB s = false) := by show _ = _; simp [mayB, ← runWait, hbr]
    clear hbr
    go_wp2
    go_ret
    rw [E.out]
    exact ⟨rfl, hB2.out⟩
  | true =>
    cases hbw : waitB s with
    | false =>
      have E : Hid (mayB s = false) := by show _ = _; simp [mayB, ← runWait, hbw]
      clear hbr hbw
      go_wp2
      go_ret
      rw [E.out]
      exact ⟨rfl, hB2.out⟩
    | true =>
      have E0 : Hid (∀ b, rowsB (rows s) = b → mayB s = b) := by
        intro b hb
        simp [mayB, ← runWait, hbr, hbw, hb]
      clear hbr hbw
      have k0 := cell_of hst2.out 0
      have k1 := cell_of hst2.out 1
      have k2 := cell_of hst2.out 2
      have k3 := cell_of hst2.out 3
      have k4 := cell_of hst2.out 4
      have k5 := cell_of hst2.out 5
      have k6 := cell_of hst2.out 6
      have k7 := cell_of hst2.out 7
      have k8 := cell_of hst2.out 8
      have k9 := cell_of hst2.out 9
      have k10 := cell_of hst2.out 10
      have k11 := cell_of hst2.out 11
      go_wp2_with fail
      clear k0 k1 k2 k3 k4 k5 k6 k7 k8 k9 k10 k11
      refine (rall_any s Hok.out [U s.pos, U s.done, U s.made, .slice ap s.procs.length cp, .slice ai s.insts.length ci, .slice at_ s.tokens.length ct, .slice aj s.jobs.length cj, .slice ar s.timers.length cr, .slice as_ s.subs.length cs_, .slice ak s.kept.length ck, .slice al s.listed.length cl, .slice am s.msgs.length cm] _ _ _ _ _ _ _ _ _ w2 (H.out.grow hB2.out)).mono ?_
      rintro e w3 ⟨u, rfl, hf, b3⟩
      have hB3 := Lib.hid (hB2.out.trans (b3.mono hB2.out.size))
      have HF := Lib.hid hf
      generalize rows s = l at HF hf E0 Hsz
      obtain ⟨ao, co, rfl, hlc, hlm, -⟩ := hf
      unfold maxLen at hlm
      clear b3
      go_wp2
      go_loopw [6] (fun vi wr => ∃ i : Nat, i ≤ l.length ∧ vi = .int .i64 i ∧ Hid ((∀ j, j < i → rOk l j = true) ∧ Below w3.heap.size w3 wr)) (fun vi _ => l.length - (intOf vi).toNat)
      case atStart => exact ⟨0, Nat.zero_le _, rfl, fun j hj => by omega, Below.refl _ _⟩
      case round =>
        obtain ⟨i, hi, rfl, hR⟩ := hrel
        by_cases hlt : i < l.length
        · obtain ⟨⟨rk, rv⟩, hx⟩ : ∃ x, l[i]? = some x := ⟨_, List.getElem?_eq_getElem hlt⟩
          obtain ⟨⟨qk, qv⟩, hy⟩ : ∃ y, l[i - 1]? = some y := ⟨_, List.getElem?_eq_getElem (by omega)⟩
          have hF := rowsF_st _ _ _ _ HF.out hR.out.2
          obtain ⟨b, off, cap', he, c0, c1⟩ := rows_at hF hx
          cases he
          obtain ⟨b2, off2, cap2, he2, d0, -⟩ := rows_at hF hy
          cases he2
          dsimp only at c0 c1 d0
          have Hx := Lib.hid hx
          have Hy := Lib.hid hy
          have hsv := (Hsz.out _ (List.mem_of_getElem? hx)).2
          have hsk := (Hsz.out _ (List.mem_of_getElem? hy)).1
          dsimp only at hsv hsk
          have hbl := World.block_lt_of_cell? wr _ c0
          dsimp only at hbl
          clear hx hy hF
          have hrnd : rOk l i = true → Hid (∀ j, j < i + 1 → rOk l j = true) := fun hok j hj => by
            by_cases hji : j = i
            · subst hji; exact hok
            · exact hR.out.1 j (by omega)
          have Hrnd := Lib.hid hrnd
          clear hrnd
          by_cases hlong : 16384 < rv.size
          · have q0 : decide (16384 < (rv.size : Int)) = true := by simp; omega
            have q0' : decide (16384 < rv.size) = true := by simp; omega
            have E : Hid (mayB s = false) := E0.out _ (rowsB_bad hlt (by simp [rOk, Hx.out]; omega))
            have hb10 := Lib.hid (hB3.out.trans (hR.out.2.mono hB3.out.size))
            go_wp2
            go_ret
            rw [E.out]
            exact ⟨rfl, hb10.out⟩
          · have q0 : decide (16384 < (rv.size : Int)) = false := by simp; omega
            have q0' : decide (16384 < rv.size) = false := by simp; omega
            go_wp2_with fail
            by_cases h0 : i = 0
            · have hok : Hid (rOk l i = true) := by
                show _ = _
                subst h0
                simp [rOk, Hx.out]; omega
              have q1 : decide (0 < (i : Int)) = false := by simp [h0]
              have q1' : decide (0 < i) = false := by simp [h0]
              refine wp_par (fun _ => False) (fun _ => True) (List.replicate 17 false) _ [.fix ?_, .fix ?_, .fix ?_, .fix ?_, .fix ?_, .fix ?_, .fix ?_, .fix ?_, .fix ?_, .fix ?_, .fix ?_, .fix ?_, .fix ?_, .fix ?_, .fix ?_, .fix ?_, .fix ?_] (by kernel_rfl) (by kernel_rfl) (by simp only [List.length_replicate, List.drop_succ_cons, List.drop_zero, List.drop_nil]; with_reducible rfl) rfl (fun _ _ _ _ _ => ⟨fun h => h, fun h => h⟩) (fun _ _ h _ => h) trivial ?_
              rotate_left 17
              iterate 17
                first
                  | (refine par_skip (a' := ?_) (by rfl) (by rfl) ?_ ?_ ?_; rotate_left 1; with_reducible rfl; (simp only [Act.put, List.setIfInBounds_toArray, List.set_cons_zero, List.set_cons_succ]; with_reducible rfl))
                  | (refine par_run (a' := ?_) (by rfl) (by rfl) (fun w' hb hn => ?_) ?_ ?_; rotate_left 1; (have hc := hb.cells; first | (go_simp; (try simp (disch := omega) only [IntWalk.i64_in, IntWalk.i32_in, IntWalk.u64_in, IntWalk.u8_in, IntWalk.u32_in, IntWalk.toNatUp, IntWalk.iteOmega]); with_reducible rfl) | (go_simp; (try simp (disch := omega) only [IntWalk.i64_in, IntWalk.i32_in, IntWalk.u64_in, IntWalk.u8_in, IntWalk.u32_in, IntWalk.toNatUp, IntWalk.iteOmega]); go_simp; with_reducible rfl)); (simp only [Act.put, List.setIfInBounds_toArray, List.set_cons_zero, List.set_cons_succ]; with_reducible rfl))
              refine par_end (fun w9 hb9 hf9 _ => ?_)
              replace hb9 := hb9.grow
              try refine wpList_none ?_
              have hbb := Lib.hid (hR.out.2.trans (hb9.mono hR.out.2.size))
              clear hb9
              go_wp2
              go_roundw
              case rel => exact ⟨i + 1, by omega, by go_num, Hrnd.out hok.out, hbb.out⟩
              case measure => simp [intOf]; omega
            · have q1 : decide (0 < (i : Int)) = true := by simp; omega
              have q1' : decide (0 < i) = true := by simp; omega
              have hi1 : 1 ≤ i := by omega
              have hless : ∀ W, Calls Tryz.prog 17 #[.string qk, .string rk] W fun e w' => e = .returned (.bool (ltS qk rk)) ∧ Below W.heap.size W w' := fun W => (less_any qk rk W hsk).mono (fun e w2 h => by obtain ⟨he, n, hn⟩ := h; subst hn; exact ⟨he, below_drewN (Below.refl _ _) n⟩)
              have Hless := Lib.hid hless
              clear hless
              refine wp_par (fun _ => False) (fun _ => True) (List.replicate 17 false) _ [.fix ?_, .fix ?_, .fix ?_, .fix ?_, .fix ?_, .fix ?_, .fix ?_, .fix ?_, .fix ?_, .fix ?_, .fix ?_, .fix ?_, .fix ?_, .fix ?_, .fix ?_, .fix ?_, .fix ?_] (by kernel_rfl) (by kernel_rfl) (by simp only [List.length_replicate, List.drop_succ_cons, List.drop_zero, List.drop_nil]; with_reducible rfl) rfl (fun _ _ _ _ _ => ⟨fun h => h, fun h => h⟩) (fun _ _ h _ => h) trivial ?_
              rotate_left 17
              iterate 14
                first
                  | (refine par_skip (a' := ?_) (by rfl) (by rfl) ?_ ?_ ?_; rotate_left 1; with_reducible rfl; (simp only [Act.put, List.setIfInBounds_toArray, List.set_cons_zero, List.set_cons_succ]; with_reducible rfl))
                  | (refine par_run (a' := ?_) (by rfl) (by rfl) (fun w' hb hn => ?_) ?_ ?_; rotate_left 1; (have hc := hb.cells; first | (go_simp; (try simp (disch := omega) only [IntWalk.i64_in, IntWalk.i32_in, IntWalk.u64_in, IntWalk.u8_in, IntWalk.u32_in, IntWalk.toNatUp, IntWalk.iteOmega]); with_reducible rfl) | (go_simp; (try simp (disch := omega) only [IntWalk.i64_in, IntWalk.i32_in, IntWalk.u64_in, IntWalk.u8_in, IntWalk.u32_in, IntWalk.toNatUp, IntWalk.iteOmega]); go_simp; with_reducible rfl)); (simp only [Act.put, List.setIfInBounds_toArray, List.set_cons_zero, List.set_cons_succ]; with_reducible rfl))
              refine par_call (a' := ?_) (f := ?_) (args := ?_) (by rfl) (by rfl) (fun w' => ?_) (fun w' hb hn => ?_) ?_ ?_; rotate_left 3; (go_simp; constructor <;> with_reducible rfl); (exact Hless.out w'); (simp only [Act.put, List.setIfInBounds_toArray, List.set_cons_zero, List.set_cons_succ]; with_reducible rfl)
              iterate 2
                first
                  | (refine par_skip (a' := ?_) (by rfl) (by rfl) ?_ ?_ ?_; rotate_left 1; with_reducible rfl; (simp only [Act.put, List.setIfInBounds_toArray, List.set_cons_zero, List.set_cons_succ]; with_reducible rfl))
                  | (refine par_run (a' := ?_) (by rfl) (by rfl) (fun w' hb hn => ?_) ?_ ?_; rotate_left 1; (have hc := hb.cells; first | (go_simp; (try simp (disch := omega) only [IntWalk.i64_in, IntWalk.i32_in, IntWalk.u64_in, IntWalk.u8_in, IntWalk.u32_in, IntWalk.toNatUp, IntWalk.iteOmega]); with_reducible rfl) | (go_simp; (try simp (disch := omega) only [IntWalk.i64_in, IntWalk.i32_in, IntWalk.u64_in, IntWalk.u8_in, IntWalk.u32_in, IntWalk.toNatUp, IntWalk.iteOmega]); go_simp; with_reducible rfl)); (simp only [Act.put, List.setIfInBounds_toArray, List.set_cons_zero, List.set_cons_succ]; with_reducible rfl))
              refine par_end (fun w9 hb9 hf9 _ => ?_)
              replace hb9 := hb9.grow
              try refine wpList_none ?_
              cases hl2 : ltS qk rk with
              | true =>
                have hok : Hid (rOk l i = true) := by
                  show _ = _
                  obtain ⟨j, rfl⟩ : ∃ j, i = j + 1 := ⟨i - 1, by omega⟩
                  have hy' := Hy.out
                  simp only [Nat.add_sub_cancel] at hy'
                  simp [rOk, Hx.out, hy', hl2]; omega
                have hbb := Lib.hid (hR.out.2.trans (hb9.mono hR.out.2.size))
                clear hb9
                go_wp2
                go_roundw
                case rel => exact ⟨i + 1, by omega, by go_num, Hrnd.out hok.out, hbb.out⟩
                case measure => simp [intOf]; omega
              | false =>
                have E : Hid (mayB s = false) := E0.out _ (rowsB_bad hlt (by
                  obtain ⟨j, rfl⟩ : ∃ j, i = j + 1 := ⟨i - 1, by omega⟩
                  have hy' := Hy.out
                  simp only [Nat.add_sub_cancel] at hy'
                  simp [rOk, Hx.out, hy', hl2]))
                have hb10 := Lib.hid (hB3.out.trans ((hR.out.2.trans (hb9.mono hR.out.2.size)).mono hB3.out.size))
                clear hb9
                go_wp2
                go_ret
                rw [E.out]
                exact ⟨rfl, hb10.out⟩
        · have hin : i = l.length := by omega
          subst hin
          have E := Lib.hid (E0.out _ (rowsB_end hR.out.1))
          have hb10 := Lib.hid (hB3.out.trans (hR.out.2.mono hB3.out.size))
          go_wp2
          go_ret
          rw [E.out]
          exact ⟨rfl, hb10.out⟩
end Go.Proofs.YthikijlbclckdaaGreat
