/- Keep: contracts (Kv). -/
import Derived.Test.YthikijlbclckdaaGreatR17
namespace Go.Proofs.YthikijlbclckdaaGreat
set_option maxRecDepth 100000
set_option maxHeartbeats 40000000
set_option linter.unusedSimpArgs false
set_option linter.unusedVariables false
open Go.IntWalk Go.RowKit
theorem told_sz {s : StateV} (h : RowsSz (rows s)) : RowsSz (toldS s) := by
  unfold toldS
  split
  · exact h
  · intro r hr; cases hr
theorem keepRows_any (s : StateV) (hok : StateOk s) (cs : List Value) (vp vi vt vj vr vs vk vl vm : Value) (w : World) (h : StateAt w cs s vp vi vt vj vr vs vk vl vm) :
    Calls Tryz.prog 3 #[.agg cs.toArray] w fun e w' => e = .returned (.bool true) ∧ Below w.heap.size w w' := by
  have H := hid h
  have Hok := hid hok
  obtain ⟨hcs, hp, hi, ht, hj, hr, hs, hk, hl, hm⟩ := h
  obtain ⟨ap, cp, rfl, -⟩ := hp
  obtain ⟨ai, ci, rfl, -⟩ := hi
  obtain ⟨at_, ct, rfl, -⟩ := ht
  obtain ⟨aj, cj, rfl, -⟩ := hj
  obtain ⟨ar, cr, rfl, -⟩ := hr
  obtain ⟨as_, cs_, rfl, -⟩ := hs
  obtain ⟨ak, ck, rfl, -⟩ := hk
  obtain ⟨al, cl, rfl, -⟩ := hl
  obtain ⟨am, cm, rfl, -⟩ := hm
  subst hcs
  clear hok
  have Hsz := hid (rowsSz s Hok.out)
  go_enter Tryz.func3, Tryz.ntmps3
  go_wp2_with fail
  have hst := hid (alloc_new w (.cells #[U s.pos, U s.done, U s.made, .slice ap s.procs.length cp, .slice ai s.insts.length ci, .slice at_ s.tokens.length ct, .slice aj s.jobs.length cj, .slice ar s.timers.length cr, .slice as_ s.subs.length cs_, .slice ak s.kept.length ck, .slice al s.listed.length cl, .slice am s.msgs.length cm] 33))
  have hB0 := hid ((Below.refl _ w).alloc (Nat.le_refl _) (.cells #[U s.pos, U s.done, U s.made, .slice ap s.procs.length cp, .slice ai s.insts.length ci, .slice at_ s.tokens.length ct, .slice aj s.jobs.length cj, .slice ar s.timers.length cr, .slice as_ s.subs.length cs_, .slice ak s.kept.length ck, .slice al s.listed.length cl, .slice am s.msgs.length cm] 33))
  have hlt0 : w.heap.size < (w.alloc (.cells #[U s.pos, U s.done, U s.made, .slice ap s.procs.length cp, .slice ai s.insts.length ci, .slice at_ s.tokens.length ct, .slice aj s.jobs.length cj, .slice ar s.timers.length cr, .slice as_ s.subs.length cs_, .slice ak s.kept.length ck, .slice al s.listed.length cl, .slice am s.msgs.length cm] 33)).heap.size := by simp
  generalize w.alloc (.cells #[U s.pos, U s.done, U s.made, .slice ap s.procs.length cp, .slice ai s.insts.length ci, .slice at_ s.tokens.length ct, .slice aj s.jobs.length cj, .slice ar s.timers.length cr, .slice as_ s.subs.length cs_, .slice ak s.kept.length ck, .slice al s.listed.length cl, .slice am s.msgs.length cm] 33) = w0 at hst hB0 hlt0 ⊢
  refine (shown_any w0).mono ?_
  rintro e w1 ⟨rfl, b1⟩
  have hst1 := hid ((b1.block w.heap.size hlt0).trans hst.out)
  have hB1 := hid (hB0.out.trans (b1.mono hB0.out.size))
  clear b1 hst
  have k0 := cell_of hst1.out 0
  have k1 := cell_of hst1.out 1
  have k2 := cell_of hst1.out 2
  have k3 := cell_of hst1.out 3
  have k4 := cell_of hst1.out 4
  have k5 := cell_of hst1.out 5
  have k6 := cell_of hst1.out 6
  have k7 := cell_of hst1.out 7
  have k8 := cell_of hst1.out 8
  have k9 := cell_of hst1.out 9
  have k10 := cell_of hst1.out 10
  have k11 := cell_of hst1.out 11
  go_wp2_with fail
  clear k0 k1 k2 k3 k4 k5 k6 k7 k8 k9 k10 k11
  refine (srows_any s Hok.out [U s.pos, U s.done, U s.made, .slice ap s.procs.length cp, .slice ai s.insts.length ci, .slice at_ s.tokens.length ct, .slice aj s.jobs.length cj, .slice ar s.timers.length cr, .slice as_ s.subs.length cs_, .slice ak s.kept.length ck, .slice al s.listed.length cl, .slice am s.msgs.length cm] _ _ _ _ _ _ _ _ _ w1 (H.out.grow hB1.out)).mono ?_
  rintro e w2 ⟨lc, v, rfl, hlc, hv, b2⟩
  have hst2 := hid ((b2.block w.heap.size (heap_lt hst1.out)).trans hst1.out)
  have hB2 := hid (hB1.out.trans (b2.mono hB1.out.size))
  have Hlc := hid hlc
  have Hv := hid hv
  clear b2 hlc hv hst1
  go_wp2_with fail
  refine (told_any lc _ v w2 Hlc.out Hv.out (told_len Hok.out)).mono ?_
  rintro e w3 ⟨u1, rfl, hf1, b3⟩
  have hst3 := hid ((b3.block w.heap.size (heap_lt hst2.out)).trans hst2.out)
  have hB3 := hid (hB2.out.trans (b3.mono hB2.out.size))
  have F1 := hid hf1
  clear b3 hst2 hf1
  have k0 := cell_of hst3.out 0
  have k1 := cell_of hst3.out 1
  have k2 := cell_of hst3.out 2
  have k3 := cell_of hst3.out 3
  have k4 := cell_of hst3.out 4
  have k5 := cell_of hst3.out 5
  have k6 := cell_of hst3.out 6
  have k7 := cell_of hst3.out 7
  have k8 := cell_of hst3.out 8
  have k9 := cell_of hst3.out 9
  have k10 := cell_of hst3.out 10
  have k11 := cell_of hst3.out 11
  go_wp2_with fail
  clear k0 k1 k2 k3 k4 k5 k6 k7 k8 k9 k10 k11
  refine (rrows_any s Hok.out [U s.pos, U s.done, U s.made, .slice ap s.procs.length cp, .slice ai s.insts.length ci, .slice at_ s.tokens.length ct, .slice aj s.jobs.length cj, .slice ar s.timers.length cr, .slice as_ s.subs.length cs_, .slice ak s.kept.length ck, .slice al s.listed.length cl, .slice am s.msgs.length cm] _ _ _ _ _ _ _ _ _ w3 (H.out.grow hB3.out)).mono ?_
  rintro e w4 ⟨u2, rfl, hf2, b4⟩
  have hst4 := hid ((b4.block w.heap.size (heap_lt hst3.out)).trans hst3.out)
  have hB4 := hid (hB3.out.trans (b4.mono hB3.out.size))
  have F1' := hid (rowsF_st _ _ _ _ F1.out b4)
  have F2 := hid hf2
  clear b4 hst3 hf2
  go_wp2_with fail
  refine (same_any (toldS s) (told_len Hok.out) (told_sz Hsz.out) u1 u2 w4 F1'.out F2.out).mono ?_
  rintro e w5 ⟨rfl, b5⟩
  have hst5 := hid ((b5.block w.heap.size (heap_lt hst4.out)).trans hst4.out)
  have hB5 := hid (hB4.out.trans (b5.mono hB4.out.size))
  clear b5 hst4
  have hlt5 : w.heap.size < w5.heap.size := heap_lt hst5.out
  have k0 := cell_of hst5.out 0
  have k1 := cell_of hst5.out 1
  have k2 := cell_of hst5.out 2
  have k3 := cell_of hst5.out 3
  have k4 := cell_of hst5.out 4
  have k5 := cell_of hst5.out 5
  have k6 := cell_of hst5.out 6
  have k7 := cell_of hst5.out 7
  have k8 := cell_of hst5.out 8
  have k9 := cell_of hst5.out 9
  have k10 := cell_of hst5.out 10
  have k11 := cell_of hst5.out 11
  go_wp2_with fail
  refine wp_par (fun _ => False) (fun _ => True) (List.replicate 6 false) _ [.fix ?_, .fix ?_, .fix ?_, .fix ?_, .fix ?_, .fix ?_] (by kernel_rfl) (by kernel_rfl) (by simp only [List.length_replicate, List.drop_succ_cons, List.drop_zero, List.drop_nil]; with_reducible rfl) rfl (fun _ _ _ _ _ => ⟨fun h => h, fun h => h⟩) (fun _ _ h _ => h) trivial ?_
  rotate_left 6
  iterate 3
    first
      | (refine par_skip (a' := ?_) (by rfl) (by rfl) ?_ ?_ ?_; rotate_left 1; with_reducible rfl; (simp only [Act.put, List.setIfInBounds_toArray, List.set_cons_zero, List.set_cons_succ]; with_reducible rfl))
      | (refine par_run (a' := ?_) (by rfl) (by rfl) (fun w' hb hn => ?_) ?_ ?_; rotate_left 1; (have hc := hb.cells; first | (go_simp; (try simp (disch := omega) only [IntWalk.i64_in, IntWalk.i32_in, IntWalk.u64_in, IntWalk.u8_in, IntWalk.u32_in, toNatUp, iteOmega]); with_reducible rfl) | (go_simp; (try simp (disch := omega) only [IntWalk.i64_in, IntWalk.i32_in, IntWalk.u64_in, IntWalk.u8_in, IntWalk.u32_in, toNatUp, iteOmega]); go_simp; with_reducible rfl)); (simp only [Act.put, List.setIfInBounds_toArray, List.set_cons_zero, List.set_cons_succ]; with_reducible rfl))
  refine par_call (a' := ?_) (f := ?_) (args := ?_) (by rfl) (by rfl) (fun w' => ?_) (fun w' hb hn => ?_) ?_ ?_; rotate_left 3; (go_simp; constructor <;> with_reducible rfl); (exact smay_any s Hok.out Hsz.out [U s.pos, U s.done, U s.made, .slice ap s.procs.length cp, .slice ai s.insts.length ci, .slice at_ s.tokens.length ct, .slice aj s.jobs.length cj, .slice ar s.timers.length cr, .slice as_ s.subs.length cs_, .slice ak s.kept.length ck, .slice al s.listed.length cl, .slice am s.msgs.length cm] _ _ _ _ _ _ _ _ _ w' (H.out.grow (hB5.out.trans (hb.grow.mono hB5.out.size)))); (simp only [Act.put, List.setIfInBounds_toArray, List.set_cons_zero, List.set_cons_succ]; with_reducible rfl)
  iterate 1
    first
      | (refine par_skip (a' := ?_) (by rfl) (by rfl) ?_ ?_ ?_; rotate_left 1; with_reducible rfl; (simp only [Act.put, List.setIfInBounds_toArray, List.set_cons_zero, List.set_cons_succ]; with_reducible rfl))
      | (refine par_run (a' := ?_) (by rfl) (by rfl) (fun w' hb hn => ?_) ?_ ?_; rotate_left 1; (have hc := hb.cells; first | (go_simp; (try simp (disch := omega) only [IntWalk.i64_in, IntWalk.i32_in, IntWalk.u64_in, IntWalk.u8_in, IntWalk.u32_in, toNatUp, iteOmega]); with_reducible rfl) | (go_simp; (try simp (disch := omega) only [IntWalk.i64_in, IntWalk.i32_in, IntWalk.u64_in, IntWalk.u8_in, IntWalk.u32_in, toNatUp, iteOmega]); go_simp; with_reducible rfl)); (simp only [Act.put, List.setIfInBounds_toArray, List.set_cons_zero, List.set_cons_succ]; with_reducible rfl))
  refine par_call (a' := ?_) (f := ?_) (args := ?_) (by rfl) (by rfl) (fun w' => ?_) (fun w' hb hn => ?_) ?_ ?_; rotate_left 3; (go_simp; constructor <;> with_reducible rfl); (exact rsmay_any s Hok.out [U s.pos, U s.done, U s.made, .slice ap s.procs.length cp, .slice ai s.insts.length ci, .slice at_ s.tokens.length ct, .slice aj s.jobs.length cj, .slice ar s.timers.length cr, .slice as_ s.subs.length cs_, .slice ak s.kept.length ck, .slice al s.listed.length cl, .slice am s.msgs.length cm] _ _ _ _ _ _ _ _ _ w' (H.out.grow (hB5.out.trans (hb.grow.mono hB5.out.size)))); (simp only [Act.put, List.setIfInBounds_toArray, List.set_cons_zero, List.set_cons_succ]; with_reducible rfl)
  refine par_end (fun w9 hb9 hf9 _ => ?_)
  replace hb9 := hb9.grow
  try refine wpList_none ?_
  have hB6 := hid (hB5.out.trans (hb9.mono hB5.out.size))
  clear hb9
  go_wp2
  go_ret
  exact ⟨rfl, hB6.out⟩
theorem rows_rise {s : StateV} (h : mayB s = true) {i : Nat} {r q : RowV} (hr : (rows s)[i + 1]? = some r) (hq : (rows s)[i]? = some q) : ltS q.1 r.1 = true := by
  have h2 : rowsB (rows s) = true := by
    unfold mayB at h
    exact (Bool.and_eq_true _ _ ▸ h).2
  unfold rowsB at h2
  rw [List.all_eq_true] at h2
  have hlt : i + 1 < (rows s).length := by
    rcases Nat.lt_or_ge (i + 1) (rows s).length with h | h
    · exact h
    · rw [List.getElem?_eq_none h] at hr; cases hr
  have h3 := h2 (i + 1) (List.mem_range.2 hlt)
  simp only [rOk, hr, hq, Bool.and_eq_true] at h3
  exact h3.2
theorem rows_count (s : StateV) : (rows s).length = 1 + s.procs.length + s.insts.length + s.tokens.length + s.jobs.length + s.timers.length + s.subs.length + s.kept.length + s.listed.length + s.msgs.length := by
  unfold rows lists
  simp only [List.flatten_cons, List.flatten_nil, List.length_append, List.length_map, List.length_cons, List.length_nil]
  omega
theorem keepRises_any (s : StateV) (hok : StateOk s) (cs : List Value) (vp vi vt vj vr vs vk vl vm : Value) (w : World) (h : StateAt w cs s vp vi vt vj vr vs vk vl vm) :
    Calls Tryz.prog 4 #[.agg cs.toArray] w fun e w' => e = .returned (.bool true) ∧ Below w.heap.size w w' := by
  have H := hid h
  have Hok := hid hok
  obtain ⟨hcs, hp, hi, ht, hj, hr, hs, hk, hl, hm⟩ := h
  obtain ⟨ap, cp, rfl, -⟩ := hp
  obtain ⟨ai, ci, rfl, -⟩ := hi
  obtain ⟨at_, ct, rfl, -⟩ := ht
  obtain ⟨aj, cj, rfl, -⟩ := hj
  obtain ⟨ar, cr, rfl, -⟩ := hr
  obtain ⟨as_, cs_, rfl, -⟩ := hs
  obtain ⟨ak, ck, rfl, -⟩ := hk
  obtain ⟨al, cl, rfl, -⟩ := hl
  obtain ⟨am, cm, rfl, -⟩ := hm
  subst hcs
  clear hok
  have Hsz := hid (rowsSz s Hok.out)
  have hmany := Hok.out.many
  go_enter Tryz.func4, Tryz.ntmps4
  go_wp2_with fail
  have hst := hid (alloc_new w (.cells #[U s.pos, U s.done, U s.made, .slice ap s.procs.length cp, .slice ai s.insts.length ci, .slice at_ s.tokens.length ct, .slice aj s.jobs.length cj, .slice ar s.timers.length cr, .slice as_ s.subs.length cs_, .slice ak s.kept.length ck, .slice al s.listed.length cl, .slice am s.msgs.length cm] 33))
  have hB0 := hid ((Below.refl _ w).alloc (Nat.le_refl _) (.cells #[U s.pos, U s.done, U s.made, .slice ap s.procs.length cp, .slice ai s.insts.length ci, .slice at_ s.tokens.length ct, .slice aj s.jobs.length cj, .slice ar s.timers.length cr, .slice as_ s.subs.length cs_, .slice ak s.kept.length ck, .slice al s.listed.length cl, .slice am s.msgs.length cm] 33))
  have hlt0 : w.heap.size < (w.alloc (.cells #[U s.pos, U s.done, U s.made, .slice ap s.procs.length cp, .slice ai s.insts.length ci, .slice at_ s.tokens.length ct, .slice aj s.jobs.length cj, .slice ar s.timers.length cr, .slice as_ s.subs.length cs_, .slice ak s.kept.length ck, .slice al s.listed.length cl, .slice am s.msgs.length cm] 33)).heap.size := by simp
  generalize w.alloc (.cells #[U s.pos, U s.done, U s.made, .slice ap s.procs.length cp, .slice ai s.insts.length ci, .slice at_ s.tokens.length ct, .slice aj s.jobs.length cj, .slice ar s.timers.length cr, .slice as_ s.subs.length cs_, .slice ak s.kept.length ck, .slice al s.listed.length cl, .slice am s.msgs.length cm] 33) = w0 at hst hB0 hlt0 ⊢
  refine (shown_any w0).mono ?_
  rintro e w1 ⟨rfl, b1⟩
  have hst1 := hid ((b1.block w.heap.size hlt0).trans hst.out)
  have hB1 := hid (hB0.out.trans (b1.mono hB0.out.size))
  clear b1 hst
  have k0 := cell_of hst1.out 0
  have k1 := cell_of hst1.out 1
  have k2 := cell_of hst1.out 2
  have k3 := cell_of hst1.out 3
  have k4 := cell_of hst1.out 4
  have k5 := cell_of hst1.out 5
  have k6 := cell_of hst1.out 6
  have k7 := cell_of hst1.out 7
  have k8 := cell_of hst1.out 8
  have k9 := cell_of hst1.out 9
  have k10 := cell_of hst1.out 10
  have k11 := cell_of hst1.out 11
  go_wp2_with fail
  clear k0 k1 k2 k3 k4 k5 k6 k7 k8 k9 k10 k11
  refine (rsmay_any s Hok.out [U s.pos, U s.done, U s.made, .slice ap s.procs.length cp, .slice ai s.insts.length ci, .slice at_ s.tokens.length ct, .slice aj s.jobs.length cj, .slice ar s.timers.length cr, .slice as_ s.subs.length cs_, .slice ak s.kept.length ck, .slice al s.listed.length cl, .slice am s.msgs.length cm] _ _ _ _ _ _ _ _ _ w1 (H.out.grow hB1.out)).mono ?_
  rintro e w2 ⟨rfl, b2⟩
  have hst2 := hid ((b2.block w.heap.size (heap_lt hst1.out)).trans hst1.out)
  have hB2 := hid (hB1.out.trans (b2.mono hB1.out.size))
  clear b2 hst1
  have k0 := cell_of hst2.out 0
  have k1 := cell_of hst2.out 1
  have k2 := cell_of hst2.out 2
  have k3 := cell_of hst2.out 3
  have k4 := cell_of hst2.out 4
  have k5 := cell_of hst2.out 5
  have k6 := cell_of hst2.out 6
  have k7 := cell_of hst2.out 7
  have k8 := cell_of hst2.out 8
  have k9 := cell_of hst2.out 9
  have k10 := cell_of hst2.out 10
  have k11 := cell_of hst2.out 11
  go_wp2_with fail
  clear k0 k1 k2 k3 k4 k5 k6 k7 k8 k9 k10 k11
  refine (srows_any s Hok.out [U s.pos, U s.done, U s.made, .slice ap s.procs.length cp, .slice ai s.insts.length ci, .slice at_ s.tokens.length ct, .slice aj s.jobs.length cj, .slice ar s.timers.length cr, .slice as_ s.subs.length cs_, .slice ak s.kept.length ck, .slice al s.listed.length cl, .slice am s.msgs.length cm] _ _ _ _ _ _ _ _ _ w2 (H.out.grow hB2.out)).mono ?_
  rintro e w3 ⟨lc, v, rfl, hlc, hv, b3⟩
  have hst3 := hid ((b3.block w.heap.size (heap_lt hst2.out)).trans hst2.out)
  have hB3 := hid (hB2.out.trans (b3.mono hB2.out.size))
  have Hlc := hid hlc
  have Hv := hid hv
  clear b3 hlc hv hst2
  go_wp2_with fail
  refine (told_any lc _ v w3 Hlc.out Hv.out (told_len Hok.out)).mono ?_
  rintro e w4 ⟨u1, rfl, hf1, b4⟩
  have hst4 := hid ((b4.block w.heap.size (heap_lt hst3.out)).trans hst3.out)
  have hB4 := hid (hB3.out.trans (b4.mono hB3.out.size))
  have F1 := hid hf1
  clear b4 hst3
  have Hrise : Hid (∀ i r q, (toldS s)[i + 1]? = some r → (toldS s)[i]? = some q → ltS q.1 r.1 = true) := by
    intro i r q hr hq
    cases hb : mayB s with
    | false => rw [toldS_no hb] at hr; cases hr
    | true => rw [toldS_yes hb] at hr hq; exact rows_rise hb hr hq
  have Hcnt : Hid ((mayB s = true → (toldS s).length = 1 + s.procs.length + s.insts.length + s.tokens.length + s.jobs.length + s.timers.length + s.subs.length + s.kept.length + s.listed.length + s.msgs.length) ∧ (mayB s = false → (toldS s).length = 0)) :=
    ⟨fun hb => by rw [toldS_yes hb]; exact rows_count s, fun hb => by rw [toldS_no hb]; rfl⟩
  have Htz := hid (told_sz Hsz.out)
  generalize toldS s = l at F1 hf1 Hrise Hcnt Htz
  obtain ⟨ao, co, rfl, hlc, hlm, -⟩ := hf1
  unfold maxLen at hlm
  go_wp2
  go_loopw [6] (fun vi wr => ∃ i : Nat, 1 ≤ i ∧ (i ≤ l.length ∨ i = 1) ∧ vi = .int .i64 i ∧ Hid (Below w4.heap.size w4 wr)) (fun vi _ => l.length - (intOf vi).toNat)
  case atStart => exact ⟨1, Nat.le_refl _, .inr rfl, rfl, Below.refl _ _⟩
  case round =>
    obtain ⟨i, hi1, hi, rfl, hR⟩ := hrel
    by_cases hlt : i < l.length
    · obtain ⟨⟨rk, rv⟩, hx⟩ : ∃ x, l[i]? = some x := ⟨_, List.getElem?_eq_getElem hlt⟩
      obtain ⟨⟨qk, qv⟩, hy⟩ : ∃ y, l[i - 1]? = some y := ⟨_, List.getElem?_eq_getElem (by omega)⟩
      have hF := rowsF_st _ _ _ _ F1.out hR.out
      obtain ⟨b, off, cap', he, c0, -⟩ := rows_at hF hx
      cases he
      obtain ⟨b2, off2, cap2, he2, d0, -⟩ := rows_at hF hy
      cases he2
      dsimp only at c0 d0
      have hsk := (Htz.out _ (List.mem_of_getElem? hy)).1
      dsimp only at hsk
      have hbl := World.block_lt_of_cell? wr _ c0
      dsimp only at hbl
      have hl2 : ltS qk rk = true := by
        obtain ⟨j, rfl⟩ : ∃ j, i = j + 1 := ⟨i - 1, by omega⟩
        exact Hrise.out j _ _ hx hy
      have hless : ∀ W, Calls Tryz.prog 17 #[.string qk, .string rk] W fun e w' => e = .returned (.bool true) ∧ Below W.heap.size W w' := fun W => (less_any qk rk W hsk).mono (fun e w2 h => by obtain ⟨he, n, hn⟩ := h; subst hn; rw [hl2] at he; exact ⟨he, below_drewN (Below.refl _ _) n⟩)
      have Hless := hid hless
      clear hless hx hy hF hl2
      go_wp2_with fail
      refine wp_par (fun _ => False) (fun _ => True) (List.replicate 12 false) _ [.fix ?_, .fix ?_, .fix ?_, .fix ?_, .fix ?_, .fix ?_, .fix ?_, .fix ?_, .fix ?_, .fix ?_, .fix ?_, .fix ?_] (by kernel_rfl) (by kernel_rfl) (by simp only [List.length_replicate, List.drop_succ_cons, List.drop_zero, List.drop_nil]; with_reducible rfl) rfl (fun _ _ _ _ _ => ⟨fun h => h, fun h => h⟩) (fun _ _ h _ => h) trivial ?_
      rotate_left 12
      iterate 11
        first
          | (refine par_skip (a' := ?_) (by rfl) (by rfl) ?_ ?_ ?_; rotate_left 1; with_reducible rfl; (simp only [Act.put, List.setIfInBounds_toArray, List.set_cons_zero, List.set_cons_succ]; with_reducible rfl))
          | (refine par_run (a' := ?_) (by rfl) (by rfl) (fun w' hb hn => ?_) ?_ ?_; rotate_left 1; (have hc := hb.cells; first | (go_simp; (try simp (disch := omega) only [IntWalk.i64_in, IntWalk.i32_in, IntWalk.u64_in, IntWalk.u8_in, IntWalk.u32_in, toNatUp, iteOmega]); with_reducible rfl) | (go_simp; (try simp (disch := omega) only [IntWalk.i64_in, IntWalk.i32_in, IntWalk.u64_in, IntWalk.u8_in, IntWalk.u32_in, toNatUp, iteOmega]); go_simp; with_reducible rfl)); (simp only [Act.put, List.setIfInBounds_toArray, List.set_cons_zero, List.set_cons_succ]; with_reducible rfl))
      refine par_call (a' := ?_) (f := ?_) (args := ?_) (by rfl) (by rfl) (fun w' => ?_) (fun w' hb hn => ?_) ?_ ?_; rotate_left 3; (go_simp; constructor <;> with_reducible rfl); (exact Hless.out w'); (simp only [Act.put, List.setIfInBounds_toArray, List.set_cons_zero, List.set_cons_succ]; with_reducible rfl)
      refine par_end (fun w9 hb9 hf9 _ => ?_)
      replace hb9 := hb9.grow
      try refine wpList_none ?_
      have hbb := hid (hR.out.trans (hb9.mono hR.out.size))
      clear hb9
      go_wp2
      go_roundw
      case rel => exact ⟨i + 1, by omega, .inl (by omega), by go_num, hbb⟩
      case measure => simp [intOf]; omega
    · have hst5 := hid ((hR.out.block w.heap.size (heap_lt hst4.out)).trans hst4.out)
      have hB5 := hid (hB4.out.trans (hR.out.mono hB4.out.size))
      have k0 := cell_of hst5.out 0
      have k1 := cell_of hst5.out 1
      have k2 := cell_of hst5.out 2
      have k3 := cell_of hst5.out 3
      have k4 := cell_of hst5.out 4
      have k5 := cell_of hst5.out 5
      have k6 := cell_of hst5.out 6
      have k7 := cell_of hst5.out 7
      have k8 := cell_of hst5.out 8
      have k9 := cell_of hst5.out 9
      have k10 := cell_of hst5.out 10
      have k11 := cell_of hst5.out 11
      cases hb : mayB s with
      | true =>
        have hlen := Hcnt.out.1 hb
        clear hb
        go_wp2
        go_ret
        exact ⟨by simp, hB5.out⟩
      | false =>
        have hlen := Hcnt.out.2 hb
        clear hb
        go_wp2
        go_ret
        exact ⟨by simp, hB5.out⟩
end Go.Proofs.YthikijlbclckdaaGreat
