/- Keep: contracts (Cc). -/
import Derived.Test.YthikijlbclckdaaGreatR18
namespace Go.Proofs.YthikijlbclckdaaGreat
set_option maxRecDepth 100000
set_option maxHeartbeats 40000000
set_option linter.unusedSimpArgs false
set_option linter.unusedVariables false
open Go.IntWalk Go.RowKit
theorem rchanges_any (l : List RowV) (hl : l.length ≤ 2097152) (hsz : RowsSz l) (v : Value) (s : StateV) (hok : StateOk s) (cs : List Value) (vp vi vt vj vr vs vk vl vm : Value) (w : World) (h : rowsF l v w) (hs : StateAt w cs s vp vi vt vj vr vs vk vl vm) :
    Calls Tryz.prog 24 #[v, .agg cs.toArray] w fun e w' => ∃ u, e = .returned u ∧ chgF (chgS l s) u w' ∧ Below w.heap.size w w' := by
  have H := hid h
  have Hs := hid hs
  have Hsz := hid hsz
  have Hok := hid hok
  obtain ⟨a, c', rfl, -⟩ := h
  obtain ⟨hcs, hp, hi, ht, hj, hr, hs, hk, hl', hm⟩ := hs
  obtain ⟨xap, xcp, rfl, -⟩ := hp
  obtain ⟨xai, xci, rfl, -⟩ := hi
  obtain ⟨xat, xct, rfl, -⟩ := ht
  obtain ⟨xaj, xcj, rfl, -⟩ := hj
  obtain ⟨xar, xcr, rfl, -⟩ := hr
  obtain ⟨xas, xcs, rfl, -⟩ := hs
  obtain ⟨xak, xck, rfl, -⟩ := hk
  obtain ⟨xal, xcl, rfl, -⟩ := hl'
  obtain ⟨xam, xcm, rfl, -⟩ := hm
  subst hcs
  clear hok hsz
  go_enter Tryz.func24, Tryz.ntmps24
  have hst := hid (alloc_new w (.cells #[U s.pos, U s.done, U s.made, .slice xap s.procs.length xcp, .slice xai s.insts.length xci, .slice xat s.tokens.length xct, .slice xaj s.jobs.length xcj, .slice xar s.timers.length xcr, .slice xas s.subs.length xcs, .slice xak s.kept.length xck, .slice xal s.listed.length xcl, .slice xam s.msgs.length xcm] 33))
  have hB0 := hid ((Below.refl _ w).alloc (Nat.le_refl _) (.cells #[U s.pos, U s.done, U s.made, .slice xap s.procs.length xcp, .slice xai s.insts.length xci, .slice xat s.tokens.length xct, .slice xaj s.jobs.length xcj, .slice xar s.timers.length xcr, .slice xas s.subs.length xcs, .slice xak s.kept.length xck, .slice xal s.listed.length xcl, .slice xam s.msgs.length xcm] 33))
  have k0 := cell_of hst.out 0
  have k1 := cell_of hst.out 1
  have k2 := cell_of hst.out 2
  have k3 := cell_of hst.out 3
  have k4 := cell_of hst.out 4
  have k5 := cell_of hst.out 5
  have k6 := cell_of hst.out 6
  have k7 := cell_of hst.out 7
  have k8 := cell_of hst.out 8
  have k9 := cell_of hst.out 9
  have k10 := cell_of hst.out 10
  have k11 := cell_of hst.out 11
  go_wp2_with fail
  clear k0 k1 k2 k3 k4 k5 k6 k7 k8 k9 k10 k11
  generalize w.alloc (.cells #[U s.pos, U s.done, U s.made, .slice xap s.procs.length xcp, .slice xai s.insts.length xci, .slice xat s.tokens.length xct, .slice xaj s.jobs.length xcj, .slice xar s.timers.length xcr, .slice xas s.subs.length xcs, .slice xak s.kept.length xck, .slice xal s.listed.length xcl, .slice xam s.msgs.length xcm] 33) = w0 at hst hB0 ⊢
  refine (rsmay_any s Hok.out [U s.pos, U s.done, U s.made, .slice xap s.procs.length xcp, .slice xai s.insts.length xci, .slice xat s.tokens.length xct, .slice xaj s.jobs.length xcj, .slice xar s.timers.length xcr, .slice xas s.subs.length xcs, .slice xak s.kept.length xck, .slice xal s.listed.length xcl, .slice xam s.msgs.length xcm] _ _ _ _ _ _ _ _ _ w0 (Hs.out.grow hB0.out)).mono ?_
  rintro e w1 ⟨rfl, b1⟩
  have hst1 := hid ((b1.block w.heap.size (heap_lt hst.out)).trans hst.out)
  have hB1 := hid (hB0.out.trans (b1.mono hB0.out.size))
  clear b1 hst
  cases hmy : mayB s with
  | false =>
    go_wp2
    go_ret
    exact ⟨_, rfl, by unfold chgS chgF; rw [if_neg (by rw [hmy]; decide)]; exact ⟨none, 0, rfl, Nat.le_refl _, by simp [maxLen], rfl, fun j u h => by cases h⟩, hB1.out⟩
  | true =>
    have hch : Hid (chgS l s = mergeC (risL l) (rows s)) := by show _ = _; unfold chgS; rw [if_pos hmy]
    go_wp2_with fail
    refine (rising_any l (by omega) Hsz.out _ w1 (rowsF_st _ _ _ _ H.out hB1.out)).mono ?_
    rintro e w2 ⟨ua, rfl, hua, b2⟩
    have hst2 := hid ((b2.block w.heap.size (heap_lt hst1.out)).trans hst1.out)
    have hB2 := hid (hB1.out.trans (b2.mono hB1.out.size))
    have FA := hid hua
    obtain ⟨a1, c1', rfl, ha1, ha2, -⟩ := hua
    clear b2 hst1
    have k0 := cell_of hst2.out 0
    have k1 := cell_of hst2.out 1
    have k2 := cell_of hst2.out 2
    have k3 := cell_of hst2.out 3
    have k4 := cell_of hst2.out 4
    have k5 := cell_of hst2.out 5
    have k6 := cell_of hst2.out 6
    have k7 := cell_of hst2.out 7
    have k8 := cell_of hst2.out 8
    have k9 := cell_of hst2.out 9
    have k10 := cell_of hst2.out 10
    have k11 := cell_of hst2.out 11
    go_wp2_with fail
    clear k0 k1 k2 k3 k4 k5 k6 k7 k8 k9 k10 k11
    refine (rall_any s Hok.out [U s.pos, U s.done, U s.made, .slice xap s.procs.length xcp, .slice xai s.insts.length xci, .slice xat s.tokens.length xct, .slice xaj s.jobs.length xcj, .slice xar s.timers.length xcr, .slice xas s.subs.length xcs, .slice xak s.kept.length xck, .slice xal s.listed.length xcl, .slice xam s.msgs.length xcm] _ _ _ _ _ _ _ _ _ w2 (Hs.out.grow hB2.out)).mono ?_
    rintro e w3 ⟨ub, rfl, hub, b3⟩
    have hB3 := hid (hB2.out.trans (b3.mono hB2.out.size))
    have FB := hid hub
    obtain ⟨a2, c2', rfl, hb1, hb2, -⟩ := hub
    replace FA := hid (rowsF_st _ _ _ _ FA.out b3)
    clear b3 hst2
    have hla : (risL l).length ≤ 2097152 := Nat.le_trans (by have := risL_len l []; simpa [risL] using this) hl
    have hlb : (rows s).length ≤ 4194304 := rows_len Hok.out
    have hml := merge_len (risL l) (rows s)
    have Hmem : Hid (∀ y ∈ risL l, y.1.size ≤ 4611686018427387904) := fun y hy => by
      rcases risL_mem l [] y hy with h | h
      · cases h
      · exact (Hsz.out y h).1
    generalize risL l = A at FA hch hla hml ha1 ha2 Hmem ⊢
    generalize rows s = B at FB hch hlb hml hb1 hb2 ⊢
    unfold maxLen at ha2 hb2
    have q00 : decide ((0 : Int) < (A.length : Int)) = decide (0 < A.length) := by simp
    clear q00
    go_wp2_with fail
    go_loopw [8, 9, 10] (fun vo vi vk wr => ∃ (i k : Nat) (o : List ChgV), i ≤ A.length ∧ k ≤ B.length ∧ vi = .int .i64 i ∧ vk = .int .i64 k ∧ w3.heap.size ≤ wr.heap.size ∧ Hid (o ++ mergeC (A.drop i) (B.drop k) = mergeC A B) ∧ Hid (wr.ownsRow w3.heap.size 63 3 vo o.length (chgsC o) ∧ Below w3.heap.size w3 wr)) (fun _ vi vk _ => A.length + B.length - (intOf vi).toNat - (intOf vk).toNat)
    case atStart => exact ⟨0, 0, [], Nat.zero_le _, Nat.zero_le _, rfl, rfl, Nat.le_refl _, (show [] ++ mergeC (A.drop 0) (B.drop 0) = _ from by simp), ⟨⟨rfl, .inl ⟨rfl, rfl⟩⟩, Below.refl _ _⟩⟩
    case round =>
      obtain ⟨i, k, out, hi, hk, rfl, rfl, hws, hE, hR⟩ := hrel
      obtain ⟨ak, ck, rfl⟩ := own_slice hR.out.1
      have hol : out.length ≤ A.length + B.length := by have := congrArg List.length hE.out; rw [List.length_append] at this; omega
      by_cases hia : i < A.length
      · have q0 : decide ((i : Int) < (A.length : Int)) = true := decide_eq_true (by omega)
        have q0' : decide (i < A.length) = true := decide_eq_true hia
        obtain ⟨⟨xk, xv⟩, hx⟩ : ∃ x, A[i]? = some x := ⟨_, List.getElem?_eq_getElem hia⟩
        obtain ⟨c, ofc, capc, hec, f0, f1⟩ := rows_at FA.out hx
        cases hec
        dsimp only at f0 f1
        have hc0 := World.block_lt_of_cell? w3 _ f0
        dsimp only at hc0
        by_cases hkb : k < B.length
        · have q2 : ((k : Int) == (B.length : Int)) = false := by rw [beq_eq_false_iff_ne]; omega
          obtain ⟨⟨yk, yv⟩, hy⟩ : ∃ x, B[k]? = some x := ⟨_, List.getElem?_eq_getElem hkb⟩
          obtain ⟨b, off, cap', he, d0, d1⟩ := rows_at FB.out hy
          cases he
          dsimp only at d0 d1
          have hb0 := World.block_lt_of_cell? w3 _ d0
          dsimp only at hb0
          have hn := merge_both hx hy
          dsimp only at hn
          have hnext := hid hn
          have hxs := Hmem.out _ (List.mem_of_getElem? hx)
          dsimp only at hxs
          have hless : ∀ W, Calls Tryz.prog 17 #[.string xk, .string yk] W fun e w' => e = .returned (.bool (ltS xk yk)) ∧ Below W.heap.size W w' := fun W => (less_any xk yk W hxs).mono (fun e w2 h => by obtain ⟨he, n, hn⟩ := h; subst hn; exact ⟨he, below_drewN (Below.refl _ _) n⟩)
          have Hless := hid hless
          have KO := hid hR.out.1
          have BB := hid hR.out.2
          have F0 := (BB.out.cell (p := ⟨c, ofc + i * 2, none⟩) hc0).trans f0
          have F1 := (BB.out.cell (p := ⟨c, ofc + i * 2 + 1, none⟩) hc0).trans f1
          have D0 := (BB.out.cell (p := ⟨b, off + k * 2, none⟩) hb0).trans d0
          have D1 := (BB.out.cell (p := ⟨b, off + k * 2 + 1, none⟩) hb0).trans d1
          have hcw := Nat.lt_of_lt_of_le hc0 hws
          have hbw := Nat.lt_of_lt_of_le hb0 hws
          clear hx hy d0 d1 f0 f1 hR hless hn hxs
          go_wp2_with fail
          refine wp_par (fun _ => False) (fun _ => True) (List.replicate 23 false) _ [.fix ?_, .fix ?_, .fix ?_, .fix ?_, .fix ?_, .fix ?_, .fix ?_, .fix ?_, .fix ?_, .fix ?_, .fix ?_, .fix ?_, .fix ?_, .fix ?_, .fix ?_, .fix ?_, .fix ?_, .fix ?_, .fix ?_, .fix ?_, .fix ?_, .fix ?_, .fix ?_] (by kernel_rfl) (by kernel_rfl) (by simp only [List.length_replicate, List.drop_succ_cons, List.drop_zero, List.drop_nil]; with_reducible rfl) rfl (fun _ _ _ _ _ => ⟨fun h => h, fun h => h⟩) (fun _ _ h _ => h) trivial ?_
          rotate_left 23
          iterate 20
            first
              | (refine par_skip (a' := ?_) (by rfl) (by rfl) ?_ ?_ ?_; rotate_left 1; with_reducible rfl; (simp only [Act.put, List.setIfInBounds_toArray, List.set_cons_zero, List.set_cons_succ]; with_reducible rfl))
              | (refine par_run (a' := ?_) (by rfl) (by rfl) (fun w' hb hn => ?_) ?_ ?_; rotate_left 1; (have hc := hb.cells; first | (go_simp; (try simp (disch := omega) only [IntWalk.i64_in, IntWalk.i32_in, IntWalk.u64_in, IntWalk.u8_in, IntWalk.u32_in, toNatUp, iteOmega]); with_reducible rfl) | (go_simp; (try simp (disch := omega) only [IntWalk.i64_in, IntWalk.i32_in, IntWalk.u64_in, IntWalk.u8_in, IntWalk.u32_in, toNatUp, iteOmega]); go_simp; with_reducible rfl)); (simp only [Act.put, List.setIfInBounds_toArray, List.set_cons_zero, List.set_cons_succ]; with_reducible rfl))
          refine par_call (a' := ?_) (f := ?_) (args := ?_) (by rfl) (by rfl) (fun w' => ?_) (fun w' hb hn => ?_) ?_ ?_; rotate_left 3; (go_simp; constructor <;> with_reducible rfl); (exact Hless.out w'); (simp only [Act.put, List.setIfInBounds_toArray, List.set_cons_zero, List.set_cons_succ]; with_reducible rfl)
          iterate 2
            first
              | (refine par_skip (a' := ?_) (by rfl) (by rfl) ?_ ?_ ?_; rotate_left 1; with_reducible rfl; (simp only [Act.put, List.setIfInBounds_toArray, List.set_cons_zero, List.set_cons_succ]; with_reducible rfl))
              | (refine par_run (a' := ?_) (by rfl) (by rfl) (fun w' hb hn => ?_) ?_ ?_; rotate_left 1; (have hc := hb.cells; first | (go_simp; (try simp (disch := omega) only [IntWalk.i64_in, IntWalk.i32_in, IntWalk.u64_in, IntWalk.u8_in, IntWalk.u32_in, toNatUp, iteOmega]); with_reducible rfl) | (go_simp; (try simp (disch := omega) only [IntWalk.i64_in, IntWalk.i32_in, IntWalk.u64_in, IntWalk.u8_in, IntWalk.u32_in, toNatUp, iteOmega]); go_simp; with_reducible rfl)); (simp only [Act.put, List.setIfInBounds_toArray, List.set_cons_zero, List.set_cons_succ]; with_reducible rfl))
          refine par_end (fun w9 hb9 hf9 _ => ?_)
          replace hb9 := hb9.grow
          try refine wpList_none ?_
          replace F0 := (hb9.cell (p := ⟨c, ofc + i * 2, none⟩) hcw).trans F0
          replace F1 := (hb9.cell (p := ⟨c, ofc + i * 2 + 1, none⟩) hcw).trans F1
          replace D0 := (hb9.cell (p := ⟨b, off + k * 2, none⟩) hbw).trans D0
          replace D1 := (hb9.cell (p := ⟨b, off + k * 2 + 1, none⟩) hbw).trans D1
          replace hcw := Nat.lt_of_lt_of_le hcw hb9.size
          replace hbw := Nat.lt_of_lt_of_le hbw hb9.size
          replace KO := hid (own_below KO.out hb9)
          replace BB := hid (BB.out.trans (hb9.mono BB.out.size))
          clear hb9
          obtain ⟨w10, rfl⟩ : ∃ w10 : World, w10 = w9 := ⟨_, rfl⟩
          cases hlts : ltS xk yk with
          | true =>
            have hn : Hid (mergeC (A.drop i) (B.drop k) = goneC (xk, xv) :: mergeC (A.drop (i + 1)) (B.drop k)) := by have := hnext.out; rw [if_pos hlts] at this; exact this
            have hws2 := BB.out.size
            go_wp2_with (at_builtin; refine app1k 57 63 Tryz.underlying57 info_chg rfl (by decide) KO.out hws2 (by unfold maxLen; omega) (by omega) rfl rfl rfl rfl rfl rfl (by simp [Value.oneCell']) ?_; intro v1 w8 hown8 hb8 hg8)
            have O8 := hid hown8
            have B8 : Hid (Below w3.heap.size w3 w8) := ((But.of (w := w3) BB.out).trans' hb8 (F := fun _ => False) (fun k hk ho => by have := (KO.out.lt k ho).1; omega)).grow
            clear hown8 hb8 hg8
            obtain ⟨ak', ck', rfl⟩ := own_slice O8.out
            go_wp2
            go_roundw
            case rel => exact ⟨i + 1, k, out ++ [goneC (xk, xv)], by omega, hk, by go_num, rfl, B8.out.size, (show _ ++ _ = _ from by rw [List.append_assoc]; have := hE.out; rw [hn.out] at this; exact this), ⟨by rw [chgsC_snoc, List.length_append]; exact O8.out, B8.out⟩⟩
            case measure => simp [intOf]; omega
          | false =>
            by_cases hke : xk = yk
            · subst hke
              have hbq := beq_self_eq_true xk.toList
              by_cases hve : xv = yv
              · subst hve
                have hn : Hid (mergeC (A.drop i) (B.drop k) = mergeC (A.drop (i + 1)) (B.drop (k + 1))) := by have := hnext.out; rw [if_neg (by rw [hlts]; decide), if_pos rfl, if_pos rfl] at this; exact this
                go_wp2_with fail
                refine wp_par (fun _ => False) (fun _ => True) (List.replicate 18 false) _ [.fix ?_, .fix ?_, .fix ?_, .fix ?_, .fix ?_, .fix ?_, .fix ?_, .fix ?_, .fix ?_, .fix ?_, .fix ?_, .fix ?_, .fix ?_, .fix ?_, .fix ?_, .fix (.bool true), .fix ?_, .fix ?_] (by kernel_rfl) (by kernel_rfl) (by simp only [List.length_replicate, List.drop_succ_cons, List.drop_zero, List.drop_nil]; with_reducible rfl) rfl (fun _ _ _ _ _ => ⟨fun h => h, fun h => h⟩) (fun _ _ h _ => h) trivial ?_
                rotate_left 17
                iterate 15
                  first
                    | (refine par_skip (a' := ?_) (by rfl) (by rfl) ?_ ?_ ?_; rotate_left 1; with_reducible rfl; (simp only [Act.put, List.setIfInBounds_toArray, List.set_cons_zero, List.set_cons_succ]; with_reducible rfl))
                    | (refine par_run (a' := ?_) (by rfl) (by rfl) (fun w' hb hn => ?_) ?_ ?_; rotate_left 1; (have hc := hb.cells; first | (go_simp; (try simp (disch := omega) only [IntWalk.i64_in, IntWalk.i32_in, IntWalk.u64_in, IntWalk.u8_in, IntWalk.u32_in, toNatUp, iteOmega]); with_reducible rfl) | (go_simp; (try simp (disch := omega) only [IntWalk.i64_in, IntWalk.i32_in, IntWalk.u64_in, IntWalk.u8_in, IntWalk.u32_in, toNatUp, iteOmega]); go_simp; with_reducible rfl)); (simp only [Act.put, List.setIfInBounds_toArray, List.set_cons_zero, List.set_cons_succ]; with_reducible rfl))
                refine par_run (a' := ?a188k15) (by rfl) (by rfl) (fun w' hb hn => ?h188k15) ?p188k15 ?g188k15
                case h188k15 => (have hc := hb.cells; go_simp; (try simp (disch := omega) only [IntWalk.i64_in, IntWalk.i32_in, IntWalk.u64_in, IntWalk.u8_in, IntWalk.u32_in, toNatUp, iteOmega]); (first | done | simp))
                case p188k15 => (simp only [Act.put, List.setIfInBounds_toArray, List.set_cons_zero, List.set_cons_succ]; with_reducible rfl)
                iterate 2
                  first
                    | (refine par_skip (a' := ?_) (by rfl) (by rfl) ?_ ?_ ?_; rotate_left 1; with_reducible rfl; (simp only [Act.put, List.setIfInBounds_toArray, List.set_cons_zero, List.set_cons_succ]; with_reducible rfl))
                    | (refine par_run (a' := ?_) (by rfl) (by rfl) (fun w' hb hn => ?_) ?_ ?_; rotate_left 1; (have hc := hb.cells; first | (go_simp; (try simp (disch := omega) only [IntWalk.i64_in, IntWalk.i32_in, IntWalk.u64_in, IntWalk.u8_in, IntWalk.u32_in, toNatUp, iteOmega]); with_reducible rfl) | (go_simp; (try simp (disch := omega) only [IntWalk.i64_in, IntWalk.i32_in, IntWalk.u64_in, IntWalk.u8_in, IntWalk.u32_in, toNatUp, iteOmega]); go_simp; with_reducible rfl)); (simp only [Act.put, List.setIfInBounds_toArray, List.set_cons_zero, List.set_cons_succ]; with_reducible rfl))
                refine par_end (fun w9 hb9 hf9 _ => ?_)
                replace hb9 := hb9.grow
                try refine wpList_none ?_
                replace F0 := (hb9.cell (p := ⟨c, ofc + i * 2, none⟩) hcw).trans F0
                replace F1 := (hb9.cell (p := ⟨c, ofc + i * 2 + 1, none⟩) hcw).trans F1
                replace D0 := (hb9.cell (p := ⟨b, off + k * 2, none⟩) hbw).trans D0
                replace D1 := (hb9.cell (p := ⟨b, off + k * 2 + 1, none⟩) hbw).trans D1
                replace hcw := Nat.lt_of_lt_of_le hcw hb9.size
                replace hbw := Nat.lt_of_lt_of_le hbw hb9.size
                replace KO := hid (own_below KO.out hb9)
                replace BB := hid (BB.out.trans (hb9.mono BB.out.size))
                clear hb9
                obtain ⟨w11, rfl⟩ : ∃ w11 : World, w11 = w9 := ⟨_, rfl⟩
                go_wp2_with fail
                refine wp_par (fun _ => False) (fun _ => True) (List.replicate 15 false) _ [.fix ?_, .fix ?_, .fix ?_, .fix ?_, .fix ?_, .fix ?_, .fix ?_, .fix ?_, .fix ?_, .fix ?_, .fix ?_, .fix ?_, .fix ?_, .fix (.bool false), .fix ?_] (by kernel_rfl) (by kernel_rfl) (by simp only [List.length_replicate, List.drop_succ_cons, List.drop_zero, List.drop_nil]; with_reducible rfl) rfl (fun _ _ _ _ _ => ⟨fun h => h, fun h => h⟩) (fun _ _ h _ => h) trivial ?_
                rotate_left 14
                iterate 13
                  first
                    | (refine par_skip (a' := ?_) (by rfl) (by rfl) ?_ ?_ ?_; rotate_left 1; with_reducible rfl; (simp only [Act.put, List.setIfInBounds_toArray, List.set_cons_zero, List.set_cons_succ]; with_reducible rfl))
                    | (refine par_run (a' := ?_) (by rfl) (by rfl) (fun w' hb hn => ?_) ?_ ?_; rotate_left 1; (have hc := hb.cells; first | (go_simp; (try simp (disch := omega) only [IntWalk.i64_in, IntWalk.i32_in, IntWalk.u64_in, IntWalk.u8_in, IntWalk.u32_in, toNatUp, iteOmega]); with_reducible rfl) | (go_simp; (try simp (disch := omega) only [IntWalk.i64_in, IntWalk.i32_in, IntWalk.u64_in, IntWalk.u8_in, IntWalk.u32_in, toNatUp, iteOmega]); go_simp; with_reducible rfl)); (simp only [Act.put, List.setIfInBounds_toArray, List.set_cons_zero, List.set_cons_succ]; with_reducible rfl))
                refine par_run (a' := ?a215k13) (by rfl) (by rfl) (fun w' hb hn => ?h215k13) ?p215k13 ?g215k13
                case h215k13 => (have hc := hb.cells; go_simp; (try simp (disch := omega) only [IntWalk.i64_in, IntWalk.i32_in, IntWalk.u64_in, IntWalk.u8_in, IntWalk.u32_in, toNatUp, iteOmega]); (first | done | simp))
                case p215k13 => (simp only [Act.put, List.setIfInBounds_toArray, List.set_cons_zero, List.set_cons_succ]; with_reducible rfl)
                iterate 1
                  first
                    | (refine par_skip (a' := ?_) (by rfl) (by rfl) ?_ ?_ ?_; rotate_left 1; with_reducible rfl; (simp only [Act.put, List.setIfInBounds_toArray, List.set_cons_zero, List.set_cons_succ]; with_reducible rfl))
                    | (refine par_run (a' := ?_) (by rfl) (by rfl) (fun w' hb hn => ?_) ?_ ?_; rotate_left 1; (have hc := hb.cells; first | (go_simp; (try simp (disch := omega) only [IntWalk.i64_in, IntWalk.i32_in, IntWalk.u64_in, IntWalk.u8_in, IntWalk.u32_in, toNatUp, iteOmega]); with_reducible rfl) | (go_simp; (try simp (disch := omega) only [IntWalk.i64_in, IntWalk.i32_in, IntWalk.u64_in, IntWalk.u8_in, IntWalk.u32_in, toNatUp, iteOmega]); go_simp; with_reducible rfl)); (simp only [Act.put, List.setIfInBounds_toArray, List.set_cons_zero, List.set_cons_succ]; with_reducible rfl))
                refine par_end (fun w9 hb9 hf9 _ => ?_)
                replace hb9 := hb9.grow
                try refine wpList_none ?_
                replace F0 := (hb9.cell (p := ⟨c, ofc + i * 2, none⟩) hcw).trans F0
                replace F1 := (hb9.cell (p := ⟨c, ofc + i * 2 + 1, none⟩) hcw).trans F1
                replace D0 := (hb9.cell (p := ⟨b, off + k * 2, none⟩) hbw).trans D0
                replace D1 := (hb9.cell (p := ⟨b, off + k * 2 + 1, none⟩) hbw).trans D1
                replace hcw := Nat.lt_of_lt_of_le hcw hb9.size
                replace hbw := Nat.lt_of_lt_of_le hbw hb9.size
                replace KO := hid (own_below KO.out hb9)
                replace BB := hid (BB.out.trans (hb9.mono BB.out.size))
                clear hb9
                obtain ⟨w12, rfl⟩ : ∃ w12 : World, w12 = w9 := ⟨_, rfl⟩
                go_wp2
                go_roundw
                case rel => exact ⟨i + 1, k + 1, out, by omega, by omega, by go_num, by go_num, BB.out.size, (show _ ++ _ = _ from by have := hE.out; rw [hn.out] at this; exact this), ⟨KO.out, BB.out⟩⟩
                case measure => simp [intOf]; omega
              · have hn : Hid (mergeC (A.drop i) (B.drop k) = newC (xk, yv) :: mergeC (A.drop (i + 1)) (B.drop (k + 1))) := by have := hnext.out; rw [if_neg (by rw [hlts]; decide), if_pos rfl, if_neg hve] at this; exact this
                have hbn : ¬ xv.toList = yv.toList := fun e => hve (by rw [Lib.toList_data, Lib.toList_data] at e; exact ByteArray.ext (Array.toList_inj.1 e))
                go_wp2_with fail
                refine wp_par (fun _ => False) (fun _ => True) (List.replicate 18 false) _ [.fix ?_, .fix ?_, .fix ?_, .fix ?_, .fix ?_, .fix ?_, .fix ?_, .fix ?_, .fix ?_, .fix ?_, .fix ?_, .fix ?_, .fix ?_, .fix ?_, .fix ?_, .fix (.bool true), .fix ?_, .fix ?_] (by kernel_rfl) (by kernel_rfl) (by simp only [List.length_replicate, List.drop_succ_cons, List.drop_zero, List.drop_nil]; with_reducible rfl) rfl (fun _ _ _ _ _ => ⟨fun h => h, fun h => h⟩) (fun _ _ h _ => h) trivial ?_
                rotate_left 17
                iterate 15
                  first
                    | (refine par_skip (a' := ?_) (by rfl) (by rfl) ?_ ?_ ?_; rotate_left 1; with_reducible rfl; (simp only [Act.put, List.setIfInBounds_toArray, List.set_cons_zero, List.set_cons_succ]; with_reducible rfl))
                    | (refine par_run (a' := ?_) (by rfl) (by rfl) (fun w' hb hn => ?_) ?_ ?_; rotate_left 1; (have hc := hb.cells; first | (go_simp; (try simp (disch := omega) only [IntWalk.i64_in, IntWalk.i32_in, IntWalk.u64_in, IntWalk.u8_in, IntWalk.u32_in, toNatUp, iteOmega]); with_reducible rfl) | (go_simp; (try simp (disch := omega) only [IntWalk.i64_in, IntWalk.i32_in, IntWalk.u64_in, IntWalk.u8_in, IntWalk.u32_in, toNatUp, iteOmega]); go_simp; with_reducible rfl)); (simp only [Act.put, List.setIfInBounds_toArray, List.set_cons_zero, List.set_cons_succ]; with_reducible rfl))
                refine par_run (a' := ?a248k15) (by rfl) (by rfl) (fun w' hb hn => ?h248k15) ?p248k15 ?g248k15
                case h248k15 => (have hc := hb.cells; go_simp; (try simp (disch := omega) only [IntWalk.i64_in, IntWalk.i32_in, IntWalk.u64_in, IntWalk.u8_in, IntWalk.u32_in, toNatUp, iteOmega]); (first | done | simp))
                case p248k15 => (simp only [Act.put, List.setIfInBounds_toArray, List.set_cons_zero, List.set_cons_succ]; with_reducible rfl)
                iterate 2
                  first
                    | (refine par_skip (a' := ?_) (by rfl) (by rfl) ?_ ?_ ?_; rotate_left 1; with_reducible rfl; (simp only [Act.put, List.setIfInBounds_toArray, List.set_cons_zero, List.set_cons_succ]; with_reducible rfl))
                    | (refine par_run (a' := ?_) (by rfl) (by rfl) (fun w' hb hn => ?_) ?_ ?_; rotate_left 1; (have hc := hb.cells; first | (go_simp; (try simp (disch := omega) only [IntWalk.i64_in, IntWalk.i32_in, IntWalk.u64_in, IntWalk.u8_in, IntWalk.u32_in, toNatUp, iteOmega]); with_reducible rfl) | (go_simp; (try simp (disch := omega) only [IntWalk.i64_in, IntWalk.i32_in, IntWalk.u64_in, IntWalk.u8_in, IntWalk.u32_in, toNatUp, iteOmega]); go_simp; with_reducible rfl)); (simp only [Act.put, List.setIfInBounds_toArray, List.set_cons_zero, List.set_cons_succ]; with_reducible rfl))
                refine par_end (fun w9 hb9 hf9 _ => ?_)
                replace hb9 := hb9.grow
                try refine wpList_none ?_
                replace F0 := (hb9.cell (p := ⟨c, ofc + i * 2, none⟩) hcw).trans F0
                replace F1 := (hb9.cell (p := ⟨c, ofc + i * 2 + 1, none⟩) hcw).trans F1
                replace D0 := (hb9.cell (p := ⟨b, off + k * 2, none⟩) hbw).trans D0
                replace D1 := (hb9.cell (p := ⟨b, off + k * 2 + 1, none⟩) hbw).trans D1
                replace hcw := Nat.lt_of_lt_of_le hcw hb9.size
                replace hbw := Nat.lt_of_lt_of_le hbw hb9.size
                replace KO := hid (own_below KO.out hb9)
                replace BB := hid (BB.out.trans (hb9.mono BB.out.size))
                clear hb9
                obtain ⟨w11, rfl⟩ : ∃ w11 : World, w11 = w9 := ⟨_, rfl⟩
                go_wp2_with fail
                refine wp_par (fun _ => False) (fun _ => True) (List.replicate 15 false) _ [.fix ?_, .fix ?_, .fix ?_, .fix ?_, .fix ?_, .fix ?_, .fix ?_, .fix ?_, .fix ?_, .fix ?_, .fix ?_, .fix ?_, .fix ?_, .fix (.bool true), .fix ?_] (by kernel_rfl) (by kernel_rfl) (by simp only [List.length_replicate, List.drop_succ_cons, List.drop_zero, List.drop_nil]; with_reducible rfl) rfl (fun _ _ _ _ _ => ⟨fun h => h, fun h => h⟩) (fun _ _ h _ => h) trivial ?_
                rotate_left 14
                iterate 13
                  first
                    | (refine par_skip (a' := ?_) (by rfl) (by rfl) ?_ ?_ ?_; rotate_left 1; with_reducible rfl; (simp only [Act.put, List.setIfInBounds_toArray, List.set_cons_zero, List.set_cons_succ]; with_reducible rfl))
                    | (refine par_run (a' := ?_) (by rfl) (by rfl) (fun w' hb hn => ?_) ?_ ?_; rotate_left 1; (have hc := hb.cells; first | (go_simp; (try simp (disch := omega) only [IntWalk.i64_in, IntWalk.i32_in, IntWalk.u64_in, IntWalk.u8_in, IntWalk.u32_in, toNatUp, iteOmega]); with_reducible rfl) | (go_simp; (try simp (disch := omega) only [IntWalk.i64_in, IntWalk.i32_in, IntWalk.u64_in, IntWalk.u8_in, IntWalk.u32_in, toNatUp, iteOmega]); go_simp; with_reducible rfl)); (simp only [Act.put, List.setIfInBounds_toArray, List.set_cons_zero, List.set_cons_succ]; with_reducible rfl))
                refine par_run (a' := ?a275k13) (by rfl) (by rfl) (fun w' hb hn => ?h275k13) ?p275k13 ?g275k13
                case h275k13 => (have hc := hb.cells; go_simp; (try simp (disch := omega) only [IntWalk.i64_in, IntWalk.i32_in, IntWalk.u64_in, IntWalk.u8_in, IntWalk.u32_in, toNatUp, iteOmega]); (first | done | simp [hbn]))
                case p275k13 => (simp only [Act.put, List.setIfInBounds_toArray, List.set_cons_zero, List.set_cons_succ]; with_reducible rfl)
                iterate 1
                  first
                    | (refine par_skip (a' := ?_) (by rfl) (by rfl) ?_ ?_ ?_; rotate_left 1; with_reducible rfl; (simp only [Act.put, List.setIfInBounds_toArray, List.set_cons_zero, List.set_cons_succ]; with_reducible rfl))
                    | (refine par_run (a' := ?_) (by rfl) (by rfl) (fun w' hb hn => ?_) ?_ ?_; rotate_left 1; (have hc := hb.cells; first | (go_simp; (try simp (disch := omega) only [IntWalk.i64_in, IntWalk.i32_in, IntWalk.u64_in, IntWalk.u8_in, IntWalk.u32_in, toNatUp, iteOmega]); with_reducible rfl) | (go_simp; (try simp (disch := omega) only [IntWalk.i64_in, IntWalk.i32_in, IntWalk.u64_in, IntWalk.u8_in, IntWalk.u32_in, toNatUp, iteOmega]); go_simp; with_reducible rfl)); (simp only [Act.put, List.setIfInBounds_toArray, List.set_cons_zero, List.set_cons_succ]; with_reducible rfl))
                refine par_end (fun w9 hb9 hf9 _ => ?_)
                replace hb9 := hb9.grow
                try refine wpList_none ?_
                replace F0 := (hb9.cell (p := ⟨c, ofc + i * 2, none⟩) hcw).trans F0
                replace F1 := (hb9.cell (p := ⟨c, ofc + i * 2 + 1, none⟩) hcw).trans F1
                replace D0 := (hb9.cell (p := ⟨b, off + k * 2, none⟩) hbw).trans D0
                replace D1 := (hb9.cell (p := ⟨b, off + k * 2 + 1, none⟩) hbw).trans D1
                replace hcw := Nat.lt_of_lt_of_le hcw hb9.size
                replace hbw := Nat.lt_of_lt_of_le hbw hb9.size
                replace KO := hid (own_below KO.out hb9)
                replace BB := hid (BB.out.trans (hb9.mono BB.out.size))
                clear hb9
                obtain ⟨w12, rfl⟩ : ∃ w12 : World, w12 = w9 := ⟨_, rfl⟩
                go_wp2_with fail
                have E0 := hid D0
                have E1 := hid D1
                clear F0 F1 D0 D1
                have nl := hid (own_lt KO.out)
                have nb := hid (show ¬ ownB (.slice ak out.length ck) b from fun hh => by have := (KO.out.lt b hh).1; omega)
                have hws2 := BB.out.size
                refine Ps.wp_par (Ps.relC (fun x => ownB (.slice ak out.length ck) x) (fun x _ => x = b)) (fun W => True ∧ W.ownsRow w3.heap.size 63 3 (.slice ak out.length ck) out.length (chgsC out)) (false :: false :: false :: false :: false :: false :: false :: false :: false :: false :: false :: false :: false :: false :: true :: []) _ (.fix ?_ :: .fix ?_ :: .fix ?_ :: .fix ?_ :: .fix ?_ :: .fix ?_ :: .fix ?_ :: .fix ?_ :: .fix ?_ :: .fix ?_ :: .fix ?_ :: .fix ?_ :: .fix ?_ :: .new (Ps.rowN 3 ?_ ?_ w12.heap.size) :: .st (some (out.length + 1)) (fun _ _ => True) (fun u W => True ∧ W.ownsRow w3.heap.size 63 3 u (out.length + 1) (chgsC out ++ [.string xk, .string yv, .bool false])) :: []) (by kernel_rfl) (by kernel_rfl) (by simp only [List.length_cons, List.length_nil, List.drop_succ_cons, List.drop_zero, List.drop_nil]; with_reducible rfl) rfl (fun _ _ _ _ _ => ⟨fun h => h, fun h => h⟩) (fun _ _ h hb => ⟨trivial, own_below h.2 hb⟩) (⟨trivial, KO.out⟩) ?_
                rotate_left 15
                iterate 13
                  first
                    | (refine Ps.par_skip (a' := ?_) (by rfl) (by rfl) ?_ ?_ ?_; rotate_left 1; with_reducible rfl; (simp only [Act.put, List.setIfInBounds_toArray, List.set_cons_zero, List.set_cons_succ]; with_reducible rfl))
                    | (refine Ps.par_run (a' := ?_) (by rfl) (by rfl) (fun w' hb hn => ?_) ?_ ?_; rotate_left 1; (have q0 := hb.2 b _ _ rfl E0.out; have q1 := hb.2 b _ _ rfl E1.out; first | (go_simp; (try simp (disch := omega) only [IntWalk.i64_in, IntWalk.i32_in, IntWalk.u64_in, IntWalk.u8_in, IntWalk.u32_in, toNatUp, iteOmega]); with_reducible rfl) | (go_simp; (try simp (disch := omega) only [IntWalk.i64_in, IntWalk.i32_in, IntWalk.u64_in, IntWalk.u8_in, IntWalk.u32_in, toNatUp, iteOmega]); go_simp; with_reducible rfl)); (simp only [Act.put, List.setIfInBounds_toArray, List.set_cons_zero, List.set_cons_succ]; with_reducible rfl))
                refine Ps.par_row (a' := ?ap1k13) (m := ?mp1k13) (T := ?Tp1k13) (cs := ?cp1k13) (r := ?rp1k13) (fun x h => nl.out x h) (by rfl) (by rfl) (fun w' hb hn => ?hp1k13) (fun w' => ?ep1k13) ?np1k13 ?vp1k13 ?lp1k13 ?xp1k13 (fun u => ?pp1k13) (fun u => ?gp1k13)
                case hp1k13 => (have q0 := hb.2 b _ _ rfl E0.out; have q1 := hb.2 b _ _ rfl E1.out; go_simp; (try simp (disch := omega) only [IntWalk.i64_in, IntWalk.i32_in, IntWalk.u64_in, IntWalk.u8_in, IntWalk.u32_in, toNatUp, iteOmega]); with_reducible rfl)
                case ep1k13 => with_reducible rfl
                case np1k13 => with_reducible rfl
                case vp1k13 => with_reducible rfl
                case lp1k13 => simp only [List.length_cons, List.length_nil]
                case xp1k13 => (unfold maxLen; omega)
                case pp1k13 => (simp only [Act.put, List.setIfInBounds_toArray, List.set_cons_zero, List.set_cons_succ]; with_reducible rfl)
                refine Ps.par_app (a' := ?ap2k14) (A := fun W => True) 57 63 Tryz.underlying57 info_chg rfl (by decide) hws2 (by unfold maxLen; omega) (by omega) (by simp [Value.oneCell']) (fun _ _ _ _ _ => trivial) (fun _ _ _ _ => trivial) (fun _ h => h) (fun x i hs hb => by subst hs; exact nb.out hb) (by rfl) rfl rfl rfl rfl (fun w' hb hn => ?xp2k14) (fun u => ?pp2k14) (fun u hu14 => ?gp2k14)
                case xp2k14 => (exact (Ps.need_head hn (by kernel_rfl)).1)
                case pp2k14 => (simp only [Act.put, List.setIfInBounds_toArray, List.set_cons_zero, List.set_cons_succ]; with_reducible rfl)
                obtain ⟨au14, cu14, rfl⟩ := hu14
                refine Ps.par_end (fun w9 hb9 hf9 hr9 => ?_)
                try refine Ps.wpList_none ?_
                have B9 : Below w3.heap.size w3 w9 := ((But.of (w := w3) BB.out).trans' hb9.1 (F := fun _ => False) (fun k hk ho => by have := (KO.out.lt k ho).1; omega)).grow
                have O9 := hid hr9.2
                replace B9 := hid B9
                clear hb9 hf9 hr9
                go_wp2
                go_roundw
                case rel => exact ⟨i + 1, k + 1, out ++ [newC (xk, yv)], by omega, by omega, by go_num, by go_num, B9.out.size, (show _ ++ _ = _ from by rw [List.append_assoc]; have := hE.out; rw [hn.out] at this; exact this), ⟨by rw [chgsC_snoc, List.length_append]; exact O9.out, B9.out⟩⟩
                case measure => simp [intOf]; omega
            · have hn : Hid (mergeC (A.drop i) (B.drop k) = newC (yk, yv) :: mergeC (A.drop i) (B.drop (k + 1))) := by have := hnext.out; rw [if_neg (by rw [hlts]; decide), if_neg hke] at this; exact this
              have hbn : ¬ xk.toList = yk.toList := fun e => hke (by rw [Lib.toList_data, Lib.toList_data] at e; exact ByteArray.ext (Array.toList_inj.1 e))
              go_wp2_with fail
              refine wp_par (fun _ => False) (fun _ => True) (List.replicate 18 false) _ [.fix ?_, .fix ?_, .fix ?_, .fix ?_, .fix ?_, .fix ?_, .fix ?_, .fix ?_, .fix ?_, .fix ?_, .fix ?_, .fix ?_, .fix ?_, .fix ?_, .fix ?_, .fix (.bool false), .fix ?_, .fix ?_] (by kernel_rfl) (by kernel_rfl) (by simp only [List.length_replicate, List.drop_succ_cons, List.drop_zero, List.drop_nil]; with_reducible rfl) rfl (fun _ _ _ _ _ => ⟨fun h => h, fun h => h⟩) (fun _ _ h _ => h) trivial ?_
              rotate_left 17
              iterate 15
                first
                  | (refine par_skip (a' := ?_) (by rfl) (by rfl) ?_ ?_ ?_; rotate_left 1; with_reducible rfl; (simp only [Act.put, List.setIfInBounds_toArray, List.set_cons_zero, List.set_cons_succ]; with_reducible rfl))
                  | (refine par_run (a' := ?_) (by rfl) (by rfl) (fun w' hb hn => ?_) ?_ ?_; rotate_left 1; (have hc := hb.cells; first | (go_simp; (try simp (disch := omega) only [IntWalk.i64_in, IntWalk.i32_in, IntWalk.u64_in, IntWalk.u8_in, IntWalk.u32_in, toNatUp, iteOmega]); with_reducible rfl) | (go_simp; (try simp (disch := omega) only [IntWalk.i64_in, IntWalk.i32_in, IntWalk.u64_in, IntWalk.u8_in, IntWalk.u32_in, toNatUp, iteOmega]); go_simp; with_reducible rfl)); (simp only [Act.put, List.setIfInBounds_toArray, List.set_cons_zero, List.set_cons_succ]; with_reducible rfl))
              refine par_run (a' := ?a339k15) (by rfl) (by rfl) (fun w' hb hn => ?h339k15) ?p339k15 ?g339k15
              case h339k15 => (have hc := hb.cells; go_simp; (try simp (disch := omega) only [IntWalk.i64_in, IntWalk.i32_in, IntWalk.u64_in, IntWalk.u8_in, IntWalk.u32_in, toNatUp, iteOmega]); (first | done | simp [hbn]))
              case p339k15 => (simp only [Act.put, List.setIfInBounds_toArray, List.set_cons_zero, List.set_cons_succ]; with_reducible rfl)
              iterate 2
                first
                  | (refine par_skip (a' := ?_) (by rfl) (by rfl) ?_ ?_ ?_; rotate_left 1; with_reducible rfl; (simp only [Act.put, List.setIfInBounds_toArray, List.set_cons_zero, List.set_cons_succ]; with_reducible rfl))
                  | (refine par_run (a' := ?_) (by rfl) (by rfl) (fun w' hb hn => ?_) ?_ ?_; rotate_left 1; (have hc := hb.cells; first | (go_simp; (try simp (disch := omega) only [IntWalk.i64_in, IntWalk.i32_in, IntWalk.u64_in, IntWalk.u8_in, IntWalk.u32_in, toNatUp, iteOmega]); with_reducible rfl) | (go_simp; (try simp (disch := omega) only [IntWalk.i64_in, IntWalk.i32_in, IntWalk.u64_in, IntWalk.u8_in, IntWalk.u32_in, toNatUp, iteOmega]); go_simp; with_reducible rfl)); (simp only [Act.put, List.setIfInBounds_toArray, List.set_cons_zero, List.set_cons_succ]; with_reducible rfl))
              refine par_end (fun w9 hb9 hf9 _ => ?_)
              replace hb9 := hb9.grow
              try refine wpList_none ?_
              replace F0 := (hb9.cell (p := ⟨c, ofc + i * 2, none⟩) hcw).trans F0
              replace F1 := (hb9.cell (p := ⟨c, ofc + i * 2 + 1, none⟩) hcw).trans F1
              replace D0 := (hb9.cell (p := ⟨b, off + k * 2, none⟩) hbw).trans D0
              replace D1 := (hb9.cell (p := ⟨b, off + k * 2 + 1, none⟩) hbw).trans D1
              replace hcw := Nat.lt_of_lt_of_le hcw hb9.size
              replace hbw := Nat.lt_of_lt_of_le hbw hb9.size
              replace KO := hid (own_below KO.out hb9)
              replace BB := hid (BB.out.trans (hb9.mono BB.out.size))
              clear hb9
              obtain ⟨w11, rfl⟩ : ∃ w11 : World, w11 = w9 := ⟨_, rfl⟩
              go_wp2_with fail
              refine wp_par (fun _ => False) (fun _ => True) (List.replicate 15 false) _ [.fix ?_, .fix ?_, .fix ?_, .fix ?_, .fix ?_, .fix ?_, .fix ?_, .fix ?_, .fix ?_, .fix ?_, .fix ?_, .fix ?_, .fix ?_, .fix ?_, .fix ?_] (by kernel_rfl) (by kernel_rfl) (by simp only [List.length_replicate, List.drop_succ_cons, List.drop_zero, List.drop_nil]; with_reducible rfl) rfl (fun _ _ _ _ _ => ⟨fun h => h, fun h => h⟩) (fun _ _ h _ => h) trivial ?_
              rotate_left 15
              iterate 15
                first
                  | (refine par_skip (a' := ?_) (by rfl) (by rfl) ?_ ?_ ?_; rotate_left 1; with_reducible rfl; (simp only [Act.put, List.setIfInBounds_toArray, List.set_cons_zero, List.set_cons_succ]; with_reducible rfl))
                  | (refine par_run (a' := ?_) (by rfl) (by rfl) (fun w' hb hn => ?_) ?_ ?_; rotate_left 1; (have hc := hb.cells; first | (go_simp; (try simp (disch := omega) only [IntWalk.i64_in, IntWalk.i32_in, IntWalk.u64_in, IntWalk.u8_in, IntWalk.u32_in, toNatUp, iteOmega]); with_reducible rfl) | (go_simp; (try simp (disch := omega) only [IntWalk.i64_in, IntWalk.i32_in, IntWalk.u64_in, IntWalk.u8_in, IntWalk.u32_in, toNatUp, iteOmega]); go_simp; with_reducible rfl)); (simp only [Act.put, List.setIfInBounds_toArray, List.set_cons_zero, List.set_cons_succ]; with_reducible rfl))
              refine par_end (fun w9 hb9 hf9 _ => ?_)
              replace hb9 := hb9.grow
              try refine wpList_none ?_
              replace F0 := (hb9.cell (p := ⟨c, ofc + i * 2, none⟩) hcw).trans F0
              replace F1 := (hb9.cell (p := ⟨c, ofc + i * 2 + 1, none⟩) hcw).trans F1
              replace D0 := (hb9.cell (p := ⟨b, off + k * 2, none⟩) hbw).trans D0
              replace D1 := (hb9.cell (p := ⟨b, off + k * 2 + 1, none⟩) hbw).trans D1
              replace hcw := Nat.lt_of_lt_of_le hcw hb9.size
              replace hbw := Nat.lt_of_lt_of_le hbw hb9.size
              replace KO := hid (own_below KO.out hb9)
              replace BB := hid (BB.out.trans (hb9.mono BB.out.size))
              clear hb9
              obtain ⟨w12, rfl⟩ : ∃ w12 : World, w12 = w9 := ⟨_, rfl⟩
              go_wp2_with fail
              have E0 := hid D0
              have E1 := hid D1
              clear F0 F1 D0 D1
              have nl := hid (own_lt KO.out)
              have nb := hid (show ¬ ownB (.slice ak out.length ck) b from fun hh => by have := (KO.out.lt b hh).1; omega)
              have hws2 := BB.out.size
              refine Ps.wp_par (Ps.relC (fun x => ownB (.slice ak out.length ck) x) (fun x _ => x = b)) (fun W => True ∧ W.ownsRow w3.heap.size 63 3 (.slice ak out.length ck) out.length (chgsC out)) (false :: false :: false :: false :: false :: false :: false :: false :: false :: false :: false :: false :: false :: false :: true :: []) _ (.fix ?_ :: .fix ?_ :: .fix ?_ :: .fix ?_ :: .fix ?_ :: .fix ?_ :: .fix ?_ :: .fix ?_ :: .fix ?_ :: .fix ?_ :: .fix ?_ :: .fix ?_ :: .fix ?_ :: .new (Ps.rowN 3 ?_ ?_ w12.heap.size) :: .st (some (out.length + 1)) (fun _ _ => True) (fun u W => True ∧ W.ownsRow w3.heap.size 63 3 u (out.length + 1) (chgsC out ++ [.string yk, .string yv, .bool false])) :: []) (by kernel_rfl) (by kernel_rfl) (by simp only [List.length_cons, List.length_nil, List.drop_succ_cons, List.drop_zero, List.drop_nil]; with_reducible rfl) rfl (fun _ _ _ _ _ => ⟨fun h => h, fun h => h⟩) (fun _ _ h hb => ⟨trivial, own_below h.2 hb⟩) (⟨trivial, KO.out⟩) ?_
              rotate_left 15
              iterate 13
                first
                  | (refine Ps.par_skip (a' := ?_) (by rfl) (by rfl) ?_ ?_ ?_; rotate_left 1; with_reducible rfl; (simp only [Act.put, List.setIfInBounds_toArray, List.set_cons_zero, List.set_cons_succ]; with_reducible rfl))
                  | (refine Ps.par_run (a' := ?_) (by rfl) (by rfl) (fun w' hb hn => ?_) ?_ ?_; rotate_left 1; (have q0 := hb.2 b _ _ rfl E0.out; have q1 := hb.2 b _ _ rfl E1.out; first | (go_simp; (try simp (disch := omega) only [IntWalk.i64_in, IntWalk.i32_in, IntWalk.u64_in, IntWalk.u8_in, IntWalk.u32_in, toNatUp, iteOmega]); with_reducible rfl) | (go_simp; (try simp (disch := omega) only [IntWalk.i64_in, IntWalk.i32_in, IntWalk.u64_in, IntWalk.u8_in, IntWalk.u32_in, toNatUp, iteOmega]); go_simp; with_reducible rfl)); (simp only [Act.put, List.setIfInBounds_toArray, List.set_cons_zero, List.set_cons_succ]; with_reducible rfl))
              refine Ps.par_row (a' := ?ap3k13) (m := ?mp3k13) (T := ?Tp3k13) (cs := ?cp3k13) (r := ?rp3k13) (fun x h => nl.out x h) (by rfl) (by rfl) (fun w' hb hn => ?hp3k13) (fun w' => ?ep3k13) ?np3k13 ?vp3k13 ?lp3k13 ?xp3k13 (fun u => ?pp3k13) (fun u => ?gp3k13)
              case hp3k13 => (have q0 := hb.2 b _ _ rfl E0.out; have q1 := hb.2 b _ _ rfl E1.out; go_simp; (try simp (disch := omega) only [IntWalk.i64_in, IntWalk.i32_in, IntWalk.u64_in, IntWalk.u8_in, IntWalk.u32_in, toNatUp, iteOmega]); with_reducible rfl)
              case ep3k13 => with_reducible rfl
              case np3k13 => with_reducible rfl
              case vp3k13 => with_reducible rfl
              case lp3k13 => simp only [List.length_cons, List.length_nil]
              case xp3k13 => (unfold maxLen; omega)
              case pp3k13 => (simp only [Act.put, List.setIfInBounds_toArray, List.set_cons_zero, List.set_cons_succ]; with_reducible rfl)
              refine Ps.par_app (a' := ?ap4k14) (A := fun W => True) 57 63 Tryz.underlying57 info_chg rfl (by decide) hws2 (by unfold maxLen; omega) (by omega) (by simp [Value.oneCell']) (fun _ _ _ _ _ => trivial) (fun _ _ _ _ => trivial) (fun _ h => h) (fun x i hs hb => by subst hs; exact nb.out hb) (by rfl) rfl rfl rfl rfl (fun w' hb hn => ?xp4k14) (fun u => ?pp4k14) (fun u hu14 => ?gp4k14)
              case xp4k14 => (exact (Ps.need_head hn (by kernel_rfl)).1)
              case pp4k14 => (simp only [Act.put, List.setIfInBounds_toArray, List.set_cons_zero, List.set_cons_succ]; with_reducible rfl)
              obtain ⟨au14, cu14, rfl⟩ := hu14
              refine Ps.par_end (fun w9 hb9 hf9 hr9 => ?_)
              try refine Ps.wpList_none ?_
              have B9 : Below w3.heap.size w3 w9 := ((But.of (w := w3) BB.out).trans' hb9.1 (F := fun _ => False) (fun k hk ho => by have := (KO.out.lt k ho).1; omega)).grow
              have O9 := hid hr9.2
              replace B9 := hid B9
              clear hb9 hf9 hr9
              go_wp2
              go_roundw
              case rel => exact ⟨i, k + 1, out ++ [newC (yk, yv)], hi, by omega, rfl, by go_num, B9.out.size, (show _ ++ _ = _ from by rw [List.append_assoc]; have := hE.out; rw [hn.out] at this; exact this), ⟨by rw [chgsC_snoc, List.length_append]; exact O9.out, B9.out⟩⟩
              case measure => simp [intOf]; omega
        · obtain rfl : k = B.length := by omega
          have q2 : ((B.length : Int) == (B.length : Int)) = true := beq_self_eq_true _
          have hnext := hid (merge_old (b := B) hx (show B.length ≤ B.length from Nat.le_refl _))
          have KO := hid hR.out.1
          have BB := hid hR.out.2
          have D0 := hid f0
          clear hx f0 f1 hR
          go_wp2_with fail
          refine wp_par (fun _ => False) (fun _ => True) (List.replicate 23 false) _ [.fix ?_, .fix ?_, .fix ?_, .fix ?_, .fix ?_, .fix ?_, .fix ?_, .fix ?_, .fix ?_, .fix ?_, .fix ?_, .fix ?_, .fix ?_, .fix ?_, .fix ?_, .fix ?_, .fix ?_, .fix ?_, .fix ?_, .fix ?_, .fix ?_, .fix ?_, .fix ?_] (by kernel_rfl) (by kernel_rfl) (by simp only [List.length_replicate, List.drop_succ_cons, List.drop_zero, List.drop_nil]; with_reducible rfl) rfl (fun _ _ _ _ _ => ⟨fun h => h, fun h => h⟩) (fun _ _ h _ => h) trivial ?_
          rotate_left 23
          iterate 23
            first
              | (refine par_skip (a' := ?_) (by rfl) (by rfl) ?_ ?_ ?_; rotate_left 1; with_reducible rfl; (simp only [Act.put, List.setIfInBounds_toArray, List.set_cons_zero, List.set_cons_succ]; with_reducible rfl))
              | (refine par_run (a' := ?_) (by rfl) (by rfl) (fun w' hb hn => ?_) ?_ ?_; rotate_left 1; (have hc := hb.cells; first | (go_simp; (try simp (disch := omega) only [IntWalk.i64_in, IntWalk.i32_in, IntWalk.u64_in, IntWalk.u8_in, IntWalk.u32_in, toNatUp, iteOmega]); with_reducible rfl) | (go_simp; (try simp (disch := omega) only [IntWalk.i64_in, IntWalk.i32_in, IntWalk.u64_in, IntWalk.u8_in, IntWalk.u32_in, toNatUp, iteOmega]); go_simp; with_reducible rfl)); (simp only [Act.put, List.setIfInBounds_toArray, List.set_cons_zero, List.set_cons_succ]; with_reducible rfl))
          refine par_end (fun w9 hb9 hf9 _ => ?_)
          replace hb9 := hb9.grow
          try refine wpList_none ?_
          replace KO := hid (own_below KO.out hb9)
          replace BB := hid (BB.out.trans (hb9.mono BB.out.size))
          clear hb9
          obtain ⟨w10, rfl⟩ : ∃ w10 : World, w10 = w9 := ⟨_, rfl⟩
          have E0 := (BB.out.cell (p := ⟨c, ofc + i * 2, none⟩) hc0).trans D0.out
          have hws2 := BB.out.size
          go_wp2_with (at_builtin; refine app1k 57 63 Tryz.underlying57 info_chg rfl (by decide) KO.out hws2 (by unfold maxLen; omega) (by omega) rfl rfl rfl rfl rfl rfl (by simp [Value.oneCell']) ?_; intro v1 w8 hown8 hb8 hg8)
          have O8 := hid hown8
          have B8 : Hid (Below w3.heap.size w3 w8) := ((But.of (w := w3) BB.out).trans' hb8 (F := fun _ => False) (fun k hk ho => by have := (KO.out.lt k ho).1; omega)).grow
          clear hown8 hb8 hg8
          obtain ⟨ak', ck', rfl⟩ := own_slice O8.out
          go_wp2
          go_roundw
          case rel => exact ⟨i + 1, B.length, out ++ [goneC (xk, xv)], by omega, Nat.le_refl _, by go_num, rfl, B8.out.size, (show _ ++ _ = _ from by rw [List.append_assoc]; have := hE.out; rw [hnext.out] at this; exact this), ⟨by rw [chgsC_snoc, List.length_append]; exact O8.out, B8.out⟩⟩
          case measure => simp [intOf]; omega
      · have q0 : decide ((i : Int) < (A.length : Int)) = false := decide_eq_false (by omega)
        have q0' : decide (i < A.length) = false := decide_eq_false hia
        by_cases hkb : k < B.length
        · have q1 : decide ((k : Int) < (B.length : Int)) = true := decide_eq_true (by omega)
          have q2 : ((k : Int) == (B.length : Int)) = false := by rw [beq_eq_false_iff_ne]; omega
          obtain ⟨⟨yk, yv⟩, hy⟩ : ∃ x, B[k]? = some x := ⟨_, List.getElem?_eq_getElem hkb⟩
          obtain ⟨b, off, cap', he, d0, d1⟩ := rows_at FB.out hy
          cases he
          dsimp only at d0 d1
          have hb0 := World.block_lt_of_cell? w3 _ d0
          dsimp only at hb0
          have hnext := hid (merge_new hy (show A.length ≤ i by omega))
          have KO := hid hR.out.1
          have BB := hid hR.out.2
          have D0 := hid d0
          have D1 := hid d1
          clear hy d0 d1 hR
          go_wp2_with fail
          refine wp_par (fun _ => False) (fun _ => True) (List.replicate 23 false) _ [.fix ?_, .fix ?_, .fix ?_, .fix ?_, .fix ?_, .fix ?_, .fix ?_, .fix ?_, .fix ?_, .fix ?_, .fix ?_, .fix ?_, .fix ?_, .fix ?_, .fix ?_, .fix ?_, .fix ?_, .fix ?_, .fix ?_, .fix ?_, .fix ?_, .fix ?_, .fix ?_] (by kernel_rfl) (by kernel_rfl) (by simp only [List.length_replicate, List.drop_succ_cons, List.drop_zero, List.drop_nil]; with_reducible rfl) rfl (fun _ _ _ _ _ => ⟨fun h => h, fun h => h⟩) (fun _ _ h _ => h) trivial ?_
          rotate_left 23
          iterate 23
            first
              | (refine par_skip (a' := ?_) (by rfl) (by rfl) ?_ ?_ ?_; rotate_left 1; with_reducible rfl; (simp only [Act.put, List.setIfInBounds_toArray, List.set_cons_zero, List.set_cons_succ]; with_reducible rfl))
              | (refine par_run (a' := ?_) (by rfl) (by rfl) (fun w' hb hn => ?_) ?_ ?_; rotate_left 1; (have hc := hb.cells; first | (go_simp; (try simp (disch := omega) only [IntWalk.i64_in, IntWalk.i32_in, IntWalk.u64_in, IntWalk.u8_in, IntWalk.u32_in, toNatUp, iteOmega]); with_reducible rfl) | (go_simp; (try simp (disch := omega) only [IntWalk.i64_in, IntWalk.i32_in, IntWalk.u64_in, IntWalk.u8_in, IntWalk.u32_in, toNatUp, iteOmega]); go_simp; with_reducible rfl)); (simp only [Act.put, List.setIfInBounds_toArray, List.set_cons_zero, List.set_cons_succ]; with_reducible rfl))
          refine par_end (fun w9 hb9 hf9 _ => ?_)
          replace hb9 := hb9.grow
          try refine wpList_none ?_
          replace KO := hid (own_below KO.out hb9)
          replace BB := hid (BB.out.trans (hb9.mono BB.out.size))
          clear hb9
          obtain ⟨w10, rfl⟩ : ∃ w10 : World, w10 = w9 := ⟨_, rfl⟩
          go_wp2_with fail
          refine wp_par (fun _ => False) (fun _ => True) (List.replicate 18 false) _ [.fix ?_, .fix ?_, .fix ?_, .fix ?_, .fix ?_, .fix ?_, .fix ?_, .fix ?_, .fix ?_, .fix ?_, .fix ?_, .fix ?_, .fix ?_, .fix ?_, .fix ?_, .fix ?_, .fix ?_, .fix ?_] (by kernel_rfl) (by kernel_rfl) (by simp only [List.length_replicate, List.drop_succ_cons, List.drop_zero, List.drop_nil]; with_reducible rfl) rfl (fun _ _ _ _ _ => ⟨fun h => h, fun h => h⟩) (fun _ _ h _ => h) trivial ?_
          rotate_left 18
          iterate 18
            first
              | (refine par_skip (a' := ?_) (by rfl) (by rfl) ?_ ?_ ?_; rotate_left 1; with_reducible rfl; (simp only [Act.put, List.setIfInBounds_toArray, List.set_cons_zero, List.set_cons_succ]; with_reducible rfl))
              | (refine par_run (a' := ?_) (by rfl) (by rfl) (fun w' hb hn => ?_) ?_ ?_; rotate_left 1; (have hc := hb.cells; first | (go_simp; (try simp (disch := omega) only [IntWalk.i64_in, IntWalk.i32_in, IntWalk.u64_in, IntWalk.u8_in, IntWalk.u32_in, toNatUp, iteOmega]); with_reducible rfl) | (go_simp; (try simp (disch := omega) only [IntWalk.i64_in, IntWalk.i32_in, IntWalk.u64_in, IntWalk.u8_in, IntWalk.u32_in, toNatUp, iteOmega]); go_simp; with_reducible rfl)); (simp only [Act.put, List.setIfInBounds_toArray, List.set_cons_zero, List.set_cons_succ]; with_reducible rfl))
          refine par_end (fun w9 hb9 hf9 _ => ?_)
          replace hb9 := hb9.grow
          try refine wpList_none ?_
          replace KO := hid (own_below KO.out hb9)
          replace BB := hid (BB.out.trans (hb9.mono BB.out.size))
          clear hb9
          obtain ⟨w11, rfl⟩ : ∃ w11 : World, w11 = w9 := ⟨_, rfl⟩
          go_wp2_with fail
          refine wp_par (fun _ => False) (fun _ => True) (List.replicate 15 false) _ [.fix ?_, .fix ?_, .fix ?_, .fix ?_, .fix ?_, .fix ?_, .fix ?_, .fix ?_, .fix ?_, .fix ?_, .fix ?_, .fix ?_, .fix ?_, .fix ?_, .fix ?_] (by kernel_rfl) (by kernel_rfl) (by simp only [List.length_replicate, List.drop_succ_cons, List.drop_zero, List.drop_nil]; with_reducible rfl) rfl (fun _ _ _ _ _ => ⟨fun h => h, fun h => h⟩) (fun _ _ h _ => h) trivial ?_
          rotate_left 15
          iterate 15
            first
              | (refine par_skip (a' := ?_) (by rfl) (by rfl) ?_ ?_ ?_; rotate_left 1; with_reducible rfl; (simp only [Act.put, List.setIfInBounds_toArray, List.set_cons_zero, List.set_cons_succ]; with_reducible rfl))
              | (refine par_run (a' := ?_) (by rfl) (by rfl) (fun w' hb hn => ?_) ?_ ?_; rotate_left 1; (have hc := hb.cells; first | (go_simp; (try simp (disch := omega) only [IntWalk.i64_in, IntWalk.i32_in, IntWalk.u64_in, IntWalk.u8_in, IntWalk.u32_in, toNatUp, iteOmega]); with_reducible rfl) | (go_simp; (try simp (disch := omega) only [IntWalk.i64_in, IntWalk.i32_in, IntWalk.u64_in, IntWalk.u8_in, IntWalk.u32_in, toNatUp, iteOmega]); go_simp; with_reducible rfl)); (simp only [Act.put, List.setIfInBounds_toArray, List.set_cons_zero, List.set_cons_succ]; with_reducible rfl))
          refine par_end (fun w9 hb9 hf9 _ => ?_)
          replace hb9 := hb9.grow
          try refine wpList_none ?_
          replace KO := hid (own_below KO.out hb9)
          replace BB := hid (BB.out.trans (hb9.mono BB.out.size))
          clear hb9
          obtain ⟨w12, rfl⟩ : ∃ w12 : World, w12 = w9 := ⟨_, rfl⟩
          go_wp2_with fail
          have E0 := hid ((BB.out.cell (p := ⟨b, off + k * 2, none⟩) hb0).trans D0.out)
          have E1 := hid ((BB.out.cell (p := ⟨b, off + k * 2 + 1, none⟩) hb0).trans D1.out)
          have nl := hid (own_lt KO.out)
          have nb := hid (show ¬ ownB (.slice ak out.length ck) b from fun hh => by have := (KO.out.lt b hh).1; omega)
          have hws2 := BB.out.size
          refine Ps.wp_par (Ps.relC (fun x => ownB (.slice ak out.length ck) x) (fun x _ => x = b)) (fun W => True ∧ W.ownsRow w3.heap.size 63 3 (.slice ak out.length ck) out.length (chgsC out)) (false :: false :: false :: false :: false :: false :: false :: false :: false :: false :: false :: false :: false :: false :: true :: []) _ (.fix ?_ :: .fix ?_ :: .fix ?_ :: .fix ?_ :: .fix ?_ :: .fix ?_ :: .fix ?_ :: .fix ?_ :: .fix ?_ :: .fix ?_ :: .fix ?_ :: .fix ?_ :: .fix ?_ :: .new (Ps.rowN 3 ?_ ?_ w12.heap.size) :: .st (some (out.length + 1)) (fun _ _ => True) (fun u W => True ∧ W.ownsRow w3.heap.size 63 3 u (out.length + 1) (chgsC out ++ [.string yk, .string yv, .bool false])) :: []) (by kernel_rfl) (by kernel_rfl) (by simp only [List.length_cons, List.length_nil, List.drop_succ_cons, List.drop_zero, List.drop_nil]; with_reducible rfl) rfl (fun _ _ _ _ _ => ⟨fun h => h, fun h => h⟩) (fun _ _ h hb => ⟨trivial, own_below h.2 hb⟩) (⟨trivial, KO.out⟩) ?_
          rotate_left 15
          iterate 13
            first
              | (refine Ps.par_skip (a' := ?_) (by rfl) (by rfl) ?_ ?_ ?_; rotate_left 1; with_reducible rfl; (simp only [Act.put, List.setIfInBounds_toArray, List.set_cons_zero, List.set_cons_succ]; with_reducible rfl))
              | (refine Ps.par_run (a' := ?_) (by rfl) (by rfl) (fun w' hb hn => ?_) ?_ ?_; rotate_left 1; (have q0 := hb.2 b _ _ rfl E0.out; have q1 := hb.2 b _ _ rfl E1.out; first | (go_simp; (try simp (disch := omega) only [IntWalk.i64_in, IntWalk.i32_in, IntWalk.u64_in, IntWalk.u8_in, IntWalk.u32_in, toNatUp, iteOmega]); with_reducible rfl) | (go_simp; (try simp (disch := omega) only [IntWalk.i64_in, IntWalk.i32_in, IntWalk.u64_in, IntWalk.u8_in, IntWalk.u32_in, toNatUp, iteOmega]); go_simp; with_reducible rfl)); (simp only [Act.put, List.setIfInBounds_toArray, List.set_cons_zero, List.set_cons_succ]; with_reducible rfl))
          refine Ps.par_row (a' := ?ap5k13) (m := ?mp5k13) (T := ?Tp5k13) (cs := ?cp5k13) (r := ?rp5k13) (fun x h => nl.out x h) (by rfl) (by rfl) (fun w' hb hn => ?hp5k13) (fun w' => ?ep5k13) ?np5k13 ?vp5k13 ?lp5k13 ?xp5k13 (fun u => ?pp5k13) (fun u => ?gp5k13)
          case hp5k13 => (have q0 := hb.2 b _ _ rfl E0.out; have q1 := hb.2 b _ _ rfl E1.out; go_simp; (try simp (disch := omega) only [IntWalk.i64_in, IntWalk.i32_in, IntWalk.u64_in, IntWalk.u8_in, IntWalk.u32_in, toNatUp, iteOmega]); with_reducible rfl)
          case ep5k13 => with_reducible rfl
          case np5k13 => with_reducible rfl
          case vp5k13 => with_reducible rfl
          case lp5k13 => simp only [List.length_cons, List.length_nil]
          case xp5k13 => (unfold maxLen; omega)
          case pp5k13 => (simp only [Act.put, List.setIfInBounds_toArray, List.set_cons_zero, List.set_cons_succ]; with_reducible rfl)
          refine Ps.par_app (a' := ?ap6k14) (A := fun W => True) 57 63 Tryz.underlying57 info_chg rfl (by decide) hws2 (by unfold maxLen; omega) (by omega) (by simp [Value.oneCell']) (fun _ _ _ _ _ => trivial) (fun _ _ _ _ => trivial) (fun _ h => h) (fun x i hs hb => by subst hs; exact nb.out hb) (by rfl) rfl rfl rfl rfl (fun w' hb hn => ?xp6k14) (fun u => ?pp6k14) (fun u hu14 => ?gp6k14)
          case xp6k14 => (exact (Ps.need_head hn (by kernel_rfl)).1)
          case pp6k14 => (simp only [Act.put, List.setIfInBounds_toArray, List.set_cons_zero, List.set_cons_succ]; with_reducible rfl)
          obtain ⟨au14, cu14, rfl⟩ := hu14
          refine Ps.par_end (fun w9 hb9 hf9 hr9 => ?_)
          try refine Ps.wpList_none ?_
          have B9 : Below w3.heap.size w3 w9 := ((But.of (w := w3) BB.out).trans' hb9.1 (F := fun _ => False) (fun k hk ho => by have := (KO.out.lt k ho).1; omega)).grow
          have O9 := hid hr9.2
          replace B9 := hid B9
          clear hb9 hf9 hr9
          go_wp2
          go_roundw
          case rel => exact ⟨i, k + 1, out ++ [newC (yk, yv)], hi, by omega, rfl, by go_num, B9.out.size, (show _ ++ _ = _ from by rw [List.append_assoc]; have := hE.out; rw [hnext.out] at this; exact this), ⟨by rw [chgsC_snoc, List.length_append]; exact O9.out, B9.out⟩⟩
          case measure => simp [intOf]; omega
        · have q1 : decide ((k : Int) < (B.length : Int)) = false := decide_eq_false (by omega)
          have q1' : decide (k < B.length) = false := decide_eq_false hkb
          have hend : Hid (out = mergeC A B) := by show _ = _; have := hE.out; rwa [merge_end (by omega) (by omega), List.append_nil] at this
          have F9 := hid (FlatAt.of_own hR.out.1)
          have hB9 := hid (hB3.out.trans (hR.out.2.mono hB3.out.size))
          go_wp2
          go_ret
          exact ⟨_, rfl, by rw [hch.out, ← hend.out]; exact F9.out, hB9.out⟩
end Go.Proofs.YthikijlbclckdaaGreat
