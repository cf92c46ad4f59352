/- Keep: contracts (Mc). -/
import Derived.Test.YtjkbfoeakeoeiaaGreatV21
namespace Go.Proofs.YtjkbfoeakeoeiaaGreat
set_option maxRecDepth 100000
set_option maxHeartbeats 40000000
set_option linter.unusedSimpArgs false
set_option linter.unusedVariables false
open Go.IntWalk Go.RowKit
theorem ownLt {w : World} {base e size n : Nat} {v : Value} {vs : List Value} (h : w.ownsRow base e size v n vs) : ∀ b, ownB v b → b < w.heap.size := fun b hb => (h.lt b hb).2
theorem ownBelow {w w' : World} {base e size n : Nat} {v : Value} {vs : List Value} (h : w.ownsRow base e size v n vs) (hb : Below w.heap.size w w') : w'.ownsRow base e size v n vs := own_at (F := fun _ => False) h (But.of hb) (fun _ _ => id)
theorem ownNe {w : World} {b1 b2 e1 e2 s1 s2 n1 n2 : Nat} {v1 v2 : Value} {l1 l2 : List Value} (h : w.ownsRow b1 e1 s1 v1 n1 l1) (k : w.ownsRow b2 e2 s2 v2 n2 l2) (hn : e1 ≠ e2) : ∀ g, v1.ownBlock = some g → ¬ ownB v2 g := by
  intro g h1 h2
  rcases h.2 with ⟨rfl, -⟩ | ⟨x, c, cur, rfl, -, hx, -⟩
  · cases h1
  · rcases k.2 with ⟨rfl, -⟩ | ⟨y, c', cur', rfl, -, hy, -⟩
    · cases h2
    · cases h1
      cases h2
      rw [hx] at hy
      cases hy
      exact hn rfl
theorem VrKept.own {W W' : World} {base n : Nat} {v : Value} {xs : List Value} (h : W.ownsRow base 63 14 v n xs) (hb : But (fun x => ownB v x) W W') : VrKept W W' := by
  intro b cs fr hc
  refine (hb.block b (heap_lt hc) ?_).trans hc
  intro ho
  rcases h.2 with ⟨rfl, -⟩ | ⟨g, cap, cur, rfl, -, hg, -⟩
  · cases ho
  · cases ho
    rw [hg] at hc
    cases hc
theorem EVv.of_own {S : Nat → Prop} {W : World} {base : Nat} {v : Value} {l : List VarV} (h : W.ownsRow base 80 4 v l.length (varsC l)) (hl : l.length ≤ 1048576) (hS : ∀ b, S b → b < base) : EVv S v l W := by
  refine ⟨(FlatAt.of_own (own_sans h (fun b h1 h2 => by have := hS b h2; omega))).vars (by omega), fun b hb => ?_⟩
  rcases h.2 with ⟨rfl, -⟩ | ⟨g, cap, cur, rfl, -, hg, -⟩
  · cases hb
  · cases hb; exact ⟨_, _, hg⟩
theorem infoV : (Tryz.prog.info? 80).map (fun i => (i.zero, i.size, i.bytes)) = some (some (.agg #[.string ⟨#[]⟩, .int .i64 0, .int .i64 0, .string ⟨#[]⟩]), 4, 48) := by kernel_rfl
theorem run_app_empty (w : World) (b : Nat) (l : List VarV) (u : Value) (ty : TypeId) (hv : VarsAt w u l) (hT : w.heap[b]? = some (.cells #[] 80 (0, 0))) (hl : l.length ≤ 1048576) :
    ∃ v' w', (Builtin.append_ #[47, 47] ty #[.slice (some ⟨b, 0, none⟩) 0 0, u]).run Tryz.prog w = .ok v' w' ∧ (∀ base, base ≤ b → base ≤ w.heap.size → w'.ownsRow base 80 4 v' l.length (varsC l)) ∧ Below w.heap.size w w' := by
  obtain ⟨i0, hi, hz0, hz1, hz2⟩ := info_parts infoV
  by_cases h0 : l = []
  · subst h0
    obtain ⟨a, cap, rfl, -, -, -⟩ := hv
    refine ⟨.slice (some ⟨b, 0, none⟩) 0 0, w, ?_, fun base hb _ => ⟨rfl, .inr ⟨b, 0, #[], rfl, hb, hT, Nat.le_refl _, by unfold maxLen; omega, rfl, rfl⟩⟩, Below.refl _ _⟩
    cases a with
    | none => simp [Builtin.append_, run_underlying Tryz.underlying47, sizeOf, typeInfo, hi, Builtin.lenOf, Builtin.firstCells, go_sem, Result.andThen]
    | some p => simp [Builtin.append_, run_underlying Tryz.underlying47, sizeOf, typeInfo, hi, Builtin.lenOf, go_sem, Result.andThen]
  · have hpos : 0 < l.length := List.length_pos_iff.2 h0
    have hf := hv.flat
    obtain ⟨a, cap, rfl, -, -, -, hc⟩ := hf
    obtain ⟨ab, ao, rfl, -⟩ := hc 0 _ (varsC_at (show l[0]? = some l[0] from List.getElem?_eq_getElem hpos)).1
    obtain ⟨v', w', hrun, r1, r2⟩ := run_append_arg_grows (P := Tryz.prog) w 47 ty 80 i0 _ 4 48 Tryz.underlying47 hi hz0 hz1 hz2 rfl (by decide) ⟨b, 0, none⟩ 0 0 [] rfl (fun j u h => by simp at h) ⟨ab, ao, none⟩ l.length cap (varsC l) (varsC_len l)
      (fun j u h => by
        obtain ⟨b', o', e, h⟩ := hc j u h
        cases e
        have ha : (⟨ab, ao, none⟩ : Addr).add j = ⟨ab, ao + j, none⟩ := by unfold Addr.add; split <;> simp_all
        rw [ha]; exact h) (by omega) (by unfold maxLen; omega) (by omega)
    refine ⟨v', w', hrun, fun base _ hb => ownsRow_base (by simpa using r1) hb, ⟨r2.os, r2.tape, r2.output, r2.size, fun k hk => r2.block k hk (by simp)⟩⟩
theorem exec_app {P : Program} {a : Act} {o : Oper} {s x : Operand} {t : TypeId} {v u v' : Value} {w w' : World} (hop : o.op = .call { callee := .builtin .append, args := #[s, x], argTypes := #[t, t] }) (hs : a.eval s = v) (hx : a.eval x = u) (hr : (Builtin.append_ #[t, t] o.type #[v, u]).run P w = .ok v' w') : (execOp a.eval o).run P w = .ok (.value v') w' := by
  unfold execOp
  simp only [hop, resolve, invoke, builtin, Sem.run_bind, Sem.run_pure, Result.andThen_ok, List.map_toArray, List.map_cons, List.map_nil, hs, hx, hr]
theorem rpend_any (w : World) (S : Nat → Prop) (s : StateV) (cs : List Value) (parts : Int) (hS : ∀ b, S b → b < w.heap.size) (hs : StAt S w cs s) (hp1 : -9223372036854775808 ≤ parts) (hp2 : parts ≤ 9223372036854775807)
    (hsub : ∀ x ∈ s.subs, x.key.size ≤ 140737488355328) (hlis : ∀ x ∈ s.listed, x.token < 18446744073709551616 ∧ x.vars.length ≤ 1048576) (hN : (pendingV s parts).length ≤ 4194303) :
    Calls Tryz.prog 11 #[.agg cs.toArray, I parts] w fun e w' => ∃ u, e = .returned u ∧ SendsAt S w' u (pendingV s parts) ∧ Below w.heap.size w w' := by
  obtain ⟨vp, vi, vt, vj, vr, vs, vk, vl, vm, hs⟩ := hs
  have hcs := hs.cells
  obtain ⟨⟨pa, pc, rfl⟩, ⟨ia, ic, rfl⟩, ⟨ta, tc, rfl⟩, ⟨ja, jc, rfl⟩, ⟨ra, rc, rfl⟩, ⟨sa, sc, rfl⟩, ⟨ka, kc, rfl⟩, ⟨la, lc, rfl⟩, ⟨ma, mc, rfl⟩⟩ := hs.shapes
  subst hcs
  have hn1 : (pendingV s parts).length = (s.subs.flatMap (pendSub parts)).length + (s.listed.flatMap pendLis).length := by unfold pendingV; rw [List.length_append]
  rw [hn1] at hN
  obtain ⟨sa', sc', e, -, hsm, hss⟩ := hs.subs
  cases e
  obtain ⟨la', lc', e, -, hlm, hll⟩ := hs.listed
  cases e
  have HSS := hid hss
  have HLL := hid hll
  unfold maxLen at hsm hlm
  clear hs hss hll hn1
  go_enter Tryz.func11, Tryz.ntmps11
  go_wp2_with fail
  refine wp_box1 ?_
  intro W0 h0 B0 hz
  have HST := hid h0.out
  have hws0 : W0.heap.size ≤ W0.heap.size := Nat.le_refl _
  clear h0 hz
  go_wp2_with fail
  go_loopw [5, 6] (fun vl vi wr => ∃ i : Nat, i ≤ s.subs.length ∧ vi = .int .i64 i ∧ ∃ ys : List Told, ys.map pj = (s.subs.take i).flatMap (pendSub parts) ∧ Hid (wr.ownsRow W0.heap.size 63 14 vl ys.length (ys.flatMap toldC)) ∧ Hid (∀ y ∈ ys, EVv S y.2.2 y.2.1.vars wr) ∧ Hid (Below W0.heap.size W0 wr)) (fun _ vi _ => s.subs.length - (intOf vi).toNat)
  case atStart => exact ⟨0, Nat.zero_le _, rfl, [], rfl, World.ownsRow_nil _ _ _ _, (fun y h => by cases h), Below.refl _ _⟩
  case round =>
    obtain ⟨i, hi, rfl, ys, hys, hown, hev, hR⟩ := hrel
    have KY := hid hys
    have KO := hid hown.out
    have KE := hid hev.out
    obtain ⟨ak, ck, rfl⟩ := own_slice hown.out
    have kst := cell_of ((hR.out.block _ (heap_lt HST.out)).trans HST.out) 8
    clear hown hev hys
    by_cases hlt : i < s.subs.length
    · obtain ⟨x, hx⟩ : ∃ x, s.subs[i]? = some x := ⟨_, List.getElem?_eq_getElem hlt⟩
      obtain ⟨bx, ox, cx, hax, -, hrx, hcx⟩ := HSS.out i x hx
      subst hax
      have hrx : cx = [U x.token, U x.inst, I x.node, .string x.name, .string x.key, .bool x.is] := hrx
      subst hrx
      have hcel : ∀ j u, ([U x.token, U x.inst, I x.node, .string x.name, .string x.key, .bool x.is] : List Value)[j]? = some u → wr.cell? ⟨bx, ox + i * 6 + j, none⟩ = some u := fun j u hu => by
        have h := (sans_cell (hcx j u hu)).1
        exact ((Below.cell (B0.out.trans (hR.out.mono B0.out.size)) (p := ⟨bx, ox + i * 6 + j, none⟩) (World.block_lt_of_cell? w _ h))).trans h
      have c0 := hcel 0 _ rfl
      have c1 := hcel 1 _ rfl
      have c2 := hcel 2 _ rfl
      have c3 := hcel 3 _ rfl
      have c4 := hcel 4 _ rfl
      have c5 := hcel 5 _ rfl
      rw [Nat.add_zero] at c0
      have Hx := hid hx
      clear hcel hcx hx
      cases hc : x.is with
      | true =>
        rw [hc] at c5
        have HP := hid (pend_skip (f := pendSub parts) Hx.out (by simp [pendSub, hc]))
        go_wp2
        exact ⟨⟨i + 1, by omega, by go_num, ys, by rw [KY.out, HP.out], hid (ownBelow KO.out box1_b), hid (fun y hy => (KE.out y hy).grow box1_b), hid (hR.out.trans (box1_b.mono hR.out.size))⟩, by simp [intOf]; omega⟩
      | false =>
        rw [hc] at c5
        have hp : pendSub parts x = [(shardV x.key parts, { rec0 with cls := 1, kind := 12, key := x.token, key2 := x.inst, n := x.node, a := x.name, b := x.key })] := by unfold pendSub; rw [hc]; rfl
        have HP := hid (pend_step (f := pendSub parts) Hx.out hp)
        have hkb := hsub _ (List.mem_of_getElem? Hx.out)
        clear hp hc
        go_wp2_with fail
        refine wp_box1 ?_
        intro W2 h2 B2 hz2
        clear c0 c1 c2 c3 c4 c5 kst
        have HB2 := hid (hR.out.trans (B2.out.mono hR.out.size))
        have KO2 := hid (ownBelow KO.out B2.out)
        have KE2 := hid (fun y hy => (KE.out y hy).grow B2.out)
        obtain ⟨xb, hxb⟩ : ∃ xb, xb = wr.heap.size := ⟨_, rfl⟩
        have hxl : ¬ ownB (.slice ak ys.length ck) xb := fun hh => by have := (KO.out.lt xb hh).2; omega
        rw [← hxb] at h2 ⊢
        have nl := hid (ownLt KO2.out)
        have nb := hid hxl
        have HBW := hid (show ∀ w', But (fun x => ownB (.slice ak ys.length ck) x) W2 w' → Below w.heap.size w w' from fun w' h => (B0.out.trans (HB2.out.mono B0.out.size)).trans (h.below (Nat.le_trans B0.out.size HB2.out.size) (fun k hk => Nat.le_trans B0.out.size (KO2.out.lt k hk).1)))
        have hws := HB2.out.size
        have hyl : ys.length ≤ 4194304 := by have := pend_len (f := pendSub parts) (l := s.subs) i; have h := congrArg List.length KY.out; simp only [List.length_map, List.length_append] at h; omega
        have HX := hid h2.out
        clear hxl KO KE hR B2 h2 hxb hz2
        refine Ps.wp_par (Ps.relC (fun x => ownB (.slice ak ys.length ck) x) (fun x _ => x = xb)) (fun W => True ∧ W.ownsRow W0.heap.size 63 14 (.slice ak ys.length ck) ys.length (ys.flatMap toldC)) (false :: false :: false :: false :: false :: false :: false :: false :: false :: false :: false :: false :: false :: false :: false :: false :: false :: false :: true :: []) _ (.fix ?_ :: .fix ?_ :: .fix ?_ :: .fix ?_ :: .fix (I (shardV x.key parts)) :: .fix ?_ :: .fix ?_ :: .fix ?_ :: .fix ?_ :: .fix ?_ :: .fix ?_ :: .fix ?_ :: .fix ?_ :: .fix ?_ :: .fix ?_ :: .fix ?_ :: .fix ?_ :: .new (Ps.rowN 14 ?_ ?_ W2.heap.size) :: .st (some (ys.length + 1)) (fun _ _ => True) (fun u W => True ∧ W.ownsRow W0.heap.size 63 14 u (ys.length + 1) (ys.flatMap toldC ++ [.int .i64 (shardV x.key parts), .int .i64 1, .int .i64 12, .int .u64 0, .int .i64 0, U x.token, U x.inst, .int .u64 0, I x.node, .int .i64 0, .string x.name, .string x.key, .string ⟨#[]⟩, .slice none 0 0])) :: []) (by kernel_rfl) (by kernel_rfl) (by simp only [List.length_cons, List.length_nil, List.drop_succ_cons, List.drop_zero, List.drop_nil]; with_reducible rfl) rfl (fun _ _ _ _ _ => ⟨fun h => h, fun h => h⟩) (fun _ _ h hb => ⟨trivial, ownBelow h.2 hb⟩) (⟨trivial, KO2.out⟩) ?_
        rotate_left 18
        iterate 4
          first
            | (refine Ps.par_skip (a' := ?_) (by rfl) (by rfl) ?_ ?_ ?_; rotate_left 1; with_reducible rfl; (simp only [Act.put, List.setIfInBounds_toArray, List.set_cons_zero, List.set_cons_succ]; with_reducible rfl))
            | (refine Ps.par_run (a' := ?_) (by rfl) (by rfl) (fun w' hb hn => ?_) ?_ ?_; rotate_left 1; (have q0 := hb.2 xb 0 _ rfl (cell_of HX.out 0); have q1 := hb.2 xb 1 _ rfl (cell_of HX.out 1); have q2 := hb.2 xb 2 _ rfl (cell_of HX.out 2); have q3 := hb.2 xb 3 _ rfl (cell_of HX.out 3); have q4 := hb.2 xb 4 _ rfl (cell_of HX.out 4); have q5 := hb.2 xb 5 _ rfl (cell_of HX.out 5); first | (go_simp; (try simp (disch := omega) only [IntWalk.i64_in, IntWalk.i32_in, IntWalk.u64_in, IntWalk.u8_in, IntWalk.u32_in, toNatUp, iteOmega]); with_reducible rfl) | (go_simp; (try simp (disch := omega) only [IntWalk.i64_in, IntWalk.i32_in, IntWalk.u64_in, IntWalk.u8_in, IntWalk.u32_in, toNatUp, iteOmega]); go_simp; with_reducible rfl)); (simp only [Act.put, List.setIfInBounds_toArray, List.set_cons_zero, List.set_cons_succ]; with_reducible rfl))
        refine Ps.par_call (a' := ?ap1k4) (f := ?fp1k4) (args := ?rp1k4) (by rfl) (by rfl) (fun w' => ?ep1k4) (fun w' hb hn => ?hp1k4) ?pp1k4 ?gp1k4
        case ep1k4 => (go_simp; constructor <;> with_reducible rfl)
        case hp1k4 => (exact rshard_any x.key parts hp1 hp2 hkb w')
        case pp1k4 => (simp only [Act.put, List.setIfInBounds_toArray, List.set_cons_zero, List.set_cons_succ]; with_reducible rfl)
        iterate 12
          first
            | (refine Ps.par_skip (a' := ?_) (by rfl) (by rfl) ?_ ?_ ?_; rotate_left 1; with_reducible rfl; (simp only [Act.put, List.setIfInBounds_toArray, List.set_cons_zero, List.set_cons_succ]; with_reducible rfl))
            | (refine Ps.par_run (a' := ?_) (by rfl) (by rfl) (fun w' hb hn => ?_) ?_ ?_; rotate_left 1; (have q0 := hb.2 xb 0 _ rfl (cell_of HX.out 0); have q1 := hb.2 xb 1 _ rfl (cell_of HX.out 1); have q2 := hb.2 xb 2 _ rfl (cell_of HX.out 2); have q3 := hb.2 xb 3 _ rfl (cell_of HX.out 3); have q4 := hb.2 xb 4 _ rfl (cell_of HX.out 4); have q5 := hb.2 xb 5 _ rfl (cell_of HX.out 5); first | (go_simp; (try simp (disch := omega) only [IntWalk.i64_in, IntWalk.i32_in, IntWalk.u64_in, IntWalk.u8_in, IntWalk.u32_in, toNatUp, iteOmega]); with_reducible rfl) | (go_simp; (try simp (disch := omega) only [IntWalk.i64_in, IntWalk.i32_in, IntWalk.u64_in, IntWalk.u8_in, IntWalk.u32_in, toNatUp, iteOmega]); go_simp; with_reducible rfl)); (simp only [Act.put, List.setIfInBounds_toArray, List.set_cons_zero, List.set_cons_succ]; with_reducible rfl))
        refine Ps.par_row (a' := ?ap2k17) (m := ?mp2k17) (T := ?Tp2k17) (cs := ?cp2k17) (r := ?rp2k17) (fun x h => nl.out x h) (by rfl) (by rfl) (fun w' hb hn => ?hp2k17) (fun w' => ?ep2k17) ?np2k17 ?vp2k17 ?lp2k17 ?xp2k17 (fun u => ?pp2k17) (fun u => ?gp2k17)
        case hp2k17 => (have q0 := hb.2 xb 0 _ rfl (cell_of HX.out 0); have q1 := hb.2 xb 1 _ rfl (cell_of HX.out 1); have q2 := hb.2 xb 2 _ rfl (cell_of HX.out 2); have q3 := hb.2 xb 3 _ rfl (cell_of HX.out 3); have q4 := hb.2 xb 4 _ rfl (cell_of HX.out 4); have q5 := hb.2 xb 5 _ rfl (cell_of HX.out 5); go_simp; (try simp (disch := omega) only [IntWalk.i64_in, IntWalk.i32_in, IntWalk.u64_in, IntWalk.u8_in, IntWalk.u32_in, toNatUp, iteOmega]); with_reducible rfl)
        case ep2k17 => with_reducible rfl
        case np2k17 => with_reducible rfl
        case vp2k17 => with_reducible rfl
        case lp2k17 => simp only [List.length_cons, List.length_nil]
        case xp2k17 => (unfold maxLen; omega)
        case pp2k17 => (simp only [Act.put, List.setIfInBounds_toArray, List.set_cons_zero, List.set_cons_succ]; with_reducible rfl)
        refine Ps.par_app (a' := ?ap3k18) (A := fun W => True) 39 63 Tryz.underlying39 infoS rfl (by decide) hws (by unfold maxLen; omega) (by omega) (by simp [Value.oneCell']) (fun _ _ _ _ _ => trivial) (fun _ _ _ _ => trivial) (fun _ h => h) (fun x i hs hb => by subst hs; exact nb.out hb) (by rfl) rfl rfl rfl rfl (fun w' hb hn => ?xp3k18) (fun u => ?pp3k18) (fun u hu18 => ?gp3k18)
        case xp3k18 => (exact (Ps.need_head hn (by kernel_rfl)).1)
        case pp3k18 => (simp only [Act.put, List.setIfInBounds_toArray, List.set_cons_zero, List.set_cons_succ]; with_reducible rfl)
        obtain ⟨au18, cu18, rfl⟩ := hu18
        refine Ps.par_end (fun w9 hb9 hf9 hr9 => ?_)
        try refine Ps.wpList_none ?_
        have B9 := hid (((But.of (w := W0) HB2.out).trans' hb9.1 (F := fun k => False) (fun k hk ho => by have := (KO2.out.lt k ho).1; omega)).grow)
        have VK := hid (VrKept.own KO2.out hb9.1)
        have O9 := hid hr9.2
        have hnew : EVv S (.slice none 0 0) [] w9 := EVv.nil _ _
        have NE := hid hnew
        clear hb9 hf9 hr9
        go_wp2
        go_roundw
        case rel => exact ⟨i + 1, by omega, by go_num, ys ++ [(shardV x.key parts, { rec0 with cls := 1, kind := 12, key := x.token, key2 := x.inst, n := x.node, a := x.name, b := x.key }, .slice none 0 0)], by rw [List.map_append, KY.out, HP.out]; simp [pj], hid (by rw [List.length_append, List.flatMap_append]; exact O9.out), hid (fun y hy => (List.mem_append.1 hy).elim (fun h => (KE2.out y h).kept VK.out) (fun h => by rw [List.mem_singleton.1 h]; exact NE.out)), B9⟩
        case measure => simp [intOf]; omega
    · obtain rfl : i = s.subs.length := by omega
      rw [List.take_length] at KY
      go_wp2_with fail
      clear kst
      obtain ⟨WL, rfl⟩ : ∃ WL : World, WL = wr := ⟨_, rfl⟩
      go_loopw [5, 8] (fun vl vi wr => ∃ i : Nat, i ≤ s.listed.length ∧ vi = .int .i64 i ∧ ∃ ys : List Told, ys.map pj = s.subs.flatMap (pendSub parts) ++ (s.listed.take i).flatMap pendLis ∧ Hid (wr.ownsRow W0.heap.size 63 14 vl ys.length (ys.flatMap toldC)) ∧ Hid (∀ y ∈ ys, EVv S y.2.2 y.2.1.vars wr) ∧ Hid (Below W0.heap.size W0 wr)) (fun _ vi _ => s.listed.length - (intOf vi).toNat)
      case atStart => exact ⟨0, Nat.zero_le _, rfl, ys, by rw [KY.out]; simp, KO, KE, hR⟩
      case round =>
        clear KY KO KE hR
        obtain ⟨i, hi, rfl, ys, hys, hown, hev, hR⟩ := hrel
        have KY := hid hys
        have KO := hid hown.out
        have KE := hid hev.out
        obtain ⟨ak, ck, rfl⟩ := own_slice hown.out
        have kst := cell_of ((hR.out.block _ (heap_lt HST.out)).trans HST.out) 10
        clear hown hev hys
        by_cases hlt : i < s.listed.length
        · obtain ⟨x, hx⟩ : ∃ x, s.listed[i]? = some x := ⟨_, List.getElem?_eq_getElem hlt⟩
          obtain ⟨bx, ox, cx, hax, -, hrx, hcx⟩ := HLL.out i x hx
          subst hax
          obtain ⟨lv, rfl, hlv⟩ := hrx
          have HLV := hid hlv.seen
          obtain ⟨lva, lvc, rfl, -⟩ := hlv
          have hcel : ∀ j u, ([U x.token, U x.inst, I x.node, .string x.name, .string x.key, U x.msg, .slice lva x.vars.length lvc] : List Value)[j]? = some u → wr.cell? ⟨bx, ox + i * 7 + j, none⟩ = some u := fun j u hu => by
            have h := (sans_cell (hcx j u hu)).1
            exact ((Below.cell (B0.out.trans (hR.out.mono B0.out.size)) (p := ⟨bx, ox + i * 7 + j, none⟩) (World.block_lt_of_cell? w _ h))).trans h
          have c0 := hcel 0 _ rfl
          have c1 := hcel 1 _ rfl
          have c2 := hcel 2 _ rfl
          have c3 := hcel 3 _ rfl
          have c4 := hcel 4 _ rfl
          have c5 := hcel 5 _ rfl
          have c6 := hcel 6 _ rfl
          rw [Nat.add_zero] at c0
          have Hx := hid hx
          clear hcel hcx hx
          by_cases hc : x.msg = 0
          · rw [hc] at c5
            have HP := hid (pend_skip (f := pendLis) Hx.out (by simp [pendLis, hc]))
            clear hc
            go_wp2
            exact ⟨⟨i + 1, by omega, by go_num, ys, by rw [KY.out, HP.out], hid (ownBelow KO.out box1_b), hid (fun y hy => (KE.out y hy).grow box1_b), hid (hR.out.trans (box1_b.mono hR.out.size))⟩, by simp [intOf]; omega⟩
          · have hp : pendLis x = [(homeV x.token, { rec0 with cls := 1, kind := 14, key := x.token, n := x.node, key2 := x.msg, vars := x.vars })] := by unfold pendLis; rw [if_neg hc]
            have HP := hid (pend_step (f := pendLis) Hx.out hp)
            have hkb := hlis _ (List.mem_of_getElem? Hx.out)
            have hcz : ((x.msg : Int) == 0) = false := by simp; omega
            clear hp hc
            go_wp2_with fail
            refine wp_box1 ?_
            intro W2 h2 B2 hz2
            clear c0 c1 c2 c3 c4 c5 c6 kst
            have HB2 := hid (hR.out.trans (B2.out.mono hR.out.size))
            have KO2 := hid (ownBelow KO.out B2.out)
            have KE2 := hid (fun y hy => (KE.out y hy).grow B2.out)
            obtain ⟨xb, hxb⟩ : ∃ xb, xb = wr.heap.size := ⟨_, rfl⟩
            have hxl : ¬ ownB (.slice ak ys.length ck) xb := fun hh => by have := (KO.out.lt xb hh).2; omega
            rw [← hxb] at h2 ⊢
            have nl := hid (ownLt KO2.out)
            have nb := hid hxl
            have HBW := hid (show ∀ w', But (fun x => ownB (.slice ak ys.length ck) x) W2 w' → Below w.heap.size w w' from fun w' h => (B0.out.trans (HB2.out.mono B0.out.size)).trans (h.below (Nat.le_trans B0.out.size HB2.out.size) (fun k hk => Nat.le_trans B0.out.size (KO2.out.lt k hk).1)))
            have hws := HB2.out.size
            have hyl : ys.length ≤ 4194304 := by have := pend_len (f := pendLis) (l := s.listed) i; have h := congrArg List.length KY.out; simp only [List.length_map, List.length_append] at h; omega
            have HX := hid h2.out
            clear hxl KO KE hR B2 h2 hxb hz2
            refine Ps.wp_par (Ps.relC (fun x => ownB (.slice ak ys.length ck) x) (fun x _ => x = xb)) (fun W => True ∧ W.ownsRow W0.heap.size 63 14 (.slice ak ys.length ck) ys.length (ys.flatMap toldC)) (false :: false :: false :: false :: false :: false :: false :: false :: false :: false :: false :: false :: false :: false :: false :: false :: false :: true :: []) _ (.fix ?_ :: .fix ?_ :: .fix ?_ :: .fix (I (homeV x.token)) :: .fix ?_ :: .fix ?_ :: .fix ?_ :: .fix ?_ :: .fix ?_ :: .fix ?_ :: .new (fun u W => ∃ g, u = .slice (some ⟨g, 0, none⟩) 0 0 ∧ W2.heap.size ≤ g ∧ W.heap[g]? = some (.cells #[] 80 (0, 0))) :: .fix ?_ :: .fix ?_ :: .new (fun u W => ∃ a c, u = .slice a x.vars.length c ∧ W.ownsRow W2.heap.size 80 4 (.slice a x.vars.length c) x.vars.length (varsC x.vars)) :: .new (fun u W => ∃ a c, u = .agg #[.int .i64 1, .int .i64 14, .int .u64 0, .int .i64 0, U x.token, U x.msg, .int .u64 0, I x.node, .int .i64 0, .string ⟨#[]⟩, .string ⟨#[]⟩, .string ⟨#[]⟩, .slice a x.vars.length c] ∧ W.ownsRow W2.heap.size 80 4 (.slice a x.vars.length c) x.vars.length (varsC x.vars)) :: .new (fun u W => ∃ a c, u = .agg #[.int .i64 (homeV x.token), .int .i64 1, .int .i64 14, .int .u64 0, .int .i64 0, U x.token, U x.msg, .int .u64 0, I x.node, .int .i64 0, .string ⟨#[]⟩, .string ⟨#[]⟩, .string ⟨#[]⟩, .slice a x.vars.length c] ∧ W.ownsRow W2.heap.size 80 4 (.slice a x.vars.length c) x.vars.length (varsC x.vars)) :: .new (fun u W => ∃ a c, FlatAt 14 W u 1 [.int .i64 (homeV x.token), .int .i64 1, .int .i64 14, .int .u64 0, .int .i64 0, U x.token, U x.msg, .int .u64 0, I x.node, .int .i64 0, .string ⟨#[]⟩, .string ⟨#[]⟩, .string ⟨#[]⟩, .slice a x.vars.length c] ∧ (∀ a' m c', u = .slice (some a') m c' → W2.heap.size ≤ a'.block) ∧ W.ownsRow W2.heap.size 80 4 (.slice a x.vars.length c) x.vars.length (varsC x.vars)) :: .st (some (ys.length + 1)) (fun _ _ => True) (fun u W => True ∧ ∃ cs, (∃ a c, cs = [.int .i64 (homeV x.token), .int .i64 1, .int .i64 14, .int .u64 0, .int .i64 0, U x.token, U x.msg, .int .u64 0, I x.node, .int .i64 0, .string ⟨#[]⟩, .string ⟨#[]⟩, .string ⟨#[]⟩, .slice a x.vars.length c] ∧ W.ownsRow W2.heap.size 80 4 (.slice a x.vars.length c) x.vars.length (varsC x.vars)) ∧ W.ownsRow W0.heap.size 63 14 u (ys.length + 1) (ys.flatMap toldC ++ cs)) :: []) (by kernel_rfl) (by kernel_rfl) (by simp only [List.length_cons, List.length_nil, List.drop_succ_cons, List.drop_zero, List.drop_nil]; with_reducible rfl) rfl (fun _ _ _ _ _ => ⟨fun h => h, fun h => h⟩) (fun _ _ h hb => ⟨trivial, ownBelow h.2 hb⟩) (⟨trivial, KO2.out⟩) ?_
            rotate_left 11
            iterate 3
              first
                | (refine Ps.par_skip (a' := ?_) (by rfl) (by rfl) ?_ ?_ ?_; rotate_left 1; with_reducible rfl; (simp only [Act.put, List.setIfInBounds_toArray, List.set_cons_zero, List.set_cons_succ]; with_reducible rfl))
                | (refine Ps.par_run (a' := ?_) (by rfl) (by rfl) (fun w' hb hn => ?_) ?_ ?_; rotate_left 1; (have q0 := hb.2 xb 0 _ rfl (cell_of HX.out 0); have q1 := hb.2 xb 1 _ rfl (cell_of HX.out 1); have q2 := hb.2 xb 2 _ rfl (cell_of HX.out 2); have q3 := hb.2 xb 3 _ rfl (cell_of HX.out 3); have q4 := hb.2 xb 4 _ rfl (cell_of HX.out 4); have q5 := hb.2 xb 5 _ rfl (cell_of HX.out 5); have q6 := hb.2 xb 6 _ rfl (cell_of HX.out 6); first | (go_simp; (try simp (disch := omega) only [IntWalk.i64_in, IntWalk.i32_in, IntWalk.u64_in, IntWalk.u8_in, IntWalk.u32_in, toNatUp, iteOmega]); with_reducible rfl) | (go_simp; (try simp (disch := omega) only [IntWalk.i64_in, IntWalk.i32_in, IntWalk.u64_in, IntWalk.u8_in, IntWalk.u32_in, toNatUp, iteOmega]); go_simp; with_reducible rfl)); (simp only [Act.put, List.setIfInBounds_toArray, List.set_cons_zero, List.set_cons_succ]; with_reducible rfl))
            refine Ps.par_call (a' := ?ap4k3) (f := ?fp4k3) (args := ?rp4k3) (by rfl) (by rfl) (fun w' => ?ep4k3) (fun w' hb hn => ?hp4k3) ?pp4k3 ?gp4k3
            case ep4k3 => (go_simp; constructor <;> with_reducible rfl)
            case hp4k3 => (exact rhome_any x.token hkb.1 w')
            case pp4k3 => (simp only [Act.put, List.setIfInBounds_toArray, List.set_cons_zero, List.set_cons_succ]; with_reducible rfl)
            iterate 6
              first
                | (refine Ps.par_skip (a' := ?_) (by rfl) (by rfl) ?_ ?_ ?_; rotate_left 1; with_reducible rfl; (simp only [Act.put, List.setIfInBounds_toArray, List.set_cons_zero, List.set_cons_succ]; with_reducible rfl))
                | (refine Ps.par_run (a' := ?_) (by rfl) (by rfl) (fun w' hb hn => ?_) ?_ ?_; rotate_left 1; (have q0 := hb.2 xb 0 _ rfl (cell_of HX.out 0); have q1 := hb.2 xb 1 _ rfl (cell_of HX.out 1); have q2 := hb.2 xb 2 _ rfl (cell_of HX.out 2); have q3 := hb.2 xb 3 _ rfl (cell_of HX.out 3); have q4 := hb.2 xb 4 _ rfl (cell_of HX.out 4); have q5 := hb.2 xb 5 _ rfl (cell_of HX.out 5); have q6 := hb.2 xb 6 _ rfl (cell_of HX.out 6); first | (go_simp; (try simp (disch := omega) only [IntWalk.i64_in, IntWalk.i32_in, IntWalk.u64_in, IntWalk.u8_in, IntWalk.u32_in, toNatUp, iteOmega]); with_reducible rfl) | (go_simp; (try simp (disch := omega) only [IntWalk.i64_in, IntWalk.i32_in, IntWalk.u64_in, IntWalk.u8_in, IntWalk.u32_in, toNatUp, iteOmega]); go_simp; with_reducible rfl)); (simp only [Act.put, List.setIfInBounds_toArray, List.set_cons_zero, List.set_cons_succ]; with_reducible rfl))
            refine Ps.par_val (a' := ?ap5k10) (by rfl) (by rfl) (fun _ _ _ ⟨g, hu, h1, h2⟩ hb => ⟨g, hu, h1, (hb.1.block g (heap_lt h2) (fun hf => by have := nl.out g hf; omega)).trans h2⟩) (fun w' hb hn => ?hp5k10) (fun u => ?pp5k10) (fun u => ?gp5k10)
            case hp5k10 => (exact ⟨_, _, (by go_simp; try with_reducible rfl), ⟨w'.heap.size, rfl, hb.1.size, alloc_new w' _⟩, (Below.refl _ w').alloc (Nat.le_refl _) _⟩)
            case pp5k10 => (simp only [Act.put, List.setIfInBounds_toArray, List.set_cons_zero, List.set_cons_succ]; with_reducible rfl)
            iterate 2
              first
                | (refine Ps.par_skip (a' := ?_) (by rfl) (by rfl) ?_ ?_ ?_; rotate_left 1; with_reducible rfl; (simp only [Act.put, List.setIfInBounds_toArray, List.set_cons_zero, List.set_cons_succ]; with_reducible rfl))
                | (refine Ps.par_run (a' := ?_) (by rfl) (by rfl) (fun w' hb hn => ?_) ?_ ?_; rotate_left 1; (have q0 := hb.2 xb 0 _ rfl (cell_of HX.out 0); have q1 := hb.2 xb 1 _ rfl (cell_of HX.out 1); have q2 := hb.2 xb 2 _ rfl (cell_of HX.out 2); have q3 := hb.2 xb 3 _ rfl (cell_of HX.out 3); have q4 := hb.2 xb 4 _ rfl (cell_of HX.out 4); have q5 := hb.2 xb 5 _ rfl (cell_of HX.out 5); have q6 := hb.2 xb 6 _ rfl (cell_of HX.out 6); first | (go_simp; (try simp (disch := omega) only [IntWalk.i64_in, IntWalk.i32_in, IntWalk.u64_in, IntWalk.u8_in, IntWalk.u32_in, toNatUp, iteOmega]); with_reducible rfl) | (go_simp; (try simp (disch := omega) only [IntWalk.i64_in, IntWalk.i32_in, IntWalk.u64_in, IntWalk.u8_in, IntWalk.u32_in, toNatUp, iteOmega]); go_simp; with_reducible rfl)); (simp only [Act.put, List.setIfInBounds_toArray, List.set_cons_zero, List.set_cons_succ]; with_reducible rfl))
            refine Ps.par_val (a' := ?ap6k13) (by rfl) (by rfl) (fun _ _ _ ⟨a, c, hu, h⟩ hb => ⟨a, c, hu, (own_at h hb.1 (fun g hg hf => by have := (h.lt g hg).1; have := nl.out g hf; omega))⟩) (fun w' hb hn => ?hp6k13) (fun u => ?pp6k13) (fun u => ?gp6k13)
            case hp6k13 => (obtain ⟨g, rfl, hg, hh⟩ := Ps.need_head hn (by kernel_rfl); obtain ⟨v', w2, hr, ho, hb2⟩ := run_app_empty w' g x.vars (.slice lva x.vars.length lvc) 47 (HLV.out.below (HBW.out w' hb.1)) hh hkb.2; obtain ⟨a, c, rfl⟩ := own_slice (ho _ hg hb.1.size); exact ⟨_, w2, (exec_app rfl rfl rfl hr), ⟨a, c, rfl, ho _ hg hb.1.size⟩, hb2⟩)
            case pp6k13 => (simp only [Act.put, List.setIfInBounds_toArray, List.set_cons_zero, List.set_cons_succ]; with_reducible rfl)
            refine Ps.par_val (a' := ?ap7k14) (by rfl) (by rfl) (fun _ _ _ ⟨a, c, hu, h⟩ hb => ⟨a, c, hu, (own_at h hb.1 (fun g hg hf => by have := (h.lt g hg).1; have := nl.out g hf; omega))⟩) (fun w' hb hn => ?hp7k14) (fun u => ?pp7k14) (fun u => ?gp7k14)
            case hp7k14 => (obtain ⟨a, c, rfl, hv⟩ := Ps.need_head hn (by kernel_rfl); exact ⟨_, w', (by go_simp; try with_reducible rfl), ⟨a, c, rfl, hv⟩, Below.refl _ _⟩)
            case pp7k14 => (simp only [Act.put, List.setIfInBounds_toArray, List.set_cons_zero, List.set_cons_succ]; with_reducible rfl)
            refine Ps.par_val (a' := ?ap8k15) (by rfl) (by rfl) (fun _ _ _ ⟨a, c, hu, h⟩ hb => ⟨a, c, hu, (own_at h hb.1 (fun g hg hf => by have := (h.lt g hg).1; have := nl.out g hf; omega))⟩) (fun w' hb hn => ?hp8k15) (fun u => ?pp8k15) (fun u => ?gp8k15)
            case hp8k15 => (obtain ⟨a, c, rfl, hv⟩ := Ps.need_head hn (by kernel_rfl); exact ⟨_, w', (by go_simp; try with_reducible rfl), ⟨a, c, rfl, hv⟩, Below.refl _ _⟩)
            case pp8k15 => (simp only [Act.put, List.setIfInBounds_toArray, List.set_cons_zero, List.set_cons_succ]; with_reducible rfl)
            refine Ps.par_val (a' := ?ap9k16) (by rfl) (by rfl) (fun u _ _ h hb => by obtain ⟨a, c, hf, hu, hv⟩ := h; exact ⟨a, c, FlatAt.but hf hb.1 (fun a' m c' he hh => by have := hu a' m c' he; have := nl.out _ hh; omega), hu, (own_at hv hb.1 (fun g hg hf => by have := (hv.lt g hg).1; have := nl.out g hf; omega))⟩) (fun w' hb hn => ?hp9k16) (fun u => ?pp9k16) (fun u => ?gp9k16)
            case hp9k16 => (obtain ⟨a, c, rfl, hv⟩ := Ps.need_head hn (by kernel_rfl); exact ⟨_, _, (by go_simp; try with_reducible rfl), ⟨a, c, FlatAt.made w' [.int .i64 (homeV x.token), .int .i64 1, .int .i64 14, .int .u64 0, .int .i64 0, U x.token, U x.msg, .int .u64 0, I x.node, .int .i64 0, .string ⟨#[]⟩, .string ⟨#[]⟩, .string ⟨#[]⟩, .slice a x.vars.length c] _ rfl (by unfold maxLen; omega), fun a' m c' he => by cases he; exact hb.1.size, ownBelow hv ((Below.refl _ w').alloc (Nat.le_refl _) _)⟩, (Below.refl _ w').alloc (Nat.le_refl _) _⟩)
            case pp9k16 => (simp only [Act.put, List.setIfInBounds_toArray, List.set_cons_zero, List.set_cons_succ]; with_reducible rfl)
            refine Ps.par_appE (a' := ?ap10k17) (A := fun W => True) (Pc := fun cs W => ∃ a c, cs = [.int .i64 (homeV x.token), .int .i64 1, .int .i64 14, .int .u64 0, .int .i64 0, U x.token, U x.msg, .int .u64 0, I x.node, .int .i64 0, .string ⟨#[]⟩, .string ⟨#[]⟩, .string ⟨#[]⟩, .slice a x.vars.length c] ∧ W.ownsRow W2.heap.size 80 4 (.slice a x.vars.length c) x.vars.length (varsC x.vars)) 39 63 Tryz.underlying39 infoS rfl (by decide) hws (by unfold maxLen; omega) (by omega) (fun _ _ _ _ _ => trivial) (fun _ _ _ _ => trivial) (fun cs w1 w2 hG h ho hb => by obtain ⟨a, c, he, hv⟩ := h; exact ⟨a, c, he, own_at hv hb (ownNe hv ho (by decide))⟩) (fun cs w1 w2 h hb => by obtain ⟨a, c, he, hv⟩ := h; exact ⟨a, c, he, ownBelow hv hb⟩) (fun _ h => h) (fun x i hs hb => by subst hs; exact nb.out hb) (by rfl) rfl rfl rfl rfl (fun w' hb hn => ?xp10k17) (fun u => ?pp10k17) (fun u hu17 => ?gp10k17)
            case xp10k17 => (obtain ⟨a, c, hf, -, hv⟩ := Ps.need_head hn (by kernel_rfl); exact ⟨_, ⟨a, c, rfl, hv⟩, hf, by simp [Value.oneCell']⟩)
            case pp10k17 => (simp only [Act.put, List.setIfInBounds_toArray, List.set_cons_zero, List.set_cons_succ]; with_reducible rfl)
            obtain ⟨au17, cu17, rfl⟩ := hu17
            refine Ps.par_end (fun w9 hb9 hf9 hr9 => ?_)
            try refine Ps.wpList_none ?_
            have B9 := hid (((But.of (w := W0) HB2.out).trans' hb9.1 (F := fun k => False) (fun k hk ho => by have := (KO2.out.lt k ho).1; omega)).grow)
            have VK := hid (VrKept.own KO2.out hb9.1)
            obtain ⟨cs9, ⟨a9, c9, rfl, hv9⟩, ho9⟩ := hr9.2
            have O9 := hid ho9
            have NE := hid (show EVv S (.slice a9 x.vars.length c9) x.vars w9 from EVv.of_own hv9 hkb.2 (fun b h => Nat.lt_of_lt_of_le (hS b h) (Nat.le_trans B0.out.size hws)))
            clear hv9 ho9
            clear hb9 hf9 hr9
            go_wp2
            go_roundw
            case rel => exact ⟨i + 1, by omega, by go_num, ys ++ [(homeV x.token, { rec0 with cls := 1, kind := 14, key := x.token, n := x.node, key2 := x.msg, vars := x.vars }, .slice a9 x.vars.length c9)], by rw [List.map_append, KY.out, HP.out]; simp [pj], hid (by rw [List.length_append, List.flatMap_append]; exact O9.out), hid (fun y hy => (List.mem_append.1 hy).elim (fun h => (KE2.out y h).kept VK.out) (fun h => by rw [List.mem_singleton.1 h]; exact NE.out)), B9⟩
            case measure => simp [intOf]; omega
        · obtain rfl : i = s.listed.length := by omega
          rw [List.take_length] at KY
          go_wp2
          go_ret
          exact ⟨_, rfl, ⟨ys, by rw [KY.out]; rfl, FlatAt.of_own KO.out, KE.out⟩, B0.out.trans (hR.out.mono B0.out.size)⟩
end Go.Proofs.YtjkbfoeakeoeiaaGreat
