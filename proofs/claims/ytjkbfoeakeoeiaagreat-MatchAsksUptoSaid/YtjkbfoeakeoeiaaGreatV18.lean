/- Keep: contracts (Pe). -/
import Derived.Test.YtjkbfoeakeoeiaaGreatV1
import Derived.Test.YtjkbfoeakeoeiaaGreatV5
import Derived.Test.YtjkbfoeakeoeiaaGreatV17
import Derived.RangeFuncNested
import Derived.RangeFuncBound
import Derived.RangeFuncCalls
import Derived.RangeFuncLeaves
import Derived.RangeFuncBox
import Derived.Shelf.Abstract
import Derived.Shelf.RegionOpen
import Derived.WalkKit
import Derived.OwnWalkIn
import Derived.TacticsInMore
import Derived.LoopNIn
import Derived.LoopIn
import Derived.Maps.AppendAt
namespace Go.Proofs.YtjkbfoeakeoeiaaGreat
set_option maxRecDepth 100000
set_option maxHeartbeats 40000000
set_option linter.unusedSimpArgs false
set_option linter.unusedVariables false
open Go.IntWalk Go.RowKit Go.Shelf
attribute [local go_sem] Oper.semAt_some
theorem wpIn_box1 {F : Fence} {n : Nat} {P : Program} {c : Code} {Q : Exit → Act → World → Prop} {a : Act} {w : World} {A : Obj} (h : ∀ W, Hid (W.heap[w.heap.size]? = some A) → Hid (Below w.heap.size w W) → c.wpIn F n P Q a W) : c.wpIn F n P Q a (w.alloc A) := h _ box1_at box1_b
theorem abides_below {β : Type} {B : Nat} {J : β → World → Prop} {s : β} {W W' : World} (hJ : AbidesFrom B J) (h : J s W) (hb : Below W.heap.size W W') : J s W' :=
  hJ s W W' none h ⟨hb.os, hb.tape, hb.output, hb.size, fun k hk _ => hb.block k hk⟩ (fun r e => by cases e)
abbrev Told := Int × RecV × Value
def pj (x : Told) : Int × RecV := (x.1, x.2.1)
def toldA (x : Told) : Array Value := #[I x.1, .agg #[I x.2.1.cls, I x.2.1.kind, U x.2.1.from_, I x.2.1.time, U x.2.1.key, U x.2.1.key2, U x.2.1.key3, I x.2.1.n, I x.2.1.m, .string x.2.1.a, .string x.2.1.b, .string x.2.1.c, x.2.2]]
theorem pend_skip {α β : Type} {f : α → List β} {l : List α} {k : Nat} {x : α} (hx : l[k]? = some x) (h : f x = []) : (l.take (k + 1)).flatMap f = (l.take k).flatMap f := by
  rw [List.take_add_one, hx]; simp [h]
theorem pend_step {α β : Type} {f : α → List β} {l : List α} {k : Nat} {x : α} {y : β} (hx : l[k]? = some x) (h : f x = [y]) : (l.take (k + 1)).flatMap f = (l.take k).flatMap f ++ [y] := by
  rw [List.take_add_one, hx]; simp [h]
theorem pend_len {α β : Type} {f : α → List β} {l : List α} (k : Nat) : ((l.take k).flatMap f).length ≤ (l.flatMap f).length := by
  conv => rhs; rw [← List.take_append_drop k l, List.flatMap_append, List.length_append]
  omega
theorem pend_pre1 {s : StateV} {parts : Int} {ys : List Told} {k : Nat} (h : ys.map pj = (s.subs.take k).flatMap (pendSub parts)) : ys.map pj <+: pendingV s parts := by
  rw [h]
  unfold pendingV
  refine ⟨(s.subs.drop k).flatMap (pendSub parts) ++ s.listed.flatMap pendLis, ?_⟩
  rw [← List.append_assoc, ← List.flatMap_append, List.take_append_drop]
theorem pend_pre2 {s : StateV} {parts : Int} {ys : List Told} {k : Nat} (h : ys.map pj = s.subs.flatMap (pendSub parts) ++ (s.listed.take k).flatMap pendLis) : ys.map pj <+: pendingV s parts := by
  rw [h]
  unfold pendingV
  refine ⟨(s.listed.drop k).flatMap pendLis, ?_⟩
  rw [List.append_assoc, ← List.flatMap_append, List.take_append_drop]
def VrKept (W W' : World) : Prop := ∀ (b : Nat) (cs : Array Value) (fr : Nat × Nat), W.heap[b]? = some (Obj.cells cs 80 fr) → W'.heap[b]? = some (.cells cs 80 fr)
theorem VrKept.refl (W : World) : VrKept W W := fun _ _ _ h => h
theorem VrKept.trans {A B C : World} (h : VrKept A B) (k : VrKept B C) : VrKept A C := fun b cs fr hb => k b cs fr (h b cs fr hb)
theorem VrKept.below {W W' : World} (h : Below W.heap.size W W') : VrKept W W' := fun b _ _ hb => (h.block b (heap_lt hb)).trans hb
def EVv (S : Nat → Prop) (v : Value) (l : List VarV) (W : World) : Prop := VarsAt (sans S W) v l ∧ ∀ b, v.ownBlock = some b → ∃ (cs : Array Value) (fr : Nat × Nat), W.heap[b]? = some (Obj.cells cs 80 fr)
theorem EVv.nil (S : Nat → Prop) (W : World) : EVv S (.slice none 0 0) [] W := ⟨vnil _, fun b h => by cases h⟩
theorem EVv.kept {S : Nat → Prop} {v : Value} {l : List VarV} {W W' : World} (h : EVv S v l W) (hk : VrKept W W') : EVv S v l W' := by
  obtain ⟨⟨a, cap, rfl, h1, h2, h3⟩, h4⟩ := h
  refine ⟨⟨a, cap, rfl, h1, h2, fun i x hx => ?_⟩, fun b hb => by obtain ⟨cs, fr, h⟩ := h4 b hb; exact ⟨cs, fr, hk b cs fr h⟩⟩
  obtain ⟨b, off, rfl, c0, c1, c2, c3⟩ := h3 i x hx
  obtain ⟨cs, fr, hb⟩ := h4 b rfl
  have hw := hk b cs fr hb
  have k : ∀ o v, (sans S W).cell? ⟨b, o, none⟩ = some v → (sans S W').cell? ⟨b, o, none⟩ = some v := fun o v h => by
    obtain ⟨g1, g2⟩ := sans_cell h
    rw [sans_cell' g2]
    rw [cell_of hb] at g1
    rw [cell_of hw]
    exact g1
  exact ⟨b, off, rfl, k _ _ c0, k _ _ c1, k _ _ c2, k _ _ c3⟩
theorem EVv.grow {S : Nat → Prop} {v : Value} {l : List VarV} {W W' : World} (h : EVv S v l W) (hb : Below W.heap.size W W') : EVv S v l W' := h.kept (VrKept.below hb)
theorem cloneVars_typed {S : Nat → Prop} {v : Value} {l : List VarV} {w0 : World} (w : World) (hv : VarsAt w0 v l) (hs : Sees w0 w) (hn : l.length ≤ 1048576) (hS : ∀ b, S b → b < w.heap.size) :
    Calls Tryz.prog 24 #[v] w fun e w' => ∃ v', e = .returned v' ∧ EVv S v' l w' ∧ Below w.heap.size w w' := by
  refine (cloneVar_any w ((hv.sees hs).flat) (varsC_one l) (by omega)).mono ?_
  rintro e w' ⟨v', rfl, ho, hb⟩
  refine ⟨v', rfl, ⟨(FlatAt.of_own (own_sans ho (fun b h1 h2 => by have := hS b h2; omega))).vars (by omega), fun b h => ?_⟩, hb⟩
  rcases ho.2 with ⟨rfl, -⟩ | ⟨g, cap, cur, rfl, -, hg, -⟩
  · cases h
  · cases h; exact ⟨_, _, hg⟩
theorem pendIt_in (n : Nat) (hn : 1 ≤ n) (l sb pb : Nat) (S : Nat → Prop) (w0 : World) (s : StateV) (parts : Int) (vp vi vt vj vr vk vm : Value) (sa la : Option Addr) (sc lc N : Nat) (hS : ∀ b, S b → b < w0.heap.size)
    (hs : ListAt SubV.at_ 6 (sans S w0) (.slice sa s.subs.length sc) s.subs) (hl : ListAt LisV.at_ 7 (sans S w0) (.slice la s.listed.length lc) s.listed)
    (hsb : w0.heap[sb]? = some (.cells #[U s.pos, U s.done, U s.made, vp, vi, vt, vj, vr, .slice sa s.subs.length sc, vk, .slice la s.listed.length lc, vm] 33 (0, 0))) (hpb : w0.heap[pb]? = some (.cells #[I parts] 3 (0, 0))) (hp1 : -9223372036854775808 ≤ parts) (hp2 : parts ≤ 9223372036854775807)
    (hsub : ∀ x ∈ s.subs, x.key.size ≤ 140737488355328) (hlis : ∀ x ∈ s.listed, x.token < 18446744073709551616 ∧ x.vars.length ≤ 1048576) (hN : (pendingV s parts).length ≤ N)
    (J Jx : List Told → World → Prop) (W : World) (hW : Below w0.heap.size w0 W) (hJ : AbidesFrom W.heap.size J)
    (hY : ∀ pre x W1, J pre W1 → EVv S x.2.2 x.2.1.vars W1 → pre.length < N → YieldAt Fence.wide (n - 1) Tryz.prog l (toldA x) W1 fun e W' =>
      (e = .returned (.bool true) ∧ J (pre ++ [x]) W' ∧ Below w0.heap.size W1 W') ∨ (e = .returned (.bool false) ∧ Jx (pre ++ [x]) W'))
    (h0 : J [] W) :
    CallsIn Fence.wide n Tryz.prog 23 #[.func (.yield l) #[] #[], .pointer (some ⟨sb, 0, none⟩), .pointer (some ⟨pb, 0, none⟩)] W fun e W' => (∃ v, e = .returned v) ∧
      ((∃ ys, ys.map pj = pendingV s parts ∧ J ys W') ∨ (∃ pre, pre.map pj <+: pendingV s parts ∧ Jx pre W')) := by
  have HSB := hid hsb
  have HPB := hid (cell_of hpb 0)
  have HW := hid hW
  replace hJ := hid hJ
  obtain ⟨sa', sc', e, -, hsm, hss⟩ := hs
  cases e
  obtain ⟨la', lc', e, -, hlm, hll⟩ := hl
  cases e
  have HSS := hid hss
  have HLL := hid hll
  unfold maxLen at hsm hlm
  have hn1 : (pendingV s parts).length = (s.subs.flatMap (pendSub parts)).length + (s.listed.flatMap pendLis).length := by unfold pendingV; rw [List.length_append]
  rw [hn1] at hN
  have k8 := (hW.cell (p := ⟨sb, 8, none⟩) (heap_lt hsb)).trans (cell_of hsb 8)
  clear hW hsb hpb hss hll hn1
  refine callsIn_of_wp Tryz.func23 rfl trivial ?_ rfl
  simp only [Tryz.ntmps23, List.size_toArray, List.length_cons, List.length_nil, Nat.reduceAdd, Nat.reduceSub, Array.replicate_succ, Array.replicate_zero, List.push_toArray, List.append_toArray, List.nil_append, List.cons_append]
  gi_wp2
  clear k8
  gi_loopw [11] (fun i wr => ∃ k : Nat, k ≤ s.subs.length ∧ i = .int .i64 k ∧ (∃ ys : List Told, ys.map pj = (s.subs.take k).flatMap (pendSub parts) ∧ J ys wr) ∧ Hid (Below w0.heap.size w0 wr)) (fun i _ => s.subs.length - (intOf i).toNat)
  case atStart => exact ⟨0, Nat.zero_le _, rfl, ⟨[], rfl, h0⟩, HW⟩
  case round =>
    obtain ⟨k, hk, rfl, ⟨ys, hys, hJs⟩, hR⟩ := hrel
    by_cases hlt : k < s.subs.length
    · obtain ⟨x, hx⟩ : ∃ x, s.subs[k]? = some x := ⟨_, List.getElem?_eq_getElem hlt⟩
      obtain ⟨bx, ox, cx, hax, -, hrx, hcx⟩ := HSS.out k x hx
      subst hax
      have hrx : cx = [U x.token, U x.inst, I x.node, .string x.name, .string x.key, .bool x.is] := hrx
      subst hrx
      have hcel : ∀ j u, ([U x.token, U x.inst, I x.node, .string x.name, .string x.key, .bool x.is] : List Value)[j]? = some u → wr.cell? ⟨bx, ox + k * 6 + j, none⟩ = some u := fun j u hu => by
        have h := (sans_cell (hcx j u hu)).1
        exact (hR.out.cell (p := ⟨bx, ox + k * 6 + j, none⟩) (World.block_lt_of_cell? w0 _ h)).trans h
      have c0 := hcel 0 _ rfl
      have c1 := hcel 1 _ rfl
      have c2 := hcel 2 _ rfl
      have c3 := hcel 3 _ rfl
      have c4 := hcel 4 _ rfl
      have c5 := hcel 5 _ rfl
      rw [Nat.add_zero] at c0
      have Hx := hid hx
      have Hys := hid hys
      have HJS := hid hJs
      clear hcel hcx hx hys hJs
      gi_wp2_with fail
      refine wpIn_box1 ?_
      intro W2 h2 B2
      clear c0 c1 c2 c3 c4 c5
      have hB2 := hid (hR.out.trans (B2.out.mono hR.out.size))
      have hJ2 := hid (abides_below hJ.out HJS.out B2.out)
      cases hc : x.is with
      | true =>
        rw [hc] at h2
        have hp := pend_skip (f := pendSub parts) Hx.out (by simp [pendSub, hc])
        have HP := hid hp
        clear hp hc
        clear B2
        refine Ps.wpIn_parW (Ps.relC (fun _ => False) (fun _ _ => False)) (fun _ => True) (false :: false :: false :: false :: false :: false :: false :: false :: false :: false :: false :: false :: false :: false :: false :: false :: false :: false :: false :: false :: []) _ (.fix ?_ :: .fix ?_ :: .fix ?_ :: .fix ?_ :: .fix ?_ :: .fix ?_ :: .fix ?_ :: .fix ?_ :: .fix ?_ :: .fix ?_ :: .fix ?_ :: .fix ?_ :: .fix ?_ :: .fix ?_ :: .fix ?_ :: .fix ?_ :: .fix ?_ :: .fix ?_ :: .fix ?_ :: .fix ?_ :: []) (by kernel_rfl) (by kernel_rfl) (by simp only [List.length_cons, List.length_nil, List.drop_succ_cons, List.drop_zero, List.drop_nil]; with_reducible rfl) rfl (fun _ _ _ _ _ => ⟨fun h => h, fun h => h⟩) (fun _ _ h _ => h) (trivial) (by kernel_rfl) ?_
        rotate_left 20
        iterate 20
          first
            | (refine Ps.par_skip (a' := ?_) (by rfl) (by rfl) ?_ ?_ ?_; rotate_left 1; with_reducible rfl; (simp only [Act.put, List.setIfInBounds_toArray, List.set_cons_zero, List.set_cons_succ]; with_reducible rfl))
            | (refine Ps.par_run (a' := ?_) (by rfl) (by rfl) (fun w' hb hn => ?_) ?_ ?_; rotate_left 1; (have p0 := But.cell hb.1 (cell_of h2.out 0) (fun h => h); have p1 := But.cell hb.1 (cell_of h2.out 1) (fun h => h); have p2 := But.cell hb.1 (cell_of h2.out 2) (fun h => h); have p3 := But.cell hb.1 (cell_of h2.out 3) (fun h => h); have p4 := But.cell hb.1 (cell_of h2.out 4) (fun h => h); have p5 := But.cell hb.1 (cell_of h2.out 5) (fun h => h); have q0 := But.cell hb.1 (hB2.out.cell (p := ⟨pb, 0, none⟩) (World.block_lt_of_cell? w0 _ HPB.out) |>.trans HPB.out) (fun h => h); first | (go_simp; (try simp (disch := omega) only [IntWalk.i64_in, IntWalk.i32_in, IntWalk.u64_in, IntWalk.u8_in, IntWalk.u32_in, toNatUp, iteOmega]); with_reducible rfl) | (go_simp; (try simp (disch := omega) only [IntWalk.i64_in, IntWalk.i32_in, IntWalk.u64_in, IntWalk.u8_in, IntWalk.u32_in, toNatUp, iteOmega]); go_simp; with_reducible rfl)); (simp only [Act.put, List.setIfInBounds_toArray, List.set_cons_zero, List.set_cons_succ]; with_reducible rfl))
        refine Ps.par_endW (fun w9 hb9 hf9 hr9 => ?_)
        have B9 := hid hb9.1.grow
        have hB9 := hid (hB2.out.trans (B9.out.mono hB2.out.size))
        have hJ9 := hid (abides_below hJ.out hJ2.out B9.out)
        clear hb9 hf9 hr9
        gi_wp2
        refine ⟨fun _ _ => trivial, ?_⟩
        gi_wp2
        go_roundw
        case rel => exact ⟨k + 1, by omega, by simp, ⟨ys, by rw [Hys.out, HP.out], hJ9.out⟩, hB9⟩
        case measure => simp [intOf]; omega
      | false =>
        rw [hc] at h2
        have hp : pendSub parts x = [(shardV x.key parts, { rec0 with cls := 1, kind := 12, key := x.token, key2 := x.inst, n := x.node, a := x.name, b := x.key })] := by unfold pendSub; rw [hc]; rfl
        have HP := hid (pend_step (f := pendSub parts) Hx.out hp)
        have hkb := hsub _ (List.mem_of_getElem? Hx.out)
        clear hp hc
        clear B2
        refine Ps.wpIn_parW (Ps.relC (fun _ => False) (fun _ _ => False)) (fun _ => True) (false :: false :: false :: false :: false :: false :: false :: false :: false :: false :: false :: false :: false :: false :: false :: false :: false :: false :: false :: false :: []) _ (.fix ?_ :: .fix ?_ :: .fix ?_ :: .fix ?_ :: .fix ?_ :: .fix ?_ :: .fix ?_ :: .fix ?_ :: .fix (I (shardV x.key parts)) :: .fix ?_ :: .fix ?_ :: .fix ?_ :: .fix ?_ :: .fix ?_ :: .fix ?_ :: .fix ?_ :: .fix ?_ :: .fix ?_ :: .fix ?_ :: .fix ?_ :: []) (by kernel_rfl) (by kernel_rfl) (by simp only [List.length_cons, List.length_nil, List.drop_succ_cons, List.drop_zero, List.drop_nil]; with_reducible rfl) rfl (fun _ _ _ _ _ => ⟨fun h => h, fun h => h⟩) (fun _ _ h _ => h) (trivial) (by kernel_rfl) ?_
        rotate_left 19
        iterate 8
          first
            | (refine Ps.par_skip (a' := ?_) (by rfl) (by rfl) ?_ ?_ ?_; rotate_left 1; with_reducible rfl; (simp only [Act.put, List.setIfInBounds_toArray, List.set_cons_zero, List.set_cons_succ]; with_reducible rfl))
            | (refine Ps.par_run (a' := ?_) (by rfl) (by rfl) (fun w' hb hn => ?_) ?_ ?_; rotate_left 1; (have p0 := But.cell hb.1 (cell_of h2.out 0) (fun h => h); have p1 := But.cell hb.1 (cell_of h2.out 1) (fun h => h); have p2 := But.cell hb.1 (cell_of h2.out 2) (fun h => h); have p3 := But.cell hb.1 (cell_of h2.out 3) (fun h => h); have p4 := But.cell hb.1 (cell_of h2.out 4) (fun h => h); have p5 := But.cell hb.1 (cell_of h2.out 5) (fun h => h); have q0 := But.cell hb.1 (hB2.out.cell (p := ⟨pb, 0, none⟩) (World.block_lt_of_cell? w0 _ HPB.out) |>.trans HPB.out) (fun h => h); first | (go_simp; (try simp (disch := omega) only [IntWalk.i64_in, IntWalk.i32_in, IntWalk.u64_in, IntWalk.u8_in, IntWalk.u32_in, toNatUp, iteOmega]); with_reducible rfl) | (go_simp; (try simp (disch := omega) only [IntWalk.i64_in, IntWalk.i32_in, IntWalk.u64_in, IntWalk.u8_in, IntWalk.u32_in, toNatUp, iteOmega]); go_simp; with_reducible rfl)); (simp only [Act.put, List.setIfInBounds_toArray, List.set_cons_zero, List.set_cons_succ]; with_reducible rfl))
        refine Ps.par_call (a' := ?ap1k8) (f := ?fp1k8) (args := ?rp1k8) (by rfl) (by rfl) (fun w' => ?ep1k8) (fun w' hb hn => ?hp1k8) ?pp1k8 ?gp1k8
        case ep1k8 => (go_simp; constructor <;> with_reducible rfl)
        case hp1k8 => (exact (mshard_any x.key parts hp1 hp2 hkb w').mono (fun e w2 ⟨he, hw⟩ => ⟨he, hw ▸ Below.refl _ _⟩))
        case pp1k8 => (simp only [Act.put, List.setIfInBounds_toArray, List.set_cons_zero, List.set_cons_succ]; with_reducible rfl)
        iterate 11
          first
            | (refine Ps.par_skip (a' := ?_) (by rfl) (by rfl) ?_ ?_ ?_; rotate_left 1; with_reducible rfl; (simp only [Act.put, List.setIfInBounds_toArray, List.set_cons_zero, List.set_cons_succ]; with_reducible rfl))
            | (refine Ps.par_run (a' := ?_) (by rfl) (by rfl) (fun w' hb hn => ?_) ?_ ?_; rotate_left 1; (have p0 := But.cell hb.1 (cell_of h2.out 0) (fun h => h); have p1 := But.cell hb.1 (cell_of h2.out 1) (fun h => h); have p2 := But.cell hb.1 (cell_of h2.out 2) (fun h => h); have p3 := But.cell hb.1 (cell_of h2.out 3) (fun h => h); have p4 := But.cell hb.1 (cell_of h2.out 4) (fun h => h); have p5 := But.cell hb.1 (cell_of h2.out 5) (fun h => h); have q0 := But.cell hb.1 (hB2.out.cell (p := ⟨pb, 0, none⟩) (World.block_lt_of_cell? w0 _ HPB.out) |>.trans HPB.out) (fun h => h); first | (go_simp; (try simp (disch := omega) only [IntWalk.i64_in, IntWalk.i32_in, IntWalk.u64_in, IntWalk.u8_in, IntWalk.u32_in, toNatUp, iteOmega]); with_reducible rfl) | (go_simp; (try simp (disch := omega) only [IntWalk.i64_in, IntWalk.i32_in, IntWalk.u64_in, IntWalk.u8_in, IntWalk.u32_in, toNatUp, iteOmega]); go_simp; with_reducible rfl)); (simp only [Act.put, List.setIfInBounds_toArray, List.set_cons_zero, List.set_cons_succ]; with_reducible rfl))
        refine Ps.par_endW (fun w9 hb9 hf9 hr9 => ?_)
        have B9 := hid hb9.1.grow
        have hB9 := hid (hB2.out.trans (B9.out.mono hB2.out.size))
        have hJ9 := hid (abides_below hJ.out hJ2.out B9.out)
        clear hf9
        clear hb9 hr9
        obtain ⟨fn, tmps, assign, body, hy, hR3⟩ := hY ys (shardV x.key parts, { rec0 with cls := 1, kind := 12, key := x.token, key2 := x.inst, n := x.node, a := x.name, b := x.key }, .slice none 0 0) w9 hJ9.out (EVv.nil _ _) (by have := congrArg List.length Hys.out; have h1 := HP.out; have h2 := pend_len (f := pendSub parts) (l := s.subs) (k + 1); have h3 := congrArg List.length h1; simp only [List.length_map, List.length_append, List.length_cons, List.length_nil] at this h3 hN ⊢; omega)
        have hy2 : (Instr.yield l #[.int .i64 (shardV x.key parts), .agg #[.int .i64 1, .int .i64 12, .int .u64 0, .int .i64 0, U x.token, U x.inst, .int .u64 0, I x.node, .int .i64 0, .string x.name, .string x.key, .string ⟨#[]⟩, .slice none 0 0]]).run Tryz.prog w9 = .ok (.round l fn tmps assign body) w9 := hy
        clear hy
        gi_wp2
        refine hR3.mono ?_
        rintro e W3 (⟨rfl, hJ3, hk3⟩ | ⟨rfl, hJx3⟩)
        · gi_wp2
          go_roundw
          case rel => exact ⟨k + 1, by omega, by simp, ⟨_, by rw [List.map_append, Hys.out, HP.out]; simp [pj], hJ3⟩, hid (hB9.out.trans hk3)⟩
          case measure => simp [intOf]; omega
        · gi_wp2
          refine bodyPost_ret (results_none rfl _ _ _) rfl ?_
          exact ⟨⟨_, rfl⟩, .inr ⟨_, pend_pre1 (by rw [List.map_append, Hys.out]; show _ = _; rw [HP.out]; simp [pj]), hJx3⟩⟩
    · obtain rfl : k = s.subs.length := by omega
      rw [List.take_length] at hys
      have Hys := hid hys
      have HJS := hid hJs
      have k10 := (hR.out.cell (p := ⟨sb, 10, none⟩) (heap_lt HSB.out)).trans (cell_of HSB.out 10)
      clear hys hJs
      gi_wp2
      clear k10
      obtain ⟨WL, rfl⟩ : ∃ WL : World, WL = wr := ⟨_, rfl⟩
      gi_loopw [42] (fun i wr => ∃ k : Nat, k ≤ s.listed.length ∧ i = .int .i64 k ∧ (∃ ys : List Told, ys.map pj = s.subs.flatMap (pendSub parts) ++ (s.listed.take k).flatMap pendLis ∧ J ys wr) ∧ Hid (Below w0.heap.size w0 wr)) (fun i _ => s.listed.length - (intOf i).toNat)
      case atStart => exact ⟨0, Nat.zero_le _, rfl, ⟨ys, by rw [Hys.out]; simp, HJS.out⟩, hR⟩
      case round =>
        clear Hys HJS hR
        obtain ⟨k, hk, rfl, ⟨ys, hys, hJs⟩, hR⟩ := hrel
        by_cases hlt : k < s.listed.length
        · obtain ⟨x, hx⟩ : ∃ x, s.listed[k]? = some x := ⟨_, List.getElem?_eq_getElem hlt⟩
          obtain ⟨bx, ox, cx, hax, -, hrx, hcx⟩ := HLL.out k x hx
          subst hax
          obtain ⟨lv, rfl, hlv⟩ := hrx
          have HLV := hid hlv
          obtain ⟨lva, lvc, rfl, -⟩ := hlv
          have hcel : ∀ j u, ([U x.token, U x.inst, I x.node, .string x.name, .string x.key, U x.msg, .slice lva x.vars.length lvc] : List Value)[j]? = some u → wr.cell? ⟨bx, ox + k * 7 + j, none⟩ = some u := fun j u hu => by
            have h := (sans_cell (hcx j u hu)).1
            exact (hR.out.cell (p := ⟨bx, ox + k * 7 + j, none⟩) (World.block_lt_of_cell? w0 _ h)).trans h
          have c0 := hcel 0 _ rfl
          have c1 := hcel 1 _ rfl
          have c2 := hcel 2 _ rfl
          have c3 := hcel 3 _ rfl
          have c4 := hcel 4 _ rfl
          have c5 := hcel 5 _ rfl
          have c6 := hcel 6 _ rfl
          rw [Nat.add_zero] at c0
          have Hx := hid hx
          have Hys := hid hys
          have HJS := hid hJs
          clear hcel hcx hx hys hJs
          gi_wp2_with fail
          refine wpIn_box1 ?_
          intro W2 h2 B2
          clear c0 c1 c2 c3 c4 c5 c6
          have hB2 := hid (hR.out.trans (B2.out.mono hR.out.size))
          have hJ2 := hid (abides_below hJ.out HJS.out B2.out)
          by_cases hc : x.msg = 0
          · have hc' : ((x.msg : Int) != 0) = false := by rw [hc]; rfl
            rw [hc] at h2
            have hp := pend_skip (f := pendLis) Hx.out (by simp [pendLis, hc])
            have HP := hid hp
            clear hp hc hc'
            clear B2
            refine Ps.wpIn_parW (Ps.relC (fun _ => False) (fun _ _ => False)) (fun _ => True) (false :: false :: false :: false :: false :: false :: false :: false :: false :: false :: false :: false :: false :: false :: false :: false :: false :: false :: []) _ (.fix ?_ :: .fix ?_ :: .fix ?_ :: .fix ?_ :: .fix ?_ :: .fix ?_ :: .fix ?_ :: .fix ?_ :: .fix ?_ :: .fix ?_ :: .fix ?_ :: .fix ?_ :: .fix ?_ :: .fix ?_ :: .fix ?_ :: .fix ?_ :: .fix ?_ :: .fix ?_ :: []) (by kernel_rfl) (by kernel_rfl) (by simp only [List.length_cons, List.length_nil, List.drop_succ_cons, List.drop_zero, List.drop_nil]; with_reducible rfl) rfl (fun _ _ _ _ _ => ⟨fun h => h, fun h => h⟩) (fun _ _ h _ => h) (trivial) (by kernel_rfl) ?_
            rotate_left 18
            iterate 18
              first
                | (refine Ps.par_skip (a' := ?_) (by rfl) (by rfl) ?_ ?_ ?_; rotate_left 1; with_reducible rfl; (simp only [Act.put, List.setIfInBounds_toArray, List.set_cons_zero, List.set_cons_succ]; with_reducible rfl))
                | (refine Ps.par_run (a' := ?_) (by rfl) (by rfl) (fun w' hb hn => ?_) ?_ ?_; rotate_left 1; (have p0 := But.cell hb.1 (cell_of h2.out 0) (fun h => h); have p1 := But.cell hb.1 (cell_of h2.out 1) (fun h => h); have p2 := But.cell hb.1 (cell_of h2.out 2) (fun h => h); have p3 := But.cell hb.1 (cell_of h2.out 3) (fun h => h); have p4 := But.cell hb.1 (cell_of h2.out 4) (fun h => h); have p5 := But.cell hb.1 (cell_of h2.out 5) (fun h => h); have p6 := But.cell hb.1 (cell_of h2.out 6) (fun h => h); first | (go_simp; (try simp (disch := omega) only [IntWalk.i64_in, IntWalk.i32_in, IntWalk.u64_in, IntWalk.u8_in, IntWalk.u32_in, toNatUp, iteOmega]); with_reducible rfl) | (go_simp; (try simp (disch := omega) only [IntWalk.i64_in, IntWalk.i32_in, IntWalk.u64_in, IntWalk.u8_in, IntWalk.u32_in, toNatUp, iteOmega]); go_simp; with_reducible rfl)); (simp only [Act.put, List.setIfInBounds_toArray, List.set_cons_zero, List.set_cons_succ]; with_reducible rfl))
            refine Ps.par_endW (fun w9 hb9 hf9 hr9 => ?_)
            have B9 := hid hb9.1.grow
            have hB9 := hid (hB2.out.trans (B9.out.mono hB2.out.size))
            have hJ9 := hid (abides_below hJ.out hJ2.out B9.out)
            clear hb9 hf9 hr9
            gi_wp2
            refine ⟨fun _ _ => trivial, ?_⟩
            gi_wp2
            go_roundw
            case rel => exact ⟨k + 1, by omega, by simp, ⟨ys, by rw [Hys.out, HP.out], hJ9.out⟩, hB9⟩
            case measure => simp [intOf]; omega
          · have hcz : (x.msg : Int) ≠ 0 := by omega
            have hp : pendLis x = [(homeV x.token, { rec0 with cls := 1, kind := 14, key := x.token, n := x.node, key2 := x.msg, vars := x.vars })] := by unfold pendLis; rw [if_neg hc]
            have HP := hid (pend_step (f := pendLis) Hx.out hp)
            have hkb := hlis _ (List.mem_of_getElem? Hx.out)
            have HNZ := hid hc
            clear hp hc
            clear B2
            refine Ps.wpIn_parW (Ps.relC (fun _ => False) (fun _ _ => False)) (fun _ => True) (false :: false :: false :: false :: false :: false :: false :: false :: false :: false :: false :: false :: false :: false :: false :: false :: true :: false :: []) _ (.fix ?_ :: .fix ?_ :: .fix (.bool true) :: .fix ?_ :: .fix ?_ :: .fix ?_ :: .fix ?_ :: .fix (I (homeV x.token)) :: .fix ?_ :: .fix ?_ :: .fix ?_ :: .fix ?_ :: .fix ?_ :: .fix ?_ :: .fix ?_ :: .fix ?_ :: .st (some x.vars.length) (fun u W => EVv S u x.vars W) (fun _ _ => True) :: .new (fun u W => ∃ v, u = .agg #[.int .i64 1, .int .i64 14, .int .u64 0, .int .i64 0, U x.token, U x.msg, .int .u64 0, I x.node, .int .i64 0, .string ⟨#[]⟩, .string ⟨#[]⟩, .string ⟨#[]⟩, v] ∧ EVv S v x.vars W) :: []) (by kernel_rfl) (by kernel_rfl) (by simp only [List.length_cons, List.length_nil, List.drop_succ_cons, List.drop_zero, List.drop_nil]; with_reducible rfl) rfl (fun _ _ _ _ _ => ⟨fun h => h, fun h => h⟩) (fun _ _ h _ => h) (trivial) (by kernel_rfl) ?_
            rotate_left 14
            iterate 2
              first
                | (refine Ps.par_skip (a' := ?_) (by rfl) (by rfl) ?_ ?_ ?_; rotate_left 1; with_reducible rfl; (simp only [Act.put, List.setIfInBounds_toArray, List.set_cons_zero, List.set_cons_succ]; with_reducible rfl))
                | (refine Ps.par_run (a' := ?_) (by rfl) (by rfl) (fun w' hb hn => ?_) ?_ ?_; rotate_left 1; (have p0 := But.cell hb.1 (cell_of h2.out 0) (fun h => h); have p1 := But.cell hb.1 (cell_of h2.out 1) (fun h => h); have p2 := But.cell hb.1 (cell_of h2.out 2) (fun h => h); have p3 := But.cell hb.1 (cell_of h2.out 3) (fun h => h); have p4 := But.cell hb.1 (cell_of h2.out 4) (fun h => h); have p5 := But.cell hb.1 (cell_of h2.out 5) (fun h => h); have p6 := But.cell hb.1 (cell_of h2.out 6) (fun h => h); first | (go_simp; (try simp (disch := omega) only [IntWalk.i64_in, IntWalk.i32_in, IntWalk.u64_in, IntWalk.u8_in, IntWalk.u32_in, toNatUp, iteOmega]); with_reducible rfl) | (go_simp; (try simp (disch := omega) only [IntWalk.i64_in, IntWalk.i32_in, IntWalk.u64_in, IntWalk.u8_in, IntWalk.u32_in, toNatUp, iteOmega]); go_simp; with_reducible rfl)); (simp only [Act.put, List.setIfInBounds_toArray, List.set_cons_zero, List.set_cons_succ]; with_reducible rfl))
            refine Ps.par_run (a' := ?ap2k2) (by rfl) (by rfl) (fun w' hb hn => ?hp2k2) ?pp2k2 ?gp2k2
            case hp2k2 => ((go_simp; exact HNZ.out))
            case pp2k2 => (simp only [Act.put, List.setIfInBounds_toArray, List.set_cons_zero, List.set_cons_succ]; with_reducible rfl)
            iterate 4
              first
                | (refine Ps.par_skip (a' := ?_) (by rfl) (by rfl) ?_ ?_ ?_; rotate_left 1; with_reducible rfl; (simp only [Act.put, List.setIfInBounds_toArray, List.set_cons_zero, List.set_cons_succ]; with_reducible rfl))
                | (refine Ps.par_run (a' := ?_) (by rfl) (by rfl) (fun w' hb hn => ?_) ?_ ?_; rotate_left 1; (have p0 := But.cell hb.1 (cell_of h2.out 0) (fun h => h); have p1 := But.cell hb.1 (cell_of h2.out 1) (fun h => h); have p2 := But.cell hb.1 (cell_of h2.out 2) (fun h => h); have p3 := But.cell hb.1 (cell_of h2.out 3) (fun h => h); have p4 := But.cell hb.1 (cell_of h2.out 4) (fun h => h); have p5 := But.cell hb.1 (cell_of h2.out 5) (fun h => h); have p6 := But.cell hb.1 (cell_of h2.out 6) (fun h => h); first | (go_simp; (try simp (disch := omega) only [IntWalk.i64_in, IntWalk.i32_in, IntWalk.u64_in, IntWalk.u8_in, IntWalk.u32_in, toNatUp, iteOmega]); with_reducible rfl) | (go_simp; (try simp (disch := omega) only [IntWalk.i64_in, IntWalk.i32_in, IntWalk.u64_in, IntWalk.u8_in, IntWalk.u32_in, toNatUp, iteOmega]); go_simp; with_reducible rfl)); (simp only [Act.put, List.setIfInBounds_toArray, List.set_cons_zero, List.set_cons_succ]; with_reducible rfl))
            refine Ps.par_call (a' := ?ap3k7) (f := ?fp3k7) (args := ?rp3k7) (by rfl) (by rfl) (fun w' => ?ep3k7) (fun w' hb hn => ?hp3k7) ?pp3k7 ?gp3k7
            case ep3k7 => (go_simp; constructor <;> with_reducible rfl)
            case hp3k7 => (exact (mhome_any x.token hkb.1 w').mono (fun e w2 ⟨he, hw⟩ => ⟨he, hw ▸ Below.refl _ _⟩))
            case pp3k7 => (simp only [Act.put, List.setIfInBounds_toArray, List.set_cons_zero, List.set_cons_succ]; with_reducible rfl)
            iterate 8
              first
                | (refine Ps.par_skip (a' := ?_) (by rfl) (by rfl) ?_ ?_ ?_; rotate_left 1; with_reducible rfl; (simp only [Act.put, List.setIfInBounds_toArray, List.set_cons_zero, List.set_cons_succ]; with_reducible rfl))
                | (refine Ps.par_run (a' := ?_) (by rfl) (by rfl) (fun w' hb hn => ?_) ?_ ?_; rotate_left 1; (have p0 := But.cell hb.1 (cell_of h2.out 0) (fun h => h); have p1 := But.cell hb.1 (cell_of h2.out 1) (fun h => h); have p2 := But.cell hb.1 (cell_of h2.out 2) (fun h => h); have p3 := But.cell hb.1 (cell_of h2.out 3) (fun h => h); have p4 := But.cell hb.1 (cell_of h2.out 4) (fun h => h); have p5 := But.cell hb.1 (cell_of h2.out 5) (fun h => h); have p6 := But.cell hb.1 (cell_of h2.out 6) (fun h => h); first | (go_simp; (try simp (disch := omega) only [IntWalk.i64_in, IntWalk.i32_in, IntWalk.u64_in, IntWalk.u8_in, IntWalk.u32_in, toNatUp, iteOmega]); with_reducible rfl) | (go_simp; (try simp (disch := omega) only [IntWalk.i64_in, IntWalk.i32_in, IntWalk.u64_in, IntWalk.u8_in, IntWalk.u32_in, toNatUp, iteOmega]); go_simp; with_reducible rfl)); (simp only [Act.put, List.setIfInBounds_toArray, List.set_cons_zero, List.set_cons_succ]; with_reducible rfl))
            refine Ps.par_stc (a' := ?ap4k16) (f := ?fp4k16) (args := ?rp4k16) (by rfl) (by rfl) (fun w' => ?ep4k16) (fun _ _ _ h hb => h.grow hb.1.grow) (fun _ _ _ _ _ => trivial) (fun w' hb hn hr => ?hp4k16) (fun u => ?pp4k16) (fun u16 hu16 => ?gp4k16)
            case ep4k16 => (go_simp; constructor <;> with_reducible rfl)
            case hp4k16 => (refine (cloneVars_typed (S := S) w' (HLV.out.below (sans_grow (hB2.out.trans (hb.1.grow.mono hB2.out.size)))) sees_seen hkb.2 (fun b h => Nat.lt_of_lt_of_le (hS b h) (Nat.le_trans hB2.out.size hb.1.grow.size))).mono ?_; rintro e w2 ⟨v', he, h1, h2⟩; exact ⟨v', he, vars_shape h1.1, h1, (Ps.relC (fun _ => False) (fun _ _ => False)).of _ _ h2, trivial⟩)
            case pp4k16 => (simp only [Act.put, List.setIfInBounds_toArray, List.set_cons_zero, List.set_cons_succ]; with_reducible rfl)
            obtain ⟨au16, cu16, rfl⟩ := hu16
            refine Ps.par_val (a' := ?ap5k17) (by rfl) (by rfl) (fun _ _ _ ⟨v, hu, h⟩ hb => ⟨v, hu, h.grow hb.1.grow⟩) (fun w' hb hn => ?hp5k17) (fun u => ?pp5k17) (fun u => ?gp5k17)
            case hp5k17 => (have hq := Ps.need_head hn (by kernel_rfl); exact ⟨_, w', (by go_simp; try with_reducible rfl), ⟨_, rfl, hq⟩, Below.refl _ _⟩)
            case pp5k17 => (simp only [Act.put, List.setIfInBounds_toArray, List.set_cons_zero, List.set_cons_succ]; with_reducible rfl)
            refine Ps.par_endW (fun w9 hb9 hf9 hr9 => ?_)
            have B9 := hid hb9.1.grow
            have hB9 := hid (hB2.out.trans (B9.out.mono hB2.out.size))
            have hJ9 := hid (abides_below hJ.out hJ2.out B9.out)
            simp only [List.forall_mem_cons] at hf9
            obtain ⟨⟨v9, rfl, hf9⟩, -⟩ := hf9
            have HF9 := hid hf9
            clear hf9
            clear hb9 hr9
            obtain ⟨fn, tmps, assign, body, hy, hR3⟩ := hY ys (homeV x.token, { rec0 with cls := 1, kind := 14, key := x.token, n := x.node, key2 := x.msg, vars := x.vars }, v9) w9 hJ9.out HF9.out (by have := congrArg List.length Hys.out; have h1 := HP.out; have h2 := pend_len (f := pendLis) (l := s.listed) (k + 1); have h3 := congrArg List.length h1; simp only [List.length_map, List.length_append, List.length_cons, List.length_nil] at this h3 hN ⊢; omega)
            have hy2 : (Instr.yield l #[.int .i64 (homeV x.token), .agg #[.int .i64 1, .int .i64 14, .int .u64 0, .int .i64 0, U x.token, U x.msg, .int .u64 0, I x.node, .int .i64 0, .string ⟨#[]⟩, .string ⟨#[]⟩, .string ⟨#[]⟩, v9]]).run Tryz.prog w9 = .ok (.round l fn tmps assign body) w9 := hy
            clear hy
            gi_wp2
            refine hR3.mono ?_
            rintro e W3 (⟨rfl, hJ3, hk3⟩ | ⟨rfl, hJx3⟩)
            · gi_wp2
              go_roundw
              case rel => exact ⟨k + 1, by omega, by simp, ⟨_, by rw [List.map_append, Hys.out, HP.out]; simp [pj], hJ3⟩, hid (hB9.out.trans hk3)⟩
              case measure => simp [intOf]; omega
            · gi_wp2
              refine bodyPost_ret (results_none rfl _ _ _) rfl ?_
              exact ⟨⟨_, rfl⟩, .inr ⟨_, pend_pre2 (by rw [List.map_append, Hys.out]; show _ = _; rw [HP.out]; simp [pj]), hJx3⟩⟩
        · obtain rfl : k = s.listed.length := by omega
          gi_wp2
          go_end0
          exact ⟨⟨_, rfl⟩, .inl ⟨ys, by rw [hys, List.take_length]; rfl, hJs⟩⟩
end Go.Proofs.YtjkbfoeakeoeiaaGreat
