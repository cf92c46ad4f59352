/- Keep: contracts (Kr Ks Kt Ap). -/
import Derived.Test.YthikijlbclckdaaGreatT5
import Derived.Test.YthikijlbclckdaaGreatT11
import Derived.Test.YthikijlbclckdaaGreatT12
import Derived.Test.YthikijlbclckdaaGreatT13
import Derived.RangeFuncNested
import Derived.RangeFuncBound
import Derived.RangeFuncCalls
import Derived.RangeFuncLeaves
import Derived.RangeFuncBox
import Derived.Shelf.Abstract
import Derived.Shelf.RegionOpen
import Derived.WalkKit
import Derived.OwnWalkIn
import Derived.TacticsInMore
import Derived.LoopNIn
import Derived.LoopIn
import Derived.Maps.AppendAt
import Derived.ArgAppend
namespace Go.Proofs.YthikijlbclckdaaGreat
set_option maxRecDepth 100000
set_option maxHeartbeats 40000000
set_option linter.unusedSimpArgs false
set_option linter.unusedVariables false
open Go.RowKit Go.Shelf
attribute [local go_sem] Oper.semAt_some
theorem take_snoc {α : Type} {l : List α} {i : Nat} {x : α} (h : l[i]? = some x) : l.take (i + 1) = l.take i ++ [x] := by
 rw [List.take_add_one, h]; rfl
theorem grown_new (w : World) (o : Obj) : w.grownBy (w.alloc o) none := World.grownBy_alloc w o none
theorem rowsIt_in (n : Nat) (hn : 1 ≤ n) (l lc : Nat) (w0 : World) (v : Value) (rs : List RowV) (hlc : w0.cell? ⟨lc, 0, none⟩ = some v) (hv : rowsF rs v w0) (hmax : rs.length ≤ 4194304) (J Jx : List RowV → World → Prop) (W : World) (hW : Below w0.heap.size w0 W) (hJ : AbidesFrom W.heap.size J)
  (hY : ∀ pre x W1, J pre W1 → pre.length < rs.length → YieldAt Fence.wide (n - 1) Tryz.prog l #[.string x.1, .string x.2] W1 fun e W' =>
   (e = .returned (.bool true) ∧ J (pre ++ [x]) W' ∧ Below w0.heap.size W1 W') ∨ (e = .returned (.bool false) ∧ Jx (pre ++ [x]) W'))
  (h0 : J [] W) :
  CallsIn Fence.wide n Tryz.prog 27 #[.func (.yield l) #[] #[], .pointer (some ⟨lc, 0, none⟩)] W fun e W' => (∃ v, e = .returned v) ∧
   ((∃ ys, ys = rs ∧ J ys W') ∨ (∃ pre, pre <+: rs ∧ Jx pre W')) := by
 have HV := hid hv
 have HW := hid hW
 have hBs : W.cell? ⟨lc, 0, none⟩ = some v := (hW.cell (p := ⟨lc, 0, none⟩) (World.block_lt_of_cell? w0 _ hlc)).trans hlc
 obtain ⟨a, cap, rfl, hlc1, hlm, -⟩ := hv
 unfold maxLen at hlm
 clear hW
 refine callsIn_of_wp Tryz.func27 rfl trivial ?_ rfl
 simp only [Tryz.ntmps27, List.size_toArray, List.length_cons, List.length_nil, Nat.reduceAdd, Nat.reduceSub, Array.replicate_succ, Array.replicate_zero, List.push_toArray, List.append_toArray, List.nil_append, List.cons_append]
 gi_wp2
 gi_loopw [7] (fun i wr => ∃ k : Nat, k ≤ rs.length ∧ i = .int .i64 k ∧ J (rs.take k) wr ∧ Hid (Below w0.heap.size w0 wr))
  (fun i _ => rs.length - (intOf i).toNat)
 case atStart => exact ⟨0, Nat.zero_le _, rfl, h0, HW⟩
 case round =>
  obtain ⟨k, hk, rfl, hJs, hR⟩ := hrel
  by_cases hlt : k < rs.length
  ·
   obtain ⟨⟨rk, rv⟩, hx⟩ : ∃ x, rs[k]? = some x := ⟨_, List.getElem?_eq_getElem hlt⟩
   obtain ⟨b, off, cap', he, c0, c1⟩ := rows_at (rowsF_st _ _ _ _ HV.out hR.out) hx
   cases he
   dsimp only at c0 c1
   have hJ' : J (rs.take k) (wr.alloc (.cells #[.string rk, .string rv] 69)) := hJ _ _ _ none hJs (grown_new _ _) (fun r e => by cases e)
   have hR' := hid (hR.out.alloc hR.out.size (.cells #[.string rk, .string rv] 69))
   obtain ⟨fn, tmps, assign, body, hy, hR3⟩ := hY _ (rk, rv) _ hJ' (by rw [List.length_take]; omega)
   dsimp only at hy
   have Hx := hid hx
   clear hx
   gi_wp2
   refine hR3.mono ?_
   rintro e W3 (⟨rfl, hJ3, hk3⟩ | ⟨rfl, hJx3⟩)
   ·
    gi_wp2
    go_roundw
    case rel => exact ⟨k + 1, by omega, by simp, by rw [take_snoc Hx.out]; exact hJ3, hid (hR'.out.trans hk3)⟩
    case measure => simp [intOf]; omega
   ·
    gi_wp2
    refine bodyPost_ret (results_none rfl _ _ _) rfl ?_
    exact ⟨⟨_, rfl⟩, .inr ⟨rs.take (k + 1), List.take_prefix _ _, by rw [take_snoc Hx.out]; exact hJx3⟩⟩
  ·
   obtain rfl : k = rs.length := by omega
   gi_wp2
   go_end0
   exact ⟨⟨_, rfl⟩, .inl ⟨_, rfl, by rw [List.take_length] at hJs; exact hJs⟩⟩
theorem rows_stops (n : Nat) (hn : 1 ≤ n) (lc : Nat) (w : World) (v : Value) (rs : List RowV) (n₀ : Nat) (w0 : World) (hn₀ : n₀ = w0.heap.size) (hw : Below w0.heap.size w0 w) (hlc : w0.cell? ⟨lc, 0, none⟩ = some v) (hv : rowsF rs v w0) (hmax : rs.length ≤ 4194304) :
  SeqStopsK Fence.wide n Tryz.prog 27 #[.pointer (some ⟨lc, 0, none⟩)] (fun x : RowV => #[.string x.1, .string x.2]) (Below n₀) (fun ys => ys = rs) (fun pre => pre <+: rs) rs.length w := fun l J Jx W hW hJ _ hY h0 => by
 subst hn₀
 exact rowsIt_in n hn l lc w0 v rs hlc hv hmax J Jx W (hw.trans (hW.mono hw.size)) hJ hY h0
theorem infoT : (Tryz.prog.info? 46).map (fun i => (i.zero, i.size, i.bytes)) = some (some (.agg #[.string ⟨#[]⟩, .string ⟨#[]⟩]), 2, 32) := by kernel_rfl
theorem cell_two_new (w : World) (x y : Value) (t : TypeId) : ∀ j u, [x, y][j]? = some u → (w.alloc (.cells #[x, y] t)).cell? ((⟨w.heap.size, 0, none⟩ : Addr).add j) = some u := by
 intro j u hj
 match j, hj with
 | 0, hj =>
  simp at hj
  subst hj
  exact cell_of (alloc_new w (.cells #[x, y] t)) 0
 | 1, hj =>
  simp at hj
  subst hj
  exact cell_of (alloc_new w (.cells #[x, y] t)) 1
theorem told_in (n : Nat) (hn : 3 ≤ n) (lc : Nat) (rs : List RowV) (v : Value) (w : World) (hlc : w.cell? ⟨lc, 0, none⟩ = some v) (hv : rowsF rs v w) (hmax : rs.length ≤ 4194304) :
  CallsIn Fence.wide n Tryz.prog 11 #[.func (.func 27) #[] #[.pointer (some ⟨lc, 0, none⟩)]] w fun e w' => ∃ u, e = .returned u ∧ rowsF rs u w' ∧ Below w.heap.size w w' := by
 have h1 : 1 ≤ n := by omega
 have hro : Fence.wide.round = none := rfl
 obtain ⟨i0, hi, hz0, hz1, hz2⟩ := info_parts infoT
 refine callsIn_of_wp_marks Tryz.func11 rfl trivial ?_ hro
 simp only [Tryz.ntmps11, List.size_toArray, List.length_cons, List.length_nil, Nat.reduceAdd, Nat.reduceSub, Array.replicate_succ, Array.replicate_zero, List.push_toArray, List.append_toArray, List.nil_append, List.cons_append]
 gi_wp2
 have bO := Boxed.new w 35 (.slice none 0 0)
 have hB0 : Below w.heap.size w (w.alloc (.cells #[.slice none 0 0] 35)) := (Below.refl _ w).alloc (Nat.le_refl _) _
 refine wpIn_rangeFunc_ownG hro h1 (gf := 27) (lb := #[.pointer (some ⟨lc, 0, none⟩)]) rfl trivial (enters_of Tryz.func27 (by kernel_rfl) rfl)
  (rows_stops (n - 1) (by omega) lc _ v rs w.heap.size w rfl hB0 hlc hv hmax) belowK_t (belowK_b (by simp)) (Below.refl _ _) (fun _ => rfl)
  (fun pre W => (∃ v, Boxed W w.heap.size 35 v ∧ W.ownsRow w.heap.size 46 2 v pre.length (rowsC pre) ∧ True) ∧ Below w.heap.size w W)
  (fun _ _ _ => False)
  (OwnFrom.and (Own.from (holdsRow_own w.heap.size w.heap.size 35 46 2 (fun pre : List RowV => pre.length) rowsC (fun _ _ => True)) _) (ownFrom_below (Nat.le_refl _) (by simp)))
  (fun _ _ _ _ _ hs _ _ => hs)
  ⟨⟨_, bO, World.ownsRow_nil _ _ _ _, trivial⟩, hB0⟩
  (fun x => { tmps := #[.func (.func 27) #[] #[.pointer (some ⟨lc, 0, none⟩)], undef, .slice none 0 0, .pointer (some ⟨w.heap.size, 0, none⟩), .string x.1, .string x.2, .func (.func 27) #[] #[.pointer (some ⟨lc, 0, none⟩)], .string x.1, .string x.2, undef, undef, undef, undef, undef, undef, undef], defers := [] }) ?assign ?body ?done ?stop
 case assign =>
  intro l x W K hK
  gi_wp2
  exact hK
 case body =>
  rintro l pre x W ⟨⟨v, hv, hrow, -⟩, hB⟩ hlt
  have hc := hv.cell
  gi_wp2_with (gi_at_builtin; refine wpListIn_append_own _ rfl _ _ 35 rfl w.heap.size 46 i0 (.agg #[.string ⟨#[]⟩, .string ⟨#[]⟩]) 2 32 Tryz.underlying35 hi hz0 hz1 hz2 rfl (by decide) _ _ _ rfl (hrow.alloc _) ⟨W.heap.size, 0, none⟩ 1 1 [.string x.1, .string x.2] rfl rfl (cell_two_new _ _ _ _) (by simp [Value.oneCell']) (by unfold maxLen; omega) (by omega) (by have := hB.size; simp; omega) ?_; intro v' w1 hown' hgrow _; obtain ⟨g', cap', rfl⟩ := ownsRow_succ hown'; obtain ⟨hv1, hv2, hr2, hk2, hb2⟩ := hv.appended (by decide) hrow hB.size (Nat.le_refl _) hown' hgrow; have hc1 := hv1.cell; have hf1 := hv1.frozen)
  exact ⟨hk2.from _, hb2, ⟨_, hv2, by rw [rowsC_snoc]; simpa [rowC] using hr2, trivial⟩, hB.trans hb2⟩
 case done =>
  rintro D ys W hD rfl ⟨⟨v, hv, hrow, -⟩, hB⟩ hK
  have hc := hv.cell
  have hown := ownsRow_putObj hrow (.deferred none) hK rfl
  obtain ⟨a, cap, rfl⟩ : ∃ a cap, v = .slice a ys.length cap := by
   obtain ⟨a, cap, e, -⟩ := FlatAt.of_own hrow
   exact ⟨a, cap, e⟩
  gi_wp2
  refine ⟨by simp, .inl ⟨_, _, rfl, run_takeDeferred hK, ?_⟩⟩
  exact ⟨_, results_tmp rfl _ _ _, _, rfl, FlatAt.of_own hown, hB.trans (belowK_b (w := w) (Nat.le_refl _) W D _ _ (by simp at hD; omega) hK rfl rfl)⟩
 case stop =>
  rintro D c pre W _ _ h _
  exact h.elim
theorem told_any (lc : Nat) (rs : List RowV) (v : Value) (w : World) (hlc : w.cell? ⟨lc, 0, none⟩ = some v) (hv : rowsF rs v w) (hmax : rs.length ≤ 4194304) :
  Calls Tryz.prog 11 #[.func (.func 27) #[] #[.pointer (some ⟨lc, 0, none⟩)]] w fun e w' => ∃ u, e = .returned u ∧ rowsF rs u w' ∧ Below w.heap.size w w' :=
 (callsIn_wide (n := 3)).1 (told_in 3 (by omega) lc rs v w hlc hv hmax)
end Go.Proofs.YthikijlbclckdaaGreat
namespace Go.Proofs.YthikijlbclckdaaGreat
set_option maxRecDepth 100000
set_option maxHeartbeats 40000000
set_option linter.unusedSimpArgs false
set_option linter.unusedVariables false
open Go.IntWalk Go.RowKit
theorem keyS_sz0 (c : UInt8) (k : Nat) : (keyS (c1 c) k []).size = 9 := by
 simp only [keyS, List.foldl_nil, ByteArray.size_append, bigS_size]
 rfl
theorem keyS_sz1 (c : UInt8) (k : Nat) (n : Int) : (keyS (c1 c) k [n]).size = 11 := by
 simp only [keyS, List.foldl_cons, List.foldl_nil, ByteArray.size_append, bigS_size]
 rfl
theorem rowsSz (s : StateV) (h : StateOk s) : RowsSz (rows s) := by
 intro r hr
 unfold rows lists at hr
 simp only [List.flatten_cons, List.flatten_nil, List.append_nil, List.mem_append, List.mem_map, List.mem_singleton] at hr
 rcases hr with rfl | ⟨x, hx, rfl⟩ | ⟨x, hx, rfl⟩ | ⟨x, hx, rfl⟩ | ⟨x, hx, rfl⟩ | ⟨x, hx, rfl⟩ | ⟨x, hx, rfl⟩ | ⟨x, hx, rfl⟩ | ⟨x, hx, rfl⟩ | ⟨x, hx, rfl⟩
 ·
  have h1 := uvS_le h.pos
  have h2 := uvS_le h.done
  have h3 := uvS_le h.made
  simp only [rowA, ByteArray.size_append]
  exact ⟨by simp [c1, ByteArray.size], by omega⟩
 ·
  have o := h.msgs x hx
  have h1 := txS_le o.name
  have h2 := txS_le o.for_
  have h3 := txS_le o.id
  have h4 := inS_le o.till
  have h5 := varsS_le o.vars
  have h6 : (uvS x.insts.length).size ≤ 10 := uvS_le (by have := o.many; unfold U64; omega)
  have h7 := o.many
  have h8 := foldS_le uvS 10 x.insts (fun y hy => uvS_le (o.insts y hy)) (txS x.name ++ txS x.for_ ++ txS x.id ++ inS x.till ++ varsS x.vars ++ uvS x.insts.length)
  simp only [ByteArray.size_append] at h8
  simp only [rowG, keyS_sz0]
  exact ⟨by omega, by omega⟩
 ·
  have o := h.insts x hx
  have h1 := txS_le o.id
  have h5 := varsS_le o.vars
  simp only [rowI, keyS_sz0, ByteArray.size_append]
  exact ⟨by omega, by omega⟩
 ·
  have o := h.jobs x hx
  have h1 := uvS_le o.token
  have h2 := txS_le o.type
  have h3 := inS_le o.retries
  have h4 := txS_le o.worker
  have h5 := inS_le o.till
  simp only [rowJ, keyS_sz0, ByteArray.size_append]
  exact ⟨by omega, by omega⟩
 ·
  have o := h.kept x hx
  have h1 := uvS_le o.msg
  simp only [rowK, keyS_sz1]
  exact ⟨by omega, by omega⟩
 ·
  have o := h.listed x hx
  have h1 := uvS_le o.inst
  have h2 := txS_le o.name
  have h3 := txS_le o.key
  have h4 := uvS_le o.msg
  have h5 := varsS_le o.vars
  simp only [rowL, keyS_sz1, ByteArray.size_append]
  exact ⟨by omega, by omega⟩
 ·
  have o := h.procs x hx
  have h1 := txS_le o.bytes
  have h2 : x.id.size ≤ 2097152 := o.id
  have h3 : (c1 112).size = 1 := rfl
  simp only [rowP, ByteArray.size_append]
  exact ⟨by omega, by omega⟩
 ·
  have o := h.timers x hx
  have h1 := inS_le o.when_
  simp only [rowR, keyS_sz1]
  exact ⟨by omega, by omega⟩
 ·
  have o := h.subs x hx
  have h1 := uvS_le o.inst
  have h2 := txS_le o.name
  have h3 := txS_le o.key
  have h4 : (inS (b01 x.is)).size ≤ 10 := inS_le (by unfold b01 I64; cases x.is <;> decide)
  simp only [rowS, keyS_sz1, ByteArray.size_append]
  exact ⟨by omega, by omega⟩
 ·
  have o := h.tokens x hx
  have h1 := uvS_le o.inst
  have h2 := uvS_le o.scope
  have h3 := inS_le o.node
  have h4 := inS_le o.by_
  have h5 := txS_le o.stuck
  simp only [rowT, keyS_sz0, ByteArray.size_append]
  exact ⟨by omega, by omega⟩
theorem rows_len {s : StateV} (h : StateOk s) : (rows s).length ≤ 4194304 := by
 have h1 := rows_many h
 have h2 : totL (lists s) (lists s).length = (rows s).length := by unfold totL rows; rw [List.take_length]
 rw [← h2]; exact h1
theorem rsmay_any (s : StateV) (hok : StateOk s) (cs : List Value) (vp vi vt vj vr vs vk vl vm : Value) (w : World) (h : StateAt w cs s vp vi vt vj vr vs vk vl vm) :
  Calls Tryz.prog 16 #[.agg cs.toArray] w fun e w' => e = .returned (.bool (mayB s)) ∧ Below w.heap.size w w' := by
 have H := hid h
 have Hok := hid hok
 have Hsz := hid (rowsSz s hok)
 obtain ⟨hcs, hp, hi, ht, hj, hr, hs, hk, hl, hm⟩ := h
 obtain ⟨ap, cp, rfl, -⟩ := hp
 obtain ⟨ai, ci, rfl, -⟩ := hi
 obtain ⟨at_, ct, rfl, -⟩ := ht
 obtain ⟨aj, cj, rfl, -⟩ := hj
 obtain ⟨ar, cr, rfl, -⟩ := hr
 obtain ⟨as_, cs_, rfl, -⟩ := hs
 obtain ⟨ak, ck, rfl, -⟩ := hk
 obtain ⟨al, cl, rfl, -⟩ := hl
 obtain ⟨am, cm, rfl, -⟩ := hm
 subst hcs
 clear hok
 go_enter Tryz.func16, Tryz.ntmps16
 go_wp2_with fail
 have hst := hid (alloc_new w (.cells #[U s.pos, U s.done, U s.made, .slice ap s.procs.length cp, .slice ai s.insts.length ci, .slice at_ s.tokens.length ct, .slice aj s.jobs.length cj, .slice ar s.timers.length cr, .slice as_ s.subs.length cs_, .slice ak s.kept.length ck, .slice al s.listed.length cl, .slice am s.msgs.length cm] 33))
 have hB0 := hid ((Below.refl _ w).alloc (Nat.le_refl _) (.cells #[U s.pos, U s.done, U s.made, .slice ap s.procs.length cp, .slice ai s.insts.length ci, .slice at_ s.tokens.length ct, .slice aj s.jobs.length cj, .slice ar s.timers.length cr, .slice as_ s.subs.length cs_, .slice ak s.kept.length ck, .slice al s.listed.length cl, .slice am s.msgs.length cm] 33))
 have hlt0 : w.heap.size < (w.alloc (.cells #[U s.pos, U s.done, U s.made, .slice ap s.procs.length cp, .slice ai s.insts.length ci, .slice at_ s.tokens.length ct, .slice aj s.jobs.length cj, .slice ar s.timers.length cr, .slice as_ s.subs.length cs_, .slice ak s.kept.length ck, .slice al s.listed.length cl, .slice am s.msgs.length cm] 33)).heap.size := by simp
 generalize w.alloc (.cells #[U s.pos, U s.done, U s.made, .slice ap s.procs.length cp, .slice ai s.insts.length ci, .slice at_ s.tokens.length ct, .slice aj s.jobs.length cj, .slice ar s.timers.length cr, .slice as_ s.subs.length cs_, .slice ak s.kept.length ck, .slice al s.listed.length cl, .slice am s.msgs.length cm] 33) = w0 at hst hB0 hlt0 ⊢
 refine (running_any s Hok.out [U s.pos, U s.done, U s.made, .slice ap s.procs.length cp, .slice ai s.insts.length ci, .slice at_ s.tokens.length ct, .slice aj s.jobs.length cj, .slice ar s.timers.length cr, .slice as_ s.subs.length cs_, .slice ak s.kept.length ck, .slice al s.listed.length cl, .slice am s.msgs.length cm] _ _ _ _ _ _ _ _ _ w0 (H.out.grow hB0.out)).mono ?_
 rintro e w1 ⟨rfl, b1⟩
 have hst1 := hid ((b1.block w.heap.size hlt0).trans hst.out)
 have hB1 := hid (hB0.out.trans (b1.mono hB0.out.size))
 clear b1 hst
 obtain ⟨k0, k1, k2, k3, k4, k5, k6, k7, k8, k9, k10, k11⟩ := cells12 hst1.out
 go_wp2_with fail
 clear k0 k1 k2 k3 k4 k5 k6 k7 k8 k9 k10 k11
 have hlt1 : w.heap.size < w1.heap.size := heap_lt hst1.out
 refine (waiting_any s Hok.out [U s.pos, U s.done, U s.made, .slice ap s.procs.length cp, .slice ai s.insts.length ci, .slice at_ s.tokens.length ct, .slice aj s.jobs.length cj, .slice ar s.timers.length cr, .slice as_ s.subs.length cs_, .slice ak s.kept.length ck, .slice al s.listed.length cl, .slice am s.msgs.length cm] _ _ _ _ _ _ _ _ _ w1 (H.out.grow hB1.out)).mono ?_
 rintro e w2 ⟨rfl, b2⟩
 have hst2 := hid ((b2.block w.heap.size hlt1).trans hst1.out)
 have hB2 := hid (hB1.out.trans (b2.mono hB1.out.size))
 clear b2 hst1
 cases hbr : runB s with
 | false =>
  have E : Hid (mayB s = false) := by show _ = _; simp [mayB, ← runWait, hbr]
  clear hbr
  go_wp2
  go_ret
  rw [E.out]
  exact ⟨rfl, hB2.out⟩
 | true =>
  cases hbw : waitB s with
  | false =>
   have E : Hid (mayB s = false) := by show _ = _; simp [mayB, ← runWait, hbw]
   clear hbr hbw
   go_wp2
   go_ret
   rw [E.out]
   exact ⟨rfl, hB2.out⟩
  | true =>
   have E0 : Hid (∀ b, rowsB (rows s) = b → mayB s = b) := by
    intro b hb
    simp [mayB, ← runWait, hbr, hbw, hb]
   clear hbr hbw
   obtain ⟨k0, k1, k2, k3, k4, k5, k6, k7, k8, k9, k10, k11⟩ := cells12 hst2.out
   go_wp2_with fail
   clear k0 k1 k2 k3 k4 k5 k6 k7 k8 k9 k10 k11
   refine (rall_any s Hok.out [U s.pos, U s.done, U s.made, .slice ap s.procs.length cp, .slice ai s.insts.length ci, .slice at_ s.tokens.length ct, .slice aj s.jobs.length cj, .slice ar s.timers.length cr, .slice as_ s.subs.length cs_, .slice ak s.kept.length ck, .slice al s.listed.length cl, .slice am s.msgs.length cm] _ _ _ _ _ _ _ _ _ w2 (H.out.grow hB2.out)).mono ?_
   rintro e w3 ⟨u, rfl, hf, b3⟩
   have hB3 := hid (hB2.out.trans (b3.mono hB2.out.size))
   have HF := hid hf
   generalize rows s = l at HF hf E0 Hsz
   obtain ⟨ao, co, rfl, hlc, hlm, -⟩ := hf
   unfold maxLen at hlm
   clear b3
   go_wp2
   go_loopw [6] (fun vi wr => ∃ i : Nat, i ≤ l.length ∧ vi = .int .i64 i ∧ Hid ((∀ j, j < i → rOk l j = true) ∧ Below w3.heap.size w3 wr)) (fun vi _ => l.length - (intOf vi).toNat)
   case atStart => exact ⟨0, Nat.zero_le _, rfl, fun j hj => by omega, Below.refl _ _⟩
   case round =>
    obtain ⟨i, hi, rfl, hR⟩ := hrel
    by_cases hlt : i < l.length
    ·
     obtain ⟨⟨rk, rv⟩, hx⟩ : ∃ x, l[i]? = some x := ⟨_, List.getElem?_eq_getElem hlt⟩
     obtain ⟨⟨qk, qv⟩, hy⟩ : ∃ y, l[i - 1]? = some y := ⟨_, List.getElem?_eq_getElem (by omega)⟩
     have hF := rowsF_st _ _ _ _ HF.out hR.out.2
     obtain ⟨b, off, cap', he, c0, c1⟩ := rows_at hF hx
     cases he
     obtain ⟨b2, off2, cap2, he2, d0, -⟩ := rows_at hF hy
     cases he2
     dsimp only at c0 c1 d0
     have Hx := hid hx
     have Hy := hid hy
     have hsv := (Hsz.out _ (List.mem_of_getElem? hx)).2
     have hsk := (Hsz.out _ (List.mem_of_getElem? hy)).1
     dsimp only at hsv hsk
     have hbl := World.block_lt_of_cell? wr _ c0
     dsimp only at hbl
     clear hx hy hF
     have hrnd : rOk l i = true → Hid (∀ j, j < i + 1 → rOk l j = true) := fun hok j hj => by
      by_cases hji : j = i
      ·
       subst hji; exact hok
      ·
       exact hR.out.1 j (by omega)
     have Hrnd := hid hrnd
     clear hrnd
     by_cases hlong : 16384 < rv.size
     ·
      have q0 : decide (16384 < (rv.size : Int)) = true := by simp; omega
      have q0' : decide (16384 < rv.size) = true := by simp; omega
      have E : Hid (mayB s = false) := E0.out _ (rowsB_bad hlt (by simp [rOk, Hx.out]; omega))
      have hb10 := hid (hB3.out.trans (hR.out.2.mono hB3.out.size))
      go_wp2
      go_ret
      rw [E.out]
      exact ⟨rfl, hb10.out⟩
     ·
      have q0 : decide (16384 < (rv.size : Int)) = false := by simp; omega
      have q0' : decide (16384 < rv.size) = false := by simp; omega
      go_wp2_with fail
      by_cases h0 : i = 0
      ·
       have hok : Hid (rOk l i = true) := by
        show _ = _
        subst h0
        simp [rOk, Hx.out]; omega
       have q1 : decide (0 < (i : Int)) = false := by simp [h0]
       have q1' : decide (0 < i) = false := by simp [h0]
       refine wp_par (fun _ => False) (fun _ => True) (List.replicate 17 false) _ [.fix ?_, .fix ?_, .fix ?_, .fix ?_, .fix ?_, .fix ?_, .fix ?_, .fix ?_, .fix ?_, .fix ?_, .fix ?_, .fix ?_, .fix ?_, .fix ?_, .fix ?_, .fix ?_, .fix ?_] (by kernel_rfl) (by kernel_rfl) (by simp only [List.length_replicate, List.drop_succ_cons, List.drop_zero, List.drop_nil]; with_reducible rfl) rfl (fun _ _ _ _ _ => ⟨fun h => h, fun h => h⟩) (fun _ _ h _ => h) trivial ?_
       rotate_left 17
       iterate 17
        first
         | (refine par_skip (a' := ?_) (by rfl) (by rfl) ?_ ?_ ?_; rotate_left 1; with_reducible rfl; (simp only [lays]; with_reducible rfl))
         | (refine par_run (a' := ?_) (by rfl) (by rfl) (fun w' hb hn => ?_) ?_ ?_; rotate_left 1; (have hc := hb.cells; go_simp; (try simp (disch := omega) only [nrm, toNatUp, iteOmega]); first | with_reducible rfl | (go_simp; with_reducible rfl)); (simp only [lays]; with_reducible rfl))
       refine par_end (fun w9 hb9 hf9 _ => ?_)
       replace hb9 := hb9.grow
       try refine wpList_none ?_
       have hbb := hid (hR.out.2.trans (hb9.mono hR.out.2.size))
       clear hb9
       go_wp2
       go_roundw
       case rel => exact ⟨i + 1, by omega, by go_num, Hrnd.out hok.out, hbb.out⟩
       case measure => simp [intOf]; omega
      ·
       have q1 : decide (0 < (i : Int)) = true := by simp; omega
       have q1' : decide (0 < i) = true := by simp; omega
       have hi1 : 1 ≤ i := by omega
       have hless : ∀ W, Calls Tryz.prog 17 #[.string qk, .string rk] W fun e w' => e = .returned (.bool (ltS qk rk)) ∧ Below W.heap.size W w' := fun W => (less_any qk rk W hsk).mono (fun e w2 h => by obtain ⟨he, n, hn⟩ := h; subst hn; exact ⟨he, below_drewN (Below.refl _ _) n⟩)
       have Hless := hid hless
       clear hless
       refine wp_par (fun _ => False) (fun _ => True) (List.replicate 17 false) _ [.fix ?_, .fix ?_, .fix ?_, .fix ?_, .fix ?_, .fix ?_, .fix ?_, .fix ?_, .fix ?_, .fix ?_, .fix ?_, .fix ?_, .fix ?_, .fix ?_, .fix ?_, .fix ?_, .fix ?_] (by kernel_rfl) (by kernel_rfl) (by simp only [List.length_replicate, List.drop_succ_cons, List.drop_zero, List.drop_nil]; with_reducible rfl) rfl (fun _ _ _ _ _ => ⟨fun h => h, fun h => h⟩) (fun _ _ h _ => h) trivial ?_
       rotate_left 17
       iterate 14
        first
         | (refine par_skip (a' := ?_) (by rfl) (by rfl) ?_ ?_ ?_; rotate_left 1; with_reducible rfl; (simp only [lays]; with_reducible rfl))
         | (refine par_run (a' := ?_) (by rfl) (by rfl) (fun w' hb hn => ?_) ?_ ?_; rotate_left 1; (have hc := hb.cells; go_simp; (try simp (disch := omega) only [nrm, toNatUp, iteOmega]); first | with_reducible rfl | (go_simp; with_reducible rfl)); (simp only [lays]; with_reducible rfl))
       refine par_call (a' := ?_) (f := ?_) (args := ?_) (by rfl) (by rfl) (fun w' => ?_) (fun w' hb hn => ?_) ?_ ?_; rotate_left 3; (go_simp; constructor <;> with_reducible rfl); (exact Hless.out w'); (simp only [lays]; with_reducible rfl)
       iterate 2
        first
         | (refine par_skip (a' := ?_) (by rfl) (by rfl) ?_ ?_ ?_; rotate_left 1; with_reducible rfl; (simp only [lays]; with_reducible rfl))
         | (refine par_run (a' := ?_) (by rfl) (by rfl) (fun w' hb hn => ?_) ?_ ?_; rotate_left 1; (have hc := hb.cells; go_simp; (try simp (disch := omega) only [nrm, toNatUp, iteOmega]); first | with_reducible rfl | (go_simp; with_reducible rfl)); (simp only [lays]; with_reducible rfl))
       refine par_end (fun w9 hb9 hf9 _ => ?_)
       replace hb9 := hb9.grow
       try refine wpList_none ?_
       cases hl2 : ltS qk rk with
       | true =>
        have hok : Hid (rOk l i = true) := by
         show _ = _
         obtain ⟨j, rfl⟩ : ∃ j, i = j + 1 := ⟨i - 1, by omega⟩
         have hy' := Hy.out
         simp only [Nat.add_sub_cancel] at hy'
         simp [rOk, Hx.out, hy', hl2]; omega
        have hbb := hid (hR.out.2.trans (hb9.mono hR.out.2.size))
        clear hb9
        go_wp2
        go_roundw
        case rel => exact ⟨i + 1, by omega, by go_num, Hrnd.out hok.out, hbb.out⟩
        case measure => simp [intOf]; omega
       | false =>
        have E : Hid (mayB s = false) := E0.out _ (rowsB_bad hlt (by
         obtain ⟨j, rfl⟩ : ∃ j, i = j + 1 := ⟨i - 1, by omega⟩
         have hy' := Hy.out
         simp only [Nat.add_sub_cancel] at hy'
         simp [rOk, Hx.out, hy', hl2]))
        have hb10 := hid (hB3.out.trans ((hR.out.2.trans (hb9.mono hR.out.2.size)).mono hB3.out.size))
        clear hb9
        go_wp2
        go_ret
        rw [E.out]
        exact ⟨rfl, hb10.out⟩
    ·
     have hin : i = l.length := by omega
     subst hin
     have E := hid (E0.out _ (rowsB_end hR.out.1))
     have hb10 := hid (hB3.out.trans (hR.out.2.mono hB3.out.size))
     go_wp2
     go_ret
     rw [E.out]
     exact ⟨rfl, hb10.out⟩
end Go.Proofs.YthikijlbclckdaaGreat
namespace Go.Proofs.YthikijlbclckdaaGreat
set_option maxRecDepth 100000
set_option maxHeartbeats 40000000
set_option linter.unusedSimpArgs false
set_option linter.unusedVariables false
open Go.RowKit
def toldS (s : StateV) : List RowV := if mayB s then rows s else []
theorem toldS_yes {s : StateV} (h : mayB s = true) : toldS s = rows s := if_pos h
theorem toldS_no {s : StateV} (h : mayB s = false) : toldS s = [] := if_neg (by rw [h]; decide)
theorem rows_nil (w : World) : rowsF [] (.slice none 0 0) w := FlatAt.nil 2 w
theorem rows_set {w : World} {l : List RowV} {v : Value} {B : Nat} {T : TypeId} (hbox : w.heap[B]? = some (.cells #[.slice none 0 0] T (0, 0))) (h : rowsF l v w) (u : Value) : rowsF l v (w.setCell ⟨B, 0, none⟩ u) := by
 have hstr : ∀ (l : List RowV) (j : Nat) (x : Value), (rowsC l)[j]? = some x → ∃ t, x = .string t := by
  intro l
  induction l with
  | nil => intro j x h; cases h
  | cons q l ih =>
   intro j x h
   match j, h with
   | 0, h => cases h; exact ⟨_, rfl⟩
   | 1, h => cases h; exact ⟨_, rfl⟩
   | n + 2, h => exact ih n x h
 obtain ⟨a, cap, hv, h1, h2, h3, h4⟩ := h
 refine ⟨a, cap, hv, h1, h2, h3, fun j x hx => ?_⟩
 obtain ⟨b, off, ha, hc⟩ := h4 j x hx
 refine ⟨b, off, ha, ?_⟩
 by_cases hb : b = B
 ·
  exfalso
  subst hb
  obtain ⟨t, rfl⟩ := hstr l j x hx
  have e := (cell_of hbox (off + j)).symm.trans hc
  match off + j, e with
  | 0, e => cases e
  | n + 1, e => simp at e
 ·
  have hne : (⟨B, 0, none⟩ : Addr) ≠ ⟨b, off + j, none⟩ := fun e => hb (by have := congrArg Addr.block e; exact this.symm)
  rw [World.cell?_setCell_other (h := hne)]
  exact hc
theorem srows_any (s : StateV) (hok : StateOk s) (cs : List Value) (vp vi vt vj vr vs vk vl vm : Value) (w : World) (h : StateAt w cs s vp vi vt vj vr vs vk vl vm) :
  Calls Tryz.prog 12 #[.agg cs.toArray] w fun e w' => ∃ lc v, e = .returned (.func (.func 27) #[] #[.pointer (some ⟨lc, 0, none⟩)]) ∧ w'.cell? ⟨lc, 0, none⟩ = some v ∧ rowsF (toldS s) v w' ∧ Below w.heap.size w w' := by
 have H := hid h
 have Hok := hid hok
 obtain ⟨hcs, hp, hi, ht, hj, hr, hs, hk, hl, hm⟩ := h
 obtain ⟨ap, cp, rfl, -⟩ := hp
 obtain ⟨ai, ci, rfl, -⟩ := hi
 obtain ⟨at_, ct, rfl, -⟩ := ht
 obtain ⟨aj, cj, rfl, -⟩ := hj
 obtain ⟨ar, cr, rfl, -⟩ := hr
 obtain ⟨as_, cs_, rfl, -⟩ := hs
 obtain ⟨ak, ck, rfl, -⟩ := hk
 obtain ⟨al, cl, rfl, -⟩ := hl
 obtain ⟨am, cm, rfl, -⟩ := hm
 subst hcs
 clear hok
 go_enter Tryz.func12, Tryz.ntmps12
 go_wp2_with fail
 have hst := hid (alloc_new w (.cells #[U s.pos, U s.done, U s.made, .slice ap s.procs.length cp, .slice ai s.insts.length ci, .slice at_ s.tokens.length ct, .slice aj s.jobs.length cj, .slice ar s.timers.length cr, .slice as_ s.subs.length cs_, .slice ak s.kept.length ck, .slice al s.listed.length cl, .slice am s.msgs.length cm] 33))
 have hB0 := hid ((Below.refl _ w).alloc (Nat.le_refl _) (.cells #[U s.pos, U s.done, U s.made, .slice ap s.procs.length cp, .slice ai s.insts.length ci, .slice at_ s.tokens.length ct, .slice aj s.jobs.length cj, .slice ar s.timers.length cr, .slice as_ s.subs.length cs_, .slice ak s.kept.length ck, .slice al s.listed.length cl, .slice am s.msgs.length cm] 33))
 have hsz0 : (w.alloc (.cells #[U s.pos, U s.done, U s.made, .slice ap s.procs.length cp, .slice ai s.insts.length ci, .slice at_ s.tokens.length ct, .slice aj s.jobs.length cj, .slice ar s.timers.length cr, .slice as_ s.subs.length cs_, .slice ak s.kept.length ck, .slice al s.listed.length cl, .slice am s.msgs.length cm] 33)).heap.size = w.heap.size + 1 := by simp
 generalize w.alloc (.cells #[U s.pos, U s.done, U s.made, .slice ap s.procs.length cp, .slice ai s.insts.length ci, .slice at_ s.tokens.length ct, .slice aj s.jobs.length cj, .slice ar s.timers.length cr, .slice as_ s.subs.length cs_, .slice ak s.kept.length ck, .slice al s.listed.length cl, .slice am s.msgs.length cm] 33) = w0 at hst hB0 hsz0 ⊢
 try rw [← hsz0]
 have hst' := hid ((alloc_old (.cells #[.slice none 0 0] 66) (heap_lt hst.out)).trans hst.out)
 have hbx := hid (alloc_new w0 (.cells #[.slice none 0 0] 66))
 have hB0' := hid (hB0.out.alloc hB0.out.size (.cells #[.slice none 0 0] 66))
 have hlt0 : w0.heap.size < (w0.alloc (.cells #[.slice none 0 0] 66)).heap.size := by simp
 have hle0 : w.heap.size ≤ w0.heap.size := by omega
 have Hsz0 := hid hsz0
 clear hsz0
 generalize w0.alloc (.cells #[.slice none 0 0] 66) = w1 at hst' hbx hB0' hlt0 ⊢
 refine (smay_any s Hok.out (rowsSz s Hok.out) [U s.pos, U s.done, U s.made, .slice ap s.procs.length cp, .slice ai s.insts.length ci, .slice at_ s.tokens.length ct, .slice aj s.jobs.length cj, .slice ar s.timers.length cr, .slice as_ s.subs.length cs_, .slice ak s.kept.length ck, .slice al s.listed.length cl, .slice am s.msgs.length cm] _ _ _ _ _ _ _ _ _ w1 (H.out.grow hB0'.out)).mono ?_
 rintro e w2 ⟨rfl, b2⟩
 have hst2 := hid ((b2.block w.heap.size (heap_lt hst'.out)).trans hst'.out)
 have hbx2 := hid ((b2.block w0.heap.size hlt0).trans hbx.out)
 have hB2 := hid (hB0'.out.trans (b2.mono hB0'.out.size))
 clear b2 hst hst' hbx
 have kb := cell_of hbx2.out 0
 cases hb : mayB s with
 | false =>
  have E := hid (toldS_no hb)
  clear hb
  go_wp2
  go_ret
  exact ⟨_, _, rfl, kb, by rw [E.out]; exact rows_nil _, hB2.out⟩
 | true =>
  have E := hid (toldS_yes hb)
  clear hb kb
  obtain ⟨k0, k1, k2, k3, k4, k5, k6, k7, k8, k9, k10, k11⟩ := cells12 hst2.out
  go_wp2_with fail
  clear k0 k1 k2 k3 k4 k5 k6 k7 k8 k9 k10 k11
  refine (rows_any s Hok.out [U s.pos, U s.done, U s.made, .slice ap s.procs.length cp, .slice ai s.insts.length ci, .slice at_ s.tokens.length ct, .slice aj s.jobs.length cj, .slice ar s.timers.length cr, .slice as_ s.subs.length cs_, .slice ak s.kept.length ck, .slice al s.listed.length cl, .slice am s.msgs.length cm] _ _ _ _ _ _ _ _ _ w2 (H.out.grow hB2.out)).mono ?_
  rintro e w3 ⟨u, rfl, hf, b3⟩
  have hB3 := hid (hB2.out.trans (b3.mono hB2.out.size))
  have hbx3 := hid ((b3.block w0.heap.size (heap_lt hbx2.out)).trans hbx2.out)
  have kb := cell_of hbx3.out 0
  have kf : w3.frozen? ⟨w0.heap.size, 0, none⟩ = false := by simp [World.frozen?, hbx3.out]
  have HF := hid hf
  obtain ⟨ao, co, rfl, -⟩ := hf
  clear b3
  go_wp2
  go_ret
  exact ⟨_, _, rfl, World.cell?_setCell_same' _ _ _ (by rw [kb]; rfl), by rw [E.out]; exact rows_set hbx3.out HF.out _, hB3.out.setCell (p := ⟨w0.heap.size, 0, none⟩) hle0 _⟩
end Go.Proofs.YthikijlbclckdaaGreat
namespace Go.Proofs.YthikijlbclckdaaGreat
set_option maxRecDepth 100000
set_option maxHeartbeats 40000000
set_option linter.unusedSimpArgs false
set_option linter.unusedVariables false
open Go.RowKit
def ownB (v : Value) : Nat → Prop := fun k => v.ownBlock = some k
theorem But.grownBy {w w' : World} {v : Value} (h : w.grownBy w' v.ownBlock) : But (ownB v) w w' := ⟨h.os, h.tape, h.output, h.size, fun k hk hn => h.block k hk (fun e => hn e.symm)⟩
theorem But.grownNone {w w' : World} {F : Nat → Prop} (h : w.grownBy w' none) : But F w w' := ⟨h.os, h.tape, h.output, h.size, fun k hk _ => h.block k hk (fun e => by cases e)⟩
theorem run_app_k {P : Program} {W : World} (t e : TypeId) {z : Value} {size bytes : Nat} (ty : TypeId) (ht : P.underlying t = some (.slice e))
  (hinfo : (P.info? e).map (fun i => (i.zero, i.size, i.bytes)) = some (some z, size, bytes)) (hzs : z.cells.size = size) (hsz : 0 < size)
  {base n m : Nat} {v x : Value} {xs cs : List Value} (hown : W.ownsRow base e size v n xs) (hbase : base ≤ W.heap.size) (hx : FlatAt size W x m cs) (hn : n + m ≤ maxLen) (hby : (n + m) * bytes ≤ 140737488355328)
  (h1 : ∀ u ∈ cs, u.oneCell' = true) :
  ∃ v' w', (Builtin.append_ #[t, t] ty #[v, x]).run P W = .ok v' w' ∧ w'.ownsRow base e size v' (n + m) (xs ++ cs) ∧ But (ownB v) W w' ∧ (∀ g, v'.ownBlock = some g → v.ownBlock = some g ∨ W.heap.size ≤ g) := by
 obtain ⟨i0, hi, hzz⟩ := Option.map_eq_some_iff.1 hinfo
 simp only [Prod.mk.injEq] at hzz
 obtain ⟨hz0, hz1, hz2⟩ := hzz
 obtain ⟨a, cap, rfl, hc1, hc2, hl, hcs⟩ := hx
 by_cases hm : m = 0
 ·
  subst hm
  have hnil : cs = [] := List.eq_nil_of_length_eq_zero (by simpa using hl)
  subst hnil
  refine ⟨v, W, ?_, by simpa using hown, But.refl _ _, fun g hg => .inl hg⟩
  obtain ⟨ao, sc, rfl, hle⟩ : ∃ ao sc, v = .slice ao n sc ∧ n ≤ sc := by
   rcases hown.2 with ⟨rfl, rfl⟩ | ⟨g, cap2, cur, rfl, _, _, hnc, _⟩
   ·
    exact ⟨none, 0, rfl, Nat.le_refl _⟩
   ·
    exact ⟨_, _, rfl, hnc⟩
  cases a <;> cases ao <;> simp [Builtin.append_, run_underlying ht, sizeOf, typeInfo, hi, Builtin.lenOf, Builtin.firstCells, hle, Result.andThen, storeCells, go_sem]
 ·
  obtain ⟨u0, hu0⟩ : ∃ u, cs[0]? = some u := ⟨_, List.getElem?_eq_getElem (by rw [hl]; exact Nat.mul_pos (by omega) hsz)⟩
  obtain ⟨b, off, rfl, -⟩ := hcs 0 u0 hu0
  have hnews : ∀ (j : Nat) (u : Value), cs[j]? = some u → W.cell? ((⟨b, off, none⟩ : Addr).add j) = some u := fun j u hu => by
   obtain ⟨b2, off2, he, hc⟩ := hcs j u hu
   cases he
   have ha : (⟨b, off, none⟩ : Addr).add j = ⟨b, off + j, none⟩ := by unfold Addr.add; split <;> simp_all
   rw [ha]; exact hc
  rcases hown.2 with ⟨rfl, rfl⟩ | ⟨g, cap2, cur, rfl, hbg, hg, hnc, hcm, hcur, htake⟩
  ·
   obtain ⟨v', w', hr, h2, h3, -⟩ := run_append_own (P := P) (w := W) W.heap.size t ty e i0 z size bytes ht hi hz0 hz1 hz2 hzs hsz (.slice none 0 0) 0 xs ⟨hown.1, .inl ⟨rfl, rfl⟩⟩ ⟨b, off, none⟩ m cap cs hl hnews h1 hn hby (Nat.le_refl _)
   exact ⟨v', w', hr, ownsRow_base h2 hbase, But.grownBy h3, fun g hg => .inr (h2.lt g hg).1⟩
  ·
   by_cases hroom : n + m ≤ cap2
   ·
    obtain ⟨v', w', hr, h2, h3, -⟩ := run_append_own (P := P) (w := W) base t ty e i0 z size bytes ht hi hz0 hz1 hz2 hzs hsz _ n xs hown ⟨b, off, none⟩ m cap cs hl hnews h1 hn hby hbase
    have hfit : n * i0.size + cs.length ≤ cur.size := by rw [hl, hcur, hz1, ← Nat.add_mul]; exact Nat.mul_le_mul_right _ hroom
    have hr2 := run_append_room (P := P) W t ty e i0 ht hi g n cap2 cur hg ⟨b, off, none⟩ m cap cs (by rw [hz1]; exact hl) hnews h1 hroom hfit
    rw [hr2] at hr
    injection hr with e1 e2
    subst e1
    exact ⟨_, w', by rw [hr2, e2], h2, But.grownBy h3, fun g' hg' => .inl hg'⟩
   ·
    have holds : ∀ j u, xs[j]? = some u → W.cell? ((⟨g, 0, none⟩ : Addr).add j) = some u := hown.cells (g := g) rfl
    obtain ⟨v', w', hr, h2, h3⟩ := run_append_arg_grows (P := P) W t ty e i0 z size bytes ht hi hz0 hz1 hz2 hzs hsz ⟨g, 0, none⟩ n cap2 xs hown.1 holds ⟨b, off, none⟩ m cap cs hl hnews (by omega) hn hby
    exact ⟨v', w', hr, ownsRow_base h2 hbase, But.grownNone h3, fun g' hg' => .inr (h2.lt g' hg').1⟩
theorem appk {P : Program} {ops : Array Oper} {rest : List Oper} {o : Oper} {a : Act} {Q : Exit → Act → World → Prop} {W : World} (t e : TypeId) {z : Value} {size bytes : Nat} (ht : P.underlying t = some (.slice e))
  (hinfo : (P.info? e).map (fun i => (i.zero, i.size, i.bytes)) = some (some z, size, bytes)) (hzs : z.cells.size = size) (hsz : 0 < size)
  {base n m : Nat} {v x : Value} {xs cs : List Value} (hown : W.ownsRow base e size v n xs) (hbase : base ≤ W.heap.size) (hx : FlatAt size W x m cs) (hn : n + m ≤ maxLen) (hby : (n + m) * bytes ≤ 140737488355328)
  (h1 : ∀ u ∈ cs, u.oneCell' = true)
  {s x' : Operand} (hgd : o.guard = none) (ho : o.op = .call { callee := .builtin .append, args := #[s, x'], argTypes := #[t, t] }) (hs : a.eval s = v) (hx' : a.eval x' = x)
  (h : ∀ v' w', w'.ownsRow base e size v' (n + m) (xs ++ cs) → But (ownB v) W w' → (∀ g, v'.ownBlock = some g → v.ownBlock = some g ∨ W.heap.size ≤ g) → wpList P ops Q rest (a.put o.dst v') w') :
  wpList P ops Q (o :: rest) a W := by
 refine wpList_plain hgd fun K hK => ?_
 obtain ⟨v', w', hr, h2, h3, h4⟩ := run_app_k (P := P) t e o.type ht hinfo hzs hsz hown hbase hx hn hby h1
 unfold Oper.wp execOp
 simp only [ho, resolve, invoke, builtin, Sem.run_bind, Sem.run_pure, Result.andThen_ok, List.map_toArray, List.map_cons, List.map_nil, hs, hx', hr]
 exact hK _ _ (h v' w' h2 h3 h4)
theorem app1k {P : Program} {ops : Array Oper} {rest : List Oper} {o : Oper} {a : Act} {Q : Exit → Act → World → Prop} {W : World} (t e : TypeId) {z : Value} {size bytes : Nat} (ht : P.underlying t = some (.slice e))
  (hinfo : (P.info? e).map (fun i => (i.zero, i.size, i.bytes)) = some (some z, size, bytes)) (hzs : z.cells.size = size) (hsz : 0 < size)
  {base n : Nat} {v : Value} {xs : List Value} (hown : W.ownsRow base e size v n xs) (hbase : base ≤ W.heap.size) (hn : n + 1 ≤ maxLen) (hby : (n + 1) * bytes ≤ 140737488355328)
  {s x : Operand} {cs : Array Value} (hgd : o.guard = none) (ho : o.op = .call { callee := .builtin .append, args := #[s, x], argTypes := #[t, t] }) (hs : a.eval s = v)
  {k : Nat} (hx : a.eval x = .slice (some ⟨k, 0, none⟩) 1 1) (hk : k = W.heap.size) (hcs : cs.size = size) (h1 : ∀ u ∈ cs.toList, u.oneCell' = true)
  (h : ∀ v' w', w'.ownsRow base e size v' (n + 1) (xs ++ cs.toList) → But (ownB v) W w' → (∀ g, v'.ownBlock = some g → v.ownBlock = some g ∨ W.heap.size ≤ g) → wpList P ops Q rest (a.put o.dst v') w') :
  wpList P ops Q (o :: rest) a (W.alloc (.cells cs e)) := by
 subst hk
 refine appk t e ht hinfo hzs hsz (hown.alloc _) (by simp; omega) (x := .slice (some ⟨W.heap.size, 0, none⟩) 1 1) (m := 1) (cs := cs.toList) ?_ hn hby h1 hgd ho hs hx ?_
 ·
  exact ⟨some ⟨W.heap.size, 0, none⟩, 1, rfl, Nat.le_refl _, by simp [maxLen], by simpa using hcs, fun j u hu => ⟨_, _, rfl, by rw [Nat.zero_add, cell_of (heap_alloc_new W _) j]; simpa using hu⟩⟩
 ·
  intro v' w' h2 h3 h4
  refine h v' w' h2 ((But.alloc (But.refl _ W) _).trans h3) fun g hg => ?_
  rcases h4 g hg with h | h
  ·
   exact .inl h
  ·
   exact .inr (by simp at h; omega)
theorem own_at {F : Nat → Prop} {w w' : World} {base e size n : Nat} {v : Value} {vs : List Value} (h : w.ownsRow base e size v n vs) (hb : But F w w') (hF : ∀ k, v.ownBlock = some k → ¬ F k) : w'.ownsRow base e size v n vs := by
 refine ⟨h.1, ?_⟩
 rcases h.2 with hn | ⟨g, cap, cur, rfl, hbg, hg, r⟩
 ·
  exact .inl hn
 ·
  exact .inr ⟨g, cap, cur, rfl, hbg, (hb.block g (heap_lt hg) (hF g rfl)).trans hg, r⟩
end Go.Proofs.YthikijlbclckdaaGreat
