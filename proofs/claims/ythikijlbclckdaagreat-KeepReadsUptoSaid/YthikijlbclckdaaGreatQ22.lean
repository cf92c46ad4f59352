/- KeepReads: contracts (Kr Ks Kt Ku Pi). -/
import Derived.Test.YthikijlbclckdaaGreatQ10
import Derived.Test.YthikijlbclckdaaGreatQ19
import Derived.Test.YthikijlbclckdaaGreatQ20
import Derived.Test.YthikijlbclckdaaGreatQ21
import Derived.RangeFuncNested
import Derived.RangeFuncBound
import Derived.RangeFuncCalls
import Derived.RangeFuncLeaves
import Derived.RangeFuncBox
import Derived.Shelf.Abstract
import Derived.Shelf.RegionOpen
import Derived.WalkKit
import Derived.OwnWalkIn
import Derived.TacticsInMore
import Derived.LoopNIn
import Derived.LoopIn
import Derived.Maps.AppendAt
import Derived.OrdersIn
import Derived.CallsIn
namespace Go.Proofs.YthikijlbclckdaaGreat
set_option maxRecDepth 100000
set_option maxHeartbeats 40000000
set_option linter.unusedSimpArgs false
set_option linter.unusedVariables false
open Go.RowKit Go.Shelf
attribute [local go_sem] Oper.semAt_some
theorem take_snoc {α : Type} {l : List α} {i : Nat} {x : α} (h : l[i]? = some x) : l.take (i + 1) = l.take i ++ [x] := by
 rw [List.take_add_one, h]; rfl
theorem grown_new (w : World) (o : Obj) : w.grownBy (w.alloc o) none := World.grownBy_alloc w o none
theorem rowsIt_in (n : Nat) (hn : 1 ≤ n) (l lc : Nat) (w0 : World) (v : Value) (rs : List RowV) (hlc : w0.cell? ⟨lc, 0, none⟩ = some v) (hv : rowsF rs v w0) (hmax : rs.length ≤ 4194304) (J Jx : List RowV → World → Prop) (W : World) (hW : Below w0.heap.size w0 W) (hJ : AbidesFrom W.heap.size J)
  (hY : ∀ pre x W1, J pre W1 → pre.length < rs.length → YieldAt Fence.wide (n - 1) Tryz.prog l #[.string x.1, .string x.2] W1 fun e W' =>
   (e = .returned (.bool true) ∧ J (pre ++ [x]) W' ∧ Below w0.heap.size W1 W') ∨ (e = .returned (.bool false) ∧ Jx (pre ++ [x]) W'))
  (h0 : J [] W) :
  CallsIn Fence.wide n Tryz.prog 27 #[.func (.yield l) #[] #[], .pointer (some ⟨lc, 0, none⟩)] W fun e W' => (∃ v, e = .returned v) ∧
   ((∃ ys, ys = rs ∧ J ys W') ∨ (∃ pre, pre <+: rs ∧ Jx pre W')) := by
 have HV := hid hv
 have HW := hid hW
 have hBs : W.cell? ⟨lc, 0, none⟩ = some v := (hW.cell (p := ⟨lc, 0, none⟩) (World.block_lt_of_cell? w0 _ hlc)).trans hlc
 obtain ⟨a, cap, rfl, hlc1, hlm, -⟩ := hv
 unfold maxLen at hlm
 clear hW
 refine callsIn_of_wp Tryz.func27 rfl trivial ?_ rfl
 simp only [Tryz.ntmps27, List.size_toArray, List.length_cons, List.length_nil, Nat.reduceAdd, Nat.reduceSub, Array.replicate_succ, Array.replicate_zero, List.push_toArray, List.append_toArray, List.nil_append, List.cons_append]
 gi_wp2
 gi_loopw [7] (fun i wr => ∃ k : Nat, k ≤ rs.length ∧ i = .int .i64 k ∧ J (rs.take k) wr ∧ Hid (Below w0.heap.size w0 wr))
  (fun i _ => rs.length - (intOf i).toNat)
 case atStart => exact ⟨0, Nat.zero_le _, rfl, h0, HW⟩
 case round =>
  obtain ⟨k, hk, rfl, hJs, hR⟩ := hrel
  by_cases hlt : k < rs.length
  ·
   obtain ⟨⟨rk, rv⟩, hx⟩ : ∃ x, rs[k]? = some x := ⟨_, List.getElem?_eq_getElem hlt⟩
   obtain ⟨b, off, cap', he, c0, c1⟩ := rows_at (rowsF_st _ _ _ _ HV.out hR.out) hx
   cases he
   dsimp only at c0 c1
   have hJ' : J (rs.take k) (wr.alloc (.cells #[.string rk, .string rv] 69)) := hJ _ _ _ none hJs (grown_new _ _) (fun r e => by cases e)
   have hR' := hid (hR.out.alloc hR.out.size (.cells #[.string rk, .string rv] 69))
   obtain ⟨fn, tmps, assign, body, hy, hR3⟩ := hY _ (rk, rv) _ hJ' (by rw [List.length_take]; omega)
   dsimp only at hy
   have Hx := hid hx
   clear hx
   gi_wp2
   refine hR3.mono ?_
   rintro e W3 (⟨rfl, hJ3, hk3⟩ | ⟨rfl, hJx3⟩)
   ·
    gi_wp2
    go_roundw
    case rel => exact ⟨k + 1, by omega, by simp, by rw [take_snoc Hx.out]; exact hJ3, hid (hR'.out.trans hk3)⟩
    case measure => simp [intOf]; omega
   ·
    gi_wp2
    refine bodyPost_ret (results_none rfl _ _ _) rfl ?_
    exact ⟨⟨_, rfl⟩, .inr ⟨rs.take (k + 1), List.take_prefix _ _, by rw [take_snoc Hx.out]; exact hJx3⟩⟩
  ·
   obtain rfl : k = rs.length := by omega
   gi_wp2
   go_end0
   exact ⟨⟨_, rfl⟩, .inl ⟨_, rfl, by rw [List.take_length] at hJs; exact hJs⟩⟩
theorem rows_stops (n : Nat) (hn : 1 ≤ n) (lc : Nat) (w : World) (v : Value) (rs : List RowV) (n₀ : Nat) (w0 : World) (hn₀ : n₀ = w0.heap.size) (hw : Below w0.heap.size w0 w) (hlc : w0.cell? ⟨lc, 0, none⟩ = some v) (hv : rowsF rs v w0) (hmax : rs.length ≤ 4194304) :
  SeqStopsK Fence.wide n Tryz.prog 27 #[.pointer (some ⟨lc, 0, none⟩)] (fun x : RowV => #[.string x.1, .string x.2]) (Below n₀) (fun ys => ys = rs) (fun pre => pre <+: rs) rs.length w := fun l J Jx W hW hJ _ hY h0 => by
 subst hn₀
 exact rowsIt_in n hn l lc w0 v rs hlc hv hmax J Jx W (hw.trans (hW.mono hw.size)) hJ hY h0
theorem infoT : (Tryz.prog.info? 46).map (fun i => (i.zero, i.size, i.bytes)) = some (some (.agg #[.string ⟨#[]⟩, .string ⟨#[]⟩]), 2, 32) := by kernel_rfl
theorem cell_two_new (w : World) (x y : Value) (t : TypeId) : ∀ j u, [x, y][j]? = some u → (w.alloc (.cells #[x, y] t)).cell? ((⟨w.heap.size, 0, none⟩ : Addr).add j) = some u := by
 intro j u hj
 match j, hj with
 | 0, hj =>
  simp at hj
  subst hj
  exact cell_of (alloc_new w (.cells #[x, y] t)) 0
 | 1, hj =>
  simp at hj
  subst hj
  exact cell_of (alloc_new w (.cells #[x, y] t)) 1
theorem told_in (n : Nat) (hn : 3 ≤ n) (lc : Nat) (rs : List RowV) (v : Value) (w : World) (hlc : w.cell? ⟨lc, 0, none⟩ = some v) (hv : rowsF rs v w) (hmax : rs.length ≤ 4194304) :
  CallsIn Fence.wide n Tryz.prog 11 #[.func (.func 27) #[] #[.pointer (some ⟨lc, 0, none⟩)]] w fun e w' => ∃ u, e = .returned u ∧ rowsF rs u w' ∧ Below w.heap.size w w' := by
 have h1 : 1 ≤ n := by omega
 have hro : Fence.wide.round = none := rfl
 obtain ⟨i0, hi, hz0, hz1, hz2⟩ := info_parts infoT
 refine callsIn_of_wp_marks Tryz.func11 rfl trivial ?_ hro
 simp only [Tryz.ntmps11, List.size_toArray, List.length_cons, List.length_nil, Nat.reduceAdd, Nat.reduceSub, Array.replicate_succ, Array.replicate_zero, List.push_toArray, List.append_toArray, List.nil_append, List.cons_append]
 gi_wp2
 have bO := Boxed.new w 35 (.slice none 0 0)
 have hB0 : Below w.heap.size w (w.alloc (.cells #[.slice none 0 0] 35)) := (Below.refl _ w).alloc (Nat.le_refl _) _
 refine wpIn_rangeFunc_ownG hro h1 (gf := 27) (lb := #[.pointer (some ⟨lc, 0, none⟩)]) rfl trivial (enters_of Tryz.func27 (by kernel_rfl) rfl)
  (rows_stops (n - 1) (by omega) lc _ v rs w.heap.size w rfl hB0 hlc hv hmax) belowK_t (belowK_b (by simp)) (Below.refl _ _) (fun _ => rfl)
  (fun pre W => (∃ v, Boxed W w.heap.size 35 v ∧ W.ownsRow w.heap.size 46 2 v pre.length (rowsC pre) ∧ True) ∧ Below w.heap.size w W)
  (fun _ _ _ => False)
  (OwnFrom.and (Own.from (holdsRow_own w.heap.size w.heap.size 35 46 2 (fun pre : List RowV => pre.length) rowsC (fun _ _ => True)) _) (ownFrom_below (Nat.le_refl _) (by simp)))
  (fun _ _ _ _ _ hs _ _ => hs)
  ⟨⟨_, bO, World.ownsRow_nil _ _ _ _, trivial⟩, hB0⟩
  (fun x => { tmps := #[.func (.func 27) #[] #[.pointer (some ⟨lc, 0, none⟩)], undef, .slice none 0 0, .pointer (some ⟨w.heap.size, 0, none⟩), .string x.1, .string x.2, .func (.func 27) #[] #[.pointer (some ⟨lc, 0, none⟩)], .string x.1, .string x.2, undef, undef, undef, undef, undef, undef, undef], defers := [] }) ?assign ?body ?done ?stop
 case assign =>
  intro l x W K hK
  gi_wp2
  exact hK
 case body =>
  rintro l pre x W ⟨⟨v, hv, hrow, -⟩, hB⟩ hlt
  have hc := hv.cell
  gi_wp2_with (gi_at_builtin; refine wpListIn_append_own _ rfl _ _ 35 rfl w.heap.size 46 i0 (.agg #[.string ⟨#[]⟩, .string ⟨#[]⟩]) 2 32 Tryz.underlying35 hi hz0 hz1 hz2 rfl (by decide) _ _ _ rfl (hrow.alloc _) ⟨W.heap.size, 0, none⟩ 1 1 [.string x.1, .string x.2] rfl rfl (cell_two_new _ _ _ _) (by simp [Value.oneCell']) (by unfold maxLen; omega) (by omega) (by have := hB.size; simp; omega) ?_; intro v' w1 hown' hgrow _; obtain ⟨g', cap', rfl⟩ := ownsRow_succ hown'; obtain ⟨hv1, hv2, hr2, hk2, hb2⟩ := hv.appended (by decide) hrow hB.size (Nat.le_refl _) hown' hgrow; have hc1 := hv1.cell; have hf1 := hv1.frozen)
  exact ⟨hk2.from _, hb2, ⟨_, hv2, by rw [rowsC_snoc]; simpa [rowC] using hr2, trivial⟩, hB.trans hb2⟩
 case done =>
  rintro D ys W hD rfl ⟨⟨v, hv, hrow, -⟩, hB⟩ hK
  have hc := hv.cell
  have hown := ownsRow_putObj hrow (.deferred none) hK rfl
  obtain ⟨a, cap, rfl⟩ : ∃ a cap, v = .slice a ys.length cap := by
   obtain ⟨a, cap, e, -⟩ := FlatAt.of_own hrow
   exact ⟨a, cap, e⟩
  gi_wp2
  refine ⟨by simp, .inl ⟨_, _, rfl, run_takeDeferred hK, ?_⟩⟩
  exact ⟨_, results_tmp rfl _ _ _, _, rfl, FlatAt.of_own hown, hB.trans (belowK_b (w := w) (Nat.le_refl _) W D _ _ (by simp at hD; omega) hK rfl rfl)⟩
 case stop =>
  rintro D c pre W _ _ h _
  exact h.elim
theorem told_any (lc : Nat) (rs : List RowV) (v : Value) (w : World) (hlc : w.cell? ⟨lc, 0, none⟩ = some v) (hv : rowsF rs v w) (hmax : rs.length ≤ 4194304) :
  Calls Tryz.prog 11 #[.func (.func 27) #[] #[.pointer (some ⟨lc, 0, none⟩)]] w fun e w' => ∃ u, e = .returned u ∧ rowsF rs u w' ∧ Below w.heap.size w w' :=
 (callsIn_wide (n := 3)).1 (told_in 3 (by omega) lc rs v w hlc hv hmax)
end Go.Proofs.YthikijlbclckdaaGreat
namespace Go.Proofs.YthikijlbclckdaaGreat
set_option maxRecDepth 100000
set_option maxHeartbeats 40000000
set_option linter.unusedSimpArgs false
set_option linter.unusedVariables false
open Go.IntWalk Go.RowKit
theorem keyS_sz0 (c : UInt8) (k : Nat) : (keyS (c1 c) k []).size = 9 := by
 simp only [keyS, List.foldl_nil, ByteArray.size_append, bigS_size]
 rfl
theorem keyS_sz1 (c : UInt8) (k : Nat) (n : Int) : (keyS (c1 c) k [n]).size = 11 := by
 simp only [keyS, List.foldl_cons, List.foldl_nil, ByteArray.size_append, bigS_size]
 rfl
theorem rowsSz (s : StateV) (h : StateOk s) : RowsSz (rows s) := by
 intro r hr
 unfold rows lists at hr
 simp only [List.flatten_cons, List.flatten_nil, List.append_nil, List.mem_append, List.mem_map, List.mem_singleton] at hr
 rcases hr with rfl | ⟨x, hx, rfl⟩ | ⟨x, hx, rfl⟩ | ⟨x, hx, rfl⟩ | ⟨x, hx, rfl⟩ | ⟨x, hx, rfl⟩ | ⟨x, hx, rfl⟩ | ⟨x, hx, rfl⟩ | ⟨x, hx, rfl⟩ | ⟨x, hx, rfl⟩
 ·
  have h1 := uvS_le h.pos
  have h2 := uvS_le h.done
  have h3 := uvS_le h.made
  simp only [rowA, ByteArray.size_append]
  exact ⟨by simp [c1, ByteArray.size], by omega⟩
 ·
  have o := h.msgs x hx
  have h1 := txS_le o.name
  have h2 := txS_le o.for_
  have h3 := txS_le o.id
  have h4 := inS_le o.till
  have h5 := varsS_le o.vars
  have h6 : (uvS x.insts.length).size ≤ 10 := uvS_le (by have := o.many; unfold U64; omega)
  have h7 := o.many
  have h8 := foldS_le uvS 10 x.insts (fun y hy => uvS_le (o.insts y hy)) (txS x.name ++ txS x.for_ ++ txS x.id ++ inS x.till ++ varsS x.vars ++ uvS x.insts.length)
  simp only [ByteArray.size_append] at h8
  simp only [rowG, keyS_sz0]
  exact ⟨by omega, by omega⟩
 ·
  have o := h.insts x hx
  have h1 := txS_le o.id
  have h5 := varsS_le o.vars
  simp only [rowI, keyS_sz0, ByteArray.size_append]
  exact ⟨by omega, by omega⟩
 ·
  have o := h.jobs x hx
  have h1 := uvS_le o.token
  have h2 := txS_le o.type
  have h3 := inS_le o.retries
  have h4 := txS_le o.worker
  have h5 := inS_le o.till
  simp only [rowJ, keyS_sz0, ByteArray.size_append]
  exact ⟨by omega, by omega⟩
 ·
  have o := h.kept x hx
  have h1 := uvS_le o.msg
  simp only [rowK, keyS_sz1]
  exact ⟨by omega, by omega⟩
 ·
  have o := h.listed x hx
  have h1 := uvS_le o.inst
  have h2 := txS_le o.name
  have h3 := txS_le o.key
  have h4 := uvS_le o.msg
  have h5 := varsS_le o.vars
  simp only [rowL, keyS_sz1, ByteArray.size_append]
  exact ⟨by omega, by omega⟩
 ·
  have o := h.procs x hx
  have h1 := txS_le o.bytes
  have h2 : x.id.size ≤ 2097152 := o.id
  have h3 : (c1 112).size = 1 := rfl
  simp only [rowP, ByteArray.size_append]
  exact ⟨by omega, by omega⟩
 ·
  have o := h.timers x hx
  have h1 := inS_le o.when_
  simp only [rowR, keyS_sz1]
  exact ⟨by omega, by omega⟩
 ·
  have o := h.subs x hx
  have h1 := uvS_le o.inst
  have h2 := txS_le o.name
  have h3 := txS_le o.key
  have h4 : (inS (b01 x.is)).size ≤ 10 := inS_le (by unfold b01 I64; cases x.is <;> decide)
  simp only [rowS, keyS_sz1, ByteArray.size_append]
  exact ⟨by omega, by omega⟩
 ·
  have o := h.tokens x hx
  have h1 := uvS_le o.inst
  have h2 := uvS_le o.scope
  have h3 := inS_le o.node
  have h4 := inS_le o.by_
  have h5 := txS_le o.stuck
  simp only [rowT, keyS_sz0, ByteArray.size_append]
  exact ⟨by omega, by omega⟩
theorem rsmay_any (s : StateV) (hok : StateOk s) (cs : List Value) (vp vi vt vj vr vs vk vl vm : Value) (w : World) (h : StateAt w cs s vp vi vt vj vr vs vk vl vm) :
  Calls Tryz.prog 16 #[.agg cs.toArray] w fun e w' => e = .returned (.bool (mayB s)) ∧ Below w.heap.size w w' := by
 have H := hid h
 have Hok := hid hok
 have Hsz := hid (rowsSz s hok)
 obtain ⟨hcs, hp, hi, ht, hj, hr, hs, hk, hl, hm⟩ := h
 obtain ⟨ap, cp, rfl, -⟩ := hp
 obtain ⟨ai, ci, rfl, -⟩ := hi
 obtain ⟨at_, ct, rfl, -⟩ := ht
 obtain ⟨aj, cj, rfl, -⟩ := hj
 obtain ⟨ar, cr, rfl, -⟩ := hr
 obtain ⟨as_, cs_, rfl, -⟩ := hs
 obtain ⟨ak, ck, rfl, -⟩ := hk
 obtain ⟨al, cl, rfl, -⟩ := hl
 obtain ⟨am, cm, rfl, -⟩ := hm
 subst hcs
 clear hok
 go_enter Tryz.func16, Tryz.ntmps16
 go_wp2_with fail
 have hst := hid (alloc_new w (.cells #[U s.pos, U s.done, U s.made, .slice ap s.procs.length cp, .slice ai s.insts.length ci, .slice at_ s.tokens.length ct, .slice aj s.jobs.length cj, .slice ar s.timers.length cr, .slice as_ s.subs.length cs_, .slice ak s.kept.length ck, .slice al s.listed.length cl, .slice am s.msgs.length cm] 33))
 have hB0 := hid ((Below.refl _ w).alloc (Nat.le_refl _) (.cells #[U s.pos, U s.done, U s.made, .slice ap s.procs.length cp, .slice ai s.insts.length ci, .slice at_ s.tokens.length ct, .slice aj s.jobs.length cj, .slice ar s.timers.length cr, .slice as_ s.subs.length cs_, .slice ak s.kept.length ck, .slice al s.listed.length cl, .slice am s.msgs.length cm] 33))
 have hlt0 : w.heap.size < (w.alloc (.cells #[U s.pos, U s.done, U s.made, .slice ap s.procs.length cp, .slice ai s.insts.length ci, .slice at_ s.tokens.length ct, .slice aj s.jobs.length cj, .slice ar s.timers.length cr, .slice as_ s.subs.length cs_, .slice ak s.kept.length ck, .slice al s.listed.length cl, .slice am s.msgs.length cm] 33)).heap.size := by simp
 generalize w.alloc (.cells #[U s.pos, U s.done, U s.made, .slice ap s.procs.length cp, .slice ai s.insts.length ci, .slice at_ s.tokens.length ct, .slice aj s.jobs.length cj, .slice ar s.timers.length cr, .slice as_ s.subs.length cs_, .slice ak s.kept.length ck, .slice al s.listed.length cl, .slice am s.msgs.length cm] 33) = w0 at hst hB0 hlt0 ⊢
 refine (running_any s Hok.out [U s.pos, U s.done, U s.made, .slice ap s.procs.length cp, .slice ai s.insts.length ci, .slice at_ s.tokens.length ct, .slice aj s.jobs.length cj, .slice ar s.timers.length cr, .slice as_ s.subs.length cs_, .slice ak s.kept.length ck, .slice al s.listed.length cl, .slice am s.msgs.length cm] _ _ _ _ _ _ _ _ _ w0 (H.out.grow hB0.out)).mono ?_
 rintro e w1 ⟨rfl, b1⟩
 have hst1 := hid ((b1.block w.heap.size hlt0).trans hst.out)
 have hB1 := hid (hB0.out.trans (b1.mono hB0.out.size))
 clear b1 hst
 obtain ⟨k0, k1, k2, k3, k4, k5, k6, k7, k8, k9, k10, k11⟩ := cells12 hst1.out
 go_wp2_with fail
 clear k0 k1 k2 k3 k4 k5 k6 k7 k8 k9 k10 k11
 have hlt1 : w.heap.size < w1.heap.size := heap_lt hst1.out
 refine (waiting_any s Hok.out [U s.pos, U s.done, U s.made, .slice ap s.procs.length cp, .slice ai s.insts.length ci, .slice at_ s.tokens.length ct, .slice aj s.jobs.length cj, .slice ar s.timers.length cr, .slice as_ s.subs.length cs_, .slice ak s.kept.length ck, .slice al s.listed.length cl, .slice am s.msgs.length cm] _ _ _ _ _ _ _ _ _ w1 (H.out.grow hB1.out)).mono ?_
 rintro e w2 ⟨rfl, b2⟩
 have hst2 := hid ((b2.block w.heap.size hlt1).trans hst1.out)
 have hB2 := hid (hB1.out.trans (b2.mono hB1.out.size))
 clear b2 hst1
 cases hbr : runB s with
 | false =>
  have E : Hid (mayB s = false) := by show _ = _; simp [mayB, ← runWait, hbr]
  clear hbr
  go_wp2
  go_ret
  rw [E.out]
  exact ⟨rfl, hB2.out⟩
 | true =>
  cases hbw : waitB s with
  | false =>
   have E : Hid (mayB s = false) := by show _ = _; simp [mayB, ← runWait, hbw]
   clear hbr hbw
   go_wp2
   go_ret
   rw [E.out]
   exact ⟨rfl, hB2.out⟩
  | true =>
   have E0 : Hid (∀ b, rowsB (rows s) = b → mayB s = b) := by
    intro b hb
    simp [mayB, ← runWait, hbr, hbw, hb]
   clear hbr hbw
   obtain ⟨k0, k1, k2, k3, k4, k5, k6, k7, k8, k9, k10, k11⟩ := cells12 hst2.out
   go_wp2_with fail
   clear k0 k1 k2 k3 k4 k5 k6 k7 k8 k9 k10 k11
   refine (rall_any s Hok.out [U s.pos, U s.done, U s.made, .slice ap s.procs.length cp, .slice ai s.insts.length ci, .slice at_ s.tokens.length ct, .slice aj s.jobs.length cj, .slice ar s.timers.length cr, .slice as_ s.subs.length cs_, .slice ak s.kept.length ck, .slice al s.listed.length cl, .slice am s.msgs.length cm] _ _ _ _ _ _ _ _ _ w2 (H.out.grow hB2.out)).mono ?_
   rintro e w3 ⟨u, rfl, hf, b3⟩
   have hB3 := hid (hB2.out.trans (b3.mono hB2.out.size))
   have HF := hid hf
   generalize rows s = l at HF hf E0 Hsz
   obtain ⟨ao, co, rfl, hlc, hlm, -⟩ := hf
   unfold maxLen at hlm
   clear b3
   go_wp2
   go_loopw [6] (fun vi wr => ∃ i : Nat, i ≤ l.length ∧ vi = .int .i64 i ∧ Hid ((∀ j, j < i → rOk l j = true) ∧ Below w3.heap.size w3 wr)) (fun vi _ => l.length - (intOf vi).toNat)
   case atStart => exact ⟨0, Nat.zero_le _, rfl, fun j hj => by omega, Below.refl _ _⟩
   case round =>
    obtain ⟨i, hi, rfl, hR⟩ := hrel
    by_cases hlt : i < l.length
    ·
     obtain ⟨⟨rk, rv⟩, hx⟩ : ∃ x, l[i]? = some x := ⟨_, List.getElem?_eq_getElem hlt⟩
     obtain ⟨⟨qk, qv⟩, hy⟩ : ∃ y, l[i - 1]? = some y := ⟨_, List.getElem?_eq_getElem (by omega)⟩
     have hF := rowsF_st _ _ _ _ HF.out hR.out.2
     obtain ⟨b, off, cap', he, c0, c1⟩ := rows_at hF hx
     cases he
     obtain ⟨b2, off2, cap2, he2, d0, -⟩ := rows_at hF hy
     cases he2
     dsimp only at c0 c1 d0
     have Hx := hid hx
     have Hy := hid hy
     have hsv := (Hsz.out _ (List.mem_of_getElem? hx)).2
     have hsk := (Hsz.out _ (List.mem_of_getElem? hy)).1
     dsimp only at hsv hsk
     have hbl := World.block_lt_of_cell? wr _ c0
     dsimp only at hbl
     clear hx hy hF
     have hrnd : rOk l i = true → Hid (∀ j, j < i + 1 → rOk l j = true) := fun hok j hj => by
      by_cases hji : j = i
      ·
       subst hji; exact hok
      ·
       exact hR.out.1 j (by omega)
     have Hrnd := hid hrnd
     clear hrnd
     by_cases hlong : 16384 < rv.size
     ·
      have q0 : decide (16384 < (rv.size : Int)) = true := by simp; omega
      have q0' : decide (16384 < rv.size) = true := by simp; omega
      have E : Hid (mayB s = false) := E0.out _ (rowsB_bad hlt (by simp [rOk, Hx.out]; omega))
      have hb10 := hid (hB3.out.trans (hR.out.2.mono hB3.out.size))
      go_wp2
      go_ret
      rw [E.out]
      exact ⟨rfl, hb10.out⟩
     ·
      have q0 : decide (16384 < (rv.size : Int)) = false := by simp; omega
      have q0' : decide (16384 < rv.size) = false := by simp; omega
      go_wp2_with fail
      by_cases h0 : i = 0
      ·
       have hok : Hid (rOk l i = true) := by
        show _ = _
        subst h0
        simp [rOk, Hx.out]; omega
       have q1 : decide (0 < (i : Int)) = false := by simp [h0]
       have q1' : decide (0 < i) = false := by simp [h0]
       refine wp_par (fun _ => False) (fun _ => True) (List.replicate 17 false) _ [.fix ?_, .fix ?_, .fix ?_, .fix ?_, .fix ?_, .fix ?_, .fix ?_, .fix ?_, .fix ?_, .fix ?_, .fix ?_, .fix ?_, .fix ?_, .fix ?_, .fix ?_, .fix ?_, .fix ?_] (by kernel_rfl) (by kernel_rfl) (by simp only [List.length_replicate, List.drop_succ_cons, List.drop_zero, List.drop_nil]; with_reducible rfl) rfl (fun _ _ _ _ _ => ⟨fun h => h, fun h => h⟩) (fun _ _ h _ => h) trivial ?_
       rotate_left 17
       iterate 17
        first
         | (refine par_skip (a' := ?_) (by rfl) (by rfl) ?_ ?_ ?_; rotate_left 1; with_reducible rfl; (simp only [lays]; with_reducible rfl))
         | (refine par_run (a' := ?_) (by rfl) (by rfl) (fun w' hb hn => ?_) ?_ ?_; rotate_left 1; (have hc := hb.cells; go_simp; (try simp (disch := omega) only [nrm, toNatUp, iteOmega]); first | with_reducible rfl | (go_simp; with_reducible rfl)); (simp only [lays]; with_reducible rfl))
       refine par_end (fun w9 hb9 hf9 _ => ?_)
       replace hb9 := hb9.grow
       try refine wpList_none ?_
       have hbb := hid (hR.out.2.trans (hb9.mono hR.out.2.size))
       clear hb9
       go_wp2
       go_roundw
       case rel => exact ⟨i + 1, by omega, by go_num, Hrnd.out hok.out, hbb.out⟩
       case measure => simp [intOf]; omega
      ·
       have q1 : decide (0 < (i : Int)) = true := by simp; omega
       have q1' : decide (0 < i) = true := by simp; omega
       have hi1 : 1 ≤ i := by omega
       have hless : ∀ W, Calls Tryz.prog 17 #[.string qk, .string rk] W fun e w' => e = .returned (.bool (ltS qk rk)) ∧ Below W.heap.size W w' := fun W => (less_any qk rk W hsk).mono (fun e w2 h => by obtain ⟨he, n, hn⟩ := h; subst hn; exact ⟨he, below_drewN (Below.refl _ _) n⟩)
       have Hless := hid hless
       clear hless
       refine wp_par (fun _ => False) (fun _ => True) (List.replicate 17 false) _ [.fix ?_, .fix ?_, .fix ?_, .fix ?_, .fix ?_, .fix ?_, .fix ?_, .fix ?_, .fix ?_, .fix ?_, .fix ?_, .fix ?_, .fix ?_, .fix ?_, .fix ?_, .fix ?_, .fix ?_] (by kernel_rfl) (by kernel_rfl) (by simp only [List.length_replicate, List.drop_succ_cons, List.drop_zero, List.drop_nil]; with_reducible rfl) rfl (fun _ _ _ _ _ => ⟨fun h => h, fun h => h⟩) (fun _ _ h _ => h) trivial ?_
       rotate_left 17
       iterate 14
        first
         | (refine par_skip (a' := ?_) (by rfl) (by rfl) ?_ ?_ ?_; rotate_left 1; with_reducible rfl; (simp only [lays]; with_reducible rfl))
         | (refine par_run (a' := ?_) (by rfl) (by rfl) (fun w' hb hn => ?_) ?_ ?_; rotate_left 1; (have hc := hb.cells; go_simp; (try simp (disch := omega) only [nrm, toNatUp, iteOmega]); first | with_reducible rfl | (go_simp; with_reducible rfl)); (simp only [lays]; with_reducible rfl))
       refine par_call (a' := ?_) (f := ?_) (args := ?_) (by rfl) (by rfl) (fun w' => ?_) (fun w' hb hn => ?_) ?_ ?_; rotate_left 3; (go_simp; constructor <;> with_reducible rfl); (exact Hless.out w'); (simp only [lays]; with_reducible rfl)
       iterate 2
        first
         | (refine par_skip (a' := ?_) (by rfl) (by rfl) ?_ ?_ ?_; rotate_left 1; with_reducible rfl; (simp only [lays]; with_reducible rfl))
         | (refine par_run (a' := ?_) (by rfl) (by rfl) (fun w' hb hn => ?_) ?_ ?_; rotate_left 1; (have hc := hb.cells; go_simp; (try simp (disch := omega) only [nrm, toNatUp, iteOmega]); first | with_reducible rfl | (go_simp; with_reducible rfl)); (simp only [lays]; with_reducible rfl))
       refine par_end (fun w9 hb9 hf9 _ => ?_)
       replace hb9 := hb9.grow
       try refine wpList_none ?_
       cases hl2 : ltS qk rk with
       | true =>
        have hok : Hid (rOk l i = true) := by
         show _ = _
         obtain ⟨j, rfl⟩ : ∃ j, i = j + 1 := ⟨i - 1, by omega⟩
         have hy' := Hy.out
         simp only [Nat.add_sub_cancel] at hy'
         simp [rOk, Hx.out, hy', hl2]; omega
        have hbb := hid (hR.out.2.trans (hb9.mono hR.out.2.size))
        clear hb9
        go_wp2
        go_roundw
        case rel => exact ⟨i + 1, by omega, by go_num, Hrnd.out hok.out, hbb.out⟩
        case measure => simp [intOf]; omega
       | false =>
        have E : Hid (mayB s = false) := E0.out _ (rowsB_bad hlt (by
         obtain ⟨j, rfl⟩ : ∃ j, i = j + 1 := ⟨i - 1, by omega⟩
         have hy' := Hy.out
         simp only [Nat.add_sub_cancel] at hy'
         simp [rOk, Hx.out, hy', hl2]))
        have hb10 := hid (hB3.out.trans ((hR.out.2.trans (hb9.mono hR.out.2.size)).mono hB3.out.size))
        clear hb9
        go_wp2
        go_ret
        rw [E.out]
        exact ⟨rfl, hb10.out⟩
    ·
     have hin : i = l.length := by omega
     subst hin
     have E := hid (E0.out _ (rowsB_end hR.out.1))
     have hb10 := hid (hB3.out.trans (hR.out.2.mono hB3.out.size))
     go_wp2
     go_ret
     rw [E.out]
     exact ⟨rfl, hb10.out⟩
end Go.Proofs.YthikijlbclckdaaGreat
namespace Go.Proofs.YthikijlbclckdaaGreat
set_option maxRecDepth 100000
set_option maxHeartbeats 40000000
set_option linter.unusedSimpArgs false
set_option linter.unusedVariables false
open Go.RowKit
def toldS (s : StateV) : List RowV := if mayB s then rows s else []
theorem toldS_yes {s : StateV} (h : mayB s = true) : toldS s = rows s := if_pos h
theorem toldS_no {s : StateV} (h : mayB s = false) : toldS s = [] := if_neg (by rw [h]; decide)
theorem rows_nil (w : World) : rowsF [] (.slice none 0 0) w := FlatAt.nil 2 w
theorem rows_set {w : World} {l : List RowV} {v : Value} {B : Nat} {T : TypeId} (hbox : w.heap[B]? = some (.cells #[.slice none 0 0] T (0, 0))) (h : rowsF l v w) (u : Value) : rowsF l v (w.setCell ⟨B, 0, none⟩ u) := by
 have hstr : ∀ (l : List RowV) (j : Nat) (x : Value), (rowsC l)[j]? = some x → ∃ t, x = .string t := by
  intro l
  induction l with
  | nil => intro j x h; cases h
  | cons q l ih =>
   intro j x h
   match j, h with
   | 0, h => cases h; exact ⟨_, rfl⟩
   | 1, h => cases h; exact ⟨_, rfl⟩
   | n + 2, h => exact ih n x h
 obtain ⟨a, cap, hv, h1, h2, h3, h4⟩ := h
 refine ⟨a, cap, hv, h1, h2, h3, fun j x hx => ?_⟩
 obtain ⟨b, off, ha, hc⟩ := h4 j x hx
 refine ⟨b, off, ha, ?_⟩
 by_cases hb : b = B
 ·
  exfalso
  subst hb
  obtain ⟨t, rfl⟩ := hstr l j x hx
  have e := (cell_of hbox (off + j)).symm.trans hc
  match off + j, e with
  | 0, e => cases e
  | n + 1, e => simp at e
 ·
  have hne : (⟨B, 0, none⟩ : Addr) ≠ ⟨b, off + j, none⟩ := fun e => hb (by have := congrArg Addr.block e; exact this.symm)
  rw [World.cell?_setCell_other (h := hne)]
  exact hc
theorem srows_any (s : StateV) (hok : StateOk s) (cs : List Value) (vp vi vt vj vr vs vk vl vm : Value) (w : World) (h : StateAt w cs s vp vi vt vj vr vs vk vl vm) :
  Calls Tryz.prog 12 #[.agg cs.toArray] w fun e w' => ∃ lc v, e = .returned (.func (.func 27) #[] #[.pointer (some ⟨lc, 0, none⟩)]) ∧ w'.cell? ⟨lc, 0, none⟩ = some v ∧ rowsF (toldS s) v w' ∧ Below w.heap.size w w' := by
 have H := hid h
 have Hok := hid hok
 obtain ⟨hcs, hp, hi, ht, hj, hr, hs, hk, hl, hm⟩ := h
 obtain ⟨ap, cp, rfl, -⟩ := hp
 obtain ⟨ai, ci, rfl, -⟩ := hi
 obtain ⟨at_, ct, rfl, -⟩ := ht
 obtain ⟨aj, cj, rfl, -⟩ := hj
 obtain ⟨ar, cr, rfl, -⟩ := hr
 obtain ⟨as_, cs_, rfl, -⟩ := hs
 obtain ⟨ak, ck, rfl, -⟩ := hk
 obtain ⟨al, cl, rfl, -⟩ := hl
 obtain ⟨am, cm, rfl, -⟩ := hm
 subst hcs
 clear hok
 go_enter Tryz.func12, Tryz.ntmps12
 go_wp2_with fail
 have hst := hid (alloc_new w (.cells #[U s.pos, U s.done, U s.made, .slice ap s.procs.length cp, .slice ai s.insts.length ci, .slice at_ s.tokens.length ct, .slice aj s.jobs.length cj, .slice ar s.timers.length cr, .slice as_ s.subs.length cs_, .slice ak s.kept.length ck, .slice al s.listed.length cl, .slice am s.msgs.length cm] 33))
 have hB0 := hid ((Below.refl _ w).alloc (Nat.le_refl _) (.cells #[U s.pos, U s.done, U s.made, .slice ap s.procs.length cp, .slice ai s.insts.length ci, .slice at_ s.tokens.length ct, .slice aj s.jobs.length cj, .slice ar s.timers.length cr, .slice as_ s.subs.length cs_, .slice ak s.kept.length ck, .slice al s.listed.length cl, .slice am s.msgs.length cm] 33))
 have hsz0 : (w.alloc (.cells #[U s.pos, U s.done, U s.made, .slice ap s.procs.length cp, .slice ai s.insts.length ci, .slice at_ s.tokens.length ct, .slice aj s.jobs.length cj, .slice ar s.timers.length cr, .slice as_ s.subs.length cs_, .slice ak s.kept.length ck, .slice al s.listed.length cl, .slice am s.msgs.length cm] 33)).heap.size = w.heap.size + 1 := by simp
 generalize w.alloc (.cells #[U s.pos, U s.done, U s.made, .slice ap s.procs.length cp, .slice ai s.insts.length ci, .slice at_ s.tokens.length ct, .slice aj s.jobs.length cj, .slice ar s.timers.length cr, .slice as_ s.subs.length cs_, .slice ak s.kept.length ck, .slice al s.listed.length cl, .slice am s.msgs.length cm] 33) = w0 at hst hB0 hsz0 ⊢
 try rw [← hsz0]
 have hst' := hid ((alloc_old (.cells #[.slice none 0 0] 66) (heap_lt hst.out)).trans hst.out)
 have hbx := hid (alloc_new w0 (.cells #[.slice none 0 0] 66))
 have hB0' := hid (hB0.out.alloc hB0.out.size (.cells #[.slice none 0 0] 66))
 have hlt0 : w0.heap.size < (w0.alloc (.cells #[.slice none 0 0] 66)).heap.size := by simp
 have hle0 : w.heap.size ≤ w0.heap.size := by omega
 have Hsz0 := hid hsz0
 clear hsz0
 generalize w0.alloc (.cells #[.slice none 0 0] 66) = w1 at hst' hbx hB0' hlt0 ⊢
 refine (smay_any s Hok.out (rowsSz s Hok.out) [U s.pos, U s.done, U s.made, .slice ap s.procs.length cp, .slice ai s.insts.length ci, .slice at_ s.tokens.length ct, .slice aj s.jobs.length cj, .slice ar s.timers.length cr, .slice as_ s.subs.length cs_, .slice ak s.kept.length ck, .slice al s.listed.length cl, .slice am s.msgs.length cm] _ _ _ _ _ _ _ _ _ w1 (H.out.grow hB0'.out)).mono ?_
 rintro e w2 ⟨rfl, b2⟩
 have hst2 := hid ((b2.block w.heap.size (heap_lt hst'.out)).trans hst'.out)
 have hbx2 := hid ((b2.block w0.heap.size hlt0).trans hbx.out)
 have hB2 := hid (hB0'.out.trans (b2.mono hB0'.out.size))
 clear b2 hst hst' hbx
 have kb := cell_of hbx2.out 0
 cases hb : mayB s with
 | false =>
  have E := hid (toldS_no hb)
  clear hb
  go_wp2
  go_ret
  exact ⟨_, _, rfl, kb, by rw [E.out]; exact rows_nil _, hB2.out⟩
 | true =>
  have E := hid (toldS_yes hb)
  clear hb kb
  obtain ⟨k0, k1, k2, k3, k4, k5, k6, k7, k8, k9, k10, k11⟩ := cells12 hst2.out
  go_wp2_with fail
  clear k0 k1 k2 k3 k4 k5 k6 k7 k8 k9 k10 k11
  refine (rows_any s Hok.out [U s.pos, U s.done, U s.made, .slice ap s.procs.length cp, .slice ai s.insts.length ci, .slice at_ s.tokens.length ct, .slice aj s.jobs.length cj, .slice ar s.timers.length cr, .slice as_ s.subs.length cs_, .slice ak s.kept.length ck, .slice al s.listed.length cl, .slice am s.msgs.length cm] _ _ _ _ _ _ _ _ _ w2 (H.out.grow hB2.out)).mono ?_
  rintro e w3 ⟨u, rfl, hf, b3⟩
  have hB3 := hid (hB2.out.trans (b3.mono hB2.out.size))
  have hbx3 := hid ((b3.block w0.heap.size (heap_lt hbx2.out)).trans hbx2.out)
  have kb := cell_of hbx3.out 0
  have kf : w3.frozen? ⟨w0.heap.size, 0, none⟩ = false := by simp [World.frozen?, hbx3.out]
  have HF := hid hf
  obtain ⟨ao, co, rfl, -⟩ := hf
  clear b3
  go_wp2
  go_ret
  exact ⟨_, _, rfl, World.cell?_setCell_same' _ _ _ (by rw [kb]; rfl), by rw [E.out]; exact rows_set hbx3.out HF.out _, hB3.out.setCell (p := ⟨w0.heap.size, 0, none⟩) hle0 _⟩
end Go.Proofs.YthikijlbclckdaaGreat
namespace Go.Proofs.YthikijlbclckdaaGreat
set_option maxRecDepth 100000
set_option maxHeartbeats 40000000
set_option linter.unusedSimpArgs false
set_option linter.unusedVariables false
open Go.RowKit
def state0 : StateV := { pos := 0, done := 0, made := 0, procs := [], insts := [], tokens := [], jobs := [], timers := [], subs := [], kept := [], listed := [], msgs := [] }
def cells0 : List Value := [U 0, U 0, U 0, .slice none 0 0, .slice none 0 0, .slice none 0 0, .slice none 0 0, .slice none 0 0, .slice none 0 0, .slice none 0 0, .slice none 0 0, .slice none 0 0]
theorem listAt0 {α : Type} (R : World → List Value → α → Prop) (size : Nat) (w : World) : ListAt R size w (.slice none 0 0) [] :=
 ⟨none, 0, rfl, Nat.le_refl _, by simp [maxLen], fun i x h => by cases h⟩
theorem stateAt0 (w : World) : StateAt w cells0 state0 (.slice none 0 0) (.slice none 0 0) (.slice none 0 0) (.slice none 0 0) (.slice none 0 0) (.slice none 0 0) (.slice none 0 0) (.slice none 0 0) (.slice none 0 0) :=
 ⟨rfl, listAt0 _ _ _, listAt0 _ _ _, listAt0 _ _ _, listAt0 _ _ _, listAt0 _ _ _, listAt0 _ _ _, listAt0 _ _ _, listAt0 _ _ _, listAt0 _ _ _⟩
theorem stateOk0 : StateOk state0 := by
 constructor <;> first | (show U64 0; unfold U64; omega) | (intro x hx; cases hx) | (simp [state0])
theorem uv0 : uvS 0 = ⟨#[0]⟩ := by unfold uvS; rw [Lib.uvarint_small (by decide)]; rfl
theorem rows0 : rows state0 = [(⟨#[97]⟩, ⟨#[0, 0, 0]⟩)] := by
 show [((c1 97 : ByteArray), uvS 0 ++ uvS 0 ++ uvS 0)] = _
 rw [uv0]
 rfl
theorem may0 : mayB state0 = true := by
 have h1 : boundsB state0 = true := by rfl
 unfold mayB
 rw [h1, rows0]
 rfl
theorem told0 : toldS state0 = [(⟨#[97]⟩, ⟨#[0, 0, 0]⟩)] := by rw [toldS_yes may0, rows0]
theorem run_eql_func_nil {P : Program} (w : World) (t : TypeId) {a b c} (h : P.underlying t = some (.func a b c)) : (binOp .eql t .nilFunc .nilFunc).run P w = .ok (.bool true) w := by
 have e : (Op.equal t .nilFunc .nilFunc).run P w = .ok true w := by
  show (Op.equalIn (Nat.succ 9999) t .nilFunc .nilFunc).run P w = _
  generalize 9999 = d
  simp [Op.equalIn, run_underlying h]
 simp only [binOp]
 simp [e]
theorem run_eql_func_some {P : Program} (w : World) (t : TypeId) (f : Fn) (xs ys : Array Value) {a b c} (h : P.underlying t = some (.func a b c)) : (binOp .eql t (.func f xs ys) .nilFunc).run P w = .ok (.bool false) w := by
 have e : (Op.equal t (.func f xs ys) .nilFunc).run P w = .ok false w := by
  show (Op.equalIn (Nat.succ 9999) t (.func f xs ys) .nilFunc).run P w = _
  generalize 9999 = d
  simp [Op.equalIn, run_underlying h]
 simp only [binOp]
 simp [e]
theorem readNil_any (w : World) : Calls Tryz.prog 18 #[.nilFunc] w fun e w' => e = .returned (.tuple #[.agg cells0.toArray, .int .i64 3]) ∧ Below w.heap.size w w' := by
 go_enter Tryz.func18, Tryz.ntmps18
 have he := fun w => run_eql_func_nil (P := Tryz.prog) w 38 Tryz.underlying38
 go_wp2
 have hb : Below w.heap.size w (((((w.alloc (.cells cells0.toArray 33)).alloc (.cells #[.int .i64 3] 47)).alloc (.cells cells0.toArray 33)).alloc (.cells #[.string ⟨#[]⟩] 9)).alloc (.cells #[.bool true] 4)) := by
  refine ((((((Below.refl _ w).alloc (Nat.le_refl _) _).alloc ?_ _).alloc ?_ _).alloc ?_ _).alloc ?_ _) <;> (simp only [World.size_alloc]; omega)
 have x2 := alloc_new w (.cells cells0.toArray 33)
 have x3 := alloc_new (w.alloc (.cells cells0.toArray 33)) (.cells #[.int .i64 3] 47)
 have y2 := (alloc_old (.cells #[.int .i64 3] 47) (heap_lt x2)).trans x2
 have z2 := (alloc_old (.cells cells0.toArray 33) (heap_lt y2)).trans y2
 have y3 := (alloc_old (.cells cells0.toArray 33) (heap_lt x3)).trans x3
 have u2 := (alloc_old (.cells #[.string ⟨#[]⟩] 9) (heap_lt z2)).trans z2
 have z3 := (alloc_old (.cells #[.string ⟨#[]⟩] 9) (heap_lt y3)).trans y3
 have v2 := (alloc_old (.cells #[.bool true] 4) (heap_lt u2)).trans u2
 have u3 := (alloc_old (.cells #[.bool true] 4) (heap_lt z3)).trans z3
 change bodyPost _ _ _ _ _ (((((w.alloc (.cells cells0.toArray 33)).alloc (.cells #[.int .i64 3] 47)).alloc (.cells cells0.toArray 33)).alloc (.cells #[.string ⟨#[]⟩] 9)).alloc (.cells #[.bool true] 4))
 simp only [World.size_alloc] at u3
 generalize (((((w.alloc (.cells cells0.toArray 33)).alloc (.cells #[.int .i64 3] 47)).alloc (.cells cells0.toArray 33)).alloc (.cells #[.string ⟨#[]⟩] 9)).alloc (.cells #[.bool true] 4)) = W at hb v2 u3 ⊢
 clear x2 x3 y2 z2 y3 u2 z3
 obtain ⟨k0, k1, k2, k3, k4, k5, k6, k7, k8, k9, k10, k11⟩ := cells12 v2
 have e0 := cell_of u3 0
 try simp only [cells0] at k0 k1 k2 k3 k4 k5 k6 k7 k8 k9 k10 k11
 exact bodyPost_ret (v := .tuple #[.agg cells0.toArray, .int .i64 3]) (by simp [results, Tryz.results18, go_sem, cells0, k0, k1, k2, k3, k4, k5, k6, k7, k8, k9, k10, k11, e0]) rfl ⟨rfl, hb⟩
theorem shown_any (w : World) : Calls Tryz.prog 10 #[] w fun e w' => e = .returned (.bool true) ∧ Below w.heap.size w w' := by
 go_enter Tryz.func10, Tryz.ntmps10
 go_wp2_with fail
 refine (smay_any state0 stateOk0 (rowsSz _ stateOk0) cells0 _ _ _ _ _ _ _ _ _ w (stateAt0 w)).mono ?_
 rintro e w1 ⟨rfl, b1⟩
 rw [may0]
 have B1 := hid b1
 clear b1
 go_wp2_with fail
 refine (srows_any state0 stateOk0 cells0 _ _ _ _ _ _ _ _ _ w1 (stateAt0 w1)).mono ?_
 rintro e w2 ⟨lc, v, rfl, hlc, hv, b2⟩
 rw [told0] at hv
 have B2 := hid (B1.out.trans (b2.mono B1.out.size))
 have Hlc := hid hlc
 have Hv := hid hv
 clear b2 hlc hv
 go_wp2_with fail
 refine (told_any lc _ v w2 Hlc.out Hv.out (by simp)).mono ?_
 rintro e w3 ⟨u, rfl, hf, b3⟩
 have B3 := hid (B2.out.trans (b3.mono B2.out.size))
 obtain ⟨b, off, cap, rfl, c0, c1⟩ := rows_at hf (i := 0) rfl
 dsimp only at c0 c1
 have hbl := World.block_lt_of_cell? w3 _ c0
 dsimp only at hbl
 have C0 := hid c0
 have C1 := hid c1
 clear b3 hf c0 c1
 go_wp2_with fail
 refine (readNil_any w3).mono ?_
 rintro e w4 ⟨rfl, b4⟩
 have c0 := (b4.cell (p := ⟨b, off + 0 * 2, none⟩) hbl).trans C0.out
 have c1 := (b4.cell (p := ⟨b, off + 0 * 2 + 1, none⟩) hbl).trans C1.out
 have B4 := hid (B3.out.trans (b4.mono B3.out.size))
 have hbl4 := World.block_lt_of_cell? w4 _ c0
 dsimp only at hbl4
 clear b4
 simp only [Nat.zero_mul, Nat.add_zero] at c0 c1
 simp only [cells0]
 go_wp2
 go_ret
 exact ⟨rfl, B4.out.alloc B4.out.size _⟩
theorem cells0_at {w : World} {b : Nat} {T : TypeId} (h : w.heap[b]? = some (.cells cells0.toArray T (0, 0))) :
  w.cell? ⟨b, 0, none⟩ = some (.int .u64 0) ∧ w.frozen? ⟨b, 0, none⟩ = false ∧ w.cell? ⟨b, 1, none⟩ = some (.int .u64 0) ∧ w.frozen? ⟨b, 1, none⟩ = false ∧ w.cell? ⟨b, 2, none⟩ = some (.int .u64 0) ∧ w.frozen? ⟨b, 2, none⟩ = false ∧ w.cell? ⟨b, 3, none⟩ = some (.slice none 0 0) ∧ w.frozen? ⟨b, 3, none⟩ = false ∧ w.cell? ⟨b, 4, none⟩ = some (.slice none 0 0) ∧ w.frozen? ⟨b, 4, none⟩ = false ∧ w.cell? ⟨b, 5, none⟩ = some (.slice none 0 0) ∧ w.frozen? ⟨b, 5, none⟩ = false ∧ w.cell? ⟨b, 6, none⟩ = some (.slice none 0 0) ∧ w.frozen? ⟨b, 6, none⟩ = false ∧ w.cell? ⟨b, 7, none⟩ = some (.slice none 0 0) ∧ w.frozen? ⟨b, 7, none⟩ = false ∧ w.cell? ⟨b, 8, none⟩ = some (.slice none 0 0) ∧ w.frozen? ⟨b, 8, none⟩ = false ∧ w.cell? ⟨b, 9, none⟩ = some (.slice none 0 0) ∧ w.frozen? ⟨b, 9, none⟩ = false ∧ w.cell? ⟨b, 10, none⟩ = some (.slice none 0 0) ∧ w.frozen? ⟨b, 10, none⟩ = false ∧ w.cell? ⟨b, 11, none⟩ = some (.slice none 0 0) ∧ w.frozen? ⟨b, 11, none⟩ = false :=
 ⟨cell_of h 0, free_of h 0, cell_of h 1, free_of h 1, cell_of h 2, free_of h 2, cell_of h 3, free_of h 3, cell_of h 4, free_of h 4, cell_of h 5, free_of h 5, cell_of h 6, free_of h 6, cell_of h 7, free_of h 7, cell_of h 8, free_of h 8, cell_of h 9, free_of h 9, cell_of h 10, free_of h 10, cell_of h 11, free_of h 11⟩
end Go.Proofs.YthikijlbclckdaaGreat
namespace Go.Proofs.YthikijlbclckdaaGreat.Ps
set_option maxRecDepth 100000
set_option maxHeartbeats 40000000
set_option linter.unusedSimpArgs false
set_option linter.unusedVariables false
open Go.RowKit
section
variable {P : Program} {ops : Array Oper} {Q : Exit → Act → World → Prop}
theorem calls_round {l n : Nat} {f : FuncId} {args : Array Value} {w : World} {R : Ending → World → Prop} (h : Calls P f args w R) : CallsIn (Fence.wide.inRound l) n P f args w R := callsIn_wide (n := n).2 h
def noDefer (ops : Array Oper) : Bool := ops.all fun o => match o.op with
 | .defer _ => false
 | _ => true
theorem noDefer_at (hd : noDefer ops = true) {i : Nat} {o : Oper} (ho : ops[i]? = some o) : ∀ c, o.op ≠ .defer c := by
 intro c hc
 have := Array.all_eq_true'.1 hd o (Array.mem_of_getElem? ho)
 rw [hc] at this
 cases this
theorem wpOper_in {l n : Nat} {o : Oper} (hd : ∀ c, o.op ≠ .defer c) {a : Act} {w : World} {K : Act → World → Prop} (h : o.wp P a w K Q) : o.wpIn (Fence.wide.inRound l) n P a w K Q := by
 refine ⟨fun _ _ => trivial, ?_⟩
 rw [Oper.semAt_eq _ _ _ hd]
 unfold Oper.wp at h
 generalize (execOp a.eval o).run P w = r at h
 cases r with
 | ok x w' =>
  cases x <;> simp only [Oper.upon] at h <;> simp only [Oper.uponIn] <;>
   first
    | exact h
    | exact ⟨fun hx => absurd hx (by simp [Fence.inRound, Fence.wide]), calls_round h⟩
    | exact ⟨fun hx => absurd hx (by simp [Fence.inRound, Fence.wide]), fun c cs _ => let ⟨v, w', r, s⟩ := h c cs; ⟨v, w', r, stepsIn_wide.2 s⟩⟩
    | exact h.elim
 | halt x w' => cases x <;> simp only [Oper.upon] at h <;> simp only [Oper.uponIn] <;> exact h
theorem wpOp_in {l n i : Nat} (hd : noDefer ops = true) (hout : ∀ a w, ¬ Q .outgrown a w) {a : Act} {w : World} {K : Act → World → Prop} (h : wpOp P ops Q i K a w) : wpOpIn (Fence.wide.inRound l) n P ops Q i K a w := by
 unfold wpOp at h
 unfold wpOpIn
 cases ho : ops[i]? with
 | none => rw [ho] at h; simpa using h
 | some o =>
  rw [ho] at h
  simp only at h ⊢
  split at h
  ·
   rename_i hw
   rw [if_pos hw]
   rcases h with h | ⟨_, a', w', hq⟩
   ·
    exact wpOper_in (noDefer_at hd ho) h
   ·
    exact (hout _ _ hq).elim
  ·
   rename_i hw
   rw [if_neg hw]
   exact ⟨fun _ _ => trivial, h⟩
theorem wpAny_in {l n : Nat} (hd : noDefer ops = true) (hout : ∀ a w, ¬ Q .outgrown a w) {md : Region.Mode} : ∀ (fuel : Nat) (listed : Array Bool) (a : Act) (w : World), wpAny P md ops Q fuel listed a w → wpAnyIn (Fence.wide.inRound l) n P md ops Q fuel listed a w := by
 intro fuel
 induction fuel with
 | zero => exact fun listed a w h => h
 | succ fuel ih =>
  intro listed a w h
  exact ⟨h.1, fun i hi => wpOpIn_mono (fun a w => ih _ a w) (wpOp_in hd hout (h.2 i hi))⟩
theorem wpIn_par {id l n : Nat} {a : Act} {w : World} (O : Rel) (R : World → Prop) (ch : List Bool) (tl : List Oper) (L : List Sp) (hm : P.follows .mixedOrders = true) (hck : parCheck ops ch = true) (htl : ops.toList.drop ch.length = tl) (hch : L.map Sp.chain = ch)
  (hQ' : ∀ c t v a w, Q (.panic c) (a.put (some t) v) w ↔ Q (.panic c) a w) (hRs : ∀ w w', R w → O.N w w' → R w') (hR : R w) (hd : noDefer ops = true) (hout : ∀ a w, ¬ Q .outgrown a w)
  (h : ParOk P ops Q O w tl (number 0 L) [] R a) : (Code.region id ops true).wpIn (Fence.wide.inRound l) n P Q a w := by
 refine wpIn_region_any hm (wpAny_in hd hout _ _ _ _ ?_)
 subst hch
 have hQ : ∀ c d v a w, Q (.panic c) (a.put d v) w ↔ Q (.panic c) a w := fun c d v a w => by
  cases d with
  | none => exact Iff.rfl
  | some t => exact hQ' c t v a w
 have hl : L.length ≤ ops.size := by
  have := hck
  unfold parCheck at this
  simp only [Bool.and_eq_true, decide_eq_true_eq, List.length_map] at this
  exact this.1.1.1.1
 have hdr := O.draw w
 refine par_any hQ hck htl ops.size (number 0 L) _ [] R a _ ?_ (by simp) ?_ ?_ ?_ (number_sorted L 0) ?_ (by simp) hRs (O.of _ _ hdr) (by simp) (hRs _ _ hR hdr) h
 ·
  rw [number_length, List.length_map]; omega
 ·
  intro i
  rw [number_mem, List.length_map]
  constructor
  ·
   rintro ⟨-, h⟩
   have h2 : i < ops.size := by omega
   exact ⟨by omega, by simp [h2]⟩
  ·
   rintro ⟨h, -⟩
   omega
 ·
  intro i _ h2
  simp [h2]
 ·
  intro k hk
  by_cases hlt : k < ops.size <;> simp [hlt] at hk
 ·
  intro x hx
  simpa using number_chain L 0 x hx
theorem par_sfr {O : Rel} {W0 : World} {tl : List Oper} {i : Nat} {o : Oper} {L : List Sp} {Φ : List (Nat × (World → Prop))} {R R' : World → Prop} {a a' : Act} {v : Value} (ho : ops.toList[i]? = some o) (hw : Region.wanted o (yielded ops a.tmps) = true) (hRs : ∀ w w', R' w → O.N w w' → R' w')
  (h : ∀ w, O.G W0 w → Need ops i Φ w → R w → ∃ w', (execOp a.eval o).run P w = .ok (.value v) w' ∧ O.G w w' ∧ R' w') (ha : a.put o.dst v = a')
  (hr : ParOk P ops Q O W0 tl (number (i + 1) L) Φ R' a') : ParOk P ops Q O W0 tl (number i (.sf v R' :: L)) Φ R a := by
 have ho := of_list ho
 refine ⟨⟨fun _ _ _ _ _ => trivial, fun _ _ _ => hRs⟩, fun w hb hn hR => ?_, ?_⟩
 ·
  rw [dst_of ho]
  refine wpOp_step ho fun K hK => ?_
  rw [if_pos hw]
  unfold Oper.wp
  obtain ⟨w', he, hb', hr'⟩ := h w hb hn (hR rfl)
  rw [he]
  exact hK _ _ ⟨v, rfl, rfl, trivial, hb', hr'⟩
 ·
  rintro u rfl
  rw [dst_of ho, ha]
  exact ParOk.more (fun p hp => List.mem_cons_of_mem _ hp) hr
theorem par_sfs {O : Rel} {W0 : World} {tl : List Oper} {i : Nat} {o : Oper} {L : List Sp} {Φ : List (Nat × (World → Prop))} {R R' : World → Prop} {a a' : Act} (ho : ops.toList[i]? = some o) (hw : Region.wanted o (yielded ops a.tmps) = true) (hRs : ∀ w w', R' w → O.N w w' → R' w')
  (h : ∀ w, O.G W0 w → Need ops i Φ w → R w → ∃ w', (execOp a.eval o).run P w = .ok .skip w' ∧ O.G w w' ∧ R' w') (hd : o.dst = none) (ha : a = a')
  (hr : ParOk P ops Q O W0 tl (number (i + 1) L) Φ R' a') : ParOk P ops Q O W0 tl (number i (.sf undef R' :: L)) Φ R a := by
 have ho := of_list ho
 refine ⟨⟨fun _ _ _ _ _ => trivial, fun _ _ _ => hRs⟩, fun w hb hn hR => ?_, ?_⟩
 ·
  rw [dst_of ho]
  refine wpOp_step ho fun K hK => ?_
  rw [if_pos hw]
  unfold Oper.wp
  obtain ⟨w', he, hb', hr'⟩ := h w hb hn (hR rfl)
  rw [he]
  exact hK _ _ ⟨undef, by rw [hd], rfl, trivial, hb', hr'⟩
 ·
  rintro u rfl
  rw [dst_of ho, hd]
  subst ha
  exact ParOk.more (fun p hp => List.mem_cons_of_mem _ hp) hr
end
end Go.Proofs.YthikijlbclckdaaGreat.Ps
