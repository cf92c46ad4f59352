/- Keep: contracts (Gp Gq Gr Gs Fb). -/
import Derived.Test.YtjkbfoeakeoeiaaGreatV6
import Derived.Test.YtjkbfoeakeoeiaaGreatV15
namespace Go.Proofs.YtjkbfoeakeoeiaaGreat
set_option maxRecDepth 100000
set_option maxHeartbeats 40000000
set_option linter.unusedSimpArgs false
set_option linter.unusedVariables false
open Go.IntWalk Go.RowKit
structure SmS (s : StateV) : Prop where
  z : s.procs.length ≤ 1000 ∧ s.tokens.length ≤ 1000 ∧ s.jobs.length ≤ 1000 ∧ s.timers.length ≤ 1000 ∧ s.subs.length ≤ 1000 ∧ s.kept.length ≤ 1000
  ins : s.insts = []
  l1 : s.listed.length ≤ 1
  m1 : s.msgs.length ≤ 1
  lv : ∀ x ∈ s.listed, x.vars.length ≤ 1048576
  mv : ∀ x ∈ s.msgs, x.vars.length ≤ 1048576 ∧ x.insts.length ≤ 1000
theorem fclone_sm (S : Nat → Prop) (w : World) (s : StateV) (cs : List Value) (hS : ∀ b, S b → b < w.heap.size) (hs : StAt S w cs s) (h : SmS s) : Calls Tryz.prog 25 #[.agg cs.toArray] w fun e w' => ∃ cs', e = .returned (.agg cs'.toArray) ∧ StAt S w' cs' s ∧ Below w.heap.size w w' :=
  fclone_any S w s cs hS hs h.z h.ins h.l1 h.m1 h.lv h.mv
theorem wnow_any (w : World) (wb : Nat) (S : Nat → Prop) (ve : Value) (k : WorkV) (hW : WorkAt w wb S ve k) :
    Calls Tryz.prog 32 #[.pointer (some ⟨wb, 0, none⟩)] w fun e w' => e = .returned (I k.now) ∧ Below w.heap.size w w' := by
  obtain ⟨vp, vi, vt, vj, vr, vs, vk, vl, vm, hblk, -⟩ := hW.blk
  have k0 := cell_of hblk 14
  clear hW hblk
  go_enter Tryz.func32, Tryz.ntmps32
  go_wp2
  go_ret
  exact ⟨rfl, Below.refl _ _⟩
theorem wpos_any (w : World) (wb : Nat) (S : Nat → Prop) (ve : Value) (k : WorkV) (hW : WorkAt w wb S ve k) :
    Calls Tryz.prog 66 #[.pointer (some ⟨wb, 0, none⟩)] w fun e w' => e = .returned (U k.pos) ∧ Below w.heap.size w w' := by
  obtain ⟨vp, vi, vt, vj, vr, vs, vk, vl, vm, hblk, -⟩ := hW.blk
  have k0 := cell_of hblk 13
  clear hW hblk
  go_enter Tryz.func66, Tryz.ntmps66
  go_wp2
  go_ret
  exact ⟨rfl, Below.refl _ _⟩
theorem wkey_any (w : World) (wb : Nat) (S : Nat → Prop) (ve : Value) (k : WorkV) (hW : WorkAt w wb S ve k) (hp : k.part = 0) (hm : k.s.made < 1000000) :
    Calls Tryz.prog 31 #[.pointer (some ⟨wb, 0, none⟩)] w fun e w' => e = .returned (U (k.s.made + 1)) ∧ Below w.heap.size w w' := by
  obtain ⟨vp, vi, vt, vj, vr, vs, vk, vl, vm, hblk, -⟩ := hW.blk
  have k0 := cell_of hblk 2
  have k1 := cell_of hblk 12
  have hlt := heap_lt hblk
  rw [hp] at k1
  clear hW hblk hp
  go_enter Tryz.func31, Tryz.ntmps31
  go_wp2_with fail
  refine wp_par (fun _ => False) (fun _ => True) (List.replicate 14 false) _ [.fix ?_, .fix ?_, .fix ?_, .fix ?_, .fix ?_, .fix ?_, .fix ?_, .fix ?_, .fix ?_, .fix ?_, .fix ?_, .fix ?_, .fix ?_, .fix ?_] (by kernel_rfl) (by kernel_rfl) (by simp only [List.length_replicate, List.drop_succ_cons, List.drop_zero, List.drop_nil]; with_reducible rfl) rfl (fun _ _ _ _ _ => ⟨fun h => h, fun h => h⟩) (fun _ _ h _ => h) trivial ?_
  rotate_left 14
  iterate 14
    first
      | (refine par_skip (a' := ?_) (by rfl) (by rfl) ?_ ?_ ?_; rotate_left 1; with_reducible rfl; (simp only [Act.put, List.setIfInBounds_toArray, List.set_cons_zero, List.set_cons_succ]; with_reducible rfl))
      | (refine par_run (a' := ?_) (by rfl) (by rfl) (fun w' hb hn => ?_) ?_ ?_; rotate_left 1; (have hc := hb.cells; first | (go_simp; (try simp (disch := omega) only [IntWalk.i64_in, IntWalk.i32_in, IntWalk.u64_in, IntWalk.u8_in, IntWalk.u32_in, toNatUp, iteOmega]); with_reducible rfl) | (go_simp; (try simp (disch := omega) only [IntWalk.i64_in, IntWalk.i32_in, IntWalk.u64_in, IntWalk.u8_in, IntWalk.u32_in, toNatUp, iteOmega]); go_simp; with_reducible rfl)); (simp only [Act.put, List.setIfInBounds_toArray, List.set_cons_zero, List.set_cons_succ]; with_reducible rfl))
  refine par_end (fun w9 hb9 hf9 _ => ?_)
  replace hb9 := hb9.grow
  try refine wpList_none ?_
  have hb := hid hb9
  clear hb9
  go_wp2
  go_ret
  exact ⟨by go_num, hb.out⟩
theorem wstate_any (w : World) (wb : Nat) (S : Nat → Prop) (ve : Value) (k : WorkV) (hW : WorkAt w wb S ve k) (hsm : SmS k.s) :
    Calls Tryz.prog 18 #[.pointer (some ⟨wb, 0, none⟩)] w fun e w' => ∃ cs, e = .returned (.agg cs.toArray) ∧ StAt S w' cs k.s ∧ Below w.heap.size w w' := by
  obtain ⟨vp, vi, vt, vj, vr, vs, vk, vl, vm, hblk, hst⟩ := hW.blk
  obtain ⟨⟨pa, pc, rfl⟩, ⟨ia, ic, rfl⟩, ⟨ta, tc, rfl⟩, ⟨ja, jc, rfl⟩, ⟨ra, rc, rfl⟩, ⟨sa, sc, rfl⟩, ⟨ka, kc, rfl⟩, ⟨la, lc, rfl⟩, ⟨ma, mc, rfl⟩⟩ := hst.shapes
  have Hst := hid hst
  have HB := hid hblk
  have Hlt := hid hW.lt
  have hwb := heap_lt hblk
  clear hW hblk hst
  go_enter Tryz.func18, Tryz.ntmps18
  obtain ⟨k0, k1, k2, k3, k4, k5, k6, k7, k8, k9, k10, k11⟩ := cells12of17 HB.out
  go_wp2_with fail
  clear k0 k1 k2 k3 k4 k5 k6 k7 k8 k9 k10 k11
  refine calls_box1 ?_
  intro W0 h0 B0 hz
  have hT := hidB_lt (k := 1) (fun b h => (Hlt.out b h).1) (show w.heap.size + 1 ≤ W0.heap.size by omega)
  refine (fclone_sm (hidB S w.heap.size 1) W0 k.s _ hT ⟨_, _, _, _, _, _, _, _, _, Hst.out.sees (sees_grow B0.out (fun b => hidB_old b))⟩ hsm).mono ?_
  rintro e w1 ⟨cs2, rfl, ⟨vp, vi, vt, vj, vr, vs, vk, vl, vm, hs2⟩, b1⟩
  have hcs2 := hs2.cells
  obtain ⟨⟨pa2, pc2, rfl⟩, ⟨ia2, ic2, rfl⟩, ⟨ta2, tc2, rfl⟩, ⟨ja2, jc2, rfl⟩, ⟨ra2, rc2, rfl⟩, ⟨sa2, sc2, rfl⟩, ⟨ka2, kc2, rfl⟩, ⟨la2, lc2, rfl⟩, ⟨ma2, mc2, rfl⟩⟩ := hs2.shapes
  subst hcs2
  have Hs2 := hid hs2
  have B1 := hid b1
  have g1 := hid (keep_at b1 h0.out)
  obtain ⟨z0, z1, z2, z3, z4, z5, z6, z7, z8, z9, z10, z11⟩ := cells12 g1.out
  obtain ⟨y0, y1, y2, y3, y4, y5, y6, y7, y8, y9, y10, y11⟩ := frees12 g1.out
  clear hs2 b1 h0
  go_wp2
  refine post_set12 g1.out ?_
  intro W9 h9 b9
  have hq : Goes (hidB S w.heap.size 1) w1 (hidB S w.heap.size 1) W9 := goes_hid b9.out (fun i h => .inr (by omega))
  have hz1 := B1.out.size
  have B9 : Hid (Below w.heap.size w W9) := (B0.out.trans (B1.out.mono B0.out.size)).trans (b9.out.below (by omega) (fun k h => by omega))
  obtain ⟨k0, k1, k2, k3, k4, k5, k6, k7, k8, k9, k10, k11⟩ := cells12 h9.out
  exact bodyPost_ret (v := .agg #[U k.s.pos, U k.s.done, U k.s.made, .slice pa2 k.s.procs.length pc2, .slice ia2 k.s.insts.length ic2, .slice ta2 k.s.tokens.length tc2, .slice ja2 k.s.jobs.length jc2, .slice ra2 k.s.timers.length rc2, .slice sa2 k.s.subs.length sc2, .slice ka2 k.s.kept.length kc2, .slice la2 k.s.listed.length lc2, .slice ma2 k.s.msgs.length mc2]) (by simp [results, Tryz.results18, go_sem, k0, k1, k2, k3, k4, k5, k6, k7, k8, k9, k10, k11]) rfl ⟨[U k.s.pos, U k.s.done, U k.s.made, .slice pa2 k.s.procs.length pc2, .slice ia2 k.s.insts.length ic2, .slice ta2 k.s.tokens.length tc2, .slice ja2 k.s.jobs.length jc2, .slice ra2 k.s.timers.length rc2, .slice sa2 k.s.subs.length sc2, .slice ka2 k.s.kept.length kc2, .slice la2 k.s.listed.length lc2, .slice ma2 k.s.msgs.length mc2], rfl, ⟨_, _, _, _, _, _, _, _, _, (Hs2.out.grow hq.sans).sees hidB_sees⟩, B9.out⟩
theorem begin_any (w : World) (S : Nat → Prop) (s : StateV) (cs : List Value) (part : Int) (pos : Nat) (now : Int) (hS : ∀ b, S b → b < w.heap.size) (hs : StAt S w cs s) (hsm : SmS s) :
    Calls Tryz.prog 15 #[.agg cs.toArray, I part, U pos, I now] w fun e w' => ∃ wb, e = .returned (.pointer (some ⟨wb, 0, none⟩)) ∧ WorkAt w' wb (fun b => b = wb) (.slice none 0 0) (beginV s part pos now) ∧ w.heap.size ≤ wb ∧ Below w.heap.size w w' := by
  have Hs := hid hs
  obtain ⟨vp, vi, vt, vj, vr, vs, vk, vl, vm, hst⟩ := hs
  have hcs := hst.cells
  obtain ⟨⟨pa, pc, rfl⟩, ⟨ia, ic, rfl⟩, ⟨ta, tc, rfl⟩, ⟨ja, jc, rfl⟩, ⟨ra, rc, rfl⟩, ⟨sa, sc, rfl⟩, ⟨ka, kc, rfl⟩, ⟨la, lc, rfl⟩, ⟨ma, mc, rfl⟩⟩ := hst.shapes
  subst hcs
  clear hst
  go_enter Tryz.func15, Tryz.ntmps15
  go_wp2_with fail
  refine calls_box1 ?_
  intro W0 h0 B0 hz
  refine (fclone_sm S W0 s _ (fun b h => Nat.lt_of_lt_of_le (hS b h) B0.out.size) (Hs.out.grow B0.out) hsm).mono ?_
  rintro e w1 ⟨cs2, rfl, ⟨vp, vi, vt, vj, vr, vs, vk, vl, vm, hs2⟩, b1⟩
  have hcs2 := hs2.cells
  obtain ⟨⟨pa2, pc2, rfl⟩, ⟨ia2, ic2, rfl⟩, ⟨ta2, tc2, rfl⟩, ⟨ja2, jc2, rfl⟩, ⟨ra2, rc2, rfl⟩, ⟨sa2, sc2, rfl⟩, ⟨ka2, kc2, rfl⟩, ⟨la2, lc2, rfl⟩, ⟨ma2, mc2, rfl⟩⟩ := hs2.shapes
  subst hcs2
  have Hs2 := hid hs2
  have B1 := hid b1
  clear hs2 b1 h0
  have B2 : Hid (Below w.heap.size w w1) := B0.out.trans (B1.out.mono B0.out.size)
  have hblk := hid (fun o => alloc_new w1 o)
  go_wp2
  go_ret
  have hb : Below w1.heap.size w1 (w1.alloc (.cells #[U s.pos, U s.done, U s.made, .slice pa2 s.procs.length pc2, .slice ia2 s.insts.length ic2, .slice ta2 s.tokens.length tc2, .slice ja2 s.jobs.length jc2, .slice ra2 s.timers.length rc2, .slice sa2 s.subs.length sc2, .slice ka2 s.kept.length kc2, .slice la2 s.listed.length lc2, .slice ma2 s.msgs.length mc2, I part, U pos, I now, .slice none 0 0, I 0] 83)) := box1_b
  refine ⟨w1.heap.size, rfl, ⟨rfl, fun b h => ⟨by subst h; simp, by subst h; exact Nat.le_refl _⟩, (fun b h => by cases h), ⟨_, _, _, _, _, _, _, _, _, hblk.out _, Hs2.out.sees (sees_grow hb (fun b h1 h2 => by subst h2; omega))⟩, [], rfl, (fun cs h => by cases h), World.ownsRow_nil _ _ _ _, (fun i cs x h => by cases h)⟩, B2.out.size, B2.out.alloc B2.out.size _⟩
end Go.Proofs.YtjkbfoeakeoeiaaGreat
namespace Go.Proofs.YtjkbfoeakeoeiaaGreat
set_option maxRecDepth 100000
set_option maxHeartbeats 40000000
set_option linter.unusedSimpArgs false
set_option linter.unusedVariables false
open Go.IntWalk Go.RowKit
theorem uv10 {x : Nat} (h : U64 x) : (uvS x).size ≤ 10 := by
  have := uvS_size x
  have := Lib.uvarint_length64 h
  omega
theorem in10 {x : Int} (h : I64 x) : (inS x).size ≤ 10 := by
  unfold inS
  exact uv10 (zig_lt x h.1 h.2)
theorem text1_cl (w : World) (r : RecV) (rv : Value) (pb : Nat) (hok : RecOk r) (h : w.heap[pb]? = some (.cells #[I r.cls, I r.kind, U r.from_, I r.time, U r.key, U r.key2, U r.key3, I r.n, I r.m, .string r.a, .string r.b, .string r.c, rv] 49 (0, 0))) :
    Calls Tryz.prog 82 #[.pointer (some ⟨pb, 0, none⟩)] w fun e w' => e = .returned (.string (uvS r.from_ ++ inS r.time)) ∧ Below w.heap.size w w' := by
  obtain ⟨r0, r1, r2, r3, r4, r5, r6, r7, r8, r9, r10, r11, r12⟩ := cells13 h
  have hlt := heap_lt h
  have Hok := hid hok
  have s1 := uv10 hok.from_
  have s2 : (uvS (zig r.time)).size ≤ 10 := in10 hok.time
  clear h hok
  go_enter Tryz.func82, Tryz.ntmps82
  go_wp2_with fail
  refine wp_par (fun _ => False) (fun _ => True) (List.replicate 7 false) _ [.fix ?_, .fix ?_, .fix ?_, .fix ?_, .fix ?_, .fix ?_, .fix ?_] (by kernel_rfl) (by kernel_rfl) (by simp only [List.length_replicate, List.drop_succ_cons, List.drop_zero, List.drop_nil]; with_reducible rfl) rfl (fun _ _ _ _ _ => ⟨fun h => h, fun h => h⟩) (fun _ _ h _ => h) trivial ?_
  rotate_left 7
  iterate 2
    first
      | (refine par_skip (a' := ?_) (by rfl) (by rfl) ?_ ?_ ?_; rotate_left 1; with_reducible rfl; (simp only [Act.put, List.setIfInBounds_toArray, List.set_cons_zero, List.set_cons_succ]; with_reducible rfl))
      | (refine par_run (a' := ?_) (by rfl) (by rfl) (fun w' hb hn => ?_) ?_ ?_; rotate_left 1; (have hc := hb.cells; first | (go_simp; (try simp (disch := omega) only [IntWalk.i64_in, IntWalk.i32_in, IntWalk.u64_in, IntWalk.u8_in, IntWalk.u32_in, toNatUp, iteOmega]); with_reducible rfl) | (go_simp; (try simp (disch := omega) only [IntWalk.i64_in, IntWalk.i32_in, IntWalk.u64_in, IntWalk.u8_in, IntWalk.u32_in, toNatUp, iteOmega]); go_simp; with_reducible rfl)); (simp only [Act.put, List.setIfInBounds_toArray, List.set_cons_zero, List.set_cons_succ]; with_reducible rfl))
  refine par_call (a' := ?_) (f := ?_) (args := ?_) (by rfl) (by rfl) (fun w' => ?_) (fun w' hb hn => ?_) ?_ ?_; rotate_left 3; (go_simp; constructor <;> with_reducible rfl); (exact wuint_any r.from_ Hok.out.from_ w'); (simp only [Act.put, List.setIfInBounds_toArray, List.set_cons_zero, List.set_cons_succ]; with_reducible rfl)
  iterate 2
    first
      | (refine par_skip (a' := ?_) (by rfl) (by rfl) ?_ ?_ ?_; rotate_left 1; with_reducible rfl; (simp only [Act.put, List.setIfInBounds_toArray, List.set_cons_zero, List.set_cons_succ]; with_reducible rfl))
      | (refine par_run (a' := ?_) (by rfl) (by rfl) (fun w' hb hn => ?_) ?_ ?_; rotate_left 1; (have hc := hb.cells; first | (go_simp; (try simp (disch := omega) only [IntWalk.i64_in, IntWalk.i32_in, IntWalk.u64_in, IntWalk.u8_in, IntWalk.u32_in, toNatUp, iteOmega]); with_reducible rfl) | (go_simp; (try simp (disch := omega) only [IntWalk.i64_in, IntWalk.i32_in, IntWalk.u64_in, IntWalk.u8_in, IntWalk.u32_in, toNatUp, iteOmega]); go_simp; with_reducible rfl)); (simp only [Act.put, List.setIfInBounds_toArray, List.set_cons_zero, List.set_cons_succ]; with_reducible rfl))
  refine par_call (a' := ?_) (f := ?_) (args := ?_) (by rfl) (by rfl) (fun w' => ?_) (fun w' hb hn => ?_) ?_ ?_; rotate_left 3; (go_simp; constructor <;> with_reducible rfl); (exact wint_any r.time Hok.out.time.1 Hok.out.time.2 w'); (simp only [Act.put, List.setIfInBounds_toArray, List.set_cons_zero, List.set_cons_succ]; with_reducible rfl)
  iterate 1
    first
      | (refine par_skip (a' := ?_) (by rfl) (by rfl) ?_ ?_ ?_; rotate_left 1; with_reducible rfl; (simp only [Act.put, List.setIfInBounds_toArray, List.set_cons_zero, List.set_cons_succ]; with_reducible rfl))
      | (refine par_run (a' := ?_) (by rfl) (by rfl) (fun w' hb hn => ?_) ?_ ?_; rotate_left 1; (have hc := hb.cells; first | (go_simp; (try simp (disch := omega) only [IntWalk.i64_in, IntWalk.i32_in, IntWalk.u64_in, IntWalk.u8_in, IntWalk.u32_in, toNatUp, iteOmega]); with_reducible rfl) | (go_simp; (try simp (disch := omega) only [IntWalk.i64_in, IntWalk.i32_in, IntWalk.u64_in, IntWalk.u8_in, IntWalk.u32_in, toNatUp, iteOmega]); go_simp; with_reducible rfl)); (simp only [Act.put, List.setIfInBounds_toArray, List.set_cons_zero, List.set_cons_succ]; with_reducible rfl))
  refine par_end (fun w9 hb9 hf9 _ => ?_)
  replace hb9 := hb9.grow
  try refine wpList_none ?_
  have hb := hid hb9
  clear hb9
  go_wp2
  go_ret
  exact ⟨rfl, hb.out⟩
theorem text2_cl (w : World) (r : RecV) (rv : Value) (pb : Nat) (hok : RecOk r) (h : w.heap[pb]? = some (.cells #[I r.cls, I r.kind, U r.from_, I r.time, U r.key, U r.key2, U r.key3, I r.n, I r.m, .string r.a, .string r.b, .string r.c, rv] 49 (0, 0))) :
    Calls Tryz.prog 83 #[.pointer (some ⟨pb, 0, none⟩)] w fun e w' => e = .returned (.string (uvS r.key ++ uvS r.key2 ++ uvS r.key3)) ∧ Below w.heap.size w w' := by
  obtain ⟨r0, r1, r2, r3, r4, r5, r6, r7, r8, r9, r10, r11, r12⟩ := cells13 h
  have hlt := heap_lt h
  have Hok := hid hok
  have s1 := uv10 hok.key
  have s2 := uv10 hok.key2
  have s3 := uv10 hok.key3
  clear h hok
  go_enter Tryz.func83, Tryz.ntmps83
  go_wp2_with fail
  refine wp_par (fun _ => False) (fun _ => True) (List.replicate 11 false) _ [.fix ?_, .fix ?_, .fix ?_, .fix ?_, .fix ?_, .fix ?_, .fix ?_, .fix ?_, .fix ?_, .fix ?_, .fix ?_] (by kernel_rfl) (by kernel_rfl) (by simp only [List.length_replicate, List.drop_succ_cons, List.drop_zero, List.drop_nil]; with_reducible rfl) rfl (fun _ _ _ _ _ => ⟨fun h => h, fun h => h⟩) (fun _ _ h _ => h) trivial ?_
  rotate_left 11
  iterate 2
    first
      | (refine par_skip (a' := ?_) (by rfl) (by rfl) ?_ ?_ ?_; rotate_left 1; with_reducible rfl; (simp only [Act.put, List.setIfInBounds_toArray, List.set_cons_zero, List.set_cons_succ]; with_reducible rfl))
      | (refine par_run (a' := ?_) (by rfl) (by rfl) (fun w' hb hn => ?_) ?_ ?_; rotate_left 1; (have hc := hb.cells; first | (go_simp; (try simp (disch := omega) only [IntWalk.i64_in, IntWalk.i32_in, IntWalk.u64_in, IntWalk.u8_in, IntWalk.u32_in, toNatUp, iteOmega]); with_reducible rfl) | (go_simp; (try simp (disch := omega) only [IntWalk.i64_in, IntWalk.i32_in, IntWalk.u64_in, IntWalk.u8_in, IntWalk.u32_in, toNatUp, iteOmega]); go_simp; with_reducible rfl)); (simp only [Act.put, List.setIfInBounds_toArray, List.set_cons_zero, List.set_cons_succ]; with_reducible rfl))
  refine par_call (a' := ?_) (f := ?_) (args := ?_) (by rfl) (by rfl) (fun w' => ?_) (fun w' hb hn => ?_) ?_ ?_; rotate_left 3; (go_simp; constructor <;> with_reducible rfl); (exact wuint_any r.key Hok.out.key w'); (simp only [Act.put, List.setIfInBounds_toArray, List.set_cons_zero, List.set_cons_succ]; with_reducible rfl)
  iterate 2
    first
      | (refine par_skip (a' := ?_) (by rfl) (by rfl) ?_ ?_ ?_; rotate_left 1; with_reducible rfl; (simp only [Act.put, List.setIfInBounds_toArray, List.set_cons_zero, List.set_cons_succ]; with_reducible rfl))
      | (refine par_run (a' := ?_) (by rfl) (by rfl) (fun w' hb hn => ?_) ?_ ?_; rotate_left 1; (have hc := hb.cells; first | (go_simp; (try simp (disch := omega) only [IntWalk.i64_in, IntWalk.i32_in, IntWalk.u64_in, IntWalk.u8_in, IntWalk.u32_in, toNatUp, iteOmega]); with_reducible rfl) | (go_simp; (try simp (disch := omega) only [IntWalk.i64_in, IntWalk.i32_in, IntWalk.u64_in, IntWalk.u8_in, IntWalk.u32_in, toNatUp, iteOmega]); go_simp; with_reducible rfl)); (simp only [Act.put, List.setIfInBounds_toArray, List.set_cons_zero, List.set_cons_succ]; with_reducible rfl))
  refine par_call (a' := ?_) (f := ?_) (args := ?_) (by rfl) (by rfl) (fun w' => ?_) (fun w' hb hn => ?_) ?_ ?_; rotate_left 3; (go_simp; constructor <;> with_reducible rfl); (exact wuint_any r.key2 Hok.out.key2 w'); (simp only [Act.put, List.setIfInBounds_toArray, List.set_cons_zero, List.set_cons_succ]; with_reducible rfl)
  iterate 3
    first
      | (refine par_skip (a' := ?_) (by rfl) (by rfl) ?_ ?_ ?_; rotate_left 1; with_reducible rfl; (simp only [Act.put, List.setIfInBounds_toArray, List.set_cons_zero, List.set_cons_succ]; with_reducible rfl))
      | (refine par_run (a' := ?_) (by rfl) (by rfl) (fun w' hb hn => ?_) ?_ ?_; rotate_left 1; (have hc := hb.cells; first | (go_simp; (try simp (disch := omega) only [IntWalk.i64_in, IntWalk.i32_in, IntWalk.u64_in, IntWalk.u8_in, IntWalk.u32_in, toNatUp, iteOmega]); with_reducible rfl) | (go_simp; (try simp (disch := omega) only [IntWalk.i64_in, IntWalk.i32_in, IntWalk.u64_in, IntWalk.u8_in, IntWalk.u32_in, toNatUp, iteOmega]); go_simp; with_reducible rfl)); (simp only [Act.put, List.setIfInBounds_toArray, List.set_cons_zero, List.set_cons_succ]; with_reducible rfl))
  refine par_call (a' := ?_) (f := ?_) (args := ?_) (by rfl) (by rfl) (fun w' => ?_) (fun w' hb hn => ?_) ?_ ?_; rotate_left 3; (go_simp; constructor <;> with_reducible rfl); (exact wuint_any r.key3 Hok.out.key3 w'); (simp only [Act.put, List.setIfInBounds_toArray, List.set_cons_zero, List.set_cons_succ]; with_reducible rfl)
  iterate 1
    first
      | (refine par_skip (a' := ?_) (by rfl) (by rfl) ?_ ?_ ?_; rotate_left 1; with_reducible rfl; (simp only [Act.put, List.setIfInBounds_toArray, List.set_cons_zero, List.set_cons_succ]; with_reducible rfl))
      | (refine par_run (a' := ?_) (by rfl) (by rfl) (fun w' hb hn => ?_) ?_ ?_; rotate_left 1; (have hc := hb.cells; first | (go_simp; (try simp (disch := omega) only [IntWalk.i64_in, IntWalk.i32_in, IntWalk.u64_in, IntWalk.u8_in, IntWalk.u32_in, toNatUp, iteOmega]); with_reducible rfl) | (go_simp; (try simp (disch := omega) only [IntWalk.i64_in, IntWalk.i32_in, IntWalk.u64_in, IntWalk.u8_in, IntWalk.u32_in, toNatUp, iteOmega]); go_simp; with_reducible rfl)); (simp only [Act.put, List.setIfInBounds_toArray, List.set_cons_zero, List.set_cons_succ]; with_reducible rfl))
  refine par_end (fun w9 hb9 hf9 _ => ?_)
  replace hb9 := hb9.grow
  try refine wpList_none ?_
  have hb := hid hb9
  clear hb9
  go_wp2
  go_ret
  exact ⟨rfl, hb.out⟩
theorem text3_cl (w : World) (r : RecV) (rv : Value) (pb : Nat) (hok : RecOk r) (h : w.heap[pb]? = some (.cells #[I r.cls, I r.kind, U r.from_, I r.time, U r.key, U r.key2, U r.key3, I r.n, I r.m, .string r.a, .string r.b, .string r.c, rv] 49 (0, 0))) :
    Calls Tryz.prog 84 #[.pointer (some ⟨pb, 0, none⟩)] w fun e w' => e = .returned (.string (inS r.n ++ inS r.m)) ∧ Below w.heap.size w w' := by
  obtain ⟨r0, r1, r2, r3, r4, r5, r6, r7, r8, r9, r10, r11, r12⟩ := cells13 h
  have hlt := heap_lt h
  have Hok := hid hok
  have s1 : (uvS (zig r.n)).size ≤ 10 := in10 hok.n
  have s2 : (uvS (zig r.m)).size ≤ 10 := in10 hok.m
  clear h hok
  go_enter Tryz.func84, Tryz.ntmps84
  go_wp2_with fail
  refine wp_par (fun _ => False) (fun _ => True) (List.replicate 7 false) _ [.fix ?_, .fix ?_, .fix ?_, .fix ?_, .fix ?_, .fix ?_, .fix ?_] (by kernel_rfl) (by kernel_rfl) (by simp only [List.length_replicate, List.drop_succ_cons, List.drop_zero, List.drop_nil]; with_reducible rfl) rfl (fun _ _ _ _ _ => ⟨fun h => h, fun h => h⟩) (fun _ _ h _ => h) trivial ?_
  rotate_left 7
  iterate 2
    first
      | (refine par_skip (a' := ?_) (by rfl) (by rfl) ?_ ?_ ?_; rotate_left 1; with_reducible rfl; (simp only [Act.put, List.setIfInBounds_toArray, List.set_cons_zero, List.set_cons_succ]; with_reducible rfl))
      | (refine par_run (a' := ?_) (by rfl) (by rfl) (fun w' hb hn => ?_) ?_ ?_; rotate_left 1; (have hc := hb.cells; first | (go_simp; (try simp (disch := omega) only [IntWalk.i64_in, IntWalk.i32_in, IntWalk.u64_in, IntWalk.u8_in, IntWalk.u32_in, toNatUp, iteOmega]); with_reducible rfl) | (go_simp; (try simp (disch := omega) only [IntWalk.i64_in, IntWalk.i32_in, IntWalk.u64_in, IntWalk.u8_in, IntWalk.u32_in, toNatUp, iteOmega]); go_simp; with_reducible rfl)); (simp only [Act.put, List.setIfInBounds_toArray, List.set_cons_zero, List.set_cons_succ]; with_reducible rfl))
  refine par_call (a' := ?_) (f := ?_) (args := ?_) (by rfl) (by rfl) (fun w' => ?_) (fun w' hb hn => ?_) ?_ ?_; rotate_left 3; (go_simp; constructor <;> with_reducible rfl); (exact wint_any r.n Hok.out.n.1 Hok.out.n.2 w'); (simp only [Act.put, List.setIfInBounds_toArray, List.set_cons_zero, List.set_cons_succ]; with_reducible rfl)
  iterate 2
    first
      | (refine par_skip (a' := ?_) (by rfl) (by rfl) ?_ ?_ ?_; rotate_left 1; with_reducible rfl; (simp only [Act.put, List.setIfInBounds_toArray, List.set_cons_zero, List.set_cons_succ]; with_reducible rfl))
      | (refine par_run (a' := ?_) (by rfl) (by rfl) (fun w' hb hn => ?_) ?_ ?_; rotate_left 1; (have hc := hb.cells; first | (go_simp; (try simp (disch := omega) only [IntWalk.i64_in, IntWalk.i32_in, IntWalk.u64_in, IntWalk.u8_in, IntWalk.u32_in, toNatUp, iteOmega]); with_reducible rfl) | (go_simp; (try simp (disch := omega) only [IntWalk.i64_in, IntWalk.i32_in, IntWalk.u64_in, IntWalk.u8_in, IntWalk.u32_in, toNatUp, iteOmega]); go_simp; with_reducible rfl)); (simp only [Act.put, List.setIfInBounds_toArray, List.set_cons_zero, List.set_cons_succ]; with_reducible rfl))
  refine par_call (a' := ?_) (f := ?_) (args := ?_) (by rfl) (by rfl) (fun w' => ?_) (fun w' hb hn => ?_) ?_ ?_; rotate_left 3; (go_simp; constructor <;> with_reducible rfl); (exact wint_any r.m Hok.out.m.1 Hok.out.m.2 w'); (simp only [Act.put, List.setIfInBounds_toArray, List.set_cons_zero, List.set_cons_succ]; with_reducible rfl)
  iterate 1
    first
      | (refine par_skip (a' := ?_) (by rfl) (by rfl) ?_ ?_ ?_; rotate_left 1; with_reducible rfl; (simp only [Act.put, List.setIfInBounds_toArray, List.set_cons_zero, List.set_cons_succ]; with_reducible rfl))
      | (refine par_run (a' := ?_) (by rfl) (by rfl) (fun w' hb hn => ?_) ?_ ?_; rotate_left 1; (have hc := hb.cells; first | (go_simp; (try simp (disch := omega) only [IntWalk.i64_in, IntWalk.i32_in, IntWalk.u64_in, IntWalk.u8_in, IntWalk.u32_in, toNatUp, iteOmega]); with_reducible rfl) | (go_simp; (try simp (disch := omega) only [IntWalk.i64_in, IntWalk.i32_in, IntWalk.u64_in, IntWalk.u8_in, IntWalk.u32_in, toNatUp, iteOmega]); go_simp; with_reducible rfl)); (simp only [Act.put, List.setIfInBounds_toArray, List.set_cons_zero, List.set_cons_succ]; with_reducible rfl))
  refine par_end (fun w9 hb9 hf9 _ => ?_)
  replace hb9 := hb9.grow
  try refine wpList_none ?_
  have hb := hid hb9
  clear hb9
  go_wp2
  go_ret
  exact ⟨rfl, hb.out⟩
theorem text4_cl (w : World) (r : RecV) (rv : Value) (pb : Nat) (hok : RecOk r) (h : w.heap[pb]? = some (.cells #[I r.cls, I r.kind, U r.from_, I r.time, U r.key, U r.key2, U r.key3, I r.n, I r.m, .string r.a, .string r.b, .string r.c, rv] 49 (0, 0))) :
    Calls Tryz.prog 85 #[.pointer (some ⟨pb, 0, none⟩)] w fun e w' => e = .returned (.string (txS r.a ++ txS r.b ++ txS r.c)) ∧ Below w.heap.size w w' := by
  obtain ⟨r0, r1, r2, r3, r4, r5, r6, r7, r8, r9, r10, r11, r12⟩ := cells13 h
  have hlt := heap_lt h
  have Hok := hid hok
  have s1 := txS_size hok.a
  have s2 := txS_size hok.b
  have s3 := txS_size hok.c
  have s4 : r.a.size ≤ 2097152 := hok.a
  have s5 : r.b.size ≤ 2097152 := hok.b
  have s6 : r.c.size ≤ 2097152 := hok.c
  clear h hok
  go_enter Tryz.func85, Tryz.ntmps85
  go_wp2_with fail
  refine wp_par (fun _ => False) (fun _ => True) (List.replicate 11 false) _ [.fix ?_, .fix ?_, .fix ?_, .fix ?_, .fix ?_, .fix ?_, .fix ?_, .fix ?_, .fix ?_, .fix ?_, .fix ?_] (by kernel_rfl) (by kernel_rfl) (by simp only [List.length_replicate, List.drop_succ_cons, List.drop_zero, List.drop_nil]; with_reducible rfl) rfl (fun _ _ _ _ _ => ⟨fun h => h, fun h => h⟩) (fun _ _ h _ => h) trivial ?_
  rotate_left 11
  iterate 2
    first
      | (refine par_skip (a' := ?_) (by rfl) (by rfl) ?_ ?_ ?_; rotate_left 1; with_reducible rfl; (simp only [Act.put, List.setIfInBounds_toArray, List.set_cons_zero, List.set_cons_succ]; with_reducible rfl))
      | (refine par_run (a' := ?_) (by rfl) (by rfl) (fun w' hb hn => ?_) ?_ ?_; rotate_left 1; (have hc := hb.cells; first | (go_simp; (try simp (disch := omega) only [IntWalk.i64_in, IntWalk.i32_in, IntWalk.u64_in, IntWalk.u8_in, IntWalk.u32_in, toNatUp, iteOmega]); with_reducible rfl) | (go_simp; (try simp (disch := omega) only [IntWalk.i64_in, IntWalk.i32_in, IntWalk.u64_in, IntWalk.u8_in, IntWalk.u32_in, toNatUp, iteOmega]); go_simp; with_reducible rfl)); (simp only [Act.put, List.setIfInBounds_toArray, List.set_cons_zero, List.set_cons_succ]; with_reducible rfl))
  refine par_call (a' := ?_) (f := ?_) (args := ?_) (by rfl) (by rfl) (fun w' => ?_) (fun w' hb hn => ?_) ?_ ?_; rotate_left 3; (go_simp; constructor <;> with_reducible rfl); (exact wtext_any r.a (Nat.le_trans Hok.out.a (by decide)) w'); (simp only [Act.put, List.setIfInBounds_toArray, List.set_cons_zero, List.set_cons_succ]; with_reducible rfl)
  iterate 2
    first
      | (refine par_skip (a' := ?_) (by rfl) (by rfl) ?_ ?_ ?_; rotate_left 1; with_reducible rfl; (simp only [Act.put, List.setIfInBounds_toArray, List.set_cons_zero, List.set_cons_succ]; with_reducible rfl))
      | (refine par_run (a' := ?_) (by rfl) (by rfl) (fun w' hb hn => ?_) ?_ ?_; rotate_left 1; (have hc := hb.cells; first | (go_simp; (try simp (disch := omega) only [IntWalk.i64_in, IntWalk.i32_in, IntWalk.u64_in, IntWalk.u8_in, IntWalk.u32_in, toNatUp, iteOmega]); with_reducible rfl) | (go_simp; (try simp (disch := omega) only [IntWalk.i64_in, IntWalk.i32_in, IntWalk.u64_in, IntWalk.u8_in, IntWalk.u32_in, toNatUp, iteOmega]); go_simp; with_reducible rfl)); (simp only [Act.put, List.setIfInBounds_toArray, List.set_cons_zero, List.set_cons_succ]; with_reducible rfl))
  refine par_call (a' := ?_) (f := ?_) (args := ?_) (by rfl) (by rfl) (fun w' => ?_) (fun w' hb hn => ?_) ?_ ?_; rotate_left 3; (go_simp; constructor <;> with_reducible rfl); (exact wtext_any r.b (Nat.le_trans Hok.out.b (by decide)) w'); (simp only [Act.put, List.setIfInBounds_toArray, List.set_cons_zero, List.set_cons_succ]; with_reducible rfl)
  iterate 3
    first
      | (refine par_skip (a' := ?_) (by rfl) (by rfl) ?_ ?_ ?_; rotate_left 1; with_reducible rfl; (simp only [Act.put, List.setIfInBounds_toArray, List.set_cons_zero, List.set_cons_succ]; with_reducible rfl))
      | (refine par_run (a' := ?_) (by rfl) (by rfl) (fun w' hb hn => ?_) ?_ ?_; rotate_left 1; (have hc := hb.cells; first | (go_simp; (try simp (disch := omega) only [IntWalk.i64_in, IntWalk.i32_in, IntWalk.u64_in, IntWalk.u8_in, IntWalk.u32_in, toNatUp, iteOmega]); with_reducible rfl) | (go_simp; (try simp (disch := omega) only [IntWalk.i64_in, IntWalk.i32_in, IntWalk.u64_in, IntWalk.u8_in, IntWalk.u32_in, toNatUp, iteOmega]); go_simp; with_reducible rfl)); (simp only [Act.put, List.setIfInBounds_toArray, List.set_cons_zero, List.set_cons_succ]; with_reducible rfl))
  refine par_call (a' := ?_) (f := ?_) (args := ?_) (by rfl) (by rfl) (fun w' => ?_) (fun w' hb hn => ?_) ?_ ?_; rotate_left 3; (go_simp; constructor <;> with_reducible rfl); (exact wtext_any r.c (Nat.le_trans Hok.out.c (by decide)) w'); (simp only [Act.put, List.setIfInBounds_toArray, List.set_cons_zero, List.set_cons_succ]; with_reducible rfl)
  iterate 1
    first
      | (refine par_skip (a' := ?_) (by rfl) (by rfl) ?_ ?_ ?_; rotate_left 1; with_reducible rfl; (simp only [Act.put, List.setIfInBounds_toArray, List.set_cons_zero, List.set_cons_succ]; with_reducible rfl))
      | (refine par_run (a' := ?_) (by rfl) (by rfl) (fun w' hb hn => ?_) ?_ ?_; rotate_left 1; (have hc := hb.cells; first | (go_simp; (try simp (disch := omega) only [IntWalk.i64_in, IntWalk.i32_in, IntWalk.u64_in, IntWalk.u8_in, IntWalk.u32_in, toNatUp, iteOmega]); with_reducible rfl) | (go_simp; (try simp (disch := omega) only [IntWalk.i64_in, IntWalk.i32_in, IntWalk.u64_in, IntWalk.u8_in, IntWalk.u32_in, toNatUp, iteOmega]); go_simp; with_reducible rfl)); (simp only [Act.put, List.setIfInBounds_toArray, List.set_cons_zero, List.set_cons_succ]; with_reducible rfl))
  refine par_end (fun w9 hb9 hf9 _ => ?_)
  replace hb9 := hb9.grow
  try refine wpList_none ?_
  have hb := hid hb9
  clear hb9
  go_wp2
  go_ret
  exact ⟨rfl, hb.out⟩
theorem text5_cl (w : World) (r : RecV) (rv : Value) (pb : Nat) (hok : RecOk r) (h : w.heap[pb]? = some (.cells #[I r.cls, I r.kind, U r.from_, I r.time, U r.key, U r.key2, U r.key3, I r.n, I r.m, .string r.a, .string r.b, .string r.c, rv] 49 (0, 0))) (hv : VarsAt w rv r.vars) :
    Calls Tryz.prog 86 #[.pointer (some ⟨pb, 0, none⟩)] w fun e w' => e = .returned (.string (varsS r.vars)) ∧ Below w.heap.size w w' := by
  obtain ⟨r0, r1, r2, r3, r4, r5, r6, r7, r8, r9, r10, r11, r12⟩ := cells13 h
  have hlt := heap_lt h
  have Hok := hid hok
  have Hv := hid hv
  clear h hok
  go_enter Tryz.func86, Tryz.ntmps86
  go_wp2_with fail
  refine (varsBytes_any _ r.vars w Hok.out.vars Hv.out).mono ?_
  rintro e w1 ⟨rfl, b1⟩
  go_wp2
  go_ret
  exact ⟨rfl, b1⟩
end Go.Proofs.YtjkbfoeakeoeiaaGreat
namespace Go.Proofs.YtjkbfoeakeoeiaaGreat
set_option maxRecDepth 100000
set_option maxHeartbeats 40000000
set_option linter.unusedSimpArgs false
set_option linter.unusedVariables false
open Go.RowKit
theorem foldS_le7 {α : Type} (f : α → ByteArray) (m : Nat) (l : List α) (hf : ∀ x ∈ l, (f x).size ≤ m) (s : ByteArray) : (l.foldl (fun s x => s ++ f x) s).size ≤ s.size + l.length * m := by
  induction l generalizing s with
  | nil => simp
  | cons x l ih =>
    have h1 := ih (fun y hy => hf y (List.mem_cons_of_mem _ hy)) (s ++ f x)
    have h2 := hf x List.mem_cons_self
    rw [List.foldl_cons, List.length_cons, Nat.succ_mul]
    rw [ByteArray.size_append] at h1
    omega
theorem varsS_le7 {l : List VarV} (h : ∀ y ∈ l, VarOk y) : (varsS l).size ≤ 67109210 := by
  unfold varsS
  split
  · rename_i hr
    have hl := right_le hr
    have h1 := foldS_le7 varS 4194325 l (fun y hy => varS_size (h y hy)) (uvS l.length)
    have h2 := uv_small l.length hl
    omega
  · show 0 ≤ _
    omega
def recH : ByteArray := ⟨#[2, 19]⟩
def recK (r : RecV) : Nat → ByteArray
  | 0 => recH
  | 1 => recH ++ (uvS r.from_ ++ inS r.time)
  | 2 => recH ++ (uvS r.from_ ++ inS r.time) ++ (uvS r.key ++ uvS r.key2 ++ uvS r.key3)
  | 3 => recH ++ (uvS r.from_ ++ inS r.time) ++ (uvS r.key ++ uvS r.key2 ++ uvS r.key3) ++ (inS r.n ++ inS r.m)
  | 4 => recH ++ (uvS r.from_ ++ inS r.time) ++ (uvS r.key ++ uvS r.key2 ++ uvS r.key3) ++ (inS r.n ++ inS r.m) ++ (txS r.a ++ txS r.b ++ txS r.c)
  | _ => recH ++ (uvS r.from_ ++ inS r.time) ++ (uvS r.key ++ uvS r.key2 ++ uvS r.key3) ++ (inS r.n ++ inS r.m) ++ (txS r.a ++ txS r.b ++ txS r.c) ++ varsS r.vars
theorem recK5 (r : RecV) (hc : r.cls = 2) (hk : r.kind = 19) : recK r 5 = recS r := by
  unfold recS recK recH
  rw [hc, hk]
  rfl
theorem rectext_any (w : World) (r : RecV) (rv : Value) (hok : RecOk r) (hc : r.cls = 2) (hk : r.kind = 19) (hv : VarsAt w rv r.vars) :
    Calls Tryz.prog 78 #[.agg #[I 2, I 19, U r.from_, I r.time, U r.key, U r.key2, U r.key3, I r.n, I r.m, .string r.a, .string r.b, .string r.c, rv]] w fun e w' => e = .returned (.string (recS r)) ∧ Below w.heap.size w w' := by
  have Hok := hid hok
  have Hv := hid hv
  have Hc := hid hc
  have Hk := hid hk
  have s1 := uv10 hok.from_
  have s2 : (inS r.time).size ≤ 10 := in10 hok.time
  have s3 := uv10 hok.key
  have s4 := uv10 hok.key2
  have s5 := uv10 hok.key3
  have s6 : (inS r.n).size ≤ 10 := in10 hok.n
  have s7 : (inS r.m).size ≤ 10 := in10 hok.m
  have s8 := txS_size hok.a
  have s9 := txS_size hok.b
  have s10 := txS_size hok.c
  have s11 : r.a.size ≤ 2097152 := hok.a
  have s12 : r.b.size ≤ 2097152 := hok.b
  have s13 : r.c.size ≤ 2097152 := hok.c
  have t5 := varsS_le7 hok.vars
  have t0 : recH.size = 2 := rfl
  have t1 : (uvS r.from_ ++ inS r.time).size ≤ 20 := by rw [ByteArray.size_append]; omega
  have t2 : (uvS r.key ++ uvS r.key2 ++ uvS r.key3).size ≤ 30 := by rw [ByteArray.size_append, ByteArray.size_append]; omega
  have t3 : (inS r.n ++ inS r.m).size ≤ 20 := by rw [ByteArray.size_append]; omega
  have t4 : (txS r.a ++ txS r.b ++ txS r.c).size ≤ 100000000 := by rw [ByteArray.size_append, ByteArray.size_append]; omega
  have E5 := hid (recK5 r hc hk)
  clear hok hv s1 s2 s3 s4 s5 s6 s7 s8 s9 s10 s11 s12 s13
  go_enter Tryz.func78, Tryz.ntmps78
  go_wp2_with fail
  have hcv : ∀ W : World, W.heap[w.heap.size + 1]? = some (.cells #[.int .u8 2, .int .u8 19] 5 (0, 0)) → Sem.run Tryz.prog (convert 133 9 (.slice (some ⟨w.heap.size + 1, 0, none⟩) 2 2)) W = .ok (.string recH) W := fun W h =>
    run_convert_bytes_back W _ _ 5 ⟨w.heap.size + 1, 0, none⟩ 2 [2, 19] Tryz.underlying133 Tryz.underlying5 Tryz.underlying9 (fun j hj => match j, hj with
      | 0, _ => cell_of h 0
      | 1, _ => cell_of h 1)
  have h0 := hid (box2_a (w := w) (A := .cells #[I 2, I 19, U r.from_, I r.time, U r.key, U r.key2, U r.key3, I r.n, I r.m, .string r.a, .string r.b, .string r.c, rv] 49 (0, 0)) (B := .cells #[.int .u8 2, .int .u8 19] 5 (0, 0)))
  have b0 := hid (box2_b (w := w) (A := .cells #[I 2, I 19, U r.from_, I r.time, U r.key, U r.key2, U r.key3, I r.n, I r.m, .string r.a, .string r.b, .string r.c, rv] 49 (0, 0)) (B := .cells #[.int .u8 2, .int .u8 19] 5 (0, 0)))
  rw [hcv _ box2_at]
  have hz : ((w.alloc (.cells #[I 2, I 19, U r.from_, I r.time, U r.key, U r.key2, U r.key3, I r.n, I r.m, .string r.a, .string r.b, .string r.c, rv] 49 (0, 0))).alloc (.cells #[.int .u8 2, .int .u8 19] 5 (0, 0))).heap.size = w.heap.size + 2 := by simp
  clear hcv
  generalize ((w.alloc (.cells #[I 2, I 19, U r.from_, I r.time, U r.key, U r.key2, U r.key3, I r.n, I r.m, .string r.a, .string r.b, .string r.c, rv] 49 (0, 0))).alloc (.cells #[.int .u8 2, .int .u8 19] 5 (0, 0))) = W1 at h0 b0 hz ⊢
  simp only [Result.andThen]
  rw [Oper.upon_value]
  go_wp2_with fail
  refine wp_box1 ?_
  intro W2 h2 b2 hz2
  have B2 := hid (b0.out.trans (b2.out.mono b0.out.size))
  have H0 := hid (keep_at b2.out h0.out)
  have HV := hid (Hv.out.below B2.out)
  have hw2 := B2.out.size
  rw [hz] at h2
  clear h0 b0 b2 hz
  go_loopw [3, 21] (fun va vi wr => ∃ i : Nat, i ≤ 5 ∧ vi = .int .i64 i ∧ va = .string (recK r i) ∧ Hid (Below W2.heap.size W2 wr)) (fun _ vi _ => 5 - (intOf vi).toNat)
  case atStart => exact ⟨0, by omega, rfl, rfl, Below.refl _ _⟩
  case round =>
    obtain ⟨i, hi, rfl, rfl, hR⟩ := hrel
    have Hs := hid (keep_at hR.out h2.out)
    have HR := hid (keep_at hR.out H0.out)
    have HVr := hid (HV.out.below hR.out)
    rw [← Hc.out, ← Hk.out] at HR
    have k0 := cell_of Hs.out 0
    have k1 := cell_of Hs.out 1
    have k2 := cell_of Hs.out 2
    have k3 := cell_of Hs.out 3
    have k4 := cell_of Hs.out 4
    have hi' : i = 5 ∨ i = 0 ∨ i = 1 ∨ i = 2 ∨ i = 3 ∨ i = 4 := by omega
    rcases hi' with rfl | rfl | rfl | rfl | rfl | rfl
    · go_wp2
      go_ret
      exact ⟨by rw [E5.out]; rfl, B2.out.trans (hR.out.mono hw2)⟩
    · go_wp2_with fail
      refine (text1_cl _ r rv w.heap.size Hok.out HR.out).mono ?_
      rintro e w3 ⟨rfl, b3⟩
      have hsz : (recK r 0).size ≤ 2 := by exact Nat.le_of_eq t0
      have B3 := hid (hR.out.trans (b3.mono hR.out.size))
      clear b3
      go_wp2
      exact ⟨⟨1, by omega, by go_num, rfl, B3.out⟩, by simp [intOf]⟩
    · go_wp2_with fail
      refine (text2_cl _ r rv w.heap.size Hok.out HR.out).mono ?_
      rintro e w3 ⟨rfl, b3⟩
      have hsz : (recK r 1).size ≤ 100000002 := by simp only [recK, ByteArray.size_append] at t0 t1 t2 t3 t4 ⊢; omega
      have B3 := hid (hR.out.trans (b3.mono hR.out.size))
      clear b3
      go_wp2
      exact ⟨⟨2, by omega, by go_num, rfl, B3.out⟩, by simp [intOf]⟩
    · go_wp2_with fail
      refine (text3_cl _ r rv w.heap.size Hok.out HR.out).mono ?_
      rintro e w3 ⟨rfl, b3⟩
      have hsz : (recK r 2).size ≤ 200000002 := by simp only [recK, ByteArray.size_append] at t0 t1 t2 t3 t4 ⊢; omega
      have B3 := hid (hR.out.trans (b3.mono hR.out.size))
      clear b3
      go_wp2
      exact ⟨⟨3, by omega, by go_num, rfl, B3.out⟩, by simp [intOf]⟩
    · go_wp2_with fail
      refine (text4_cl _ r rv w.heap.size Hok.out HR.out).mono ?_
      rintro e w3 ⟨rfl, b3⟩
      have hsz : (recK r 3).size ≤ 300000002 := by simp only [recK, ByteArray.size_append] at t0 t1 t2 t3 t4 ⊢; omega
      have B3 := hid (hR.out.trans (b3.mono hR.out.size))
      clear b3
      go_wp2
      exact ⟨⟨4, by omega, by go_num, rfl, B3.out⟩, by simp [intOf]⟩
    · go_wp2_with fail
      refine (text5_cl _ r rv w.heap.size Hok.out HR.out HVr.out).mono ?_
      rintro e w3 ⟨rfl, b3⟩
      have hsz : (recK r 4).size ≤ 400000002 := by simp only [recK, ByteArray.size_append] at t0 t1 t2 t3 t4 ⊢; omega
      have B3 := hid (hR.out.trans (b3.mono hR.out.size))
      clear b3
      go_wp2
      exact ⟨⟨5, by omega, by go_num, rfl, B3.out⟩, by simp [intOf]⟩
theorem recmost_any (w : World) (r : RecV) (rv : Value) :
    Calls Tryz.prog 77 #[.agg #[I 2, I 19, U r.from_, I r.time, U r.key, U r.key2, U r.key3, I r.n, I r.m, .string r.a, .string r.b, .string r.c, rv]] w fun e w' => e = .returned (.tuple #[I 24, I 32, I 1024]) ∧ Below w.heap.size w w' := by
  go_enter Tryz.func77, Tryz.ntmps77
  go_wp2
  exact bodyPost_ret (v := .tuple #[I 24, I 32, I 1024]) (by simp [results, Tryz.results77, go_sem]) rfl ⟨rfl, box1_b⟩
theorem recmay_any (w : World) (r : RecV) (rv : Value) (hok : RecOk r) (hc : r.cls = 2) (hk : r.kind = 19) (hf : 1 ≤ r.from_) (ht : 0 ≤ r.time ∧ r.time ≤ 1099511627776) (ha : r.a.size ≤ 32) (hb : r.b.size ≤ 1024) (hcz : r.c.size ≤ 32) (hr : rightV r.vars = true) (hv : VarsAt w rv r.vars) :
    Calls Tryz.prog 67 #[.agg #[I 2, I 19, U r.from_, I r.time, U r.key, U r.key2, U r.key3, I r.n, I r.m, .string r.a, .string r.b, .string r.c, rv]] w fun e w' => e = .returned (.bool (mayR r)) ∧ Below w.heap.size w w' := by
  have E : mayR r = decide ((recS r).size ≤ 4096) := by
    unfold mayR
    have h1 : r.from_ ≠ 0 := by omega
    rw [hc, hk]
    simp [hr, ha, hb, hcz, ht.1, ht.2, h1]
  have Hs := hid (fun W (h : VarsAt W rv r.vars) => rectext_any W r rv hok hc hk h)
  have Hv := hid hv
  have Hr := hid hr
  have g1 : ((r.from_ : Int) = 0) = False := by simp; omega
  have g2 : (r.time < 0) = False := by simp; omega
  have g3 : (1099511627776 < r.time) = False := by simp; omega
  have g4 : (((32 : Nat) : Int) < (r.a.size : Int)) = False := by simp; omega
  have g5 : ((1024 : Int) < (r.b.size : Int)) = False := by simp; omega
  have g6 : ((32 : Int) < (r.c.size : Int)) = False := by simp; omega
  rw [E]
  clear hv hr E hok hc hk
  go_enter Tryz.func67, Tryz.ntmps67
  go_wp2_with fail
  refine calls_box1 ?_
  intro W0 h0 B0 hz
  refine (recmost_any W0 r rv).mono ?_
  rintro e w1 ⟨rfl, b1⟩
  have B1 := hid (B0.out.trans (b1.mono B0.out.size))
  have H1 := hid (keep_at b1 h0.out)
  obtain ⟨r0, r1, r2, r3, r4, r5, r6, r7, r8, r9, r10, r11, r12⟩ := cells13 H1.out
  have hl := heap_lt H1.out
  have HV := hid (Hv.out.below B1.out)
  clear h0 b1 hz
  go_wp2_with fail
  refine (right_any rv r.vars w1 HV.out).mono ?_
  rintro e w2 ⟨rfl, b2⟩
  rw [Hr.out]
  have B2 := hid (B1.out.trans (b2.mono B1.out.size))
  have H2 := hid (keep_at b2 H1.out)
  have HV2 := hid (HV.out.below b2)
  clear b2 r0 r1 r2 r3 r4 r5 r6 r7 r8 r9 r10 r11 r12 hl
  obtain ⟨r0, r1, r2, r3, r4, r5, r6, r7, r8, r9, r10, r11, r12⟩ := cells13 H2.out
  go_wp2_with fail
  refine (Hs.out _ HV2.out).mono ?_
  rintro e w3 ⟨rfl, b3⟩
  have B3 := hid (B2.out.trans (b3.mono B2.out.size))
  clear b3
  go_wp2
  go_ret
  exact ⟨by go_num, B3.out⟩
end Go.Proofs.YtjkbfoeakeoeiaaGreat
namespace Go.Proofs.YtjkbfoeakeoeiaaGreat
set_option maxRecDepth 100000
set_option maxHeartbeats 40000000
set_option linter.unusedSimpArgs false
set_option linter.unusedVariables false
open Go.RowKit
theorem flat_set {k : Nat} : ∀ (css : List (List Value)), (∀ cs ∈ css, cs.length = k) → ∀ (i : Nat) (cs : List Value), css[i]? = some cs → ∀ (j : Nat) (v : Value), j < k → (css.set i (cs.set j v)).flatten = css.flatten.set (i * k + j) v
  | [], _, i, cs, h => by simp at h
  | c :: css, hs, i, cs, h => by
    intro j v hj
    have hc := hs c List.mem_cons_self
    cases i with
    | zero =>
      simp at h
      subst h
      simp only [List.set_cons_zero, List.flatten_cons, Nat.zero_mul, Nat.zero_add]
      rw [List.set_append_left _ _ (by omega)]
    | succ i =>
      simp only [List.set_cons_succ, List.flatten_cons]
      rw [flat_set css (fun y hy => hs y (List.mem_cons_of_mem _ hy)) i cs (by simpa using h) j v hj]
      rw [List.set_append_right _ _ (by rw [hc, Nat.succ_mul]; omega)]
      congr 2
      rw [hc, Nat.succ_mul]
      omega
theorem OwnL.rec {e base : Nat} {T : Nat → Prop} {l : List RecV} {u : Value} {W : World} (h : OwnL RecV.at_ e 13 base T l u W) {i : Nat} {x : RecV} (hx : l[i]? = some x) :
    ∃ g cap cs v, u = .slice (some ⟨g, 0, none⟩) l.length cap ∧ base ≤ g ∧ W.heap[g]? = some (.cells cs e (0, 0)) ∧ cs[i * 13 + 12]? = some v ∧ VarsAt (sans T W) v x.vars ∧
      ∀ W' v', W'.heap[g]? = some (.cells (cs.setIfInBounds (i * 13 + 12) v') e (0, 0)) → But T W W' → VarsAt (sans T W') v' x.vars → OwnL RecV.at_ e 13 base T l u W' := by
  obtain ⟨css, h1, h2, h3, h4⟩ := h
  have hil : i < l.length := (List.getElem?_eq_some_iff.1 hx).1
  obtain ⟨c, hc⟩ : ∃ c, css[i]? = some c := ⟨_, List.getElem?_eq_getElem (by omega)⟩
  obtain ⟨v, hv, hvs⟩ := h4 i c x hc hx
  have hcl := h3 c (List.mem_of_getElem? hc)
  rcases h1.2 with ⟨-, h0⟩ | ⟨g, cap, cur, rfl, hb, hg, hnc, hcm, hcur, htk⟩
  · omega
  have hci : c[12]? = some v := by rw [hv]; rfl
  have hfi : css.flatten[i * 13 + 12]? = some v := flat_at css h3 i c hc 12 v hci
  have hcu : cur[i * 13 + 12]? = some v := by
    rw [← htk, List.getElem?_take] at hfi
    split at hfi
    · simpa using hfi
    · cases hfi
  refine ⟨g, cap, cur, v, rfl, hb, hg, hcu, hvs, fun W' v' hg' hbt hv' => ?_⟩
  have hfl := flat_set css h3 i c hc 12 v' (by omega)
  have hlt : i * 13 + 12 < l.length * 13 := by omega
  refine ⟨css.set i (c.set 12 v'), ⟨?_, .inr ⟨g, cap, cur.setIfInBounds (i * 13 + 12) v', rfl, hb, hg', hnc, hcm, by simpa using hcur, ?_⟩⟩, by simp [h2], ?_, ?_⟩
  · rw [hfl, List.length_set]
    exact h1.1
  · rw [hfl, ← htk]
    simp [List.take_set]
  · intro cs hcs
    rcases List.mem_or_eq_of_mem_set hcs with hm | rfl
    · exact h3 cs hm
    · simp [hcl]
  · intro j cs y hj hy
    rw [List.getElem?_set] at hj
    split at hj
    · rename_i hij
      subst hij
      rw [hx] at hy
      injection hy with hy
      subst hy
      split at hj
      · injection hj with hj
        refine ⟨v', ?_, hv'⟩
        rw [← hj, hv]
        rfl
      · cases hj
    · exact RecV.st _ _ _ _ (h4 j cs y hj hy) (goes_hid hbt (fun _ h => h)).sans
theorem events_any (w : World) (wb : Nat) (S : Nat → Prop) (ve : Value) (k : WorkV) (hW : WorkAt w wb S ve k) (hlen : ∀ x ∈ k.ev, x.vars.length ≤ 1048576) (hev : k.ev.length ≤ 1000000) :
    Calls Tryz.prog 21 #[.pointer (some ⟨wb, 0, none⟩)] w fun e w' => ∃ v, e = .returned v ∧ ListAt RecV.at_ 13 (sans S w') v k.ev ∧ Below w.heap.size w w' := by
  obtain ⟨vp, vi, vt, vj, vr, vs, vk, vl, vm, hblk, -⟩ := hW.blk
  obtain ⟨css, he1, he2, he3, he4⟩ := hW.evs
  have Hlt := hid hW.lt
  have Hlen := hid hlen
  obtain ⟨ea, ec, rfl⟩ := own_slice he3
  have He3 := hid he3
  have He := hid (And.intro he1 (And.intro he2 he4))
  have k15 := cell_of hblk 15
  have hwb := heap_lt hblk
  clear hW he1 he2 he3 he4 hlen hblk
  go_enter Tryz.func21, Tryz.ntmps21
  go_wp2_with fail
  refine (cloneRec_any w (FlatAt.of_own He3.out) (fun u hu => ?_) (by omega)).mono ?_
  · obtain ⟨cs, hcs, hu⟩ := List.mem_flatten.1 hu
    obtain ⟨i, hi⟩ := List.mem_iff_getElem?.1 hcs
    have hlt : i < k.ev.length := by rw [← He.out.1]; exact (List.getElem?_eq_some_iff.1 hi).1
    exact RecV.one _ _ _ (He.out.2.2 i cs _ hi (List.getElem?_eq_getElem hlt)) u hu
  rintro e w1 ⟨v1, rfl, ho1, b1⟩
  obtain ⟨a1, c1, rfl⟩ := own_slice ho1
  obtain ⟨T, hT⟩ : ∃ T : Nat → Prop, T = fun b => S b ∨ ownB (.slice a1 k.ev.length c1) b := ⟨_, rfl⟩
  have HT := hid (And.intro (fun b (h : S b) => (show T b by rw [hT]; exact .inl h)) (And.intro (fun b (h : ownB (.slice a1 k.ev.length c1) b) => (show T b by rw [hT]; exact .inr h)) (fun b (h : T b) => (show b < w1.heap.size by
    rw [hT] at h
    rcases h with h | h
    · have := (Hlt.out b h).1; have := b1.size; omega
    · exact (ho1.lt b h).2))))
  have hsee : Sees (sans S w) (sans T w1) := sees_grow b1 (fun b hb h => by
    rw [hT] at h
    rcases h with h | h
    · exact h
    · have := (ho1.lt b h).1; omega)
  have HO : Hid (OwnL RecV.at_ 49 13 w.heap.size T k.ev (.slice a1 k.ev.length c1) w1) := ⟨css, ho1, He.out.1, He.out.2.1, fun i cs x a b => RecV.sees _ _ _ _ hsee (He.out.2.2 i cs x a b)⟩
  have B1 := hid b1
  have HB := hid (fun b (h : ownB (.slice a1 k.ev.length c1) b) => ho1.lt b h)
  clear hT hsee ho1 b1 He He3 k15
  go_wp2
  go_loopw [14] (fun vi wr => ∃ i : Nat, i ≤ k.ev.length ∧ vi = .int .i64 i ∧ Hid (But (ownB (.slice a1 k.ev.length c1)) w1 wr ∧ OwnL RecV.at_ 49 13 w.heap.size T k.ev (.slice a1 k.ev.length c1) wr)) (fun vi _ => k.ev.length - (intOf vi).toNat)
  case atStart => exact ⟨0, Nat.zero_le _, rfl, But.refl _ _, HO.out⟩
  case round =>
    obtain ⟨i, hi, rfl, hR⟩ := hrel
    have hszr := hR.out.1.size
    by_cases hlt : i < k.ev.length
    · obtain ⟨x, hx⟩ : ∃ x, k.ev[i]? = some x := ⟨_, List.getElem?_eq_getElem hlt⟩
      obtain ⟨g, cap, cs, v, hu, hbg, hg, hcv, hvs, hk⟩ := hR.out.2.rec hx
      injection hu with hu1 hu2 hu3
      subst hu1
      obtain ⟨va, vc, rfl⟩ := vars_shape hvs
      have hxl := Hlen.out x (List.mem_of_getElem? hx)
      have Hg := hid hg
      have K := hid hk
      have Hvs := hid hvs
      have q := (cell_of hg (i * 13 + 12)).trans hcv
      clear hk hg hcv hu2 hu3 hvs hx
      go_wp2_with fail
      have hle : ∀ b, T b → b < wr.heap.size := fun b h => Nat.lt_of_lt_of_le (HT.out.2.2 b h) hszr
      refine (cloneVars_list (S := T) wr Hvs.out sees_seen hxl hle).mono ?_
      rintro e w2 ⟨u, rfl, hv2, -, b2⟩
      obtain ⟨ua, uc, rfl⟩ := vars_shape hv2
      have Hv2 := hid hv2
      have Hg2 := hid (keep_at b2 Hg.out)
      have B2 := hid b2
      have f2 := free_of Hg2.out (i * 13 + 12)
      have q2 : w2.cell? ⟨g, i * 13 + 12, none⟩ = some (.slice va x.vars.length vc) := (b2.cell (p := ⟨g, i * 13 + 12, none⟩) (World.block_lt_of_cell? wr _ q)).trans q
      have hz2 := b2.size
      clear hv2 b2 q
      go_wp2_with fail
      go_roundw
      case rel =>
        have h9 := setCell_at Hg2.out (i * 13 + 12) (.slice ua x.vars.length uc)
        have hb9 : But (fun b => b = g) w2 (w2.setCell ⟨g, i * 13 + 12, none⟩ (.slice ua x.vars.length uc)) := set_but w2 g _ _
        have hgT : T g := HT.out.2.1 g rfl
        have hb8 : But (ownB (.slice (some ⟨g, 0, none⟩) k.ev.length c1)) wr (w2.setCell ⟨g, i * 13 + 12, none⟩ (.slice ua x.vars.length uc)) := (But.of B2.out).trans (hb9.mono (fun b _ e => by subst e; rfl))
        exact ⟨i + 1, by omega, by go_num, hR.out.1.trans hb8, K.out _ _ h9 (hb8.mono (fun b _ h => HT.out.2.1 b h)) (Hv2.out.below (goes_hid (S := T) hb9 (fun b e => by subst e; exact hgT)).sans)⟩
      case measure => simp [intOf]; omega
    · obtain rfl : i = k.ev.length := by omega
      go_wp2
      go_ret
      refine ⟨_, rfl, hR.out.2.list (by omega) RecV.sees (fun b h => HT.out.1 b h) (fun b h1 h2 => by have := (Hlt.out b h2).1; omega), B1.out.trans (hR.out.1.below B1.out.size (fun b h => (HB.out b h).1))⟩
end Go.Proofs.YtjkbfoeakeoeiaaGreat
namespace Go.Proofs.YtjkbfoeakeoeiaaGreat
set_option maxRecDepth 100000
set_option maxHeartbeats 40000000
set_option linter.unusedSimpArgs false
set_option linter.unusedVariables false
open Go.RowKit
def stateE : StateV := ⟨0, 0, 0, [], [], [], [], [], [], [], [], []⟩
theorem put_one {α : Type} (o : α → α → Int) (x : α) : putBy o [] x = [x] := rfl
def paidS : ByteArray := ⟨#[112, 97, 105, 100]⟩
def keyKS : ByteArray := ⟨#[107]⟩
def idS : ByteArray := ⟨#[105, 100]⟩
def shS : StateV := { stateE with listed := [⟨3, 2, 1, paidS, keyKS, 0, []⟩] }
def shR : RecV := { rec0 with a := paidS, b := keyKS, c := idS, n := 5 }
theorem shown_one : (publishV (beginV shS 0 1 10) shR).2 = 0 := by decide +kernel
theorem shown_two : (publishV (publishV (beginV shS 0 1 10) shR).1 shR).2 = 6 := by decide +kernel
theorem shown_ev : ((publishV (beginV shS 0 1 10) shR).1.ev.map fun r => (r.kind, r.key, r.key2)) = [(19, 1, 0), (21, 3, 1)] := by decide +kernel
theorem shown_shard : shardV ⟨#[97, 98]⟩ 4 = 1 := by decide +kernel
theorem shown_home : homeV 2199023255553 = 2 := by decide +kernel
end Go.Proofs.YtjkbfoeakeoeiaaGreat
