/- Keep: contracts (Gn). -/
import Derived.Test.YtjkbfoeakeoeiaaGreatV12
namespace Go.Proofs.YtjkbfoeakeoeiaaGreat
set_option maxRecDepth 100000
set_option maxHeartbeats 40000000
set_option linter.unusedSimpArgs false
set_option linter.unusedVariables false
open Go.IntWalk Go.RowKit
theorem post_set17 {P : Program} {f : Func} {R : Ending → World → Prop} {e : Exit} {a : Act} {W : World} {b : Nat} {v0 v1 v2 v3 v4 v5 v6 v7 v8 v9 v10 v11 z0 z1 z2 z3 z4 z5 z6 z7 z8 z9 z10 z11 z12 z13 z14 z15 z16 : Value} {T : TypeId} (h : W.heap[b]? = some (.cells #[z0, z1, z2, z3, z4, z5, z6, z7, z8, z9, z10, z11, z12, z13, z14, z15, z16] T (0, 0)))
    (k : ∀ W', Hid (W'.heap[b]? = some (.cells #[v0, v1, v2, v3, v4, v5, v6, v7, v8, v9, v10, v11, z12, z13, z14, z15, z16] T (0, 0))) → Hid (But (fun i => i = b) W W') → bodyPost P f R e a W') : bodyPost P f R e a ((((((((((((W.setCell ⟨b, 0, none⟩ v0).setCell ⟨b, 1, none⟩ v1).setCell ⟨b, 2, none⟩ v2).setCell ⟨b, 3, none⟩ v3).setCell ⟨b, 4, none⟩ v4).setCell ⟨b, 5, none⟩ v5).setCell ⟨b, 6, none⟩ v6).setCell ⟨b, 7, none⟩ v7).setCell ⟨b, 8, none⟩ v8).setCell ⟨b, 9, none⟩ v9).setCell ⟨b, 10, none⟩ v10).setCell ⟨b, 11, none⟩ v11) := by
  have e0 := setCell_at h 0 v0
  have e1 := setCell_at e0 1 v1
  have e2 := setCell_at e1 2 v2
  have e3 := setCell_at e2 3 v3
  have e4 := setCell_at e3 4 v4
  have e5 := setCell_at e4 5 v5
  have e6 := setCell_at e5 6 v6
  have e7 := setCell_at e6 7 v7
  have e8 := setCell_at e7 8 v8
  have e9 := setCell_at e8 9 v9
  have e10 := setCell_at e9 10 v10
  have e11 := setCell_at e10 11 v11
  simp only [List.setIfInBounds_toArray, List.set_cons_zero, List.set_cons_succ] at e11
  refine k _ e11 ?_
  exact (((((((((((set_but _ b 0 _).trans (set_but _ b 1 _)).trans (set_but _ b 2 _)).trans (set_but _ b 3 _)).trans (set_but _ b 4 _)).trans (set_but _ b 5 _)).trans (set_but _ b 6 _)).trans (set_but _ b 7 _)).trans (set_but _ b 8 _)).trans (set_but _ b 9 _)).trans (set_but _ b 10 _)).trans (set_but _ b 11 _)
theorem relC_set12 (n j : Nat) (w : World) (v : Value) (hj : j ≠ 12) : (Ps.relC (fun k => k = n) (fun b i => b ≠ n ∨ i = 12)).G w (w.setCell ⟨n, j, none⟩ v) := by
  refine ⟨set_but w n j v, fun b i u hs hc => ?_⟩
  rw [World.cell?_setCell_other]
  · exact hc
  · intro e
    injection e with e1 e2
    rcases hs with h | h
    · exact h e1.symm
    · exact hj (e2.trans h)
theorem cells12of17 {w : World} {b : Nat} {v0 v1 v2 v3 v4 v5 v6 v7 v8 v9 v10 v11 z12 z13 z14 z15 z16 : Value} {T : TypeId} {fr : Nat × Nat} (h : w.heap[b]? = some (.cells #[v0, v1, v2, v3, v4, v5, v6, v7, v8, v9, v10, v11, z12, z13, z14, z15, z16] T fr)) :
    w.cell? ⟨b, 0, none⟩ = some v0 ∧ w.cell? ⟨b, 1, none⟩ = some v1 ∧ w.cell? ⟨b, 2, none⟩ = some v2 ∧ w.cell? ⟨b, 3, none⟩ = some v3 ∧ w.cell? ⟨b, 4, none⟩ = some v4 ∧ w.cell? ⟨b, 5, none⟩ = some v5 ∧ w.cell? ⟨b, 6, none⟩ = some v6 ∧ w.cell? ⟨b, 7, none⟩ = some v7 ∧ w.cell? ⟨b, 8, none⟩ = some v8 ∧ w.cell? ⟨b, 9, none⟩ = some v9 ∧ w.cell? ⟨b, 10, none⟩ = some v10 ∧ w.cell? ⟨b, 11, none⟩ = some v11 :=
  ⟨cell_of h 0, cell_of h 1, cell_of h 2, cell_of h 3, cell_of h 4, cell_of h 5, cell_of h 6, cell_of h 7, cell_of h 8, cell_of h 9, cell_of h 10, cell_of h 11⟩
structure WorkAt (w : World) (wb : Nat) (S : Nat → Prop) (ve : Value) (k : WorkV) : Prop where
  own : S wb
  lt : ∀ b, S b → b < w.heap.size ∧ wb ≤ b
  evb : ∀ b, ve.ownBlock = some b → S b
  blk : ∃ vp vi vt vj vr vs vk vl vm, w.heap[wb]? = some (.cells #[U k.s.pos, U k.s.done, U k.s.made, vp, vi, vt, vj, vr, vs, vk, vl, vm, I k.part, U k.pos, I k.now, ve, I k.steps] 83 (0, 0)) ∧ StateAt (sans S w) [U k.s.pos, U k.s.done, U k.s.made, vp, vi, vt, vj, vr, vs, vk, vl, vm] k.s vp vi vt vj vr vs vk vl vm
  evs : ∃ css : List (List Value), css.length = k.ev.length ∧ (∀ cs ∈ css, cs.length = 13) ∧ w.ownsRow (wb + 1) 49 13 ve k.ev.length css.flatten ∧ ∀ (i : Nat) cs x, css[i]? = some cs → k.ev[i]? = some x → RecAt S w cs x
theorem WorkAt.grow {w w' : World} {wb : Nat} {S : Nat → Prop} {ve : Value} {k : WorkV} (h : WorkAt w wb S ve k) (hb : Below w.heap.size w w') : WorkAt w' wb S ve k := by
  obtain ⟨vp, vi, vt, vj, vr, vs, vk, vl, vm, h1, h2⟩ := h.blk
  obtain ⟨css, e1, e2, e3, e4⟩ := h.evs
  exact ⟨h.own, fun b hs => ⟨Nat.lt_of_lt_of_le (h.lt b hs).1 hb.size, (h.lt b hs).2⟩, h.evb, ⟨vp, vi, vt, vj, vr, vs, vk, vl, vm, keep_at hb h1, h2.grow (sans_grow hb)⟩, css, e1, e2, own_but e3 (But.of (F := fun _ => False) hb) (fun _ _ h => h), fun i cs x a b => (e4 i cs x a b).grow hb⟩
def ApplyC (s : StateV) (pos : Nat) (r : RecV) (g : StateV) : Prop := ∀ (S : Nat → Prop) (w : World) (cs rc : List Value), (∀ b, S b → b < w.heap.size) → StAt S w cs s → RecAt S w rc r →
  Calls Tryz.prog 68 #[.agg cs.toArray, U pos, .agg rc.toArray] w fun e w' => ∃ cs', e = .returned (.agg cs'.toArray) ∧ StAt S w' cs' g ∧ Below w.heap.size w w'
def toldR (k : WorkV) (r : RecV) : RecV := { r with cls := 2, from_ := k.pos, time := k.now }
theorem RecAt.sees {S T : Nat → Prop} {w W : World} {cs : List Value} {r : RecV} (h : RecAt S w cs r) (hs : Sees (sans S w) (sans T W)) : RecAt T W cs r := RecV.sees _ _ _ _ hs h
theorem emit_any (w : World) (wb : Nat) (S : Nat → Prop) (ve : Value) (k : WorkV) (r : RecV) (rc : List Value) (g : StateV) (hW : WorkAt w wb S ve k) (hrec : RecAt S w rc r) (hlen : r.vars.length ≤ 1048576) (hev : k.ev.length ≤ 1000000) (hpos : k.s.pos < 1000000)
    (hap : ApplyC k.s (k.s.pos + 1) (toldR k r) g) :
    Calls Tryz.prog 35 #[.pointer (some ⟨wb, 0, none⟩), .agg rc.toArray] w fun e w' => e = .returned (.tuple #[]) ∧ ∃ S' ve', WorkAt w' wb S' ve' { k with ev := k.ev ++ [toldR k r], s := g } ∧ Goes S w S' w' := by
  have Hap := hid hap
  have HW := hid hW
  clear hap
  obtain ⟨vp, vi, vt, vj, vr, vs, vk, vl, vm, hblk, hst⟩ := hW.blk
  obtain ⟨css, he1, he2, he3, he4⟩ := hW.evs
  obtain ⟨xap, xcp, rfl, -⟩ := hst.procs
  obtain ⟨xai, xci, rfl, -⟩ := hst.insts
  obtain ⟨xat, xct, rfl, -⟩ := hst.tokens
  obtain ⟨xaj, xcj, rfl, -⟩ := hst.jobs
  obtain ⟨xar, xcr, rfl, -⟩ := hst.timers
  obtain ⟨xas, xcs, rfl, -⟩ := hst.subs
  obtain ⟨xak, xck, rfl, -⟩ := hst.kept
  obtain ⟨xal, xcl, rfl, -⟩ := hst.listed
  obtain ⟨xam, xcm, rfl, -⟩ := hst.msgs
  obtain ⟨ea, ec, rfl⟩ := own_slice he3
  have Hst := hid hst
  have HB := hid hblk
  have He3 := hid he3
  have He4 := hid he4
  obtain ⟨rv, hrc, hrv⟩ := hrec
  subst hrc
  have Hrv := hid hrv
  obtain ⟨ra, rk, rfl, -⟩ := hrv
  have hwb := heap_lt hblk
  have Hlt := hid hW.lt
  clear hW hblk hst he3 he4
  go_enter Tryz.func35, Tryz.ntmps35
  go_wp2_with fail
  refine wp_box1 ?_
  intro W0 h0 B0 hz
  have hne : wb ≠ w.heap.size := by omega
  have hwb0 : wb < W0.heap.size := by omega
  have hT := hidB_lt (k := 1) (fun b h => (Hlt.out b h).1) (show w.heap.size + 1 ≤ W0.heap.size by omega)
  have hsee : Sees (sans S w) (sans (hidB S w.heap.size 1) W0) := sees_grow B0.out (fun b => hidB_old b)
  have gw0 := hid (keep_at B0.out HB.out)
  have P13 := hid (cell_of gw0.out 13)
  have P14 := hid (cell_of gw0.out 14)
  have R12 := hid (cell_of h0.out 12)
  have HV0 := hid (Hrv.out.sees hsee)
  refine Ps.wp_par (Ps.relC (fun i => i = w.heap.size) (fun b i => b ≠ w.heap.size ∨ i = 12)) (fun W => W.heap[w.heap.size]? = some (.cells #[I r.cls, I r.kind, U r.from_, I r.time, U r.key, U r.key2, U r.key3, I r.n, I r.m, .string r.a, .string r.b, .string r.c, (.slice ra r.vars.length rk)] 49 (0, 0))) (false :: false :: false :: false :: false :: false :: false :: false :: false :: false :: true :: false :: true :: false :: true :: false :: true :: []) _ (.fix ?_ :: .fix ?_ :: .fix ?_ :: .fix ?_ :: .fix ?_ :: .fix ?_ :: .fix ?_ :: .fix ?_ :: .fix ?_ :: .fix ?_ :: .st (some r.vars.length) (fun u W => VarsAt (sans (hidB S w.heap.size 1) W) u r.vars) (fun _ W => W.heap[w.heap.size]? = some (.cells #[I r.cls, I r.kind, U r.from_, I r.time, U r.key, U r.key2, U r.key3, I r.n, I r.m, .string r.a, .string r.b, .string r.c, (.slice ra r.vars.length rk)] 49 (0, 0))) :: .fix ?_ :: .sf undef (fun W => W.heap[w.heap.size]? = some (.cells #[I 2, I r.kind, U r.from_, I r.time, U r.key, U r.key2, U r.key3, I r.n, I r.m, .string r.a, .string r.b, .string r.c, (.slice ra r.vars.length rk)] 49 (0, 0))) :: .fix ?_ :: .sf undef (fun W => W.heap[w.heap.size]? = some (.cells #[I 2, I r.kind, U k.pos, I r.time, U r.key, U r.key2, U r.key3, I r.n, I r.m, .string r.a, .string r.b, .string r.c, (.slice ra r.vars.length rk)] 49 (0, 0))) :: .fix ?_ :: .sf undef (fun W => W.heap[w.heap.size]? = some (.cells #[I 2, I r.kind, U k.pos, I k.now, U r.key, U r.key2, U r.key3, I r.n, I r.m, .string r.a, .string r.b, .string r.c, (.slice ra r.vars.length rk)] 49 (0, 0))) :: []) (by kernel_rfl) (by kernel_rfl) (by simp only [List.length_cons, List.length_nil, List.drop_succ_cons, List.drop_zero, List.drop_nil]; with_reducible rfl) rfl (fun _ _ _ _ _ => ⟨fun h => h, fun h => h⟩) (fun _ _ h hb => keep_at hb h) (h0.out) ?_
  rotate_left 13
  iterate 10
    first
      | (refine Ps.par_skip (a' := ?_) (by rfl) (by rfl) ?_ ?_ ?_; rotate_left 1; with_reducible rfl; (simp only [Act.put, List.setIfInBounds_toArray, List.set_cons_zero, List.set_cons_succ]; with_reducible rfl))
      | (refine Ps.par_run (a' := ?_) (by rfl) (by rfl) (fun w' hb hn => ?_) ?_ ?_; rotate_left 1; (have q0 := hb.2 wb 13 _ (.inl hne) P13.out; have q1 := hb.2 wb 14 _ (.inl hne) P14.out; have q2 := hb.2 w.heap.size 12 _ (.inr rfl) R12.out; first | (go_simp; (try simp (disch := omega) only [IntWalk.i64_in, IntWalk.i32_in, IntWalk.u64_in, IntWalk.u8_in, IntWalk.u32_in, toNatUp, iteOmega]); with_reducible rfl) | (go_simp; (try simp (disch := omega) only [IntWalk.i64_in, IntWalk.i32_in, IntWalk.u64_in, IntWalk.u8_in, IntWalk.u32_in, toNatUp, iteOmega]); go_simp; with_reducible rfl)); (simp only [Act.put, List.setIfInBounds_toArray, List.set_cons_zero, List.set_cons_succ]; with_reducible rfl))
  refine Ps.par_stc (a' := ?ap1k10) (f := ?fp1k10) (args := ?rp1k10) (by rfl) (by rfl) (fun w' => ?ep1k10) (fun _ _ _ h hb => h.below (goes_hid hb.1 (fun i h => .inr (by omega))).sans) (fun _ _ _ h hb => keep_at hb h) (fun w' hb hn hr => ?hp1k10) (fun u => ?pp1k10) (fun u10 hu10 => ?gp1k10)
  case ep1k10 => (go_simp; constructor <;> with_reducible rfl)
  case hp1k10 => (refine (cloneVars_list (S := hidB S w.heap.size 1) w' (HV0.out.below (goes_hid hb.1 (fun i h => .inr (by omega))).sans) sees_seen hlen (fun i h => Nat.lt_of_lt_of_le (hT i h) hb.1.size)).mono ?_; rintro e w2 ⟨u, rfl, h1, -, h3⟩; exact ⟨u, rfl, vars_shape h1, h1, (Ps.relC _ _).of _ _ h3, keep_at h3 hr⟩)
  case pp1k10 => (simp only [Act.put, List.setIfInBounds_toArray, List.set_cons_zero, List.set_cons_succ]; with_reducible rfl)
  obtain ⟨au10, cu10, rfl⟩ := hu10
  iterate 1
    first
      | (refine Ps.par_skip (a' := ?_) (by rfl) (by rfl) ?_ ?_ ?_; rotate_left 1; with_reducible rfl; (simp only [Act.put, List.setIfInBounds_toArray, List.set_cons_zero, List.set_cons_succ]; with_reducible rfl))
      | (refine Ps.par_run (a' := ?_) (by rfl) (by rfl) (fun w' hb hn => ?_) ?_ ?_; rotate_left 1; (have q0 := hb.2 wb 13 _ (.inl hne) P13.out; have q1 := hb.2 wb 14 _ (.inl hne) P14.out; have q2 := hb.2 w.heap.size 12 _ (.inr rfl) R12.out; first | (go_simp; (try simp (disch := omega) only [IntWalk.i64_in, IntWalk.i32_in, IntWalk.u64_in, IntWalk.u8_in, IntWalk.u32_in, toNatUp, iteOmega]); with_reducible rfl) | (go_simp; (try simp (disch := omega) only [IntWalk.i64_in, IntWalk.i32_in, IntWalk.u64_in, IntWalk.u8_in, IntWalk.u32_in, toNatUp, iteOmega]); go_simp; with_reducible rfl)); (simp only [Act.put, List.setIfInBounds_toArray, List.set_cons_zero, List.set_cons_succ]; with_reducible rfl))
  refine Ps.par_sfs (a' := ?ap2k12) (by rfl) (by rfl) (fun _ _ h hb => keep_at hb h) (fun w' hb hn hr => ?hp2k12) (by rfl) ?pp2k12 ?gp2k12
  case hp2k12 => (have k0 := cell_of hr 0; have f0 := free_of hr 0; exact ⟨w'.setCell ⟨w.heap.size, 0, none⟩ (I 2), (by go_simp; try with_reducible rfl), relC_set12 _ 0 _ _ (by decide), setCell_at hr 0 _⟩)
  case pp2k12 => with_reducible rfl
  iterate 1
    first
      | (refine Ps.par_skip (a' := ?_) (by rfl) (by rfl) ?_ ?_ ?_; rotate_left 1; with_reducible rfl; (simp only [Act.put, List.setIfInBounds_toArray, List.set_cons_zero, List.set_cons_succ]; with_reducible rfl))
      | (refine Ps.par_run (a' := ?_) (by rfl) (by rfl) (fun w' hb hn => ?_) ?_ ?_; rotate_left 1; (have q0 := hb.2 wb 13 _ (.inl hne) P13.out; have q1 := hb.2 wb 14 _ (.inl hne) P14.out; have q2 := hb.2 w.heap.size 12 _ (.inr rfl) R12.out; first | (go_simp; (try simp (disch := omega) only [IntWalk.i64_in, IntWalk.i32_in, IntWalk.u64_in, IntWalk.u8_in, IntWalk.u32_in, toNatUp, iteOmega]); with_reducible rfl) | (go_simp; (try simp (disch := omega) only [IntWalk.i64_in, IntWalk.i32_in, IntWalk.u64_in, IntWalk.u8_in, IntWalk.u32_in, toNatUp, iteOmega]); go_simp; with_reducible rfl)); (simp only [Act.put, List.setIfInBounds_toArray, List.set_cons_zero, List.set_cons_succ]; with_reducible rfl))
  refine Ps.par_sfs (a' := ?ap3k14) (by rfl) (by rfl) (fun _ _ h hb => keep_at hb h) (fun w' hb hn hr => ?hp3k14) (by rfl) ?pp3k14 ?gp3k14
  case hp3k14 => (have k0 := cell_of hr 2; have f0 := free_of hr 2; exact ⟨w'.setCell ⟨w.heap.size, 2, none⟩ (U k.pos), (by go_simp; try with_reducible rfl), relC_set12 _ 2 _ _ (by decide), setCell_at hr 2 _⟩)
  case pp3k14 => with_reducible rfl
  iterate 1
    first
      | (refine Ps.par_skip (a' := ?_) (by rfl) (by rfl) ?_ ?_ ?_; rotate_left 1; with_reducible rfl; (simp only [Act.put, List.setIfInBounds_toArray, List.set_cons_zero, List.set_cons_succ]; with_reducible rfl))
      | (refine Ps.par_run (a' := ?_) (by rfl) (by rfl) (fun w' hb hn => ?_) ?_ ?_; rotate_left 1; (have q0 := hb.2 wb 13 _ (.inl hne) P13.out; have q1 := hb.2 wb 14 _ (.inl hne) P14.out; have q2 := hb.2 w.heap.size 12 _ (.inr rfl) R12.out; first | (go_simp; (try simp (disch := omega) only [IntWalk.i64_in, IntWalk.i32_in, IntWalk.u64_in, IntWalk.u8_in, IntWalk.u32_in, toNatUp, iteOmega]); with_reducible rfl) | (go_simp; (try simp (disch := omega) only [IntWalk.i64_in, IntWalk.i32_in, IntWalk.u64_in, IntWalk.u8_in, IntWalk.u32_in, toNatUp, iteOmega]); go_simp; with_reducible rfl)); (simp only [Act.put, List.setIfInBounds_toArray, List.set_cons_zero, List.set_cons_succ]; with_reducible rfl))
  refine Ps.par_sfs (a' := ?ap4k16) (by rfl) (by rfl) (fun _ _ h hb => keep_at hb h) (fun w' hb hn hr => ?hp4k16) (by rfl) ?pp4k16 ?gp4k16
  case hp4k16 => (have k0 := cell_of hr 3; have f0 := free_of hr 3; exact ⟨w'.setCell ⟨w.heap.size, 3, none⟩ (I k.now), (by go_simp; try with_reducible rfl), relC_set12 _ 3 _ _ (by decide), setCell_at hr 3 _⟩)
  case pp4k16 => with_reducible rfl
  refine Ps.par_end (fun w9 hb9 hf9 hr9 => ?_)
  try refine Ps.wpList_none ?_
  simp only [List.forall_mem_cons] at hf9
  have HV9 := hid hf9.1
  have HR9 := hid hr9
  have hG9 : Goes (hidB S w.heap.size 1) W0 (hidB S w.heap.size 1) w9 := goes_hid hb9.1 (fun i h => .inr (by omega))
  have HG9 := hid hG9
  have gw9 := hid ((hb9.1.block wb hwb0 hne).trans gw0.out)
  have hsz9 := hb9.1.size
  have B9 := hid (B0.out.trans (hb9.1.below B0.out.size (fun k h => by omega)))
  have kk := cell_of HR9.out 12
  have ff := free_of HR9.out 12
  clear hf9 hr9 hb9 hG9 gw0 P13 P14 R12 h0
  go_wp2_with fail
  refine wp_setc HR9.out ?_
  intro W1 h1 bs1
  simp only [List.setIfInBounds_toArray, List.set_cons_zero, List.set_cons_succ] at h1
  have H1 := hid h1
  have gw1 := hid ((bs1.out.block wb (heap_lt gw9.out) hne).trans gw9.out)
  have hsz1 := bs1.out.size
  have B1 := hid (B9.out.trans (bs1.out.below B9.out.size (fun k h => by omega)))
  have HV1 := hid (HV9.out.below (goes_hid (S := hidB S w.heap.size 1) bs1.out (fun i h => .inr (by omega))).sans)
  have Hnv : Hid (∀ b, ownB (.slice ea k.ev.length ec) b → S b ∧ wb + 1 ≤ b) := fun b h => ⟨HW.out.evb b h, (He3.out.lt b h).1⟩
  have Hbw : Hid (But S w W1) := (But.of (w := w) (F := S) B1.out)
  have HO1 := hid (He3.out)
  have HO1' : Hid (W1.ownsRow (wb + 1) 49 13 (.slice ea k.ev.length ec) k.ev.length css.flatten) := own_but He3.out (But.of (F := fun _ => False) B1.out) (fun _ _ h => h)
  have hnwb : ¬ ownB (.slice ea k.ev.length ec) wb := fun h => by have := (Hnv.out wb h).2; omega
  have hnn : ¬ ownB (.slice ea k.ev.length ec) w.heap.size := fun h => by have := (Hlt.out _ (Hnv.out _ h).1).1; omega
  have E15 := hid (cell_of gw1.out 15)
  obtain ⟨r0, r1, r2, r3, r4, r5, r6, r7, r8, r9, r10, r11, r12⟩ := cells13 H1.out
  have HRC := hid (And.intro r0 (And.intro r1 (And.intro r2 (And.intro r3 (And.intro r4 (And.intro r5 (And.intro r6 (And.intro r7 (And.intro r8 (And.intro r9 (And.intro r10 (And.intro r11 r12))))))))))))
  clear h1 HO1 kk ff HR9 bs1 r0 r1 r2 r3 r4 r5 r6 r7 r8 r9 r10 r11 r12
  refine Ps.wp_par (Ps.relC (ownB (.slice ea k.ev.length ec)) (fun b _ => ¬ ownB (.slice ea k.ev.length ec) b)) (fun W => W.ownsRow (wb + 1) 49 13 (.slice ea k.ev.length ec) k.ev.length css.flatten) (false :: false :: false :: false :: false :: false :: false :: true :: []) _ (.fix ?_ :: .fix ?_ :: .fix ?_ :: .fix ?_ :: .fix ?_ :: .fix ?_ :: .new (Ps.rowN 13 ?_ ?_ W1.heap.size) :: .st (some (k.ev.length + 1)) (fun _ _ => True) (fun u W => W.ownsRow (wb + 1) 49 13 u (k.ev.length + 1) (css.flatten ++ [I 2, I r.kind, U k.pos, I k.now, U r.key, U r.key2, U r.key3, I r.n, I r.m, .string r.a, .string r.b, .string r.c, .slice au10 r.vars.length cu10]) ∧ ∀ g, u.ownBlock = some g → (Value.slice ea k.ev.length ec).ownBlock = some g ∨ W1.heap.size ≤ g) :: []) (by kernel_rfl) (by kernel_rfl) (by simp only [List.length_cons, List.length_nil, List.drop_succ_cons, List.drop_zero, List.drop_nil]; with_reducible rfl) rfl (fun _ _ _ _ _ => ⟨fun h => h, fun h => h⟩) (fun _ _ h hb => own_but h (But.of (F := fun _ => False) hb) (fun _ _ h => h)) (HO1'.out) ?_
  rotate_left 8
  iterate 6
    first
      | (refine Ps.par_skip (a' := ?_) (by rfl) (by rfl) ?_ ?_ ?_; rotate_left 1; with_reducible rfl; (simp only [Act.put, List.setIfInBounds_toArray, List.set_cons_zero, List.set_cons_succ]; with_reducible rfl))
      | (refine Ps.par_run (a' := ?_) (by rfl) (by rfl) (fun w' hb hn => ?_) ?_ ?_; rotate_left 1; (have q15 := hb.2 wb 15 _ hnwb E15.out; obtain ⟨r0, r1, r2, r3, r4, r5, r6, r7, r8, r9, r10, r11, r12⟩ := HRC.out; replace r0 := hb.2 _ _ _ hnn r0; replace r1 := hb.2 _ _ _ hnn r1; replace r2 := hb.2 _ _ _ hnn r2; replace r3 := hb.2 _ _ _ hnn r3; replace r4 := hb.2 _ _ _ hnn r4; replace r5 := hb.2 _ _ _ hnn r5; replace r6 := hb.2 _ _ _ hnn r6; replace r7 := hb.2 _ _ _ hnn r7; replace r8 := hb.2 _ _ _ hnn r8; replace r9 := hb.2 _ _ _ hnn r9; replace r10 := hb.2 _ _ _ hnn r10; replace r11 := hb.2 _ _ _ hnn r11; replace r12 := hb.2 _ _ _ hnn r12; first | (go_simp; (try simp (disch := omega) only [IntWalk.i64_in, IntWalk.i32_in, IntWalk.u64_in, IntWalk.u8_in, IntWalk.u32_in, toNatUp, iteOmega]); with_reducible rfl) | (go_simp; (try simp (disch := omega) only [IntWalk.i64_in, IntWalk.i32_in, IntWalk.u64_in, IntWalk.u8_in, IntWalk.u32_in, toNatUp, iteOmega]); go_simp; with_reducible rfl)); (simp only [Act.put, List.setIfInBounds_toArray, List.set_cons_zero, List.set_cons_succ]; with_reducible rfl))
  refine Ps.par_row (a' := ?ap5k6) (m := ?mp5k6) (T := ?Tp5k6) (cs := ?cp5k6) (r := ?rp5k6) (fun x h => by have := (Hlt.out _ (Hnv.out x h).1).1; have := B1.out.size; omega) (by rfl) (by rfl) (fun w' hb hn => ?hp5k6) (fun w' => ?ep5k6) ?np5k6 ?vp5k6 ?lp5k6 ?xp5k6 (fun u => ?pp5k6) (fun u => ?gp5k6)
  case hp5k6 => (have q15 := hb.2 wb 15 _ hnwb E15.out; obtain ⟨r0, r1, r2, r3, r4, r5, r6, r7, r8, r9, r10, r11, r12⟩ := HRC.out; replace r0 := hb.2 _ _ _ hnn r0; replace r1 := hb.2 _ _ _ hnn r1; replace r2 := hb.2 _ _ _ hnn r2; replace r3 := hb.2 _ _ _ hnn r3; replace r4 := hb.2 _ _ _ hnn r4; replace r5 := hb.2 _ _ _ hnn r5; replace r6 := hb.2 _ _ _ hnn r6; replace r7 := hb.2 _ _ _ hnn r7; replace r8 := hb.2 _ _ _ hnn r8; replace r9 := hb.2 _ _ _ hnn r9; replace r10 := hb.2 _ _ _ hnn r10; replace r11 := hb.2 _ _ _ hnn r11; replace r12 := hb.2 _ _ _ hnn r12; go_simp; (try simp (disch := omega) only [IntWalk.i64_in, IntWalk.i32_in, IntWalk.u64_in, IntWalk.u8_in, IntWalk.u32_in, toNatUp, iteOmega]); with_reducible rfl)
  case ep5k6 => with_reducible rfl
  case np5k6 => with_reducible rfl
  case vp5k6 => with_reducible rfl
  case lp5k6 => simp only [List.length_cons, List.length_nil]
  case xp5k6 => (unfold maxLen; omega)
  case pp5k6 => (simp only [Act.put, List.setIfInBounds_toArray, List.set_cons_zero, List.set_cons_succ]; with_reducible rfl)
  refine Ps.par_str (a' := ?ap6k7) (by rfl) (by rfl) (fun _ _ _ _ _ => trivial) (fun _ _ _ h hb => ⟨own_but h.1 (But.of (F := fun _ => False) hb) (fun _ _ h => h), h.2⟩) (fun w' hb hn hr => ?hp6k7) (fun u => ?pp6k7) (fun u7 hu7 => ?gp6k7)
  case hp6k7 => (obtain ⟨v', w2, hrun, ho2, hg2, hf2⟩ := run_app_k (P := Tryz.prog) 68 49 68 Tryz.underlying68 infoRec rfl (by decide) hr (by have := B1.out.size; have := hb.1.size; omega) (Ps.need_head hn (by kernel_rfl)).1 (by unfold maxLen; omega) (by omega) (by simp [Value.oneCell']); obtain ⟨a2, c2, rfl⟩ := own_slice ho2; exact ⟨_, w2, by (unfold execOp; simp only [resolve, invoke, builtin, Sem.run_bind, Sem.run_pure, Result.andThen_ok, List.map_toArray, List.map_cons, List.map_nil]; simp [Act.eval]; rw [hrun]; rfl), ⟨_, _, rfl⟩, trivial, ⟨hg2, fun b i u hs hc => But.cell hg2 hc hs⟩, ho2, fun g h => (hf2 g h).imp id (fun h => Nat.le_trans hb.1.size h)⟩)
  case pp6k7 => (simp only [Act.put, List.setIfInBounds_toArray, List.set_cons_zero, List.set_cons_succ]; with_reducible rfl)
  refine Ps.par_end (fun w9 hb9 hf9 hr9 => ?_)
  try refine Ps.wpList_none ?_
  obtain ⟨ev, vc, rfl⟩ := hu7
  have HO9 := hid hr9.1
  have Hf9 := hid hr9.2
  have hB9 : But S W1 w9 := hb9.1.mono (fun b _ h => (Hnv.out b h).1)
  have Hbs := hid (Hbw.out.trans hB9)
  have gw2 := hid ((hb9.1.block wb (heap_lt gw1.out) hnwb).trans gw1.out)
  have H2 := hid ((hb9.1.block _ (heap_lt H1.out) hnn).trans H1.out)
  have hszb := hb9.1.size
  have hB9' := hid hb9.1
  have k15 := cell_of gw2.out 15
  have f15 := free_of gw2.out 15
  clear hf9 hr9 hb9 gw1 H1 E15 HRC HO1' hB9
  obtain ⟨w2, rfl⟩ : ∃ w2 : World, w2 = w9 := ⟨_, rfl⟩
  go_wp2_with fail
  refine wp_setc gw2.out ?_
  intro W3 h3 bs3
  simp only [List.setIfInBounds_toArray, List.set_cons_zero, List.set_cons_succ] at h3
  have gw3 := hid h3
  have H3 := hid ((bs3.out.block _ (heap_lt H2.out) (fun e => hne e.symm)).trans H2.out)
  have hsz3 := bs3.out.size
  have hszB := B1.out.size
  -- the blocks that are its own now
  obtain ⟨S', hS'⟩ : ∃ S' : Nat → Prop, S' = fun b => S b ∨ (Value.slice ev (k.ev.length + 1) vc).ownBlock = some b := ⟨_, rfl⟩
  have hin : ∀ b, S b → S' b := fun b h => by rw [hS']; exact .inl h
  have hold : ∀ b, S' b → S b ∨ W1.heap.size ≤ b := fun b h => by
    rw [hS'] at h
    exact h.elim .inl (fun h => (Hf9.out b h).imp (fun h => HW.out.evb b h) id)
  have hevb : ∀ b, (Value.slice ev (k.ev.length + 1) vc).ownBlock = some b → S' b := fun b h => by rw [hS']; exact .inr h
  have hlt : ∀ b, S' b → b < W3.heap.size ∧ wb ≤ b := fun b h => by
    rw [hS'] at h
    rcases h with h | h
    · have := Hlt.out b h; omega
    · have := HO9.out.lt b h; omega
  have HS' := hid (And.intro hin (And.intro hold (And.intro hevb hlt)))
  have hgo : Goes S w S' W3 := ⟨Hbs.out.trans (bs3.out.mono (fun b _ e => by subst e; exact HW.out.own)), fun b hb => ⟨fun h => (hold b h).elim id (fun h => by omega), fun h => hin b h⟩⟩
  have HGo := hid hgo
  have HO3 : Hid (W3.ownsRow (wb + 1) 49 13 (.slice ev (k.ev.length + 1) vc) (k.ev.length + 1) (css.flatten ++ [I 2, I r.kind, U k.pos, I k.now, U r.key, U r.key2, U r.key3, I r.n, I r.m, .string r.a, .string r.b, .string r.c, .slice au10 r.vars.length cu10])) := own_but HO9.out bs3.out (fun k h e => by omega)
  have Hst3 := hid (StAt.goes (T := S') ⟨_, _, _, _, _, _, _, _, _, Hst.out⟩ hgo)
  have Hrec3 : Hid (RecAt S' W3 [I 2, I r.kind, U k.pos, I k.now, U r.key, U r.key2, U r.key3, I r.n, I r.m, .string r.a, .string r.b, .string r.c, .slice au10 r.vars.length cu10] (toldR k r)) := by
    refine ⟨_, rfl, ?_⟩
    have h1 : But (fun b => hidB S w.heap.size 1 b) W1 W3 := (hB9'.out.mono (fun b _ h => .inl (Hnv.out b h).1)).trans (bs3.out.mono (fun b _ e => by subst e; exact .inl HW.out.own))
    have h2 : Goes (hidB S w.heap.size 1) W1 (fun b => hidB S w.heap.size 1 b ∨ S' b) W3 := ⟨h1, fun b hb => ⟨fun h => h.elim id (fun h => (hold b h).elim .inl (fun h => by omega)), .inl⟩⟩
    exact (HV1.out.below h2.sans).sees (sees_sans (fun b h => .inr h))
  obtain ⟨k0, k1, k2, k3, k4, k5, k6, k7, k8, k9, k10, k11⟩ := cells12of17 gw3.out
  obtain ⟨r0, r1, r2, r3, r4, r5, r6, r7, r8, r9, r10, r11, r12⟩ := cells13 H3.out
  have hl3w := heap_lt gw3.out
  have hl3r := heap_lt H3.out
  clear h3 bs3 hgo hin hold hevb hlt hS' k15 f15 gw2 H2
  refine wp_par (fun _ => False) (fun _ => True) (List.replicate 13 false) _ [.fix ?_, .fix ?_, .fix ?_, .fix ?_, .fix ?_, .fix ?_, .fix ?_, .fix ?_, .fix ?_, .fix ?_, .fix ?_, .fix ?_, .new (fun u W => ∃ cs, u = .agg cs.toArray ∧ StAt S' W cs g)] (by kernel_rfl) (by kernel_rfl) (by simp only [List.length_replicate, List.drop_succ_cons, List.drop_zero, List.drop_nil]; with_reducible rfl) rfl (fun _ _ _ _ _ => ⟨fun h => h, fun h => h⟩) (fun _ _ h _ => h) trivial ?_
  rotate_left 12
  iterate 12
    first
      | (refine par_skip (a' := ?_) (by rfl) (by rfl) ?_ ?_ ?_; rotate_left 1; with_reducible rfl; (simp only [Act.put, List.setIfInBounds_toArray, List.set_cons_zero, List.set_cons_succ]; with_reducible rfl))
      | (refine par_run (a' := ?_) (by rfl) (by rfl) (fun w' hb hn => ?_) ?_ ?_; rotate_left 1; (have hc := hb.cells; first | (go_simp; (try simp (disch := omega) only [IntWalk.i64_in, IntWalk.i32_in, IntWalk.u64_in, IntWalk.u8_in, IntWalk.u32_in, toNatUp, iteOmega]); with_reducible rfl) | (go_simp; (try simp (disch := omega) only [IntWalk.i64_in, IntWalk.i32_in, IntWalk.u64_in, IntWalk.u8_in, IntWalk.u32_in, toNatUp, iteOmega]); go_simp; with_reducible rfl)); (simp only [Act.put, List.setIfInBounds_toArray, List.set_cons_zero, List.set_cons_succ]; with_reducible rfl))
  refine par_callF (a' := ?a230k12) (f := ?f230k12) (args := ?r230k12) (by rfl) (by rfl) (fun w' => ?e230k12) (fun _ _ _ ⟨cs, hu, h⟩ hb => ⟨cs, hu, h.grow hb⟩) (fun w' hb hn => ?h230k12) (fun u => ?p230k12) (fun u => ?g230k12)
  case e230k12 => (go_simp; constructor <;> with_reducible rfl)
  case h230k12 => ((have e : (Value.int .u64 ((k.s.pos : Int) + 1)) = U (k.s.pos + 1) := (by go_num); rw [e]; exact (Hap.out S' w' [_, _, _, _, _, _, _, _, _, _, _, _] [I 2, I r.kind, U k.pos, I k.now, U r.key, U r.key2, U r.key3, I r.n, I r.m, .string r.a, .string r.b, .string r.c, .slice au10 r.vars.length cu10] (fun b h => Nat.lt_of_lt_of_le (HS'.out.2.2.2 b h).1 hb.grow.size) (Hst3.out.grow hb.grow) (Hrec3.out.grow hb.grow)).mono (fun e w2 ⟨cs, he, h1, h2⟩ => ⟨_, he, ⟨cs, rfl, h1⟩, h2⟩)))
  case p230k12 => (simp only [Act.put, List.setIfInBounds_toArray, List.set_cons_zero, List.set_cons_succ]; with_reducible rfl)
  refine par_end (fun w9 hb9 hf9 _ => ?_)
  replace hb9 := hb9.grow
  try refine wpList_none ?_
  simp only [List.forall_mem_cons] at hf9
  obtain ⟨⟨cs2, rfl, ⟨vp, vi, vt, vj, vr, vs, vk, vl, vm, hs2⟩⟩, -⟩ := hf9
  have hcs2 := hs2.cells
  obtain ⟨⟨pa, pc, rfl⟩, ⟨ia, ic, rfl⟩, ⟨ta, tc, rfl⟩, ⟨ja, jc, rfl⟩, ⟨ma, mc, rfl⟩, ⟨sa, sc, rfl⟩, ⟨ka, kc, rfl⟩, ⟨la, lc, rfl⟩, ⟨na, nc, rfl⟩⟩ := hs2.shapes
  subst hcs2
  have Hs2 := hid hs2
  have gw4 := hid (keep_at hb9 gw3.out)
  have HB9 := hid hb9
  clear hs2 hb9 k0 k1 k2 k3 k4 k5 k6 k7 k8 k9 k10 k11 r0 r1 r2 r3 r4 r5 r6 r7 r8 r9 r10 r11 r12 H3 hl3w hl3r
  obtain ⟨k0, k1, k2, k3, k4, k5, k6, k7, k8, k9, k10, k11⟩ := cells12of17 gw4.out
  obtain ⟨y0, y1, y2, y3, y4, y5, y6, y7, y8, y9, y10, y11⟩ := frees12 gw4.out
  go_wp2
  refine post_set17 gw4.out ?_
  intro W9 h9 b9
  go_end0
  have hgo1 : Goes S' W3 S' W9 := (Goes.of HB9.out).trans ⟨b9.out.mono (fun b _ e => by subst e; exact HS'.out.1 _ HW.out.own), fun _ _ => Iff.rfl⟩
  have hgo2 : Goes S' w9 S' W9 := ⟨b9.out.mono (fun b _ e => by subst e; exact HS'.out.1 _ HW.out.own), fun _ _ => Iff.rfl⟩
  refine ⟨rfl, S', .slice ev (k.ev.length + 1) vc, ⟨HS'.out.1 _ HW.out.own, fun b h => ⟨Nat.lt_of_lt_of_le (HS'.out.2.2.2 b h).1 (Nat.le_trans HB9.out.size b9.out.size), (HS'.out.2.2.2 b h).2⟩, HS'.out.2.2.1, ⟨_, _, _, _, _, _, _, _, _, h9.out, Hs2.out.grow hgo2.sans⟩, css ++ [[I 2, I r.kind, U k.pos, I k.now, U r.key, U r.key2, U r.key3, I r.n, I r.m, .string r.a, .string r.b, .string r.c, .slice au10 r.vars.length cu10]], by simp [he1], ?_, ?_, ?_⟩, HGo.out.trans hgo1⟩
  · intro cs hcs
    rcases List.mem_append.1 hcs with h | h
    · exact he2 cs h
    · simp at h
      subst h
      rfl
  · have h := own_but (own_but HO3.out (But.of (F := fun _ => False) HB9.out) (fun _ _ h => h)) b9.out (fun k h e => by omega)
    rw [List.flatten_append, List.length_append]
    simpa using h
  · intro i cs x h1 h2
    rcases Nat.lt_or_ge i k.ev.length with hi | hi
    · rw [List.getElem?_append_left (by omega)] at h1
      rw [List.getElem?_append_left hi] at h2
      exact ((He4.out i cs x h1 h2).goes HGo.out).goes hgo1
    · rw [List.getElem?_append_right (by omega)] at h1
      rw [List.getElem?_append_right hi] at h2
      have hi0 : i - k.ev.length = 0 := by
        have := (List.getElem?_eq_some_iff.1 h2).1
        simp at this
        omega
      rw [he1, hi0] at h1
      rw [hi0] at h2
      simp at h1 h2
      subst h1 h2
      exact Hrec3.out.goes hgo1
end Go.Proofs.YtjkbfoeakeoeiaaGreat
