/- Keep: contracts (Gz). -/
import Derived.Test.YtjkbfoeakeoeiaaGreatT19
namespace Go.Proofs.YtjkbfoeakeoeiaaGreat
set_option maxRecDepth 100000
set_option maxHeartbeats 40000000
set_option linter.unusedSimpArgs false
set_option linter.unusedVariables false
open Go.IntWalk Go.RowKit
def opnR (r : RecV) : RecV := { rec0 with kind := 18, key := r.key, key2 := r.key2, n := r.n, a := r.a, b := r.b }
def opnL (r : RecV) : LisV := ⟨r.key, r.key2, r.n, r.a, r.b, 0, []⟩
theorem opn_listed (k : WorkV) (r : RecV) (h0 : k.s.listed = []) : (emitV k (opnR r)).s.listed = [opnL r] := by
  simp [emitV, applyV, eventV, evListed, opnR, rec0, h0, put_one, opnL]
theorem opn_find (r : RecV) : ofLis r (opnL r) = true := by simp [ofLis, opnL]
theorem opn_eq (k : WorkV) (r : RecV) (h0 : k.s.listed = []) (hg : ¬ (named r.a = false ∨ 1024 < r.b.size ∨ r.n < 0 ∨ 30000 < r.n)) : openV k r = match (emitV k (opnR r)).s.msgs.find? (fun m => livesV (emitV k (opnR r)) m && suitsV m (opnL r)) with
    | some m => (emitV (emitV k (opnR r)) (sendR (opnL r) m.key), 0)
    | none => (emitV k (opnR r), 0) := by
  unfold openV
  rw [if_neg hg, if_neg (by rw [h0]; simp)]
  show (match (emitV k (opnR r)).s.listed.find? (ofLis r) with | none => _ | some x => _) = _
  rw [opn_listed k r h0, List.find?_cons_of_pos (opn_find r)]
  rfl
theorem open_cl (W : World) (wb : Nat) (S : Nat → Prop) (ve : Value) (k : WorkV) (m : MsgV) (x : LisV) (mva mua lva : Option Addr) (mvn mvc mun muc lvn lvc pb qb : Nat) (hW : WorkAt W wb S ve k) (hp : W.heap[pb]? = some (.cells #[.pointer (some ⟨wb, 0, none⟩)] 52 (0, 0))) (hq : W.heap[qb]? = some (.cells #[U x.token, U x.inst, I x.node, .string x.name, .string x.key, U x.msg, .slice lva lvn lvc] 58 (0, 0))) (hmu : SlR W (.slice mua mun muc) (natsV m.insts)) (hl : m.insts.length ≤ 1000000) :
    Calls Tryz.prog 43 #[.agg #[U m.key, .string m.name, .string m.for_, .string m.id, I m.till, .slice mva mvn mvc, .slice mua mun muc], .pointer (some ⟨pb, 0, none⟩), .pointer (some ⟨qb, 0, none⟩)] W fun e w' => e = .returned (.bool (livesV k m && suitsV m x)) ∧ Below W.heap.size W w' := by
  have HW := hid hW
  have HP := hid hp
  have HQ := hid hq
  have HU := hid hmu
  have h0 := hid (box1_at (w := W) (A := .cells #[U m.key, .string m.name, .string m.for_, .string m.id, I m.till, .slice mva mvn mvc, .slice mua mun muc] 66 (0, 0)))
  have B0 := hid (box1_b (w := W) (A := .cells #[U m.key, .string m.name, .string m.for_, .string m.id, I m.till, .slice mva mvn mvc, .slice mua mun muc] 66 (0, 0)))
  have p0 := cell_of (keep_at B0.out HP.out) 0
  clear hW hp hq hmu h0 B0
  go_enter Tryz.func43, Tryz.ntmps43
  go_wp2_with fail
  clear p0
  refine calls_box1 ?_
  intro W0 h0 B0 hz
  refine (lives_any W0 wb S ve k m _ _ (HW.out.grow B0.out)).mono ?_
  rintro e w1 ⟨rfl, b1⟩
  have B1 := hid (B0.out.trans (b1.mono B0.out.size))
  obtain ⟨d0, d1, d2, d3, d4, d5, d6⟩ := cells7 (keep_at b1 h0.out)
  obtain ⟨q0, q1, q2, q3, q4, q5, q6⟩ := cells7 (keep_at B1.out HQ.out)
  clear b1 h0 hz
  cases hlv : livesV k m with
  | false =>
    go_wp2
    go_ret
    exact ⟨by rw [hlv]; rfl, B1.out⟩
  | true =>
    go_wp2_with fail
    refine (suits_any w1 m x _ _ _ (HU.out.below B1.out) hl).mono ?_
    rintro e w2 ⟨rfl, b2⟩
    have B2 := hid (B1.out.trans (b2.mono B1.out.size))
    clear b2 d0 d1 d2 d3 d4 d5 d6 q0 q1 q2 q3 q4 q5 q6
    go_wp2
    go_ret
    exact ⟨by rw [hlv]; rfl, B2.out⟩
theorem open_any (w : World) (wb : Nat) (S : Nat → Prop) (ve : Value) (k : WorkV) (r : RecV) (ua : Option Addr) (un uc b : Nat) (hW : WorkAt w wb S ve k) (hb : SmW b k) (hb9 : b < 998) (h0 : k.s.listed = []) :
    Calls Tryz.prog 17 #[.pointer (some ⟨wb, 0, none⟩), .agg #[I r.cls, I r.kind, U r.from_, I r.time, U r.key, U r.key2, U r.key3, I r.n, I r.m, .string r.a, .string r.b, .string r.c, .slice ua un uc]] w fun e w' => e = .returned (I (openV k r).2) ∧ ∃ S' ve', WorkAt w' wb S' ve' (openV k r).1 ∧ Goes S w S' w' := by
  have HW := hid hW
  have Hb := hid hb
  have hS := hid (fun b h => (hW.lt b h).1)
  have H0 := hid h0
  clear hW hb h0
  go_enter Tryz.func17, Tryz.ntmps17
  go_wp2_with fail
  refine calls_box2 ?_
  intro W0 h0 h1 B0 hz
  refine (named_any r.a W0).mono ?_
  rintro e w1 ⟨rfl, b1⟩
  have B1 := hid (B0.out.trans (b1.mono B0.out.size))
  have H0' := hid (keep_at b1 h0.out)
  have H1 := hid (keep_at b1 h1.out)
  clear b1 h0 h1 hz
  obtain ⟨r0, r1, r2, r3, r4, r5, r6, r7, r8, r9, r10, r11, r12⟩ := cells13 H1.out
  have p0 := cell_of H0'.out 0
  have hlp := heap_lt H0'.out
  have hlr := heap_lt H1.out
  cases hn : named r.a with
  | false =>
    have HV : Hid (openV k r = (k, 1)) := by show _ = _; unfold openV; rw [if_pos (by exact .inl hn)]
    go_wp2
    go_ret
    rw [HV.out]
    exact ⟨rfl, S, ve, HW.out.grow B1.out, Goes.of B1.out⟩
  | true =>
    by_cases c1 : 1024 < r.b.size
    · have g1 : ((1024 : Int) < (r.b.size : Int)) = True := by simp; omega
      have HV : Hid (openV k r = (k, 1)) := by show _ = _; unfold openV; rw [if_pos (by exact .inr (.inl c1))]
      go_wp2
      go_ret
      rw [HV.out]
      exact ⟨rfl, S, ve, HW.out.grow B1.out, Goes.of B1.out⟩
    have g1 : ((1024 : Int) < (r.b.size : Int)) = False := by simp; omega
    by_cases c2 : r.n < 0
    · have g2 : (r.n < 0) = True := by simp; omega
      have HV : Hid (openV k r = (k, 1)) := by show _ = _; unfold openV; rw [if_pos (by exact .inr (.inr (.inl c2)))]
      go_wp2
      go_ret
      rw [HV.out]
      exact ⟨rfl, S, ve, HW.out.grow B1.out, Goes.of B1.out⟩
    have g2 : (r.n < 0) = False := by simp; omega
    by_cases c3 : 30000 < r.n
    · have g3 : (30000 < r.n) = True := by simp; omega
      have HV : Hid (openV k r = (k, 1)) := by show _ = _; unfold openV; rw [if_pos (by exact .inr (.inr (.inr c3)))]
      go_wp2
      go_ret
      rw [HV.out]
      exact ⟨rfl, S, ve, HW.out.grow B1.out, Goes.of B1.out⟩
    have g3 : (30000 < r.n) = False := by simp; omega
    have HV := hid (opn_eq k r H0.out (by rw [hn]; rintro (h | h | h | h); cases h; exact c1 h; exact c2 h; exact c3 h))
    clear c1 c2 c3 hn
    go_wp2_with fail
    have EL := hid (show idxOf (ofLis r) k.s.listed = -1 by rw [H0.out]; rfl)
    refine wp_par (fun _ => False) (fun _ => True) (List.replicate 6 false) _ [.fix ?_, .new (fun u W => ∃ cs, u = .agg cs.toArray ∧ StAt S W cs k.s), .fix ?_, .fix ?_, .fix ?_, .fix ?_] (by kernel_rfl) (by kernel_rfl) (by simp only [List.length_replicate, List.drop_succ_cons, List.drop_zero, List.drop_nil]; with_reducible rfl) rfl (fun _ _ _ _ _ => ⟨fun h => h, fun h => h⟩) (fun _ _ h _ => h) trivial ?_
    rotate_left 5
    iterate 1
      first
        | (refine par_skip (a' := ?_) (by rfl) (by rfl) ?_ ?_ ?_; rotate_left 1; with_reducible rfl; (simp only [Act.put, List.setIfInBounds_toArray, List.set_cons_zero, List.set_cons_succ]; with_reducible rfl))
        | (refine par_run (a' := ?_) (by rfl) (by rfl) (fun w' hb hn => ?_) ?_ ?_; rotate_left 1; (have hc := hb.cells; first | (go_simp; (try simp (disch := omega) only [IntWalk.i64_in, IntWalk.i32_in, IntWalk.u64_in, IntWalk.u8_in, IntWalk.u32_in, toNatUp, iteOmega]); with_reducible rfl) | (go_simp; (try simp (disch := omega) only [IntWalk.i64_in, IntWalk.i32_in, IntWalk.u64_in, IntWalk.u8_in, IntWalk.u32_in, toNatUp, iteOmega]); go_simp; with_reducible rfl)); (simp only [Act.put, List.setIfInBounds_toArray, List.set_cons_zero, List.set_cons_succ]; with_reducible rfl))
    refine par_callF (a' := ?a118k1) (f := ?f118k1) (args := ?r118k1) (by rfl) (by rfl) (fun w' => ?e118k1) (fun _ _ _ ⟨cs, hu, h⟩ hb => ⟨cs, hu, h.grow hb⟩) (fun w' hb hn => ?h118k1) (fun u => ?p118k1) (fun u => ?g118k1)
    case e118k1 => (go_simp; constructor <;> with_reducible rfl)
    case h118k1 => (exact (wstate_any w' wb S ve k (HW.out.grow (B1.out.trans (hb.grow.mono B1.out.size))) Hb.out.sm).mono (fun e w2 ⟨cs, he, h1, h2⟩ => ⟨_, he, ⟨cs, rfl, h1⟩, h2⟩))
    case p118k1 => (simp only [Act.put, List.setIfInBounds_toArray, List.set_cons_zero, List.set_cons_succ]; with_reducible rfl)
    iterate 1
      first
        | (refine par_skip (a' := ?_) (by rfl) (by rfl) ?_ ?_ ?_; rotate_left 1; with_reducible rfl; (simp only [Act.put, List.setIfInBounds_toArray, List.set_cons_zero, List.set_cons_succ]; with_reducible rfl))
        | (refine par_run (a' := ?_) (by rfl) (by rfl) (fun w' hb hn => ?_) ?_ ?_; rotate_left 1; (have hc := hb.cells; first | (go_simp; (try simp (disch := omega) only [IntWalk.i64_in, IntWalk.i32_in, IntWalk.u64_in, IntWalk.u8_in, IntWalk.u32_in, toNatUp, iteOmega]); with_reducible rfl) | (go_simp; (try simp (disch := omega) only [IntWalk.i64_in, IntWalk.i32_in, IntWalk.u64_in, IntWalk.u8_in, IntWalk.u32_in, toNatUp, iteOmega]); go_simp; with_reducible rfl)); (simp only [Act.put, List.setIfInBounds_toArray, List.set_cons_zero, List.set_cons_succ]; with_reducible rfl))
    refine par_call (a' := ?_) (f := ?_) (args := ?_) (by rfl) (by rfl) (fun w' => ?_) (fun w' hb hn => ?_) ?_ ?_; rotate_left 3; (go_simp; constructor <;> with_reducible rfl); (exact of_any w' r _); (simp only [Act.put, List.setIfInBounds_toArray, List.set_cons_zero, List.set_cons_succ]; with_reducible rfl)
    refine par_call (a' := ?_) (f := ?_) (args := ?_) (by rfl) (by rfl) (fun w' => ?_) (fun w' hb hn => ?_) ?_ ?_; rotate_left 3; (go_simp; constructor <;> with_reducible rfl); ((obtain ⟨cs, rfl, hst⟩ := need_head hn (by kernel_rfl); have h := mlisted_any S w' k.s cs r hst; rw [EL.out] at h; exact h)); (simp only [Act.put, List.setIfInBounds_toArray, List.set_cons_zero, List.set_cons_succ]; with_reducible rfl)
    iterate 1
      first
        | (refine par_skip (a' := ?_) (by rfl) (by rfl) ?_ ?_ ?_; rotate_left 1; with_reducible rfl; (simp only [Act.put, List.setIfInBounds_toArray, List.set_cons_zero, List.set_cons_succ]; with_reducible rfl))
        | (refine par_run (a' := ?_) (by rfl) (by rfl) (fun w' hb hn => ?_) ?_ ?_; rotate_left 1; (have hc := hb.cells; first | (go_simp; (try simp (disch := omega) only [IntWalk.i64_in, IntWalk.i32_in, IntWalk.u64_in, IntWalk.u8_in, IntWalk.u32_in, toNatUp, iteOmega]); with_reducible rfl) | (go_simp; (try simp (disch := omega) only [IntWalk.i64_in, IntWalk.i32_in, IntWalk.u64_in, IntWalk.u8_in, IntWalk.u32_in, toNatUp, iteOmega]); go_simp; with_reducible rfl)); (simp only [Act.put, List.setIfInBounds_toArray, List.set_cons_zero, List.set_cons_succ]; with_reducible rfl))
    refine par_end (fun w9 hb9 hf9 _ => ?_)
    replace hb9 := hb9.grow
    try refine wpList_none ?_
    have B2 := hid (B1.out.trans (hb9.mono B1.out.size))
    have H02 := hid (keep_at hb9 H0'.out)
    have H12 := hid (keep_at hb9 H1.out)
    obtain ⟨w2, rfl⟩ : ∃ w2 : World, w2 = w9 := ⟨_, rfl⟩
    clear hb9 hf9 r0 r1 r2 r3 r4 r5 r6 r7 r8 r9 r10 r11 r12 p0 hlp hlr H0' H1
    have r4 := cell_of H12.out 4
    have r5 := cell_of H12.out 5
    have r7 := cell_of H12.out 7
    have r9 := cell_of H12.out 9
    have r10 := cell_of H12.out 10
    have p0 := cell_of H02.out 0
    go_wp2_with fail
    refine (emitV_any w2 wb S ve k (opnR r) [I 0, I 18, U 0, I 0, U r.key, U r.key2, U 0, I r.n, I 0, .string r.a, .string r.b, .string ⟨#[]⟩, .slice none 0 0] b (HW.out.grow B2.out) Hb.out (by omega) (.inl ⟨rfl, H0.out⟩) ⟨_, rfl, vnil _⟩ (by simp [opnR, rec0])).mono ?_
    rintro e w3 ⟨rfl, S3, ve3, hw3, g3⟩
    have HW3 := hid hw3
    have G3 := hid ((Goes.of B2.out).trans g3)
    have H03 := hid (g3.keep (fun h => Nat.lt_irrefl _ (hS.out _ h)) H02.out)
    have H13 := hid (g3.keep (fun h => Nat.not_succ_le_self _ (Nat.le_trans (Nat.le_succ _) (hS.out _ h))) H12.out)
    have HB3 := hid (emit_sm k (opnR r) b Hb.out (by omega) (fun _ => H0.out) (fun h => by revert h; simp [opnR, rec0]) (by simp [opnR, rec0]))
    have HL3 := hid (opn_listed k r H0.out)
    clear hw3 g3 r4 r5 r7 r9 r10 p0 H02 H12
    generalize emitV k (opnR r) = k3 at HW3 HB3 HL3 HV
    have p0 := cell_of H03.out 0
    go_wp2_with fail
    refine (wstate_any w3 wb S3 ve3 k3 HW3.out HB3.out.sm).mono ?_
    rintro e w4 ⟨cs, rfl, ⟨vp, vi, vt, vj, vr, vs, vk, vl, vm, hs⟩, b4⟩
    have hcs := hs.cells
    obtain ⟨⟨pa, pc, rfl⟩, ⟨ia, ic, rfl⟩, ⟨ta, tc, rfl⟩, ⟨ja, jc, rfl⟩, ⟨ra, rc, rfl⟩, ⟨sa, sc, rfl⟩, ⟨ka, kc, rfl⟩, ⟨la, lc, rfl⟩, ⟨ma, mc, rfl⟩⟩ := hs.shapes
    subst hcs
    have Hs := hid hs
    have B4 := hid b4
    have H04 := hid (keep_at b4 H03.out)
    have H14 := hid (keep_at b4 H13.out)
    clear hs b4 p0 H03 H13
    have hL0 : k3.s.listed[0]? = some (opnL r) := by rw [HL3.out]; rfl
    have hLl : 0 < k3.s.listed.length := by rw [HL3.out]; simp
    have EL3 := hid (show idxOf (ofLis r) k3.s.listed = ((0 : Nat) : Int) by rw [HL3.out]; exact (idxOf_one (p := ofLis r) (l := [opnL r]) (by simp) (List.find?_cons_of_pos (opn_find r))).1)
    obtain ⟨bl, ofl, csl, rfl, -, ⟨lv, rfl, hlvv⟩, hcl⟩ := elem0 Hs.out.listed hL0
    obtain ⟨lva, lvc, rfl, -⟩ := hlvv
    have hlq : ∀ j u, ([U r.key, U r.key2, I r.n, .string r.a, .string r.b, U 0, .slice lva 0 lvc] : List Value)[j]? = some u → w4.cell? ⟨bl, ofl + j, none⟩ = some u := fun j u hu => (sans_cell (hcl j u hu)).1
    have HLQ := hid hlq
    clear hL0 hcl hlq
    go_wp2_with fail
    refine wp_box1 ?_
    intro W5 h5 B5 hz5
    have B45 := hid (B4.out.trans (B5.out.mono B4.out.size))
    have H05 := hid (keep_at B5.out H04.out)
    have H15 := hid (keep_at B5.out H14.out)
    have Hs5 := hid (Hs.out.grow (sans_grow B5.out))
    have hlq : ∀ j u, ([U r.key, U r.key2, I r.n, .string r.a, .string r.b, U 0, .slice lva 0 lvc] : List Value)[j]? = some u → W5.cell? ⟨bl, ofl + j, none⟩ = some u := fun j u hu => (B5.out.cell (p := ⟨bl, ofl + j, none⟩) (World.block_lt_of_cell? w4 _ (HLQ.out j u hu))).trans (HLQ.out j u hu)
    have q0 := hlq 0 _ rfl
    have q1 := hlq 1 _ rfl
    have q2 := hlq 2 _ rfl
    have q3 := hlq 3 _ rfl
    have q4 := hlq 4 _ rfl
    have q5 := hlq 5 _ rfl
    have q6 := hlq 6 _ rfl
    rw [Nat.add_zero] at q0
    have hlb := World.block_lt_of_cell? W5 _ q0
    obtain ⟨k0, k1, k2, k3', k4, k5, k6, k7, k8, k9, k10, k11⟩ := cells12 h5.out
    obtain ⟨r0, r1, r2, r3, r4, r5, r6, r7, r8, r9, r10, r11, r12⟩ := cells13 H15.out
    have hl5 := heap_lt h5.out
    have hlr := heap_lt H15.out
    clear hlq hz5
    refine Ps.wp_par (Ps.relC (fun _ => False) (fun _ _ => True)) (fun _ => True) (false :: false :: false :: false :: true :: true :: false :: false :: false :: []) _ (.fix ?_ :: .fix ?_ :: .fix ?_ :: .fix ?_ :: .sf (.agg #[U r.key, I r.n]) (fun _ => True) :: .sf (.int .i64 ((0 : Nat) : Int)) (fun _ => True) :: .fix ?_ :: .fix ?_ :: .new (Ps.boxN (#[.int .u64 0, .int .u64 0, .int .i64 0, .string ⟨#[]⟩, .string ⟨#[]⟩, .int .u64 0, .slice none 0 0]) (58) W5.heap.size) :: []) (by kernel_rfl) (by kernel_rfl) (by simp only [List.length_cons, List.length_nil, List.drop_succ_cons, List.drop_zero, List.drop_nil]; with_reducible rfl) rfl (fun _ _ _ _ _ => ⟨fun h => h, fun h => h⟩) (fun _ _ _ _ => trivial) (trivial) ?_
    rotate_left 6
    iterate 4
      first
        | (refine Ps.par_skip (a' := ?_) (by rfl) (by rfl) ?_ ?_ ?_; rotate_left 1; with_reducible rfl; (simp only [Act.put, List.setIfInBounds_toArray, List.set_cons_zero, List.set_cons_succ]; with_reducible rfl))
        | (refine Ps.par_run (a' := ?_) (by rfl) (by rfl) (fun w' hb hn => ?_) ?_ ?_; rotate_left 1; (have hc := hb.1.cells; first | (go_simp; (try simp (disch := omega) only [IntWalk.i64_in, IntWalk.i32_in, IntWalk.u64_in, IntWalk.u8_in, IntWalk.u32_in, toNatUp, iteOmega]); with_reducible rfl) | (go_simp; (try simp (disch := omega) only [IntWalk.i64_in, IntWalk.i32_in, IntWalk.u64_in, IntWalk.u8_in, IntWalk.u32_in, toNatUp, iteOmega]); go_simp; with_reducible rfl)); (simp only [Act.put, List.setIfInBounds_toArray, List.set_cons_zero, List.set_cons_succ]; with_reducible rfl))
    refine Ps.par_sf (a' := ?_) (f := ?_) (args := ?_) (by rfl) (by rfl) (fun w' => ?_) (fun _ _ _ _ => trivial) (fun w' hb hn hr => ?_) ?_ ?_; rotate_left 3; (go_simp; constructor <;> with_reducible rfl); (exact (of_any w' r _).mono (fun e w2 ⟨he, h2⟩ => ⟨he, (Ps.relC _ _).of _ _ h2, trivial⟩)); (simp only [Act.put, List.setIfInBounds_toArray, List.set_cons_zero, List.set_cons_succ]; with_reducible rfl)
    refine Ps.par_sf (a' := ?_) (f := ?_) (args := ?_) (by rfl) (by rfl) (fun w' => ?_) (fun _ _ _ _ => trivial) (fun w' hb hn hr => ?_) ?_ ?_; rotate_left 3; (go_simp; constructor <;> with_reducible rfl); ((have h := mlisted_any S3 w' k3.s _ r ⟨_, _, _, _, _, _, _, _, _, Hs5.out.grow (sans_grow hb.1.grow)⟩; rw [EL3.out] at h; exact h.mono (fun e w2 ⟨he, h2⟩ => ⟨he, (Ps.relC _ _).of _ _ h2, trivial⟩))); (simp only [Act.put, List.setIfInBounds_toArray, List.set_cons_zero, List.set_cons_succ]; with_reducible rfl)
    iterate 2
      first
        | (refine Ps.par_skip (a' := ?_) (by rfl) (by rfl) ?_ ?_ ?_; rotate_left 1; with_reducible rfl; (simp only [Act.put, List.setIfInBounds_toArray, List.set_cons_zero, List.set_cons_succ]; with_reducible rfl))
        | (refine Ps.par_run (a' := ?_) (by rfl) (by rfl) (fun w' hb hn => ?_) ?_ ?_; rotate_left 1; (have hc := hb.1.cells; first | (go_simp; (try simp (disch := omega) only [IntWalk.i64_in, IntWalk.i32_in, IntWalk.u64_in, IntWalk.u8_in, IntWalk.u32_in, toNatUp, iteOmega]); with_reducible rfl) | (go_simp; (try simp (disch := omega) only [IntWalk.i64_in, IntWalk.i32_in, IntWalk.u64_in, IntWalk.u8_in, IntWalk.u32_in, toNatUp, iteOmega]); go_simp; with_reducible rfl)); (simp only [Act.put, List.setIfInBounds_toArray, List.set_cons_zero, List.set_cons_succ]; with_reducible rfl))
    refine Ps.par_box (a' := ?ap3k8) (r := ?rp3k8) (fun b h => h.elim) (by rfl) (by rfl) (fun w' hb hn => ?hp3k8) (fun w' => ?ep3k8) (fun u => ?pp3k8) (fun u => ?gp3k8)
    case hp3k8 => (go_simp; with_reducible rfl)
    case ep3k8 => with_reducible rfl
    case pp3k8 => (simp only [Act.put, List.setIfInBounds_toArray, List.set_cons_zero, List.set_cons_succ]; with_reducible rfl)
    refine Ps.par_end (fun w9 hb9 hf9 hr9 => ?_)
    try refine Ps.wpList_none ?_
    obtain ⟨g, rfl, hg, hgb⟩ := hf9 _ List.mem_cons_self
    have hb9' : Below W5.heap.size W5 w9 := hb9.1.grow
    have B6 := hid (B45.out.trans (hb9'.mono B45.out.size))
    have H06 := hid (keep_at hb9' H05.out)
    have H26 := hid (keep_at hb9' h5.out)
    have Hs6 := trivial
    have B46 := hid (B5.out.trans (hb9'.mono B5.out.size))
    have hg4 : w4.heap.size ≤ g := Nat.le_trans B5.out.size hg
    have hg3 : w3.heap.size ≤ g := Nat.le_trans B4.out.size hg4
    have HG := hid hgb
    have hgn : g ≠ w4.heap.size := by have := B5.out.size; omega
    have hgn' : w4.heap.size ≠ g := fun e => hgn e.symm
    have hgp : g ≠ w.heap.size := by have := heap_lt H05.out; omega
    have hgS : ∀ b, S3 b → b ≠ g := fun b h => by have := (HW3.out.lt b h).1; have := B45.out.size; omega
    clear hb9 hf9 hgb k0 k1 k2 k3' k4 k5 k6 k7 k8 k9 k10 k11 r0 r1 r2 r3 r4 r5 r6 r7 r8 r9 r10 r11 r12 q0 q1 q2 q3 q4 q5 q6 hl5 hlr hlb h5 H04 H14 H15 H05 Hs5 Hs6
    have k11 := cell_of H26.out 11
    obtain ⟨y0, y1, y2, y3, y4, y5, y6⟩ := cells7 HG.out
    have f0 := free_of HG.out 0
    have f1 := free_of HG.out 1
    have f2 := free_of HG.out 2
    have f3 := free_of HG.out 3
    have f4 := free_of HG.out 4
    have f5 := free_of HG.out 5
    have f6 := free_of HG.out 6
    obtain ⟨w6, rfl⟩ : ∃ w6 : World, w6 = w9 := ⟨_, rfl⟩
    go_wp2_with fail
    refine calls_all7 HG.out ?_
    intro W7 h7 b7
    have B7 := hid (B6.out.trans (b7.out.below B6.out.size (fun k e => by omega)))
    have B47 := hid (B46.out.trans (b7.out.below B46.out.size (fun k e => by omega)))
    have Hs7 := hid (Hs.out.grow (sans_grow B47.out))
    have H07 := hid ((b7.out.block _ (heap_lt H06.out) (fun e => hgp e.symm)).trans H06.out)
    have H27 := hid ((b7.out.block _ (heap_lt H26.out) hgn').trans H26.out)
    clear y0 y1 y2 y3 y4 y5 y6 f0 f1 f2 f3 f4 f5 f6 k11 hgn hgn' hgp hgS hg3 hg4 hg HG H06 H26
    have hmv := hid HB3.out.sm.mv
    have h := idxMsg_list (S := S3) W7 Hs7.out.msgs sees_refl _ #[.pointer (some ⟨w.heap.size, 0, none⟩), .pointer (some ⟨g, 0, none⟩)] (enters_of Tryz.func43 (by kernel_rfl) rfl) (fun m => livesV k3 m && suitsV m (opnL r)) (fun W x cs hx0 hx hb => by
      obtain ⟨v, u, rfl, hv, hu⟩ := hx
      obtain ⟨va, vc, rfl, -⟩ := hv
      have hu2 := hu
      obtain ⟨na, nc, rfl, -⟩ := hu2
      exact open_cl W wb S3 ve3 k3 x (opnL r) _ _ _ _ _ _ _ _ _ _ _ (HW3.out.grow (B7.out.trans (hb.mono B7.out.size))) (keep_at hb H07.out) (keep_at hb h7.out) (hu.slseen.below hb) (by have := (hmv.out x hx0).2; omega))
    refine h.mono ?_
    rintro e w8 ⟨rfl, b8⟩
    have B8 := hid (B7.out.trans (b8.mono B7.out.size))
    have H08 := hid (keep_at b8 H07.out)
    have H28 := hid (keep_at b8 H27.out)
    have h8 := hid (keep_at b8 h7.out)
    have Hs8 := hid (Hs7.out.grow (sans_grow b8))
    clear h b8 h7 H07 H27 Hs7
    cases hf : k3.s.msgs.find? (fun m => livesV k3 m && suitsV m (opnL r)) with
    | none =>
      have EI := idxOf_none hf
      rw [EI]
      have HV2 := hid (HV.out.trans (by rw [hf] : _ = (k3, (0 : Int))))
      clear hf EI
      go_wp2
      go_ret
      rw [HV2.out]
      exact ⟨rfl, S3, ve3, HW3.out.grow B8.out, G3.out.trans (Goes.of B8.out)⟩
    | some m =>
      have hiM := idxOf_one HB3.out.sm.m1 hf
      have hM0 : k3.s.msgs[0]? = some m := by rw [hiM.2.1]; rfl
      have hMl : 0 < k3.s.msgs.length := by rw [hiM.2.1]; simp
      have EI := hiM.1
      have HV2 := hid (HV.out.trans (by rw [hf] : _ = (emitV k3 (sendR (opnL r) m.key), (0 : Int))))
      obtain ⟨bm, ofm, csm, rfl, -, ⟨mv, mu, rfl, -, -⟩, hcm⟩ := elem0 Hs8.out.msgs hM0
      have m0 := (sans_cell (hcm 0 _ rfl)).1
      rw [Nat.add_zero] at m0
      have hlm := World.block_lt_of_cell? w8 _ m0
      rw [EI]
      clear hf EI hiM hM0 hcm
      have p0 := cell_of H08.out 0
      have k11 := cell_of H28.out 11
      obtain ⟨y0, y1, y2, y3, y4, y5, y6⟩ := cells7 h8.out
      have hl0 := heap_lt H08.out
      have hl2 := heap_lt H28.out
      have hl8 := heap_lt h8.out
      go_wp2_with fail
      refine wp_par (fun _ => False) (fun _ => True) (List.replicate 8 false) _ [.fix ?_, .fix ?_, .fix ?_, .fix ?_, .fix ?_, .fix ?_, .fix ?_, .fix ?_] (by kernel_rfl) (by kernel_rfl) (by simp only [List.length_replicate, List.drop_succ_cons, List.drop_zero, List.drop_nil]; with_reducible rfl) rfl (fun _ _ _ _ _ => ⟨fun h => h, fun h => h⟩) (fun _ _ h _ => h) trivial ?_
      rotate_left 8
      iterate 8
        first
          | (refine par_skip (a' := ?_) (by rfl) (by rfl) ?_ ?_ ?_; rotate_left 1; with_reducible rfl; (simp only [Act.put, List.setIfInBounds_toArray, List.set_cons_zero, List.set_cons_succ]; with_reducible rfl))
          | (refine par_run (a' := ?_) (by rfl) (by rfl) (fun w' hb hn => ?_) ?_ ?_; rotate_left 1; (have hc := hb.cells; first | (go_simp; (try simp (disch := omega) only [IntWalk.i64_in, IntWalk.i32_in, IntWalk.u64_in, IntWalk.u8_in, IntWalk.u32_in, toNatUp, iteOmega]); with_reducible rfl) | (go_simp; (try simp (disch := omega) only [IntWalk.i64_in, IntWalk.i32_in, IntWalk.u64_in, IntWalk.u8_in, IntWalk.u32_in, toNatUp, iteOmega]); go_simp; with_reducible rfl)); (simp only [Act.put, List.setIfInBounds_toArray, List.set_cons_zero, List.set_cons_succ]; with_reducible rfl))
      refine par_end (fun w9 hb9 hf9 _ => ?_)
      replace hb9 := hb9.grow
      try refine wpList_none ?_
      have B9 := hid (B8.out.trans (hb9.mono B8.out.size))
      obtain ⟨w9', rfl⟩ : ∃ w' : World, w' = w9 := ⟨_, rfl⟩
      clear hb9 p0 k11 y0 y1 y2 y3 y4 y5 y6 hl0 hl2 hl8 m0 hlm
      go_wp2_with fail
      refine (send_any w9' wb S3 ve3 k3 (opnL r) _ m.key (b + 1) (HW3.out.grow B9.out) HB3.out (by omega)).mono ?_
      rintro e w10 ⟨rfl, S4, ve4, hw4, g4⟩
      have HW4 := hid hw4
      have G4 := hid g4
      clear hw4 g4
      go_wp2
      go_ret
      rw [HV2.out]
      exact ⟨rfl, S4, ve4, HW4.out, (G3.out.trans (Goes.of B9.out)).trans G4.out⟩
end Go.Proofs.YtjkbfoeakeoeiaaGreat
