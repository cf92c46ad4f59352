/- Keep: contracts (Ha). -/
import Derived.Test.YtjkbfoeakeoeiaaGreatV19
namespace Go.Proofs.YtjkbfoeakeoeiaaGreat
set_option maxRecDepth 100000
set_option maxHeartbeats 40000000
set_option linter.unusedSimpArgs false
set_option linter.unusedVariables false
open Go.IntWalk Go.RowKit
def pubBad (r : RecV) : Prop := named r.a = false ∨ 1024 < r.b.size ∨ 32 < r.c.size ∨ r.n < 0 ∨ 1048576 < r.n ∨ rightV r.vars = false
def pubSame (k : WorkV) (r : RecV) (m : MsgV) : Bool := livesV k m && decide (m.name = r.a) && decide (m.for_ = r.b) && decide (m.id = r.c)
def pub1 (k : WorkV) (r : RecV) : WorkV := emitV k (pubR k r)
def pub2 (k : WorkV) (r : RecV) : WorkV := ((pub1 k r).s.listed.foldl (pubStep (keyOfW k)) (pub1 k r, 100)).1
def pub3 (k : WorkV) (r : RecV) : WorkV := if r.n = 0 then emitV (pub2 k r) { rec0 with kind := 20, key := keyOfW k } else pub2 k r
theorem pub_eq (k : WorkV) (r : RecV) (hg : ¬ pubBad r) (hna : ¬ (r.c.size ≠ 0 ∧ k.s.msgs.any (pubSame k r) = true)) : publishV k r = if 3000 < (varsS r.vars).size ∨ mayR (toldR k (pubR k r)) = false then (k, 13) else (pub3 k r, 0) := by
  unfold publishV
  exact (if_neg hg).trans ((if_neg hna).trans rfl)
theorem pub_same (k : WorkV) (r : RecV) (hg : ¬ pubBad r) (hna : r.c.size ≠ 0 ∧ k.s.msgs.any (pubSame k r) = true) : publishV k r = (k, 6) := by
  unfold publishV
  exact (if_neg hg).trans (if_pos hna)
theorem field10 (W : World) (v0 v1 v2 v3 v4 v5 v6 v7 v8 v9 v10 v11 : Value) : Sem.run Tryz.prog (Instr.field 33 (.agg #[v0, v1, v2, v3, v4, v5, v6, v7, v8, v9, v10, v11]) 10) W = .ok v10 W := by kernel_rfl
theorem field11 (W : World) (v0 v1 v2 v3 v4 v5 v6 v7 v8 v9 v10 v11 : Value) : Sem.run Tryz.prog (Instr.field 33 (.agg #[v0, v1, v2, v3, v4, v5, v6, v7, v8, v9, v10, v11]) 11) W = .ok v11 W := by kernel_rfl
theorem named_len {s : ByteArray} (h : named s = true) : s.size ≤ 32 := by
  rcases Nat.lt_or_ge 32 s.size with h1 | h1
  · rw [named_short (.inr h1)] at h; cases h
  · exact h1
theorem SmW.up {b : Nat} {k : WorkV} (h : SmW b k) : SmW (b + 1) k := ⟨h.sm, h.part, h.pos, h.now, Nat.le_succ_of_le h.spos, Nat.le_succ_of_le h.made, h.done, Nat.le_succ_of_le h.ev, h.evv, fun m hm => Nat.le_succ_of_le (h.ins m hm)⟩
theorem keyOfW_small (k : WorkV) (hp : k.part = 0) (hm : k.s.made < 1000000) : keyOfW k = k.s.made + 1 := by
  unfold keyOfW w64
  rw [hp]
  simp
  omega
theorem pub_cl (W : World) (wb : Nat) (S : Nat → Prop) (ve : Value) (k : WorkV) (m : MsgV) (r : RecV) (mva mua ua : Option Addr) (mvn mvc mun muc uc pb qb : Nat) (hW : WorkAt W wb S ve k) (hp : W.heap[pb]? = some (.cells #[.pointer (some ⟨wb, 0, none⟩)] 52 (0, 0))) (hq : W.heap[qb]? = some (.cells #[I r.cls, I r.kind, U r.from_, I r.time, U r.key, U r.key2, U r.key3, I r.n, I r.m, .string r.a, .string r.b, .string r.c, .slice ua r.vars.length uc] 49 (0, 0))) :
    Calls Tryz.prog 28 #[.agg #[U m.key, .string m.name, .string m.for_, .string m.id, I m.till, .slice mva mvn mvc, .slice mua mun muc], .pointer (some ⟨pb, 0, none⟩), .pointer (some ⟨qb, 0, none⟩)] W fun e w' => e = .returned (.bool (pubSame k r m)) ∧ Below W.heap.size W w' := by
  have HW := hid hW
  have HP := hid hp
  have HQ := hid hq
  have h0 := hid (box1_at (w := W) (A := .cells #[U m.key, .string m.name, .string m.for_, .string m.id, I m.till, .slice mva mvn mvc, .slice mua mun muc] 66 (0, 0)))
  have B0 := hid (box1_b (w := W) (A := .cells #[U m.key, .string m.name, .string m.for_, .string m.id, I m.till, .slice mva mvn mvc, .slice mua mun muc] 66 (0, 0)))
  have p0 := cell_of (keep_at B0.out HP.out) 0
  have E : Hid (pubSame k r m = (livesV k m && decide (m.name.toList = r.a.toList) && decide (m.for_.toList = r.b.toList) && decide (m.id.toList = r.c.toList))) := by
    show _ = _
    unfold pubSame
    simp only [bl_eq]
  clear hW hp hq h0 B0
  go_enter Tryz.func28, Tryz.ntmps28
  go_wp2_with fail
  clear p0
  refine calls_box1 ?_
  intro W0 h0 B0 hz
  refine (lives_any W0 wb S ve k m _ _ (HW.out.grow B0.out)).mono ?_
  rintro e w1 ⟨rfl, b1⟩
  have B1 := hid (B0.out.trans (b1.mono B0.out.size))
  obtain ⟨d0, d1, d2, d3, d4, d5, d6⟩ := cells7 (keep_at b1 h0.out)
  have q9 := cell_of (keep_at B1.out HQ.out) 9
  have q10 := cell_of (keep_at B1.out HQ.out) 10
  have q11 := cell_of (keep_at B1.out HQ.out) 11
  clear b1 h0 hz
  cases hlv : livesV k m with
  | false =>
    go_wp2
    go_ret
    exact ⟨by rw [E.out, hlv]; rfl, B1.out⟩
  | true =>
    go_wp2_with fail
    all_goals
      go_ret
      refine ⟨?_, B1.out⟩
      rw [E.out, hlv]
      first
        | (simp [*]; done)
        | (simp [*]; rw [Bool.eq_iff_iff]; simp; done)
theorem containsM_list {S : Nat → Prop} {v : Value} {l : List MsgV} {w0 : World} (w : World) (hL : ListAt MsgV.at_ 7 w0 v l) (hs : Sees w0 (sans S w)) (g : Nat) (lb : Array Value) (eg : ∀ args w, (callFunc g args).run Tryz.prog w = .ok (.enter g args) w) (p : MsgV → Bool) (hl1 : l.length ≤ 1)
    (hp : ∀ (W : World) (x : MsgV) (cs : List Value), x ∈ l → MsgV.at_ w0 cs x → Below w.heap.size w W → Calls Tryz.prog g (#[.agg cs.toArray] ++ lb) W fun e w' => e = .returned (.bool (p x)) ∧ Below W.heap.size W w') :
    Calls Tryz.prog 30 #[v, .func (.func g) #[] lb] w fun e w' => e = .returned (.bool (l.any p)) ∧ Below w.heap.size w w' := by
  have h := hid (idxMsg_list w hL hs g lb eg p hp)
  clear hp eg
  cases hf : l.find? p with
  | none =>
    have EI := idxOf_none hf
    have EA : Hid (l.any p = false) := by show _ = _; simpa [List.find?_eq_none] using hf
    go_enter Tryz.func30, Tryz.ntmps30
    go_wp2_with fail
    refine h.out.mono ?_
    rintro e w1 ⟨rfl, b1⟩
    rw [EI]
    go_wp2
    go_ret
    exact ⟨by rw [EA.out]; rfl, b1⟩
  | some x =>
    have hi := idxOf_one hl1 hf
    have EI := hi.1
    have EA : Hid (l.any p = true) := by show _ = _; rw [hi.2.1]; simp [hi.2.2]
    clear hi hf
    go_enter Tryz.func30, Tryz.ntmps30
    go_wp2_with fail
    refine h.out.mono ?_
    rintro e w1 ⟨rfl, b1⟩
    rw [EI]
    go_wp2
    go_ret
    exact ⟨by rw [EA.out]; rfl, b1⟩
theorem publish_any (w : World) (wb : Nat) (S : Nat → Prop) (ve : Value) (k : WorkV) (r : RecV) (ua : Option Addr) (uc b : Nat) (hW : WorkAt w wb S ve k) (hb : SmW b k) (hb9 : b < 900) (hok : ¬ pubBad r → RecOk r) (hv : VarsAt (sans S w) (.slice ua r.vars.length uc) r.vars) (hm : (publishV k r).2 = 6 ∨ k.s.msgs = []) :
    Calls Tryz.prog 16 #[.pointer (some ⟨wb, 0, none⟩), .agg #[I r.cls, I r.kind, U r.from_, I r.time, U r.key, U r.key2, U r.key3, I r.n, I r.m, .string r.a, .string r.b, .string r.c, .slice ua r.vars.length uc]] w fun e w' => e = .returned (I (publishV k r).2) ∧ ∃ S' ve', WorkAt w' wb S' ve' (publishV k r).1 ∧ Goes S w S' w' := by
  have HW := hid hW
  have Hb := hid hb
  have hS := hid (fun b h => (hW.lt b h).1)
  have Hok := hid hok
  have HVR := hid hv
  have HM := hid hm
  clear hW hb hok hv hm
  go_enter Tryz.func16, Tryz.ntmps16
  go_wp2_with fail
  refine calls_box2 ?_
  intro W0 h0 h1 B0 hz
  refine (named_any r.a W0).mono ?_
  rintro e w1 ⟨rfl, b1⟩
  have B1 := hid (B0.out.trans (b1.mono B0.out.size))
  have H0' := hid (keep_at b1 h0.out)
  have H1 := hid (keep_at b1 h1.out)
  clear b1 h0 h1 hz
  obtain ⟨r0, r1, r2, r3, r4, r5, r6, r7, r8, r9, r10, r11, r12⟩ := cells13 H1.out
  have p0 := cell_of H0'.out 0
  cases hn : named r.a with
  | false =>
    have HV : Hid (publishV k r = (k, 1)) := by show _ = _; unfold publishV; rw [if_pos (by exact .inl hn)]
    go_wp2
    go_ret
    rw [HV.out]
    exact ⟨rfl, S, ve, HW.out.grow B1.out, Goes.of B1.out⟩
  | true =>
    by_cases c1 : 1024 < r.b.size
    · have g1 : ((1024 : Int) < (r.b.size : Int)) = True := by simp; omega
      have HV : Hid (publishV k r = (k, 1)) := by show _ = _; unfold publishV; rw [if_pos (by exact .inr (.inl c1))]
      go_wp2
      go_ret
      rw [HV.out]
      exact ⟨rfl, S, ve, HW.out.grow B1.out, Goes.of B1.out⟩
    have g1 : ((1024 : Int) < (r.b.size : Int)) = False := by simp; omega
    by_cases c0 : 32 < r.c.size
    · have g0 : ((32 : Int) < (r.c.size : Int)) = True := by simp; omega
      have HV : Hid (publishV k r = (k, 1)) := by show _ = _; unfold publishV; rw [if_pos (by exact .inr (.inr (.inl c0)))]
      go_wp2
      go_ret
      rw [HV.out]
      exact ⟨rfl, S, ve, HW.out.grow B1.out, Goes.of B1.out⟩
    have g0 : ((32 : Int) < (r.c.size : Int)) = False := by simp; omega
    by_cases c2 : r.n < 0
    · have g2 : (r.n < 0) = True := by simp; omega
      have HV : Hid (publishV k r = (k, 1)) := by show _ = _; unfold publishV; rw [if_pos (by exact .inr (.inr (.inr (.inl c2))))]
      go_wp2
      go_ret
      rw [HV.out]
      exact ⟨rfl, S, ve, HW.out.grow B1.out, Goes.of B1.out⟩
    have g2 : (r.n < 0) = False := by simp; omega
    by_cases c3 : 1048576 < r.n
    · have g3 : (1048576 < r.n) = True := by simp; omega
      have HV : Hid (publishV k r = (k, 1)) := by show _ = _; unfold publishV; rw [if_pos (by exact .inr (.inr (.inr (.inr (.inl c3)))))]
      go_wp2
      go_ret
      rw [HV.out]
      exact ⟨rfl, S, ve, HW.out.grow B1.out, Goes.of B1.out⟩
    have g3 : (1048576 < r.n) = False := by simp; omega
    go_wp2_with fail
    refine (right_any _ r.vars w1 (HVR.out.seen.below B1.out)).mono ?_
    rintro e w2 ⟨rfl, b2⟩
    have B2 := hid (B1.out.trans (b2.mono B1.out.size))
    have H02 := hid (keep_at b2 H0'.out)
    have H12 := hid (keep_at b2 H1.out)
    clear b2 r0 r1 r2 r3 r4 r5 r6 r7 r8 r9 r10 r11 r12 p0 H0' H1
    obtain ⟨r0, r1, r2, r3, r4, r5, r6, r7, r8, r9, r10, r11, r12⟩ := cells13 H12.out
    have p0 := cell_of H02.out 0
    cases hr : rightV r.vars with
    | false =>
      have HV : Hid (publishV k r = (k, 1)) := by show _ = _; unfold publishV; rw [if_pos (by exact .inr (.inr (.inr (.inr (.inr hr)))))]
      go_wp2
      go_ret
      rw [HV.out]
      exact ⟨rfl, S, ve, HW.out.grow B2.out, Goes.of B2.out⟩
    | true =>
      have HG : Hid (¬ pubBad r) := by
        show ¬ _
        unfold pubBad
        rw [hn, hr]
        rintro (h | h | h | h | h | h)
        · cases h
        · exact c1 h
        · exact c0 h
        · omega
        · omega
        · cases h
      replace Hok := hid (Hok.out HG.out)
      have HN := hid hn
      have HR := hid hr
      by_cases hc : r.c.size = 0
      · have HNA : Hid (¬ (r.c.size ≠ 0 ∧ k.s.msgs.any (pubSame k r) = true)) := fun h => h.1 hc
        have hcl : r.c.toList = [] := by rw [show r.c = ⟨#[]⟩ from ByteArray.ext (Array.eq_empty_of_size_eq_zero hc), Lib.toList_data]
        clear hn hr g1 g0 g2 g3 hc
        obtain ⟨w3, rfl⟩ : ∃ w3 : World, w3 = w2 := ⟨_, rfl⟩
        have B3 := B2
        have H03 := H02
        have H13 := H12
        have HPE : Hid (publishV k r = if 3000 < (varsS r.vars).size ∨ mayR (toldR k (pubR k r)) = false then (k, 13) else (pub3 k r, 0)) := pub_eq k r HG.out HNA.out
        have HM0 : Hid (k.s.msgs = []) := by
          show _ = _
          rcases HM.out with h | h
          · rw [HPE.out] at h
            split at h <;> cases h
          · exact h
        have hkb := Hb.out.made
        have hnow := Hb.out.now
        obtain ⟨key, hkey⟩ : ∃ key, key = k.s.made + 1 := ⟨_, rfl⟩
        have hkl : key ≤ 1000 := by omega
        have HKE : Hid (keyOfW k = key) := (keyOfW_small k Hb.out.part (by omega)).trans hkey.symm
        have hwk := fun W h => wkey_any W wb S ve k h Hb.out.part (by omega)
        rw [← hkey] at hwk
        have Hwk := hid hwk
        clear hwk hkey
        go_wp2_with fail
        refine (Hwk.out w3 (HW.out.grow B3.out)).mono ?_
        rintro e w4 ⟨rfl, b4⟩
        have B4 := hid (B3.out.trans (b4.mono B3.out.size))
        have H04 := hid (keep_at b4 H03.out)
        have H14 := hid (keep_at b4 H13.out)
        clear b4 r0 r1 r2 r3 r4 r5 r6 r7 r8 r9 r10 r11 r12 p0
        obtain ⟨r0, r1, r2, r3, r4, r5, r6, r7, r8, r9, r10, r11, r12⟩ := cells13 H14.out
        have p0 := cell_of H04.out 0
        have hl0 := heap_lt H04.out
        have hl1 := heap_lt H14.out
        go_wp2_with fail
        refine Ps.wp_par (Ps.relC (fun _ => False) (fun _ _ => True)) (fun _ => True) (false :: false :: false :: false :: false :: false :: false :: false :: true :: false :: false :: false :: false :: false :: false :: false :: []) _ (.fix ?_ :: .fix ?_ :: .fix ?_ :: .fix ?_ :: .fix ?_ :: .fix ?_ :: .fix ?_ :: .fix ?_ :: .sf (.int .i64 k.now) (fun _ => True) :: .fix ?_ :: .fix ?_ :: .fix ?_ :: .fix ?_ :: .fix ?_ :: .fix ?_ :: .new (Ps.boxN (#[.int .i64 0, .int .i64 0, .int .u64 0, .int .i64 0, .int .u64 0, .int .u64 0, .int .u64 0, .int .i64 0, .int .i64 0, .string ⟨#[]⟩, .string ⟨#[]⟩, .string ⟨#[]⟩, .slice none 0 0]) (49) w4.heap.size) :: []) (by kernel_rfl) (by kernel_rfl) (by simp only [List.length_cons, List.length_nil, List.drop_succ_cons, List.drop_zero, List.drop_nil]; with_reducible rfl) rfl (fun _ _ _ _ _ => ⟨fun h => h, fun h => h⟩) (fun _ _ _ _ => trivial) (trivial) ?_
        rotate_left 14
        iterate 8
          first
            | (refine Ps.par_skip (a' := ?_) (by rfl) (by rfl) ?_ ?_ ?_; rotate_left 1; with_reducible rfl; (simp only [Act.put, List.setIfInBounds_toArray, List.set_cons_zero, List.set_cons_succ]; with_reducible rfl))
            | (refine Ps.par_run (a' := ?_) (by rfl) (by rfl) (fun w' hb hn => ?_) ?_ ?_; rotate_left 1; (have hc := hb.1.cells; first | (go_simp; (try simp (disch := omega) only [IntWalk.i64_in, IntWalk.i32_in, IntWalk.u64_in, IntWalk.u8_in, IntWalk.u32_in, toNatUp, iteOmega]); with_reducible rfl) | (go_simp; (try simp (disch := omega) only [IntWalk.i64_in, IntWalk.i32_in, IntWalk.u64_in, IntWalk.u8_in, IntWalk.u32_in, toNatUp, iteOmega]); go_simp; with_reducible rfl)); (simp only [Act.put, List.setIfInBounds_toArray, List.set_cons_zero, List.set_cons_succ]; with_reducible rfl))
        refine Ps.par_sf (a' := ?_) (f := ?_) (args := ?_) (by rfl) (by rfl) (fun w' => ?_) (fun _ _ _ _ => trivial) (fun w' hb hn hr => ?_) ?_ ?_; rotate_left 3; (go_simp; constructor <;> with_reducible rfl); (exact (wnow_any w' wb S ve k (HW.out.grow (B4.out.trans (hb.1.grow.mono B4.out.size)))).mono (fun e w2 ⟨he, h2⟩ => ⟨he, (Ps.relC _ _).of _ _ h2, trivial⟩)); (simp only [Act.put, List.setIfInBounds_toArray, List.set_cons_zero, List.set_cons_succ]; with_reducible rfl)
        iterate 6
          first
            | (refine Ps.par_skip (a' := ?_) (by rfl) (by rfl) ?_ ?_ ?_; rotate_left 1; with_reducible rfl; (simp only [Act.put, List.setIfInBounds_toArray, List.set_cons_zero, List.set_cons_succ]; with_reducible rfl))
            | (refine Ps.par_run (a' := ?_) (by rfl) (by rfl) (fun w' hb hn => ?_) ?_ ?_; rotate_left 1; (have hc := hb.1.cells; first | (go_simp; (try simp (disch := omega) only [IntWalk.i64_in, IntWalk.i32_in, IntWalk.u64_in, IntWalk.u8_in, IntWalk.u32_in, toNatUp, iteOmega]); with_reducible rfl) | (go_simp; (try simp (disch := omega) only [IntWalk.i64_in, IntWalk.i32_in, IntWalk.u64_in, IntWalk.u8_in, IntWalk.u32_in, toNatUp, iteOmega]); go_simp; with_reducible rfl)); (simp only [Act.put, List.setIfInBounds_toArray, List.set_cons_zero, List.set_cons_succ]; with_reducible rfl))
        refine Ps.par_box (a' := ?ap2k15) (r := ?rp2k15) (fun b h => h.elim) (by rfl) (by rfl) (fun w' hb hn => ?hp2k15) (fun w' => ?ep2k15) (fun u => ?pp2k15) (fun u => ?gp2k15)
        case hp2k15 => (go_simp; with_reducible rfl)
        case ep2k15 => with_reducible rfl
        case pp2k15 => (simp only [Act.put, List.setIfInBounds_toArray, List.set_cons_zero, List.set_cons_succ]; with_reducible rfl)
        refine Ps.par_end (fun w9 hb9 hf9 hr9 => ?_)
        try refine Ps.wpList_none ?_
        obtain ⟨g, rfl, hg, hgb⟩ := hf9 _ List.mem_cons_self
        have hb9' : Below w4.heap.size w4 w9 := hb9.1.grow
        have B5 := hid (B4.out.trans (hb9'.mono B4.out.size))
        have H05 := hid (keep_at hb9' H04.out)
        have H15 := hid (keep_at hb9' H14.out)
        have HG5 := hid hgb
        have hg0 : w.heap.size ≠ g := by omega
        have hg1 : w.heap.size + 1 ≠ g := by omega
        have hgw : w.heap.size ≤ g := Nat.le_trans B4.out.size hg
        clear hb9 hf9 hgb r0 r1 r2 r3 r4 r5 r6 r7 r8 r9 r10 r11 r12 p0 hl0 hl1
        have r12 := cell_of H15.out 12
        obtain ⟨y0, y1, y2, y3, y4, y5, y6, y7, y8, y9, y10, y11, y12⟩ := cells13 HG5.out
        have f0 := free_of HG5.out 0; have f1 := free_of HG5.out 1; have f2 := free_of HG5.out 2; have f3 := free_of HG5.out 3; have f4 := free_of HG5.out 4; have f5 := free_of HG5.out 5; have f6 := free_of HG5.out 6; have f7 := free_of HG5.out 7; have f8 := free_of HG5.out 8; have f9 := free_of HG5.out 9; have f10 := free_of HG5.out 10; have f11 := free_of HG5.out 11; have f12 := free_of HG5.out 12
        obtain ⟨w5, rfl⟩ : ∃ w5 : World, w5 = w9 := ⟨_, rfl⟩
        go_wp2_with fail
        refine calls_all13 HG5.out ?_
        intro W6 h6 b6
        have B6 := hid (B5.out.trans (b6.out.below B5.out.size (fun k e => by omega)))
        have H06 := hid ((b6.out.block _ (heap_lt H05.out) hg0).trans H05.out)
        have H16 := hid ((b6.out.block _ (heap_lt H15.out) hg1).trans H15.out)
        have HPR : Hid (pubR k r = ⟨0, 19, 0, 0, key, 0, 0, k.now + r.n, 0, r.a, r.b, r.c, r.vars⟩) := by
          show _ = _
          unfold pubR
          rw [HKE.out]
          rfl
        clear y0 y1 y2 y3 y4 y5 y6 y7 y8 y9 y10 y11 y12 f0 f1 f2 f3 f4 f5 f6 f7 f8 f9 f10 f11 f12 r12 H05 H15 HG5
        refine (varsBytes_any _ r.vars W6 Hok.out.vars (HVR.out.seen.below B6.out)).mono ?_
        rintro e w7 ⟨rfl, b7⟩
        have B7 := hid (B6.out.trans (b7.mono B6.out.size))
        have H07 := hid (keep_at b7 H06.out)
        have H17 := hid (keep_at b7 H16.out)
        have HG7 := hid (keep_at b7 h6.out)
        have hvz := varsS_le7 Hok.out.vars
        clear b7 h6 H06 H16
        by_cases c5 : 3000 < (varsS r.vars).size
        · have g5 : ((3000 : Int) < ((varsS r.vars).size : Int)) = True := by simp; omega
          have HV : Hid (publishV k r = (k, 13)) := HPE.out.trans (if_pos (.inl c5))
          clear c5
          go_wp2
          go_ret
          rw [HV.out]
          exact ⟨rfl, S, ve, HW.out.grow B7.out, Goes.of B7.out⟩
        have g5 : ((3000 : Int) < ((varsS r.vars).size : Int)) = False := by simp; omega
        have p0 := cell_of H07.out 0
        obtain ⟨y0, y1, y2, y3, y4, y5, y6, y7, y8, y9, y10, y11, y12⟩ := cells13 HG7.out
        go_wp2_with fail
        have hval := named_len HN.out
        have hvl := right_le HR.out
        refine (fits_any w7 wb S ve k ⟨0, 19, 0, 0, key, 0, 0, k.now + r.n, 0, r.a, r.b, r.c, r.vars⟩ (.slice ua r.vars.length uc) (HW.out.grow B7.out) ⟨(by show I64 2; constructor <;> decide), (by show I64 19; constructor <;> decide), (by have := Hb.out.pos; show U64 k.pos; unfold U64; omega), (by show I64 k.now; constructor <;> omega), (by show U64 key; unfold U64; omega), (by show U64 0; unfold U64; omega), (by show U64 0; unfold U64; omega), (by show I64 (k.now + r.n); constructor <;> omega), (by show I64 0; constructor <;> decide), Hok.out.a, Hok.out.b, Hok.out.c, Hok.out.vars⟩ rfl Hb.out.pos.1 (by omega) hval (Nat.not_lt.1 c1) (Nat.not_lt.1 c0) HR.out (HVR.out.seen.below B7.out)).mono ?_
        rintro e w8 ⟨rfl, b8⟩
        have B8 := hid (B7.out.trans (b8.mono B7.out.size))
        have H08 := hid (keep_at b8 H07.out)
        have H18 := hid (keep_at b8 H17.out)
        have HG8 := hid (keep_at b8 HG7.out)
        have HPE' := HPE.out
        rw [HPR.out] at HPE'
        clear b8 p0 y0 y1 y2 y3 y4 y5 y6 y7 y8 y9 y10 y11 y12 H07 H17 HG7
        cases hmy : mayR (toldR k ⟨0, 19, 0, 0, key, 0, 0, k.now + r.n, 0, r.a, r.b, r.c, r.vars⟩) with
        | false =>
          have HV : Hid (publishV k r = (k, 13)) := HPE'.trans (if_pos (.inr hmy))
          clear HPE' hmy c5
          go_wp2
          go_ret
          rw [HV.out]
          exact ⟨rfl, S, ve, HW.out.grow B8.out, Goes.of B8.out⟩
        | true =>
          have HV : Hid (publishV k r = (pub3 k r, 0)) := HPE'.trans (if_neg (by rw [hmy]; rintro (h | h); exact c5 h; cases h))
          clear HPE' hmy c5
          have p0 := cell_of H08.out 0
          obtain ⟨y0, y1, y2, y3, y4, y5, y6, y7, y8, y9, y10, y11, y12⟩ := cells13 HG8.out
          go_wp2_with fail
          refine (emitV_any w8 wb S ve k ⟨0, 19, 0, 0, key, 0, 0, k.now + r.n, 0, r.a, r.b, r.c, r.vars⟩ [I 0, I 19, U 0, I 0, U key, U 0, U 0, I (k.now + r.n), I 0, .string r.a, .string r.b, .string r.c, .slice ua r.vars.length uc] b (HW.out.grow B8.out) Hb.out (by omega) (.inr (.inl ⟨rfl, HM0.out⟩)) ⟨_, rfl, HVR.out.below (sans_grow B8.out)⟩ (by show r.vars.length ≤ _; omega)).mono ?_
          rintro e w9 ⟨rfl, S1, ve1, hw1, g1⟩
          have HS8 : Hid (∀ b, S1 b → ¬ (b = w.heap.size ∨ b = w.heap.size + 1)) := fun b hb h => by
            have h9 : b < w8.heap.size := by
              rcases h with rfl | rfl
              · exact heap_lt H08.out
              · exact heap_lt H18.out
            have := hS.out b ((g1.same b h9).1 hb)
            omega
          have HW1 := hid hw1
          have G1 := hid ((Goes.of B8.out).trans g1)
          have H09 := hid (g1.keep (fun h => Nat.lt_irrefl _ (hS.out _ h)) H08.out)
          have H19 := hid (g1.keep (fun h => Nat.not_succ_le_self _ (Nat.le_trans (Nat.le_succ _) (hS.out _ h))) H18.out)
          have HB1 := hid (emit_sm k ⟨0, 19, 0, 0, key, 0, 0, k.now + r.n, 0, r.a, r.b, r.c, r.vars⟩ b Hb.out (by omega) (fun h => by revert h; simp) (fun _ => HM0.out) (by show r.vars.length ≤ _; omega))
          have HP1 : Hid (pub1 k r = emitV k ⟨0, 19, 0, 0, key, 0, 0, k.now + r.n, 0, r.a, r.b, r.c, r.vars⟩) := by show _ = _; unfold pub1; rw [HPR.out]
          have HMS : Hid ((emitV k ⟨0, 19, 0, 0, key, 0, 0, k.now + r.n, 0, r.a, r.b, r.c, r.vars⟩).s.msgs = [⟨key, r.a, r.b, r.c, k.now + r.n, r.vars, []⟩]) := by
            show _ = _
            simp [emitV, applyV, eventV, evPublished, HM0.out, put_one]
          have HP3 : Hid (publishV k r = (pub3 k r, 0)) := HV
          clear HV hw1 g1 p0 y0 y1 y2 y3 y4 y5 y6 y7 y8 y9 y10 y11 y12 H08 H18 HG8
          generalize emitV k ⟨0, 19, 0, 0, key, 0, 0, k.now + r.n, 0, r.a, r.b, r.c, r.vars⟩ = k1 at HW1 HB1 HP1 HMS
          have p0 := cell_of H09.out 0
          go_wp2_with fail
          refine (wstate_any w9 wb S1 ve1 k1 HW1.out HB1.out.sm).mono ?_
          rintro e w10 ⟨cs, rfl, ⟨vp, vi, vt, vj, vr, vs, vk, vl, vm, hs⟩, b10⟩
          have hcs := hs.cells
          obtain ⟨⟨pa, pc, rfl⟩, ⟨ia, ic, rfl⟩, ⟨ta, tc, rfl⟩, ⟨ja, jc, rfl⟩, ⟨ra, rc, rfl⟩, ⟨sa, sc, rfl⟩, ⟨ka, kc, rfl⟩, ⟨la, lc, rfl⟩, ⟨ma, mc, rfl⟩⟩ := hs.shapes
          subst hcs
          have Hs := hid hs
          have B10 := hid b10
          have H010 := hid (keep_at b10 H09.out)
          have H110 := hid (keep_at b10 H19.out)
          have hw10 := Nat.le_trans G1.out.but.size b10.size
          have hz8 := B8.out.size
          have hpw : w.heap.size + 1 < w10.heap.size := heap_lt H110.out
          clear hs b10 p0 H09 H19
          go_wp2_with fail
          rw [field10]
          simp only [Result.andThen]
          rw [Oper.upon_value]
          go_wp2
          have hpb0 : w.heap.size < w10.heap.size := heap_lt H010.out
          have hpb1 : w.heap.size + 1 < w10.heap.size := heap_lt H110.out
          have HS9 := HS8
          go_loopw [8, 95] (fun va vi wr => ∃ (i left : Nat) (S' : Nat → Prop) (ve' : Value), i ≤ k1.s.listed.length ∧ vi = .int .i64 i ∧ va = .int .i64 left ∧ left ≤ 100 ∧ Hid (left = ((k1.s.listed.take i).foldl (pubStep key) (k1, 100)).2 ∧ WorkAt wr wb S' ve' ((k1.s.listed.take i).foldl (pubStep key) (k1, 100)).1 ∧ SmW (b + 1 + i) ((k1.s.listed.take i).foldl (pubStep key) (k1, 100)).1 ∧ Goes S1 w10 S' wr ∧ wr.heap[w.heap.size]? = some (.cells #[.pointer (some ⟨wb, 0, none⟩)] 52 (0, 0)) ∧ wr.heap[w.heap.size + 1]? = some (.cells #[I r.cls, I r.kind, U r.from_, I r.time, U r.key, U r.key2, U r.key3, I r.n, I r.m, .string r.a, .string r.b, .string r.c, .slice ua r.vars.length uc] 49 (0, 0)))) (fun _ vi _ => k1.s.listed.length - (intOf vi).toNat)
          case atStart => exact ⟨0, 100, S1, ve1, Nat.zero_le _, rfl, rfl, Nat.le_refl _, rfl, HW1.out.grow B10.out, HB1.out, Goes.refl _ _, H010.out, H110.out⟩
          case round =>
            obtain ⟨i, left, S', ve', hi, rfl, rfl, hleft, hR⟩ := hrel
            have p0 := cell_of hR.out.2.2.2.2.1 0
            by_cases hlt : i < k1.s.listed.length
            · have hl1 := HB1.out.sm.l1
              obtain rfl : i = 0 := by omega
              obtain ⟨x, hx⟩ : ∃ x, k1.s.listed = [x] := List.length_eq_one_iff.1 (by omega)
              have Hx := hid hx
              have hR1 := hR.out
              simp only [List.take_zero, List.foldl_nil] at hR1
              obtain ⟨rfl, hwk, hsm, hgo, hq0, hq1⟩ := hR1
              have HWr := hid hwk
              have Hgo := hid hgo
              have HQ0 := hid hq0
              have HQ1 := hid hq1
              have HBr := hid hsm
              have hL0 : k1.s.listed[0]? = some x := by rw [hx]; rfl
              obtain ⟨bl, ofl, csl, hla, -, ⟨lv, hcs, hlvv⟩, hcl⟩ := elem0 (Hs.out.grow hgo.sans).listed hL0
              subst hla
              subst hcs
              obtain ⟨lva, lvc, rfl, -⟩ := hlvv
              have q0 := (sans_cell (hcl 0 _ rfl)).1
              have q1 := (sans_cell (hcl 1 _ rfl)).1
              have q2 := (sans_cell (hcl 2 _ rfl)).1
              have q3 := (sans_cell (hcl 3 _ rfl)).1
              have q4 := (sans_cell (hcl 4 _ rfl)).1
              have q5 := (sans_cell (hcl 5 _ rfl)).1
              have q6 := (sans_cell (hcl 6 _ rfl)).1
              rw [Nat.add_zero] at q0
              clear hx hR hwk hsm hgo hq0 hq1 hL0 hcl
              have p1 := cell_of ((alloc_old (w := wr) (.cells #[U x.token, U x.inst, I x.node, .string x.name, .string x.key, U x.msg, .slice lva x.vars.length lvc] 58) (heap_lt HQ0.out)).trans HQ0.out) 0
              go_wp2_with fail
              clear p1 p0 q0 q1 q2 q3 q4 q5 q6
              refine calls_box1 ?_
              intro W2 h2 b2 hz2
              have B2r := b2
              have hgr := hid (Hgo.out.trans (Goes.of b2.out))
              refine (wstate_any W2 wb S' ve' k1 (HWr.out.grow b2.out) HB1.out.sm).mono ?_
              rintro e w11 ⟨cs, rfl, ⟨vp, vi, vt, vj, vr, vs, vk, vl, vm, hs⟩, b11⟩
              have hcs := hs.cells
              obtain ⟨⟨pa2, pc2, rfl⟩, ⟨ia2, ic2, rfl⟩, ⟨ta2, tc2, rfl⟩, ⟨ja2, jc2, rfl⟩, ⟨ra2, rc2, rfl⟩, ⟨sa2, sc2, rfl⟩, ⟨ka2, kc2, rfl⟩, ⟨la2, lc2, rfl⟩, ⟨ma2, mc2, rfl⟩⟩ := hs.shapes
              subst hcs
              have Hs2 := hid hs
              have B11 := hid (b2.out.trans (b11.mono b2.out.size))
              have h11 := hid (keep_at b11 h2.out)
              clear hs b11 h2
              go_wp2_with fail
              refine (message_any S' w11 k1.s _ key (fun b h => Nat.lt_of_lt_of_le (HWr.out.lt b h).1 B11.out.size) ⟨_, _, _, _, _, _, _, _, _, Hs2.out⟩ HB1.out.sm.m1).mono ?_
              rintro e w12 ⟨c, m, rfl, hm, hxm, b12⟩
              have hm0 : m = ⟨key, r.a, r.b, r.c, k.now + r.n, r.vars, []⟩ := hxm _ (by rw [HMS.out]; exact List.find?_cons_of_pos (by simp))
              have hsome : (k1.s.msgs.find? (fun m => decide (m.key = key))).isSome = true := by rw [HMS.out, List.find?_cons_of_pos (by simp)]; rfl
              have Hm0 := hid hm0
              obtain ⟨mv, mu, rfl, hmv, hmu⟩ := hm
              have HMU := hid hmu
              obtain ⟨mva, mvc, rfl, -⟩ := hmv
              obtain ⟨mua, muc, rfl, -⟩ := hmu
              rw [hsome]
              have B12 := hid (B11.out.trans (b12.mono B11.out.size))
              have h12 := hid (keep_at b12 h11.out)
              clear b12 h11 hxm hm0 hsome
              obtain ⟨y0, y1, y2, y3, y4, y5, y6⟩ := cells7 (alloc_old (.cells #[U m.key, .string m.name, .string m.for_, .string m.id, I m.till, .slice mva m.vars.length mvc, .slice mua (natsV m.insts).length muc] 66) (heap_lt h12.out) |>.trans h12.out)
              go_wp2_with fail
              clear y0 y1 y2 y3 y4 y5 y6
              have hst1 : (k1.s.listed.take 1).foldl (pubStep key) (k1, 100) = if suitsV m x = true then (emitV k1 (sendR x key), 99) else (k1, 100) := by
                rw [Hx.out]
                show pubStep key (k1, 100) x = _
                unfold pubStep
                show (match k1.s.msgs.find? (fun m => decide (m.key = key)) with | some m => if 0 < 100 ∧ suitsV m x = true then (emitV k1 (sendR x key), 100 - 1) else (k1, 100) | none => (k1, 100)) = _
                rw [HMS.out, List.find?_cons_of_pos (by simp), Hm0.out]
                simp
              have HST := hid hst1
              have hmi : m.insts.length ≤ 1000000 := by rw [Hm0.out]; simp
              refine calls_box1 ?_
              intro W13 h13 b13 hz13
              have B13 := hid (B12.out.trans (b13.out.mono B12.out.size))
              have h13x := hid (keep_at b13.out h12.out)
              refine (suits_any W13 m x _ _ _ (HMU.out.slseen.below b13.out) hmi).mono ?_
              rintro e w14 ⟨rfl, b14⟩
              have B14 := hid (B13.out.trans (b14.mono B13.out.size))
              have h14 := hid (keep_at b14 h13x.out)
              have HQ04 := hid (keep_at B14.out HQ0.out)
              have HQ14 := hid (keep_at B14.out HQ1.out)
              clear b14 h13 hz13 hst1 h12 h13x
              cases hsu : suitsV m x with
              | false =>
                have HST2 : Hid ((k1.s.listed.take 1).foldl (pubStep key) (k1, 100) = (k1, 100)) := HST.out.trans (if_neg (by rw [hsu]; decide))
                go_wp2
                go_roundw
                case rel => exact ⟨1, 100, S', ve', by omega, by go_num, rfl, by omega, by rw [HST2.out], by rw [HST2.out]; exact HWr.out.grow B14.out, by rw [HST2.out]; exact SmW.up HBr.out, Hgo.out.trans (Goes.of B14.out), HQ04.out, HQ14.out⟩
                case measure => simp [intOf]; omega
              | true =>
                have HST2 : Hid ((k1.s.listed.take 1).foldl (pubStep key) (k1, 100) = (emitV k1 (sendR x key), 99)) := HST.out.trans (if_pos hsu)
                have p0 := cell_of HQ04.out 0
                obtain ⟨y0, y1, y2, y3, y4, y5, y6⟩ := cells7 h14.out
                go_wp2_with fail
                refine (send_any w14 wb S' ve' k1 x _ key (b + 1) (HWr.out.grow B14.out) HB1.out (by omega)).mono ?_
                rintro e w15 ⟨rfl, S5, ve5, hw5, g5⟩
                have HW5 := hid hw5
                have G5 := hid g5
                have HSM := hid (emit_sm k1 (sendR x key) (b + 1) HB1.out (by omega) (fun h => by revert h; simp [sendR]) (fun h => by revert h; simp [sendR]) (by simp [sendR, rec0]))
                have HQ05 := hid (g5.keep (fun h => HS9.out _ (Hgo.out.same _ hpb0 |>.1 h) (.inl rfl)) HQ04.out)
                have HQ15 := hid (g5.keep (fun h => HS9.out _ (Hgo.out.same _ hpb1 |>.1 h) (.inr rfl)) HQ14.out)
                clear hw5 g5 p0 y0 y1 y2 y3 y4 y5 y6
                go_wp2
                go_roundw
                case rel => exact ⟨1, 99, S5, ve5, by omega, by go_num, by go_num, by omega, by rw [HST2.out], by rw [HST2.out]; exact HW5.out, by rw [HST2.out]; exact HSM.out, (Hgo.out.trans (Goes.of B14.out)).trans G5.out, HQ05.out, HQ15.out⟩
                case measure => simp [intOf]; omega
            · obtain rfl : i = k1.s.listed.length := by omega
              have hR1 := hR.out
              simp only [List.take_length] at hR1
              obtain ⟨-, hwk, hsm, hgo, hq0, hq1⟩ := hR1
              have HP2 : Hid (pub2 k r = (k1.s.listed.foldl (pubStep key) (k1, 100)).1) := by
                show _ = _
                unfold pub2
                rw [HP1.out, HKE.out]
              generalize (k1.s.listed.foldl (pubStep key) (k1, 100)).1 = k2 at hwk hsm HP2
              have HWk := hid hwk
              have HBk := hid hsm
              have Hgk := hid ((G1.out.trans (Goes.of B10.out)).trans hgo)
              have hbn : b + 1 + k1.s.listed.length < 1000 := by have := HB1.out.sm.l1; omega
              have r7 := cell_of hq1 7
              clear hR hwk hsm hgo hq0 hq1
              by_cases c6 : r.n = 0
              · have HV3 : Hid (pub3 k r = emitV k2 { rec0 with kind := 20, key := key }) := by
                  show _ = _
                  unfold pub3
                  rw [if_pos c6, HP2.out, HKE.out]
                have g6 : (r.n == 0) = true := by rw [c6]; rfl
                clear c6
                go_wp2_with fail
                refine (emitV_any wr wb S' ve' k2 { rec0 with kind := 20, key := key } [I 0, I 20, U 0, I 0, U key, U 0, U 0, I 0, I 0, .string ⟨#[]⟩, .string ⟨#[]⟩, .string ⟨#[]⟩, .slice none 0 0] _ HWk.out HBk.out hbn (.inr (.inr (.inl rfl))) ⟨_, rfl, vnil _⟩ (by simp [rec0])).mono ?_
                rintro e w16 ⟨rfl, S6, ve6, hw6, g6'⟩
                have HW6 := hid hw6
                have G6 := hid g6'
                clear hw6 g6' r7 p0
                go_wp2
                go_ret
                rw [HP3.out, HV3.out]
                exact ⟨rfl, S6, ve6, HW6.out, Hgk.out.trans G6.out⟩
              · have HV3 : Hid (pub3 k r = k2) := by
                  show _ = _
                  unfold pub3
                  rw [if_neg c6, HP2.out]
                have g6 : (r.n == 0) = false := by simpa using c6
                go_wp2
                go_ret
                rw [HP3.out, HV3.out]
                exact ⟨rfl, S', ve', HWk.out, Hgk.out⟩
      · have hcl : (r.c.toList = []) = False := by
          simp only [eq_iff_iff, iff_false]
          intro h
          rw [Lib.toList_data] at h
          exact hc (by rw [← ByteArray.size_data, ← Array.length_toList, h]; rfl)
        have hcb : (r.c.toList == []) = false := beq_eq_false_iff_ne.2 (fun h => by simp [h] at hcl)
        clear hn hr g1 g0 g2 g3
        go_wp2_with fail
        refine (wstate_any w2 wb S ve k (HW.out.grow B2.out) Hb.out.sm).mono ?_
        rintro e wa ⟨cs, rfl, ⟨vp, vi, vt, vj, vr, vs, vk, vl, vm, hs⟩, ba⟩
        have hcs := hs.cells
        obtain ⟨⟨pa0, pc0, rfl⟩, ⟨ia0, ic0, rfl⟩, ⟨ta0, tc0, rfl⟩, ⟨ja0, jc0, rfl⟩, ⟨ra0, rc0, rfl⟩, ⟨sa0, sc0, rfl⟩, ⟨ka0, kc0, rfl⟩, ⟨la0, lc0, rfl⟩, ⟨ma0, mc0, rfl⟩⟩ := hs.shapes
        subst hcs
        have Hsa := hid hs
        have Ba := hid (B2.out.trans (ba.mono B2.out.size))
        have H0a := hid (keep_at ba H02.out)
        have H1a := hid (keep_at ba H12.out)
        clear hs ba r0 r1 r2 r3 r4 r5 r6 r7 r8 r9 r10 r11 r12 p0
        have p0 := cell_of H0a.out 0
        go_wp2_with fail
        rw [field11]
        simp only [Result.andThen]
        rw [Oper.upon_value]
        go_wp2_with fail
        have h := containsM_list (S := S) wa Hsa.out.msgs sees_refl _ #[.pointer (some ⟨w.heap.size, 0, none⟩), .pointer (some ⟨w.heap.size + 1, 0, none⟩)] (enters_of Tryz.func28 (by kernel_rfl) rfl) (pubSame k r) Hb.out.sm.m1 (fun W x cs hx0 hx hb => by
          obtain ⟨v, u, rfl, hv, hu⟩ := hx
          obtain ⟨va, vc, rfl, -⟩ := hv
          obtain ⟨na, nc, rfl, -⟩ := hu
          exact pub_cl W wb S ve k x r _ _ _ _ _ _ _ _ _ _ (HW.out.grow (Ba.out.trans (hb.mono Ba.out.size))) (keep_at hb H0a.out) (keep_at hb H1a.out))
        refine h.mono ?_
        rintro e w3 ⟨rfl, b3⟩
        have B3 := hid (Ba.out.trans (b3.mono Ba.out.size))
        have H03 := hid (keep_at b3 H0a.out)
        have H13 := hid (keep_at b3 H1a.out)
        clear h b3 p0 Hsa
        cases hany : k.s.msgs.any (pubSame k r) with
        | true =>
          have HV : Hid (publishV k r = (k, 6)) := pub_same k r HG.out ⟨hc, hany⟩
          go_wp2
          go_ret
          rw [HV.out]
          exact ⟨rfl, S, ve, HW.out.grow B3.out, Goes.of B3.out⟩
        | false =>
          have HNA : Hid (¬ (r.c.size ≠ 0 ∧ k.s.msgs.any (pubSame k r) = true)) := fun h => by rw [hany] at h; cases h.2
          clear hc hcl hcb hany
          obtain ⟨r0, r1, r2, r3, r4, r5, r6, r7, r8, r9, r10, r11, r12⟩ := cells13 H13.out
          have p0 := cell_of H03.out 0
          have HPE : Hid (publishV k r = if 3000 < (varsS r.vars).size ∨ mayR (toldR k (pubR k r)) = false then (k, 13) else (pub3 k r, 0)) := pub_eq k r HG.out HNA.out
          have HM0 : Hid (k.s.msgs = []) := by
            show _ = _
            rcases HM.out with h | h
            · rw [HPE.out] at h
              split at h <;> cases h
            · exact h
          have hkb := Hb.out.made
          have hnow := Hb.out.now
          obtain ⟨key, hkey⟩ : ∃ key, key = k.s.made + 1 := ⟨_, rfl⟩
          have hkl : key ≤ 1000 := by omega
          have HKE : Hid (keyOfW k = key) := (keyOfW_small k Hb.out.part (by omega)).trans hkey.symm
          have hwk := fun W h => wkey_any W wb S ve k h Hb.out.part (by omega)
          rw [← hkey] at hwk
          have Hwk := hid hwk
          clear hwk hkey
          go_wp2_with fail
          refine (Hwk.out w3 (HW.out.grow B3.out)).mono ?_
          rintro e w4 ⟨rfl, b4⟩
          have B4 := hid (B3.out.trans (b4.mono B3.out.size))
          have H04 := hid (keep_at b4 H03.out)
          have H14 := hid (keep_at b4 H13.out)
          clear b4 r0 r1 r2 r3 r4 r5 r6 r7 r8 r9 r10 r11 r12 p0
          obtain ⟨r0, r1, r2, r3, r4, r5, r6, r7, r8, r9, r10, r11, r12⟩ := cells13 H14.out
          have p0 := cell_of H04.out 0
          have hl0 := heap_lt H04.out
          have hl1 := heap_lt H14.out
          go_wp2_with fail
          refine Ps.wp_par (Ps.relC (fun _ => False) (fun _ _ => True)) (fun _ => True) (false :: false :: false :: false :: false :: false :: false :: false :: true :: false :: false :: false :: false :: false :: false :: false :: []) _ (.fix ?_ :: .fix ?_ :: .fix ?_ :: .fix ?_ :: .fix ?_ :: .fix ?_ :: .fix ?_ :: .fix ?_ :: .sf (.int .i64 k.now) (fun _ => True) :: .fix ?_ :: .fix ?_ :: .fix ?_ :: .fix ?_ :: .fix ?_ :: .fix ?_ :: .new (Ps.boxN (#[.int .i64 0, .int .i64 0, .int .u64 0, .int .i64 0, .int .u64 0, .int .u64 0, .int .u64 0, .int .i64 0, .int .i64 0, .string ⟨#[]⟩, .string ⟨#[]⟩, .string ⟨#[]⟩, .slice none 0 0]) (49) w4.heap.size) :: []) (by kernel_rfl) (by kernel_rfl) (by simp only [List.length_cons, List.length_nil, List.drop_succ_cons, List.drop_zero, List.drop_nil]; with_reducible rfl) rfl (fun _ _ _ _ _ => ⟨fun h => h, fun h => h⟩) (fun _ _ _ _ => trivial) (trivial) ?_
          rotate_left 14
          iterate 8
            first
              | (refine Ps.par_skip (a' := ?_) (by rfl) (by rfl) ?_ ?_ ?_; rotate_left 1; with_reducible rfl; (simp only [Act.put, List.setIfInBounds_toArray, List.set_cons_zero, List.set_cons_succ]; with_reducible rfl))
              | (refine Ps.par_run (a' := ?_) (by rfl) (by rfl) (fun w' hb hn => ?_) ?_ ?_; rotate_left 1; (have hc := hb.1.cells; first | (go_simp; (try simp (disch := omega) only [IntWalk.i64_in, IntWalk.i32_in, IntWalk.u64_in, IntWalk.u8_in, IntWalk.u32_in, toNatUp, iteOmega]); with_reducible rfl) | (go_simp; (try simp (disch := omega) only [IntWalk.i64_in, IntWalk.i32_in, IntWalk.u64_in, IntWalk.u8_in, IntWalk.u32_in, toNatUp, iteOmega]); go_simp; with_reducible rfl)); (simp only [Act.put, List.setIfInBounds_toArray, List.set_cons_zero, List.set_cons_succ]; with_reducible rfl))
          refine Ps.par_sf (a' := ?_) (f := ?_) (args := ?_) (by rfl) (by rfl) (fun w' => ?_) (fun _ _ _ _ => trivial) (fun w' hb hn hr => ?_) ?_ ?_; rotate_left 3; (go_simp; constructor <;> with_reducible rfl); (exact (wnow_any w' wb S ve k (HW.out.grow (B4.out.trans (hb.1.grow.mono B4.out.size)))).mono (fun e w2 ⟨he, h2⟩ => ⟨he, (Ps.relC _ _).of _ _ h2, trivial⟩)); (simp only [Act.put, List.setIfInBounds_toArray, List.set_cons_zero, List.set_cons_succ]; with_reducible rfl)
          iterate 6
            first
              | (refine Ps.par_skip (a' := ?_) (by rfl) (by rfl) ?_ ?_ ?_; rotate_left 1; with_reducible rfl; (simp only [Act.put, List.setIfInBounds_toArray, List.set_cons_zero, List.set_cons_succ]; with_reducible rfl))
              | (refine Ps.par_run (a' := ?_) (by rfl) (by rfl) (fun w' hb hn => ?_) ?_ ?_; rotate_left 1; (have hc := hb.1.cells; first | (go_simp; (try simp (disch := omega) only [IntWalk.i64_in, IntWalk.i32_in, IntWalk.u64_in, IntWalk.u8_in, IntWalk.u32_in, toNatUp, iteOmega]); with_reducible rfl) | (go_simp; (try simp (disch := omega) only [IntWalk.i64_in, IntWalk.i32_in, IntWalk.u64_in, IntWalk.u8_in, IntWalk.u32_in, toNatUp, iteOmega]); go_simp; with_reducible rfl)); (simp only [Act.put, List.setIfInBounds_toArray, List.set_cons_zero, List.set_cons_succ]; with_reducible rfl))
          refine Ps.par_box (a' := ?ap4k15) (r := ?rp4k15) (fun b h => h.elim) (by rfl) (by rfl) (fun w' hb hn => ?hp4k15) (fun w' => ?ep4k15) (fun u => ?pp4k15) (fun u => ?gp4k15)
          case hp4k15 => (go_simp; with_reducible rfl)
          case ep4k15 => with_reducible rfl
          case pp4k15 => (simp only [Act.put, List.setIfInBounds_toArray, List.set_cons_zero, List.set_cons_succ]; with_reducible rfl)
          refine Ps.par_end (fun w9 hb9 hf9 hr9 => ?_)
          try refine Ps.wpList_none ?_
          obtain ⟨g, rfl, hg, hgb⟩ := hf9 _ List.mem_cons_self
          have hb9' : Below w4.heap.size w4 w9 := hb9.1.grow
          have B5 := hid (B4.out.trans (hb9'.mono B4.out.size))
          have H05 := hid (keep_at hb9' H04.out)
          have H15 := hid (keep_at hb9' H14.out)
          have HG5 := hid hgb
          have hg0 : w.heap.size ≠ g := by omega
          have hg1 : w.heap.size + 1 ≠ g := by omega
          have hgw : w.heap.size ≤ g := Nat.le_trans B4.out.size hg
          clear hb9 hf9 hgb r0 r1 r2 r3 r4 r5 r6 r7 r8 r9 r10 r11 r12 p0 hl0 hl1
          have r12 := cell_of H15.out 12
          obtain ⟨y0, y1, y2, y3, y4, y5, y6, y7, y8, y9, y10, y11, y12⟩ := cells13 HG5.out
          have f0 := free_of HG5.out 0; have f1 := free_of HG5.out 1; have f2 := free_of HG5.out 2; have f3 := free_of HG5.out 3; have f4 := free_of HG5.out 4; have f5 := free_of HG5.out 5; have f6 := free_of HG5.out 6; have f7 := free_of HG5.out 7; have f8 := free_of HG5.out 8; have f9 := free_of HG5.out 9; have f10 := free_of HG5.out 10; have f11 := free_of HG5.out 11; have f12 := free_of HG5.out 12
          obtain ⟨w5, rfl⟩ : ∃ w5 : World, w5 = w9 := ⟨_, rfl⟩
          go_wp2_with fail
          refine calls_all13 HG5.out ?_
          intro W6 h6 b6
          have B6 := hid (B5.out.trans (b6.out.below B5.out.size (fun k e => by omega)))
          have H06 := hid ((b6.out.block _ (heap_lt H05.out) hg0).trans H05.out)
          have H16 := hid ((b6.out.block _ (heap_lt H15.out) hg1).trans H15.out)
          have HPR : Hid (pubR k r = ⟨0, 19, 0, 0, key, 0, 0, k.now + r.n, 0, r.a, r.b, r.c, r.vars⟩) := by
            show _ = _
            unfold pubR
            rw [HKE.out]
            rfl
          clear y0 y1 y2 y3 y4 y5 y6 y7 y8 y9 y10 y11 y12 f0 f1 f2 f3 f4 f5 f6 f7 f8 f9 f10 f11 f12 r12 H05 H15 HG5
          refine (varsBytes_any _ r.vars W6 Hok.out.vars (HVR.out.seen.below B6.out)).mono ?_
          rintro e w7 ⟨rfl, b7⟩
          have B7 := hid (B6.out.trans (b7.mono B6.out.size))
          have H07 := hid (keep_at b7 H06.out)
          have H17 := hid (keep_at b7 H16.out)
          have HG7 := hid (keep_at b7 h6.out)
          have hvz := varsS_le7 Hok.out.vars
          clear b7 h6 H06 H16
          by_cases c5 : 3000 < (varsS r.vars).size
          · have g5 : ((3000 : Int) < ((varsS r.vars).size : Int)) = True := by simp; omega
            have HV : Hid (publishV k r = (k, 13)) := HPE.out.trans (if_pos (.inl c5))
            clear c5
            go_wp2
            go_ret
            rw [HV.out]
            exact ⟨rfl, S, ve, HW.out.grow B7.out, Goes.of B7.out⟩
          have g5 : ((3000 : Int) < ((varsS r.vars).size : Int)) = False := by simp; omega
          have p0 := cell_of H07.out 0
          obtain ⟨y0, y1, y2, y3, y4, y5, y6, y7, y8, y9, y10, y11, y12⟩ := cells13 HG7.out
          go_wp2_with fail
          have hval := named_len HN.out
          have hvl := right_le HR.out
          refine (fits_any w7 wb S ve k ⟨0, 19, 0, 0, key, 0, 0, k.now + r.n, 0, r.a, r.b, r.c, r.vars⟩ (.slice ua r.vars.length uc) (HW.out.grow B7.out) ⟨(by show I64 2; constructor <;> decide), (by show I64 19; constructor <;> decide), (by have := Hb.out.pos; show U64 k.pos; unfold U64; omega), (by show I64 k.now; constructor <;> omega), (by show U64 key; unfold U64; omega), (by show U64 0; unfold U64; omega), (by show U64 0; unfold U64; omega), (by show I64 (k.now + r.n); constructor <;> omega), (by show I64 0; constructor <;> decide), Hok.out.a, Hok.out.b, Hok.out.c, Hok.out.vars⟩ rfl Hb.out.pos.1 (by omega) hval (Nat.not_lt.1 c1) (Nat.not_lt.1 c0) HR.out (HVR.out.seen.below B7.out)).mono ?_
          rintro e w8 ⟨rfl, b8⟩
          have B8 := hid (B7.out.trans (b8.mono B7.out.size))
          have H08 := hid (keep_at b8 H07.out)
          have H18 := hid (keep_at b8 H17.out)
          have HG8 := hid (keep_at b8 HG7.out)
          have HPE' := HPE.out
          rw [HPR.out] at HPE'
          clear b8 p0 y0 y1 y2 y3 y4 y5 y6 y7 y8 y9 y10 y11 y12 H07 H17 HG7
          cases hmy : mayR (toldR k ⟨0, 19, 0, 0, key, 0, 0, k.now + r.n, 0, r.a, r.b, r.c, r.vars⟩) with
          | false =>
            have HV : Hid (publishV k r = (k, 13)) := HPE'.trans (if_pos (.inr hmy))
            clear HPE' hmy c5
            go_wp2
            go_ret
            rw [HV.out]
            exact ⟨rfl, S, ve, HW.out.grow B8.out, Goes.of B8.out⟩
          | true =>
            have HV : Hid (publishV k r = (pub3 k r, 0)) := HPE'.trans (if_neg (by rw [hmy]; rintro (h | h); exact c5 h; cases h))
            clear HPE' hmy c5
            have p0 := cell_of H08.out 0
            obtain ⟨y0, y1, y2, y3, y4, y5, y6, y7, y8, y9, y10, y11, y12⟩ := cells13 HG8.out
            go_wp2_with fail
            refine (emitV_any w8 wb S ve k ⟨0, 19, 0, 0, key, 0, 0, k.now + r.n, 0, r.a, r.b, r.c, r.vars⟩ [I 0, I 19, U 0, I 0, U key, U 0, U 0, I (k.now + r.n), I 0, .string r.a, .string r.b, .string r.c, .slice ua r.vars.length uc] b (HW.out.grow B8.out) Hb.out (by omega) (.inr (.inl ⟨rfl, HM0.out⟩)) ⟨_, rfl, HVR.out.below (sans_grow B8.out)⟩ (by show r.vars.length ≤ _; omega)).mono ?_
            rintro e w9 ⟨rfl, S1, ve1, hw1, g1⟩
            have HS8 : Hid (∀ b, S1 b → ¬ (b = w.heap.size ∨ b = w.heap.size + 1)) := fun b hb h => by
              have h9 : b < w8.heap.size := by
                rcases h with rfl | rfl
                · exact heap_lt H08.out
                · exact heap_lt H18.out
              have := hS.out b ((g1.same b h9).1 hb)
              omega
            have HW1 := hid hw1
            have G1 := hid ((Goes.of B8.out).trans g1)
            have H09 := hid (g1.keep (fun h => Nat.lt_irrefl _ (hS.out _ h)) H08.out)
            have H19 := hid (g1.keep (fun h => Nat.not_succ_le_self _ (Nat.le_trans (Nat.le_succ _) (hS.out _ h))) H18.out)
            have HB1 := hid (emit_sm k ⟨0, 19, 0, 0, key, 0, 0, k.now + r.n, 0, r.a, r.b, r.c, r.vars⟩ b Hb.out (by omega) (fun h => by revert h; simp) (fun _ => HM0.out) (by show r.vars.length ≤ _; omega))
            have HP1 : Hid (pub1 k r = emitV k ⟨0, 19, 0, 0, key, 0, 0, k.now + r.n, 0, r.a, r.b, r.c, r.vars⟩) := by show _ = _; unfold pub1; rw [HPR.out]
            have HMS : Hid ((emitV k ⟨0, 19, 0, 0, key, 0, 0, k.now + r.n, 0, r.a, r.b, r.c, r.vars⟩).s.msgs = [⟨key, r.a, r.b, r.c, k.now + r.n, r.vars, []⟩]) := by
              show _ = _
              simp [emitV, applyV, eventV, evPublished, HM0.out, put_one]
            have HP3 : Hid (publishV k r = (pub3 k r, 0)) := HV
            clear HV hw1 g1 p0 y0 y1 y2 y3 y4 y5 y6 y7 y8 y9 y10 y11 y12 H08 H18 HG8
            generalize emitV k ⟨0, 19, 0, 0, key, 0, 0, k.now + r.n, 0, r.a, r.b, r.c, r.vars⟩ = k1 at HW1 HB1 HP1 HMS
            have p0 := cell_of H09.out 0
            go_wp2_with fail
            refine (wstate_any w9 wb S1 ve1 k1 HW1.out HB1.out.sm).mono ?_
            rintro e w10 ⟨cs, rfl, ⟨vp, vi, vt, vj, vr, vs, vk, vl, vm, hs⟩, b10⟩
            have hcs := hs.cells
            obtain ⟨⟨pa, pc, rfl⟩, ⟨ia, ic, rfl⟩, ⟨ta, tc, rfl⟩, ⟨ja, jc, rfl⟩, ⟨ra, rc, rfl⟩, ⟨sa, sc, rfl⟩, ⟨ka, kc, rfl⟩, ⟨la, lc, rfl⟩, ⟨ma, mc, rfl⟩⟩ := hs.shapes
            subst hcs
            have Hs := hid hs
            have B10 := hid b10
            have H010 := hid (keep_at b10 H09.out)
            have H110 := hid (keep_at b10 H19.out)
            have hw10 := Nat.le_trans G1.out.but.size b10.size
            have hz8 := B8.out.size
            have hpw : w.heap.size + 1 < w10.heap.size := heap_lt H110.out
            clear hs b10 p0 H09 H19
            go_wp2_with fail
            rw [field10]
            simp only [Result.andThen]
            rw [Oper.upon_value]
            go_wp2
            have hpb0 : w.heap.size < w10.heap.size := heap_lt H010.out
            have hpb1 : w.heap.size + 1 < w10.heap.size := heap_lt H110.out
            have HS9 := HS8
            go_loopw [8, 95] (fun va vi wr => ∃ (i left : Nat) (S' : Nat → Prop) (ve' : Value), i ≤ k1.s.listed.length ∧ vi = .int .i64 i ∧ va = .int .i64 left ∧ left ≤ 100 ∧ Hid (left = ((k1.s.listed.take i).foldl (pubStep key) (k1, 100)).2 ∧ WorkAt wr wb S' ve' ((k1.s.listed.take i).foldl (pubStep key) (k1, 100)).1 ∧ SmW (b + 1 + i) ((k1.s.listed.take i).foldl (pubStep key) (k1, 100)).1 ∧ Goes S1 w10 S' wr ∧ wr.heap[w.heap.size]? = some (.cells #[.pointer (some ⟨wb, 0, none⟩)] 52 (0, 0)) ∧ wr.heap[w.heap.size + 1]? = some (.cells #[I r.cls, I r.kind, U r.from_, I r.time, U r.key, U r.key2, U r.key3, I r.n, I r.m, .string r.a, .string r.b, .string r.c, .slice ua r.vars.length uc] 49 (0, 0)))) (fun _ vi _ => k1.s.listed.length - (intOf vi).toNat)
            case atStart => exact ⟨0, 100, S1, ve1, Nat.zero_le _, rfl, rfl, Nat.le_refl _, rfl, HW1.out.grow B10.out, HB1.out, Goes.refl _ _, H010.out, H110.out⟩
            case round =>
              obtain ⟨i, left, S', ve', hi, rfl, rfl, hleft, hR⟩ := hrel
              have p0 := cell_of hR.out.2.2.2.2.1 0
              by_cases hlt : i < k1.s.listed.length
              · have hl1 := HB1.out.sm.l1
                obtain rfl : i = 0 := by omega
                obtain ⟨x, hx⟩ : ∃ x, k1.s.listed = [x] := List.length_eq_one_iff.1 (by omega)
                have Hx := hid hx
                have hR1 := hR.out
                simp only [List.take_zero, List.foldl_nil] at hR1
                obtain ⟨rfl, hwk, hsm, hgo, hq0, hq1⟩ := hR1
                have HWr := hid hwk
                have Hgo := hid hgo
                have HQ0 := hid hq0
                have HQ1 := hid hq1
                have HBr := hid hsm
                have hL0 : k1.s.listed[0]? = some x := by rw [hx]; rfl
                obtain ⟨bl, ofl, csl, hla, -, ⟨lv, hcs, hlvv⟩, hcl⟩ := elem0 (Hs.out.grow hgo.sans).listed hL0
                subst hla
                subst hcs
                obtain ⟨lva, lvc, rfl, -⟩ := hlvv
                have q0 := (sans_cell (hcl 0 _ rfl)).1
                have q1 := (sans_cell (hcl 1 _ rfl)).1
                have q2 := (sans_cell (hcl 2 _ rfl)).1
                have q3 := (sans_cell (hcl 3 _ rfl)).1
                have q4 := (sans_cell (hcl 4 _ rfl)).1
                have q5 := (sans_cell (hcl 5 _ rfl)).1
                have q6 := (sans_cell (hcl 6 _ rfl)).1
                rw [Nat.add_zero] at q0
                clear hx hR hwk hsm hgo hq0 hq1 hL0 hcl
                have p1 := cell_of ((alloc_old (w := wr) (.cells #[U x.token, U x.inst, I x.node, .string x.name, .string x.key, U x.msg, .slice lva x.vars.length lvc] 58) (heap_lt HQ0.out)).trans HQ0.out) 0
                go_wp2_with fail
                clear p1 p0 q0 q1 q2 q3 q4 q5 q6
                refine calls_box1 ?_
                intro W2 h2 b2 hz2
                have B2r := b2
                have hgr := hid (Hgo.out.trans (Goes.of b2.out))
                refine (wstate_any W2 wb S' ve' k1 (HWr.out.grow b2.out) HB1.out.sm).mono ?_
                rintro e w11 ⟨cs, rfl, ⟨vp, vi, vt, vj, vr, vs, vk, vl, vm, hs⟩, b11⟩
                have hcs := hs.cells
                obtain ⟨⟨pa2, pc2, rfl⟩, ⟨ia2, ic2, rfl⟩, ⟨ta2, tc2, rfl⟩, ⟨ja2, jc2, rfl⟩, ⟨ra2, rc2, rfl⟩, ⟨sa2, sc2, rfl⟩, ⟨ka2, kc2, rfl⟩, ⟨la2, lc2, rfl⟩, ⟨ma2, mc2, rfl⟩⟩ := hs.shapes
                subst hcs
                have Hs2 := hid hs
                have B11 := hid (b2.out.trans (b11.mono b2.out.size))
                have h11 := hid (keep_at b11 h2.out)
                clear hs b11 h2
                go_wp2_with fail
                refine (message_any S' w11 k1.s _ key (fun b h => Nat.lt_of_lt_of_le (HWr.out.lt b h).1 B11.out.size) ⟨_, _, _, _, _, _, _, _, _, Hs2.out⟩ HB1.out.sm.m1).mono ?_
                rintro e w12 ⟨c, m, rfl, hm, hxm, b12⟩
                have hm0 : m = ⟨key, r.a, r.b, r.c, k.now + r.n, r.vars, []⟩ := hxm _ (by rw [HMS.out]; exact List.find?_cons_of_pos (by simp))
                have hsome : (k1.s.msgs.find? (fun m => decide (m.key = key))).isSome = true := by rw [HMS.out, List.find?_cons_of_pos (by simp)]; rfl
                have Hm0 := hid hm0
                obtain ⟨mv, mu, rfl, hmv, hmu⟩ := hm
                have HMU := hid hmu
                obtain ⟨mva, mvc, rfl, -⟩ := hmv
                obtain ⟨mua, muc, rfl, -⟩ := hmu
                rw [hsome]
                have B12 := hid (B11.out.trans (b12.mono B11.out.size))
                have h12 := hid (keep_at b12 h11.out)
                clear b12 h11 hxm hm0 hsome
                obtain ⟨y0, y1, y2, y3, y4, y5, y6⟩ := cells7 (alloc_old (.cells #[U m.key, .string m.name, .string m.for_, .string m.id, I m.till, .slice mva m.vars.length mvc, .slice mua (natsV m.insts).length muc] 66) (heap_lt h12.out) |>.trans h12.out)
                go_wp2_with fail
                clear y0 y1 y2 y3 y4 y5 y6
                have hst1 : (k1.s.listed.take 1).foldl (pubStep key) (k1, 100) = if suitsV m x = true then (emitV k1 (sendR x key), 99) else (k1, 100) := by
                  rw [Hx.out]
                  show pubStep key (k1, 100) x = _
                  unfold pubStep
                  show (match k1.s.msgs.find? (fun m => decide (m.key = key)) with | some m => if 0 < 100 ∧ suitsV m x = true then (emitV k1 (sendR x key), 100 - 1) else (k1, 100) | none => (k1, 100)) = _
                  rw [HMS.out, List.find?_cons_of_pos (by simp), Hm0.out]
                  simp
                have HST := hid hst1
                have hmi : m.insts.length ≤ 1000000 := by rw [Hm0.out]; simp
                refine calls_box1 ?_
                intro W13 h13 b13 hz13
                have B13 := hid (B12.out.trans (b13.out.mono B12.out.size))
                have h13x := hid (keep_at b13.out h12.out)
                refine (suits_any W13 m x _ _ _ (HMU.out.slseen.below b13.out) hmi).mono ?_
                rintro e w14 ⟨rfl, b14⟩
                have B14 := hid (B13.out.trans (b14.mono B13.out.size))
                have h14 := hid (keep_at b14 h13x.out)
                have HQ04 := hid (keep_at B14.out HQ0.out)
                have HQ14 := hid (keep_at B14.out HQ1.out)
                clear b14 h13 hz13 hst1 h12 h13x
                cases hsu : suitsV m x with
                | false =>
                  have HST2 : Hid ((k1.s.listed.take 1).foldl (pubStep key) (k1, 100) = (k1, 100)) := HST.out.trans (if_neg (by rw [hsu]; decide))
                  go_wp2
                  go_roundw
                  case rel => exact ⟨1, 100, S', ve', by omega, by go_num, rfl, by omega, by rw [HST2.out], by rw [HST2.out]; exact HWr.out.grow B14.out, by rw [HST2.out]; exact SmW.up HBr.out, Hgo.out.trans (Goes.of B14.out), HQ04.out, HQ14.out⟩
                  case measure => simp [intOf]; omega
                | true =>
                  have HST2 : Hid ((k1.s.listed.take 1).foldl (pubStep key) (k1, 100) = (emitV k1 (sendR x key), 99)) := HST.out.trans (if_pos hsu)
                  have p0 := cell_of HQ04.out 0
                  obtain ⟨y0, y1, y2, y3, y4, y5, y6⟩ := cells7 h14.out
                  go_wp2_with fail
                  refine (send_any w14 wb S' ve' k1 x _ key (b + 1) (HWr.out.grow B14.out) HB1.out (by omega)).mono ?_
                  rintro e w15 ⟨rfl, S5, ve5, hw5, g5⟩
                  have HW5 := hid hw5
                  have G5 := hid g5
                  have HSM := hid (emit_sm k1 (sendR x key) (b + 1) HB1.out (by omega) (fun h => by revert h; simp [sendR]) (fun h => by revert h; simp [sendR]) (by simp [sendR, rec0]))
                  have HQ05 := hid (g5.keep (fun h => HS9.out _ (Hgo.out.same _ hpb0 |>.1 h) (.inl rfl)) HQ04.out)
                  have HQ15 := hid (g5.keep (fun h => HS9.out _ (Hgo.out.same _ hpb1 |>.1 h) (.inr rfl)) HQ14.out)
                  clear hw5 g5 p0 y0 y1 y2 y3 y4 y5 y6
                  go_wp2
                  go_roundw
                  case rel => exact ⟨1, 99, S5, ve5, by omega, by go_num, by go_num, by omega, by rw [HST2.out], by rw [HST2.out]; exact HW5.out, by rw [HST2.out]; exact HSM.out, (Hgo.out.trans (Goes.of B14.out)).trans G5.out, HQ05.out, HQ15.out⟩
                  case measure => simp [intOf]; omega
              · obtain rfl : i = k1.s.listed.length := by omega
                have hR1 := hR.out
                simp only [List.take_length] at hR1
                obtain ⟨-, hwk, hsm, hgo, hq0, hq1⟩ := hR1
                have HP2 : Hid (pub2 k r = (k1.s.listed.foldl (pubStep key) (k1, 100)).1) := by
                  show _ = _
                  unfold pub2
                  rw [HP1.out, HKE.out]
                generalize (k1.s.listed.foldl (pubStep key) (k1, 100)).1 = k2 at hwk hsm HP2
                have HWk := hid hwk
                have HBk := hid hsm
                have Hgk := hid ((G1.out.trans (Goes.of B10.out)).trans hgo)
                have hbn : b + 1 + k1.s.listed.length < 1000 := by have := HB1.out.sm.l1; omega
                have r7 := cell_of hq1 7
                clear hR hwk hsm hgo hq0 hq1
                by_cases c6 : r.n = 0
                · have HV3 : Hid (pub3 k r = emitV k2 { rec0 with kind := 20, key := key }) := by
                    show _ = _
                    unfold pub3
                    rw [if_pos c6, HP2.out, HKE.out]
                  have g6 : (r.n == 0) = true := by rw [c6]; rfl
                  clear c6
                  go_wp2_with fail
                  refine (emitV_any wr wb S' ve' k2 { rec0 with kind := 20, key := key } [I 0, I 20, U 0, I 0, U key, U 0, U 0, I 0, I 0, .string ⟨#[]⟩, .string ⟨#[]⟩, .string ⟨#[]⟩, .slice none 0 0] _ HWk.out HBk.out hbn (.inr (.inr (.inl rfl))) ⟨_, rfl, vnil _⟩ (by simp [rec0])).mono ?_
                  rintro e w16 ⟨rfl, S6, ve6, hw6, g6'⟩
                  have HW6 := hid hw6
                  have G6 := hid g6'
                  clear hw6 g6' r7 p0
                  go_wp2
                  go_ret
                  rw [HP3.out, HV3.out]
                  exact ⟨rfl, S6, ve6, HW6.out, Hgk.out.trans G6.out⟩
                · have HV3 : Hid (pub3 k r = k2) := by
                    show _ = _
                    unfold pub3
                    rw [if_neg c6, HP2.out]
                  have g6 : (r.n == 0) = false := by simpa using c6
                  go_wp2
                  go_ret
                  rw [HP3.out, HV3.out]
                  exact ⟨rfl, S', ve', HWk.out, Hgk.out⟩
end Go.Proofs.YtjkbfoeakeoeiaaGreat
