/- Keep: contracts (Gi Po Gj). -/
import Derived.Test.YtjkbfoeakeoeiaaGreatV9
namespace Go.Proofs.YtjkbfoeakeoeiaaGreat
set_option maxRecDepth 100000
set_option maxHeartbeats 40000000
set_option linter.unusedSimpArgs false
set_option linter.unusedVariables false
open Go.IntWalk Go.RowKit
theorem cells13 {w : World} {b : Nat} {v0 v1 v2 v3 v4 v5 v6 v7 v8 v9 v10 v11 v12 : Value} {T : TypeId} {fr : Nat × Nat} (h : w.heap[b]? = some (.cells #[v0, v1, v2, v3, v4, v5, v6, v7, v8, v9, v10, v11, v12] T fr)) :
    w.cell? ⟨b, 0, none⟩ = some v0 ∧ w.cell? ⟨b, 1, none⟩ = some v1 ∧ w.cell? ⟨b, 2, none⟩ = some v2 ∧ w.cell? ⟨b, 3, none⟩ = some v3 ∧ w.cell? ⟨b, 4, none⟩ = some v4 ∧ w.cell? ⟨b, 5, none⟩ = some v5 ∧ w.cell? ⟨b, 6, none⟩ = some v6 ∧ w.cell? ⟨b, 7, none⟩ = some v7 ∧ w.cell? ⟨b, 8, none⟩ = some v8 ∧ w.cell? ⟨b, 9, none⟩ = some v9 ∧ w.cell? ⟨b, 10, none⟩ = some v10 ∧ w.cell? ⟨b, 11, none⟩ = some v11 ∧ w.cell? ⟨b, 12, none⟩ = some v12 :=
  ⟨cell_of h 0, cell_of h 1, cell_of h 2, cell_of h 3, cell_of h 4, cell_of h 5, cell_of h 6, cell_of h 7, cell_of h 8, cell_of h 9, cell_of h 10, cell_of h 11, cell_of h 12⟩
def RecBox (r : RecV) (rv : Value) (g : Nat) (u : Value) (W : World) : Prop := ∃ pb, u = .func (.func g) #[] #[.pointer (some ⟨pb, 0, none⟩)] ∧ W.heap[pb]? = some (.cells #[I r.cls, I r.kind, U r.from_, I r.time, U r.key, U r.key2, U r.key3, I r.n, I r.m, .string r.a, .string r.b, .string r.c, rv] 49 (0, 0))
theorem RecBox.st (r : RecV) (rv : Value) (g : Nat) : ∀ u w w', RecBox r rv g u w → Below w.heap.size w w' → RecBox r rv g u w' := fun _ _ _ ⟨pb, hu, hp⟩ hb => ⟨pb, hu, keep_at hb hp⟩
theorem own_one {α : Type} {R : World → List Value → α → Prop} {S : Nat → Prop} {k base e : Nat} {w : World} {v : Value} {x : α} {cs : List Value} (hk : 0 < k) (ho : w.ownsRow base e k v 1 cs) (hcs : cs.length = k) (hx : R (sans S w) cs x) (hS : ∀ b, base ≤ b → ¬ S b) : ListAt R k (sans S w) v [x] :=
  own_list (css := [cs]) hk (by simpa using ho) rfl (fun c h => by simp at h; subst h; exact hcs) (fun i c y h1 h2 => by
    match i, h1, h2 with
    | 0, h1, h2 => simp at h1 h2; subst h1 h2; exact hx) hS
theorem putMsg_msg {T : Nat → Prop} (w : World) (r : RecV) (v5 : Value) {v : Value} (ff : Nat) (hF : FlatAt 7 w v 0 []) (hq : VarsAt (sans T w) v5 r.vars) (hT : ∀ b, T b → b < w.heap.size) :
    Calls Tryz.prog 145 #[v, .agg #[U r.key, .string r.a, .string r.b, .string r.c, I r.n, v5, .slice none 0 0], .func (.func ff) #[] #[]] w fun e w2 =>
      ∃ u, e = .returned u ∧ Ps.shOk (some 1) u ∧ ListAt MsgV.at_ 7 (sans T w2) u [⟨r.key, r.a, r.b, r.c, r.n, r.vars, []⟩] ∧ Below w.heap.size w w2 := by
  have h5 := vars_one hq
  refine (putMsg_nil ff _ _ _ _ _ _ _ w hF ?_).mono ?_
  · intro u hu
    simp only [List.mem_cons, List.not_mem_nil, or_false] at hu
    rcases hu with rfl | rfl | rfl | rfl | rfl | rfl | rfl <;> first | rfl | exact h5
  · rintro e w2 ⟨v', he, ho, hb2⟩
    have hx : MsgV.at_ (sans T w2) [U r.key, .string r.a, .string r.b, .string r.c, I r.n, v5, .slice none 0 0] ⟨r.key, r.a, r.b, r.c, r.n, r.vars, []⟩ := ⟨v5, _, rfl, hq.below (sans_grow hb2), none, 0, rfl, Nat.zero_le _, Nat.le_refl _, fun i x h => by cases h⟩
    refine ⟨v', he, ?_, own_one (by omega) ho rfl hx (fun b h1 h2 => by have := hT b h2; omega), hb2⟩
    obtain ⟨a, c, hv⟩ := own_slice ho
    exact ⟨a, c, hv⟩
theorem ofListed_box (w : World) (r : RecV) (rv : Value) : Calls Tryz.prog 149 #[.agg #[I r.cls, I r.kind, U r.from_, I r.time, U r.key, U r.key2, U r.key3, I r.n, I r.m, .string r.a, .string r.b, .string r.c, rv]] w fun e w' => ∃ u, e = .returned u ∧ RecBox r rv 211 u w' ∧ Below w.heap.size w w' := (ofListed_any w r rv).mono fun e w' ⟨pb, he, hp, hb⟩ => ⟨_, he, ⟨pb, rfl, hp⟩, hb⟩
theorem ofMessage_box (w : World) (r : RecV) (rv : Value) : Calls Tryz.prog 150 #[.agg #[I r.cls, I r.kind, U r.from_, I r.time, U r.key, U r.key2, U r.key3, I r.n, I r.m, .string r.a, .string r.b, .string r.c, rv]] w fun e w' => ∃ u, e = .returned u ∧ RecBox r rv 212 u w' ∧ Below w.heap.size w w' := (ofMessage_any w r rv).mono fun e w' ⟨pb, he, hp, hb⟩ => ⟨_, he, ⟨pb, rfl, hp⟩, hb⟩
theorem evMatched_any (S : Nat → Prop) (w : World) (s : StateV) (r : RecV) (cs rc : List Value) (hS : ∀ b, S b → b < w.heap.size) (hs : StAt S w cs s) (hrec : RecAt S w rc r) (hl1 : s.listed.length ≤ 1) :
    Calls Tryz.prog 106 #[.agg cs.toArray, .agg rc.toArray] w fun e w' => ∃ cs', e = .returned (.agg cs'.toArray) ∧ StAt S w' cs' (evMatched s r) ∧ Below w.heap.size w w' := by
  obtain ⟨vp, vi, vt, vj, vr, vs, vk, vl, vm, hs⟩ := hs
  have Hs := hid hs
  obtain ⟨hcs, hp, hi, ht, hj, hr, hs, hk, hl, hm⟩ := hs
  obtain ⟨xap, xcp, rfl, -⟩ := hp
  obtain ⟨xai, xci, rfl, -⟩ := hi
  obtain ⟨xat, xct, rfl, -⟩ := ht
  obtain ⟨xaj, xcj, rfl, -⟩ := hj
  obtain ⟨xar, xcr, rfl, -⟩ := hr
  obtain ⟨xas, xcs, rfl, -⟩ := hs
  obtain ⟨xak, xck, rfl, -⟩ := hk
  obtain ⟨xal, xcl, rfl, -⟩ := hl
  obtain ⟨xam, xcm, rfl, -⟩ := hm
  subst hcs
  obtain ⟨rv, hrc, hrv⟩ := hrec
  subst hrc
  have Hrv := hid hrv
  obtain ⟨ra, rk, rfl, -⟩ := hrv
  go_enter Tryz.func106, Tryz.ntmps106
  go_wp2_with fail
  refine wp_box3 ?_
  intro W0 h0 h1 h2 B0 hz
  obtain ⟨k0, k1, k2, k3, k4, k5, k6, k7, k8, k9, k10, k11⟩ := cells12 h0.out
  obtain ⟨r0, r1, r2, r3, r4, r5, r6, r7, r8, r9, r10, r11, r12⟩ := cells13 h1.out
  have hT := hidB_lt (k := 3) hS (show w.heap.size + 3 ≤ W0.heap.size by omega)
  have hsee : Sees (sans S w) (sans (hidB S w.heap.size 3) W0) := sees_grow B0.out (fun b => hidB_old b)
  have HL := hid (Hs.out.listed.sees LisV.sees hsee)
  have HM := hid (Hs.out.msgs.sees MsgV.sees hsee)
  refine wp_par (fun _ => False) (fun _ => True) (List.replicate 5 false) _ [.fix ?_, .fix ?_, .fix ?_, .new (RecBox r (.slice ra r.vars.length rk) 211), .new (fun u W => ListAt LisV.at_ 7 (sans (hidB S w.heap.size 3) W) u (withoutBy (ofLis r) s.listed))] (by kernel_rfl) (by kernel_rfl) (by simp only [List.length_replicate, List.drop_succ_cons, List.drop_zero, List.drop_nil]; with_reducible rfl) rfl (fun _ _ _ _ _ => ⟨fun h => h, fun h => h⟩) (fun _ _ h _ => h) trivial ?_
  rotate_left 3
  iterate 3
    first
      | (refine par_skip (a' := ?_) (by rfl) (by rfl) ?_ ?_ ?_; rotate_left 1; with_reducible rfl; (simp only [Act.put, List.setIfInBounds_toArray, List.set_cons_zero, List.set_cons_succ]; with_reducible rfl))
      | (refine par_run (a' := ?_) (by rfl) (by rfl) (fun w' hb hn => ?_) ?_ ?_; rotate_left 1; (have hc := hb.cells; first | (go_simp; (try simp (disch := omega) only [IntWalk.i64_in, IntWalk.i32_in, IntWalk.u64_in, IntWalk.u8_in, IntWalk.u32_in, toNatUp, iteOmega]); with_reducible rfl) | (go_simp; (try simp (disch := omega) only [IntWalk.i64_in, IntWalk.i32_in, IntWalk.u64_in, IntWalk.u8_in, IntWalk.u32_in, toNatUp, iteOmega]); go_simp; with_reducible rfl)); (simp only [Act.put, List.setIfInBounds_toArray, List.set_cons_zero, List.set_cons_succ]; with_reducible rfl))
  refine par_callF (a' := ?a65k3) (f := ?f65k3) (args := ?r65k3) (by rfl) (by rfl) (fun w' => ?e65k3) (RecBox.st _ _ _) (fun w' hb hn => ?h65k3) (fun u => ?p65k3) (fun u => ?g65k3)
  case e65k3 => (go_simp; constructor <;> with_reducible rfl)
  case h65k3 => (exact ofListed_box w' r _)
  case p65k3 => (simp only [Act.put, List.setIfInBounds_toArray, List.set_cons_zero, List.set_cons_succ]; with_reducible rfl)
  refine par_callF (a' := ?a69k4) (f := ?f69k4) (args := ?r69k4) (by rfl) (by rfl) (fun w' => ?e69k4) (fun _ _ _ h hb => h.grow LisV.st (sans_grow hb)) (fun w' hb hn => ?h69k4) (fun u => ?p69k4) (fun u => ?g69k4)
  case e69k4 => (go_simp; constructor <;> with_reducible rfl)
  case h69k4 => ((obtain ⟨pb, rfl, hpb⟩ := need_head hn (by kernel_rfl); exact (withoutLis_list w' (HL.out.grow LisV.st (sans_grow hb.grow)) sees_refl hl1 (fun b h => Nat.lt_of_lt_of_le (hT b h) hb.grow.size) _ _ (enters_of Tryz.func211 (by kernel_rfl) rfl) (ofLis r) (fun W x cs _ hx hb => by obtain ⟨v, rfl, -⟩ := hx; exact ofLis_cl W x v r _ pb (keep_at hb hpb))).mono (fun e w2 ⟨v', he, h1, h2⟩ => ⟨v', he, h1, h2⟩)))
  case p69k4 => (simp only [Act.put, List.setIfInBounds_toArray, List.set_cons_zero, List.set_cons_succ]; with_reducible rfl)
  refine par_end (fun w9 hb9 hf9 _ => ?_)
  replace hb9 := hb9.grow
  try refine wpList_none ?_
  simp only [List.forall_mem_cons] at hf9
  obtain ⟨gL, -⟩ := hf9
  have GL := hid gL
  obtain ⟨a1, c1, rfl, -⟩ := gL
  replace hf9 := trivial
  have BV := hid (B0.out.trans (hb9.mono B0.out.size))
  have g0 := hid (keep_at hb9 h0.out)
  have g2 := hid (keep_at hb9 h2.out)
  have hz9 := hb9.size
  have HB9 := hid hb9
  clear k0 k1 k2 k3 k4 k5 k6 k7 k8 k9 k10 k11 r0 r1 r2 r3 r4 r5 r6 r7 r8 r9 r10 r11 r12
  obtain ⟨k0, k1, k2, k3, k4, k5, k6, k7, k8, k9, k10, k11⟩ := cells12 g0.out
  obtain ⟨z0, z1, z2, z3, z4, z5, z6, z7, z8, z9, z10, z11⟩ := cells12 g2.out
  obtain ⟨x0, x1, x2, x3, x4, x5, x6, x7, x8, x9, x10, x11⟩ := frees12 g0.out
  obtain ⟨y0, y1, y2, y3, y4, y5, y6, y7, y8, y9, y10, y11⟩ := frees12 g2.out
  clear h0 h1 h2 hb9 hf9
  go_wp2
  refine post_set12 (set_other g2.out (by simp; omega) (.slice a1 (withoutBy (ofLis r) s.listed).length c1)) ?_
  intro W9 h9 b9
  have bq : But (fun i => i = w.heap.size ∨ i = w.heap.size + 1 + 1) w9 W9 := (((But.refl (fun i => i = w.heap.size) w9).trans (set_but w9 w.heap.size 10 (.slice a1 (withoutBy (ofLis r) s.listed).length c1))).mono (fun _ _ h => .inl h)).trans (b9.out.mono (fun _ _ h => .inr h))
  have hq : Goes (hidB S w.heap.size 3) w9 (hidB S w.heap.size 3) W9 := goes_hid bq (fun i h => .inr (by omega))
  have B9 : Hid (Below w.heap.size w W9) := BV.out.trans (bq.below BV.out.size (fun k h => by omega))
  obtain ⟨k0, k1, k2, k3, k4, k5, k6, k7, k8, k9, k10, k11⟩ := cells12 h9.out
  have hst := Hs.out.put (sans_grow B9.out) (s.pos) (s.done) (s.made) (((GL.out).grow LisV.st hq.sans).sees LisV.sees hidB_sees) (Hs.out.msgs.grow MsgV.st (sans_grow B9.out))
  have E := hid (show evMatched s r = { s with pos := s.pos, done := s.done, made := s.made, listed := withoutBy (ofLis r) s.listed, msgs := s.msgs } from rfl)
  rw [E.out]
  exact bodyPost_ret (v := .agg #[U s.pos, U s.done, U s.made, .slice xap s.procs.length xcp, .slice xai s.insts.length xci, .slice xat s.tokens.length xct, .slice xaj s.jobs.length xcj, .slice xar s.timers.length xcr, .slice xas s.subs.length xcs, .slice xak s.kept.length xck, .slice a1 (withoutBy (ofLis r) s.listed).length c1, .slice xam s.msgs.length xcm]) (by simp [results, Tryz.results106, go_sem, k0, k1, k2, k3, k4, k5, k6, k7, k8, k9, k10, k11]) rfl ⟨[U s.pos, U s.done, U s.made, .slice xap s.procs.length xcp, .slice xai s.insts.length xci, .slice xat s.tokens.length xct, .slice xaj s.jobs.length xcj, .slice xar s.timers.length xcr, .slice xas s.subs.length xcs, .slice xak s.kept.length xck, .slice a1 (withoutBy (ofLis r) s.listed).length c1, .slice xam s.msgs.length xcm], rfl, ⟨_, _, _, _, _, _, _, _, _, hst⟩, B9.out⟩
theorem evExpired_any (S : Nat → Prop) (w : World) (s : StateV) (r : RecV) (cs rc : List Value) (hS : ∀ b, S b → b < w.heap.size) (hs : StAt S w cs s) (hrec : RecAt S w rc r) (hm1 : s.msgs.length ≤ 1) :
    Calls Tryz.prog 104 #[.agg cs.toArray, .agg rc.toArray] w fun e w' => ∃ cs', e = .returned (.agg cs'.toArray) ∧ StAt S w' cs' (evExpired s r) ∧ Below w.heap.size w w' := by
  obtain ⟨vp, vi, vt, vj, vr, vs, vk, vl, vm, hs⟩ := hs
  have Hs := hid hs
  obtain ⟨hcs, hp, hi, ht, hj, hr, hs, hk, hl, hm⟩ := hs
  obtain ⟨xap, xcp, rfl, -⟩ := hp
  obtain ⟨xai, xci, rfl, -⟩ := hi
  obtain ⟨xat, xct, rfl, -⟩ := ht
  obtain ⟨xaj, xcj, rfl, -⟩ := hj
  obtain ⟨xar, xcr, rfl, -⟩ := hr
  obtain ⟨xas, xcs, rfl, -⟩ := hs
  obtain ⟨xak, xck, rfl, -⟩ := hk
  obtain ⟨xal, xcl, rfl, -⟩ := hl
  obtain ⟨xam, xcm, rfl, -⟩ := hm
  subst hcs
  obtain ⟨rv, hrc, hrv⟩ := hrec
  subst hrc
  have Hrv := hid hrv
  obtain ⟨ra, rk, rfl, -⟩ := hrv
  go_enter Tryz.func104, Tryz.ntmps104
  go_wp2_with fail
  refine calls_box3 ?_
  intro W0 h0 h1 h2 B0 hz
  obtain ⟨k0, k1, k2, k3, k4, k5, k6, k7, k8, k9, k10, k11⟩ := cells12 h0.out
  obtain ⟨r0, r1, r2, r3, r4, r5, r6, r7, r8, r9, r10, r11, r12⟩ := cells13 h1.out
  have hT := hidB_lt (k := 3) hS (show w.heap.size + 3 ≤ W0.heap.size by omega)
  have hsee : Sees (sans S w) (sans (hidB S w.heap.size 3) W0) := sees_grow B0.out (fun b => hidB_old b)
  have HL := hid (Hs.out.listed.sees LisV.sees hsee)
  have HM := hid (Hs.out.msgs.sees MsgV.sees hsee)
  refine (withoutMsg_list W0 HM.out sees_refl hm1 hT _ _ (enters_of Tryz.func148 (by kernel_rfl) rfl) (fun m => decide (m.key = r.key)) (fun W x cs _ hx hb => by obtain ⟨v, u, rfl, -⟩ := hx; exact expMsg_cl W x v u r _ _ (keep_at hb h1.out))).mono ?_
  rintro e w9 ⟨v', rfl, gL, hb9⟩
  have hf9 := trivial
  have GL := hid gL
  obtain ⟨a1, c1, rfl, -⟩ := gL
  have BV := hid (B0.out.trans (hb9.mono B0.out.size))
  have g0 := hid (keep_at hb9 h0.out)
  have g2 := hid (keep_at hb9 h2.out)
  have hz9 := hb9.size
  have HB9 := hid hb9
  clear k0 k1 k2 k3 k4 k5 k6 k7 k8 k9 k10 k11 r0 r1 r2 r3 r4 r5 r6 r7 r8 r9 r10 r11 r12
  obtain ⟨k0, k1, k2, k3, k4, k5, k6, k7, k8, k9, k10, k11⟩ := cells12 g0.out
  obtain ⟨z0, z1, z2, z3, z4, z5, z6, z7, z8, z9, z10, z11⟩ := cells12 g2.out
  obtain ⟨x0, x1, x2, x3, x4, x5, x6, x7, x8, x9, x10, x11⟩ := frees12 g0.out
  obtain ⟨y0, y1, y2, y3, y4, y5, y6, y7, y8, y9, y10, y11⟩ := frees12 g2.out
  clear h0 h1 h2 hb9 hf9
  go_wp2
  refine post_set12 (set_other g2.out (by simp; omega) (.slice a1 (withoutBy (fun m : MsgV => decide (m.key = r.key)) s.msgs).length c1)) ?_
  intro W9 h9 b9
  have bq : But (fun i => i = w.heap.size ∨ i = w.heap.size + 1 + 1) w9 W9 := (((But.refl (fun i => i = w.heap.size) w9).trans (set_but w9 w.heap.size 11 (.slice a1 (withoutBy (fun m : MsgV => decide (m.key = r.key)) s.msgs).length c1))).mono (fun _ _ h => .inl h)).trans (b9.out.mono (fun _ _ h => .inr h))
  have hq : Goes (hidB S w.heap.size 3) w9 (hidB S w.heap.size 3) W9 := goes_hid bq (fun i h => .inr (by omega))
  have B9 : Hid (Below w.heap.size w W9) := BV.out.trans (bq.below BV.out.size (fun k h => by omega))
  obtain ⟨k0, k1, k2, k3, k4, k5, k6, k7, k8, k9, k10, k11⟩ := cells12 h9.out
  have hst := Hs.out.put (sans_grow B9.out) (s.pos) (s.done) (s.made) (Hs.out.listed.grow LisV.st (sans_grow B9.out)) (((GL.out).grow MsgV.st hq.sans).sees MsgV.sees hidB_sees)
  have E := hid (show evExpired s r = { s with pos := s.pos, done := s.done, made := s.made, listed := s.listed, msgs := withoutBy (fun m : MsgV => decide (m.key = r.key)) s.msgs } from rfl)
  rw [E.out]
  exact bodyPost_ret (v := .agg #[U s.pos, U s.done, U s.made, .slice xap s.procs.length xcp, .slice xai s.insts.length xci, .slice xat s.tokens.length xct, .slice xaj s.jobs.length xcj, .slice xar s.timers.length xcr, .slice xas s.subs.length xcs, .slice xak s.kept.length xck, .slice xal s.listed.length xcl, .slice a1 (withoutBy (fun m : MsgV => decide (m.key = r.key)) s.msgs).length c1]) (by simp [results, Tryz.results104, go_sem, k0, k1, k2, k3, k4, k5, k6, k7, k8, k9, k10, k11]) rfl ⟨[U s.pos, U s.done, U s.made, .slice xap s.procs.length xcp, .slice xai s.insts.length xci, .slice xat s.tokens.length xct, .slice xaj s.jobs.length xcj, .slice xar s.timers.length xcr, .slice xas s.subs.length xcs, .slice xak s.kept.length xck, .slice xal s.listed.length xcl, .slice a1 (withoutBy (fun m : MsgV => decide (m.key = r.key)) s.msgs).length c1], rfl, ⟨_, _, _, _, _, _, _, _, _, hst⟩, B9.out⟩
theorem evPublished_any (S : Nat → Prop) (w : World) (s : StateV) (r : RecV) (cs rc : List Value) (hS : ∀ b, S b → b < w.heap.size) (hs : StAt S w cs s) (hrec : RecAt S w rc r) (hm0 : s.msgs = []) (hmd : s.made < 1000000) (hlen : r.vars.length ≤ 1048576) :
    Calls Tryz.prog 103 #[.agg cs.toArray, .agg rc.toArray] w fun e w' => ∃ cs', e = .returned (.agg cs'.toArray) ∧ StAt S w' cs' (evPublished s r) ∧ Below w.heap.size w w' := by
  obtain ⟨vp, vi, vt, vj, vr, vs, vk, vl, vm, hs⟩ := hs
  have Hs := hid hs
  obtain ⟨hcs, hp, hi, ht, hj, hr, hs, hk, hl, hm⟩ := hs
  obtain ⟨xap, xcp, rfl, -⟩ := hp
  obtain ⟨xai, xci, rfl, -⟩ := hi
  obtain ⟨xat, xct, rfl, -⟩ := ht
  obtain ⟨xaj, xcj, rfl, -⟩ := hj
  obtain ⟨xar, xcr, rfl, -⟩ := hr
  obtain ⟨xas, xcs, rfl, -⟩ := hs
  obtain ⟨xak, xck, rfl, -⟩ := hk
  obtain ⟨xal, xcl, rfl, -⟩ := hl
  obtain ⟨xam, xcm, rfl, -⟩ := hm
  subst hcs
  obtain ⟨rv, hrc, hrv⟩ := hrec
  subst hrc
  have Hrv := hid hrv
  obtain ⟨ra, rk, rfl, -⟩ := hrv
  go_enter Tryz.func103, Tryz.ntmps103
  go_wp2_with fail
  refine wp_box3 ?_
  intro W0 h0 h1 h2 B0 hz
  obtain ⟨k0, k1, k2, k3, k4, k5, k6, k7, k8, k9, k10, k11⟩ := cells12 h0.out
  obtain ⟨r0, r1, r2, r3, r4, r5, r6, r7, r8, r9, r10, r11, r12⟩ := cells13 h1.out
  have hT := hidB_lt (k := 3) hS (show w.heap.size + 3 ≤ W0.heap.size by omega)
  have hsee : Sees (sans S w) (sans (hidB S w.heap.size 3) W0) := sees_grow B0.out (fun b => hidB_old b)
  have HL := hid (Hs.out.listed.sees LisV.sees hsee)
  have HM := hid (Hs.out.msgs.sees MsgV.sees hsee)
  have hm0' : Hid (∀ W, FlatAt 7 W (.slice xam 0 xcm) 0 []) := fun W => by exact ⟨xam, xcm, rfl, Nat.zero_le _, by simp [maxLen], rfl, fun j u h => by cases h⟩
  have HV := hid (Hrv.out.sees hsee)
  refine Ps.wp_par (Ps.relC (fun _ => False) (fun _ _ => True)) (fun _ => True) (false :: false :: false :: false :: false :: false :: false :: false :: false :: false :: false :: false :: false :: false :: true :: false :: true :: []) _ (.fix ?_ :: .fix ?_ :: .fix ?_ :: .fix ?_ :: .fix ?_ :: .fix ?_ :: .fix ?_ :: .fix ?_ :: .fix ?_ :: .fix ?_ :: .fix ?_ :: .fix ?_ :: .fix ?_ :: .fix ?_ :: .st (some r.vars.length) (fun u W => VarsAt (sans (hidB S w.heap.size 3) W) u r.vars) (fun _ _ => True) :: .new (fun u W => ∃ v, u = .agg #[U r.key, .string r.a, .string r.b, .string r.c, I r.n, v, .slice none 0 0] ∧ VarsAt (sans (hidB S w.heap.size 3) W) v r.vars) :: .st (some 1) (fun u W => ListAt MsgV.at_ 7 (sans (hidB S w.heap.size 3) W) u [⟨r.key, r.a, r.b, r.c, r.n, r.vars, []⟩]) (fun _ _ => True) :: []) (by kernel_rfl) (by kernel_rfl) (by simp only [List.length_cons, List.length_nil, List.drop_succ_cons, List.drop_zero, List.drop_nil]; with_reducible rfl) rfl (fun _ _ _ _ _ => ⟨fun h => h, fun h => h⟩) (fun _ _ h _ => h) (trivial) ?_
  rotate_left 14
  iterate 14
    first
      | (refine Ps.par_skip (a' := ?_) (by rfl) (by rfl) ?_ ?_ ?_; rotate_left 1; with_reducible rfl; (simp only [Act.put, List.setIfInBounds_toArray, List.set_cons_zero, List.set_cons_succ]; with_reducible rfl))
      | (refine Ps.par_run (a' := ?_) (by rfl) (by rfl) (fun w' hb hn => ?_) ?_ ?_; rotate_left 1; (have hc := hb.1.cells; first | (go_simp; (try simp (disch := omega) only [IntWalk.i64_in, IntWalk.i32_in, IntWalk.u64_in, IntWalk.u8_in, IntWalk.u32_in, toNatUp, iteOmega]); with_reducible rfl) | (go_simp; (try simp (disch := omega) only [IntWalk.i64_in, IntWalk.i32_in, IntWalk.u64_in, IntWalk.u8_in, IntWalk.u32_in, toNatUp, iteOmega]); go_simp; with_reducible rfl)); (simp only [Act.put, List.setIfInBounds_toArray, List.set_cons_zero, List.set_cons_succ]; with_reducible rfl))
  refine Ps.par_stc (a' := ?ap1k14) (f := ?fp1k14) (args := ?rp1k14) (by rfl) (by rfl) (fun w' => ?ep1k14) (fun _ _ _ h hb => h.below (sans_grow hb.1.grow)) (fun _ _ _ _ _ => trivial) (fun w' hb hn hr => ?hp1k14) (fun u => ?pp1k14) (fun u14 hu14 => ?gp1k14)
  case ep1k14 => (go_simp; constructor <;> with_reducible rfl)
  case hp1k14 => (refine (vars_list (S := hidB S w.heap.size 3) w' (HV.out.below (sans_grow hb.1.grow)) sees_seen hlen (fun b h => Nat.lt_of_lt_of_le (hT b h) hb.1.grow.size)).mono ?_; rintro e w2 ⟨v', he, h1, -, h2⟩; exact ⟨v', he, vars_shape h1, h1, (Ps.relC (fun _ => False) (fun _ _ => True)).of _ _ h2, trivial⟩)
  case pp1k14 => (simp only [Act.put, List.setIfInBounds_toArray, List.set_cons_zero, List.set_cons_succ]; with_reducible rfl)
  obtain ⟨au14, cu14, rfl⟩ := hu14
  refine Ps.par_val (a' := ?ap2k15) (by rfl) (by rfl) (fun _ _ _ ⟨v, hu, h⟩ hb => ⟨v, hu, h.below (sans_grow hb.1.grow)⟩) (fun w' hb hn => ?hp2k15) (fun u => ?pp2k15) (fun u => ?gp2k15)
  case hp2k15 => (have hq := need_head hn (by kernel_rfl); exact ⟨_, w', (by go_simp; try with_reducible rfl), ⟨_, rfl, hq⟩, Below.refl _ _⟩)
  case pp2k15 => (simp only [Act.put, List.setIfInBounds_toArray, List.set_cons_zero, List.set_cons_succ]; with_reducible rfl)
  refine Ps.par_stc (a' := ?ap3k16) (f := ?fp3k16) (args := ?rp3k16) (by rfl) (by rfl) (fun w' => ?ep3k16) (fun _ _ _ h hb => h.grow MsgV.st (sans_grow hb.1.grow)) (fun _ _ _ _ _ => trivial) (fun w' hb hn hr => ?hp3k16) (fun u => ?pp3k16) (fun u16 hu16 => ?gp3k16)
  case ep3k16 => (go_simp; constructor <;> with_reducible rfl)
  case hp3k16 => (obtain ⟨v5, rfl, hq⟩ := need_head hn (by kernel_rfl); exact (putMsg_msg w' r v5 _ (hm0'.out w') hq (fun b h => Nat.lt_of_lt_of_le (hT b h) hb.1.grow.size)).mono (fun e w2 ⟨u, he, h1, h2, h3⟩ => ⟨u, he, h1, h2, (Ps.relC (fun _ => False) (fun _ _ => True)).of _ _ h3, trivial⟩))
  case pp3k16 => (simp only [Act.put, List.setIfInBounds_toArray, List.set_cons_zero, List.set_cons_succ]; with_reducible rfl)
  obtain ⟨au16, cu16, rfl⟩ := hu16
  refine Ps.par_end (fun w9 hb9 hf9 hr9 => ?_)
  try refine Ps.wpList_none ?_
  replace hb9 := hb9.1.grow
  simp only [List.forall_mem_cons] at hf9
  obtain ⟨gL, -⟩ := hf9
  have GL := hid gL
  clear hr9
  replace hf9 := trivial
  have BV := hid (B0.out.trans (hb9.mono B0.out.size))
  have g0 := hid (keep_at hb9 h0.out)
  have g2 := hid (keep_at hb9 h2.out)
  have hz9 := hb9.size
  have HB9 := hid hb9
  clear k0 k1 k2 k3 k4 k5 k6 k7 k8 k9 k10 k11 r0 r1 r2 r3 r4 r5 r6 r7 r8 r9 r10 r11 r12
  obtain ⟨k0, k1, k2, k3, k4, k5, k6, k7, k8, k9, k10, k11⟩ := cells12 g0.out
  obtain ⟨z0, z1, z2, z3, z4, z5, z6, z7, z8, z9, z10, z11⟩ := cells12 g2.out
  obtain ⟨x0, x1, x2, x3, x4, x5, x6, x7, x8, x9, x10, x11⟩ := frees12 g0.out
  obtain ⟨y0, y1, y2, y3, y4, y5, y6, y7, y8, y9, y10, y11⟩ := frees12 g2.out
  clear h0 h1 h2 hb9 hf9
  go_wp2
  refine post_set12 (set_other (set_other g2.out (by simp; omega) (.slice au16 1 cu16)) (by simp; omega) (.int .u64 ((s.made : Int) + 1))) ?_
  intro W9 h9 b9
  have bq : But (fun i => i = w.heap.size ∨ i = w.heap.size + 1 + 1) w9 W9 := ((((But.refl (fun i => i = w.heap.size) w9).trans (set_but w9 w.heap.size 11 (.slice au16 1 cu16))).trans (set_but (w9.setCell ⟨w.heap.size, 11, none⟩ (.slice au16 1 cu16)) w.heap.size 2 (.int .u64 ((s.made : Int) + 1)))).mono (fun _ _ h => .inl h)).trans (b9.out.mono (fun _ _ h => .inr h))
  have hq : Goes (hidB S w.heap.size 3) w9 (hidB S w.heap.size 3) W9 := goes_hid bq (fun i h => .inr (by omega))
  have B9 : Hid (Below w.heap.size w W9) := BV.out.trans (bq.below BV.out.size (fun k h => by omega))
  obtain ⟨k0, k1, k2, k3, k4, k5, k6, k7, k8, k9, k10, k11⟩ := cells12 h9.out
  have em : (.int .u64 ((s.made : Int) + 1) : Value) = U (w64 (s.made + 1)) := by unfold w64; rw [Nat.mod_eq_of_lt (by omega)]; go_num
  rw [em] at k2
  have hst := Hs.out.put (sans_grow B9.out) (s.pos) (s.done) (w64 (s.made + 1)) (Hs.out.listed.grow LisV.st (sans_grow B9.out)) (((GL.out).grow MsgV.st hq.sans).sees MsgV.sees hidB_sees)
  have E := hid (show evPublished s r = { s with pos := s.pos, done := s.done, made := w64 (s.made + 1), listed := s.listed, msgs := [⟨r.key, r.a, r.b, r.c, r.n, r.vars, []⟩] } by unfold evPublished; rw [hm0]; rfl)
  rw [E.out]
  exact bodyPost_ret (v := .agg #[U s.pos, U s.done, U (w64 (s.made + 1)), .slice xap s.procs.length xcp, .slice xai s.insts.length xci, .slice xat s.tokens.length xct, .slice xaj s.jobs.length xcj, .slice xar s.timers.length xcr, .slice xas s.subs.length xcs, .slice xak s.kept.length xck, .slice xal s.listed.length xcl, .slice au16 1 cu16]) (by simp [results, Tryz.results103, go_sem, k0, k1, k2, k3, k4, k5, k6, k7, k8, k9, k10, k11]) rfl ⟨[U s.pos, U s.done, U (w64 (s.made + 1)), .slice xap s.procs.length xcp, .slice xai s.insts.length xci, .slice xat s.tokens.length xct, .slice xaj s.jobs.length xcj, .slice xar s.timers.length xcr, .slice xas s.subs.length xcs, .slice xak s.kept.length xck, .slice xal s.listed.length xcl, .slice au16 1 cu16], rfl, ⟨_, _, _, _, _, _, _, _, _, hst⟩, B9.out⟩
end Go.Proofs.YtjkbfoeakeoeiaaGreat
namespace Go.Proofs.YtjkbfoeakeoeiaaGreat.Ps
set_option maxRecDepth 100000
set_option maxHeartbeats 40000000
set_option linter.unusedSimpArgs false
set_option linter.unusedVariables false
open Go.RowKit
def IsT (T : TypeId) (o : Obj) : Prop := ∃ (cs : Array Value) (fr : Nat × Nat), o = Obj.cells cs T fr
def relU (base : Nat) (T : TypeId) : Rel where
  G w w' := w'.os = w.os ∧ w'.tape = w.tape ∧ w'.output = w.output ∧ w.heap.size ≤ w'.heap.size ∧ (∀ i o, w.heap[i]? = some o → (i < base ∨ ¬ IsT T o) → w'.heap[i]? = some o) ∧ ∀ i o, w.heap[i]? = some o → IsT T o → ∃ o', w'.heap[i]? = some o' ∧ IsT T o'
  N w w' := Below w.heap.size w w' ∧ ∀ i o, w.heap.size ≤ i → w'.heap[i]? = some o → ¬ IsT T o
  of w w' h := ⟨h.1.os, h.1.tape, h.1.output, h.1.size, fun i o hi _ => (h.1.block i (heap_lt hi)).trans hi, fun i o hi ht => ⟨o, (h.1.block i (heap_lt hi)).trans hi, ht⟩⟩
  trans a b d h k := ⟨k.1.trans h.1, k.2.1.trans h.2.1, k.2.2.1.trans h.2.2.1, Nat.le_trans h.2.2.2.1 k.2.2.2.1, fun i o hi hc => k.2.2.2.2.1 i o (h.2.2.2.2.1 i o hi hc) hc, fun i o hi ht => by
    obtain ⟨o', h1, h2⟩ := h.2.2.2.2.2 i o hi ht
    exact k.2.2.2.2.2 i o' h1 h2⟩
  refl w := ⟨Below.refl _ w, fun i o hi ho => absurd (heap_lt ho) (by omega)⟩
  draw w := ⟨⟨rfl, rfl, rfl, Nat.le_refl _, fun _ _ => rfl⟩, fun i o hi ho => absurd (heap_lt (w := { w with drawn := w.drawn + 1 }) ho) (by show ¬ i < w.heap.size; omega)⟩
theorem relU.below {base : Nat} {T : TypeId} {w w' : World} (h : (relU base T).G w w') (hb : base ≤ w.heap.size) : Below base w w' :=
  ⟨h.1, h.2.1, h.2.2.1, h.2.2.2.1, fun i hi => by
    have hlt : i < w.heap.size := Nat.lt_of_lt_of_le hi hb
    rw [h.2.2.2.2.1 i _ (Array.getElem?_eq_getElem hlt) (.inl hi), Array.getElem?_eq_getElem hlt]⟩
theorem relU.of' {base : Nat} {T : TypeId} {w w' : World} (h : Below w.heap.size w w') : (relU base T).G w w' := ⟨h.os, h.tape, h.output, h.size, fun i o hi _ => (h.block i (heap_lt hi)).trans hi, fun i o hi ht => ⟨o, (h.block i (heap_lt hi)).trans hi, ht⟩⟩
theorem relU.set {base : Nat} {T : TypeId} {w : World} {b : Nat} {cs : Array Value} {fr : Nat × Nat} (hb : base ≤ b) (h : w.heap[b]? = some (.cells cs T fr)) (j : Nat) (v : Value) : (relU base T).G w (w.setCell ⟨b, j, none⟩ v) := by
  have hs : But (fun i => i = b) w (w.setCell ⟨b, j, none⟩ v) := But.setCell (F := fun i => i = b) (But.refl _ w) (p := ⟨b, j, none⟩) (fun _ => rfl) v
  refine ⟨hs.os, hs.tape, hs.output, hs.size, fun i o hi hc => ?_, fun i o hi ht => ?_⟩
  · have hne : i ≠ b := by
      rintro rfl
      rw [h] at hi
      cases hi
      rcases hc with hc | hc
      · omega
      · exact hc ⟨_, _, rfl⟩
    rw [hs.block i (heap_lt hi) hne, hi]
  · by_cases hne : i = b
    · subst hne
      exact ⟨_, setCell_at h j v, _, _, rfl⟩
    · exact ⟨o, (hs.block i (heap_lt hi) hne).trans hi, ht⟩
def NoT (base : Nat) (T : TypeId) (w : World) : Prop := ∀ i o, base ≤ i → w.heap[i]? = some o → ¬ IsT T o
def OnlyT (base : Nat) (T : TypeId) (g : Nat) (c : Value) (w : World) : Prop := base ≤ g ∧ w.heap[g]? = some (.cells #[c] T (0, 0)) ∧ ∀ i o, base ≤ i → w.heap[i]? = some o → IsT T o → i = g
theorem NoT.st {base : Nat} {T : TypeId} {w w' : World} (h : NoT base T w) (hb : (relU base T).N w w') : NoT base T w' := fun i o hi ho => by
  by_cases hlt : i < w.heap.size
  · exact h i o hi ((hb.1.block i hlt).symm.trans ho)
  · exact hb.2 i o (by omega) ho
theorem OnlyT.st {base : Nat} {T : TypeId} {g : Nat} {c : Value} {w w' : World} (h : OnlyT base T g c w) (hb : (relU base T).N w w') : OnlyT base T g c w' := ⟨h.1, (hb.1.block g (heap_lt h.2.1)).trans h.2.1, fun i o hi ho ht => by
  by_cases hlt : i < w.heap.size
  · exact h.2.2 i o hi ((hb.1.block i hlt).symm.trans ho) ht
  · exact absurd ht (hb.2 i o (by omega) ho)⟩
theorem NoT.start (w : World) (T : TypeId) : NoT w.heap.size T w := fun i o hi ho => absurd (heap_lt ho) (by omega)
theorem NoT.new {base : Nat} {T : TypeId} {w : World} {c : Value} (h : NoT base T w) (hb : base ≤ w.heap.size) : OnlyT base T w.heap.size c (w.alloc (.cells #[c] T)) := ⟨hb, alloc_new _ _, fun i o hi ho ht => by
  by_cases hlt : i < w.heap.size
  · exact absurd ht (h i o hi ((alloc_old _ hlt).symm.trans ho))
  · have := heap_lt ho
    simp at this
    omega⟩
theorem OnlyT.set {base : Nat} {T : TypeId} {g : Nat} {c : Value} {w : World} (h : OnlyT base T g c w) (v : Value) : OnlyT base T g v (w.setCell ⟨g, 0, none⟩ v) := by
  refine ⟨h.1, setCell_at h.2.1 0 v, fun i o hi ho ht => ?_⟩
  by_cases hne : i = g
  · exact hne
  · have hs : But (fun i => i = g) w (w.setCell ⟨g, 0, none⟩ v) := But.setCell (F := fun i => i = g) (But.refl _ w) (p := ⟨g, 0, none⟩) (fun _ => rfl) v
    have hlt := heap_lt ho
    have hsz : (w.setCell ⟨g, 0, none⟩ v).heap.size = w.heap.size := by simp
    rw [hsz] at hlt
    exact h.2.2 i o hi ((hs.block i hlt hne).symm.trans ho) ht
def PtrT (base : Nat) (T : TypeId) (u : Value) (w : World) : Prop := ∃ g, u = .pointer (some ⟨g, 0, none⟩) ∧ base ≤ g ∧ ∃ o, w.heap[g]? = some o ∧ IsT T o
theorem PtrT.st {base : Nat} {T : TypeId} : ∀ (u : Value) (w w' : World), PtrT base T u w → (relU base T).G w w' → PtrT base T u w' := fun _ _ _ ⟨g, hu, hb, o, ho, ht⟩ h => ⟨g, hu, hb, h.2.2.2.2.2 g o ho ht⟩
theorem PtrT.only {base : Nat} {T : TypeId} {u : Value} {w : World} {c : Value} (h : PtrT base T u w) (k : ∃ g, OnlyT base T g c w) : ∃ g, u = .pointer (some ⟨g, 0, none⟩) ∧ base ≤ g ∧ w.heap[g]? = some (.cells #[c] T (0, 0)) := by
  obtain ⟨g, hu, hb, o, ho, ht⟩ := h
  obtain ⟨g', h1, h2, h3⟩ := k
  have := h3 g o hb ho ht
  subst this
  exact ⟨g, hu, hb, h2⟩
theorem newN {base : Nat} {T T' : TypeId} {w : World} {cs : Array Value} (h : T' ≠ T) : (relU base T).N w (w.alloc (.cells cs T')) := ⟨(Below.refl _ w).alloc (Nat.le_refl _) _, fun i o hi ho ht => by
  have := heap_lt ho
  simp at this
  obtain rfl : i = w.heap.size := by omega
  rw [alloc_new] at ho
  cases ho
  obtain ⟨_, _, e⟩ := ht
  cases e
  exact h rfl⟩
end Go.Proofs.YtjkbfoeakeoeiaaGreat.Ps
namespace Go.Proofs.YtjkbfoeakeoeiaaGreat
set_option maxRecDepth 100000
set_option maxHeartbeats 40000000
set_option linter.unusedSimpArgs false
set_option linter.unusedVariables false
open Go.IntWalk Go.RowKit
theorem idxOf_none {α : Type} {p : α → Bool} {l : List α} (h : l.find? p = none) : idxOf p l = -1 := by
  unfold idxOf
  have : l.findIdx? p = none := by rw [List.findIdx?_eq_none_iff]; simpa using h
  rw [this]
theorem idxOf_one {α : Type} {p : α → Bool} {l : List α} {x : α} (hl : l.length ≤ 1) (h : l.find? p = some x) : idxOf p l = ((0 : Nat) : Int) ∧ l = [x] ∧ p x = true := by
  rcases one_list hl with rfl | ⟨y, rfl⟩
  · cases h
  · have hp := List.find?_some h
    have hm := List.mem_of_find?_eq_some h
    simp at hm
    subst hm
    exact ⟨by simp [idxOf, List.findIdx?_cons, hp], rfl, hp⟩
theorem evSending_not_any (S : Nat → Prop) (w : World) (s : StateV) (r : RecV) (cs rc : List Value) (hS : ∀ b, S b → b < w.heap.size) (hs : StAt S w cs s) (hrec : RecAt S w rc r) (hl1 : s.listed.length ≤ 1) (hm1 : s.msgs.length ≤ 1) (hno : s.listed.find? (ofLis r) = none ∨ s.msgs.find? (ofMsg r) = none) :
    Calls Tryz.prog 105 #[.agg cs.toArray, .agg rc.toArray] w fun e w' => ∃ cs', e = .returned (.agg cs'.toArray) ∧ StAt S w' cs' (evSending s r) ∧ Below w.heap.size w w' := by
  have E : Hid (evSending s r = { s with pos := s.pos, done := s.done, made := s.made, listed := s.listed, msgs := s.msgs }) := by
    show _ = _
    unfold evSending
    rcases hno with h | h
    · rw [h]
    · rw [h]
      split <;> simp_all
  have Hno := hid hno
  by_cases hL : s.listed.find? (ofLis r) = none
  · have EL := hid (idxOf_none hL)
    obtain ⟨zm, EM⟩ : ∃ z, Hid (idxOf (ofMsg r) s.msgs = z) := ⟨_, rfl⟩
    clear hno hL Hno
    obtain ⟨vp, vi, vt, vj, vr, vs, vk, vl, vm, hs⟩ := hs
    have Hs := hid hs
    obtain ⟨hcs, hp, hi, ht, hj, hr, hs, hk, hl, hm⟩ := hs
    obtain ⟨xap, xcp, rfl, -⟩ := hp
    obtain ⟨xai, xci, rfl, -⟩ := hi
    obtain ⟨xat, xct, rfl, -⟩ := ht
    obtain ⟨xaj, xcj, rfl, -⟩ := hj
    obtain ⟨xar, xcr, rfl, -⟩ := hr
    obtain ⟨xas, xcs, rfl, -⟩ := hs
    obtain ⟨xak, xck, rfl, -⟩ := hk
    obtain ⟨xal, xcl, rfl, -⟩ := hl
    obtain ⟨xam, xcm, rfl, -⟩ := hm
    subst hcs
    obtain ⟨rv, hrc, hrv⟩ := hrec
    subst hrc
    have Hrv := hid hrv
    obtain ⟨ra, rk, rfl, -⟩ := hrv
    go_enter Tryz.func105, Tryz.ntmps105
    go_wp2_with fail
    refine wp_box3 ?_
    intro W0 h0 h1 h2 B0 hz
    obtain ⟨k0, k1, k2, k3, k4, k5, k6, k7, k8, k9, k10, k11⟩ := cells12 h0.out
    obtain ⟨r0, r1, r2, r3, r4, r5, r6, r7, r8, r9, r10, r11, r12⟩ := cells13 h1.out
    have hT := hidB_lt (k := 3) hS (show w.heap.size + 3 ≤ W0.heap.size by omega)
    have hsee : Sees (sans S w) (sans (hidB S w.heap.size 3) W0) := sees_grow B0.out (fun b => hidB_old b)
    have HL := hid (Hs.out.listed.sees LisV.sees hsee)
    have HM := hid (Hs.out.msgs.sees MsgV.sees hsee)
    refine wp_par (fun _ => False) (fun _ => True) (List.replicate 12 false) _ [.fix ?_, .fix ?_, .fix ?_, .new (RecBox r (.slice ra r.vars.length rk) 211), .fix ?_, .fix ?_, .fix ?_, .fix ?_, .new (RecBox r (.slice ra r.vars.length rk) 212), .fix ?_, .fix ?_, .fix ?_] (by kernel_rfl) (by kernel_rfl) (by simp only [List.length_replicate, List.drop_succ_cons, List.drop_zero, List.drop_nil]; with_reducible rfl) rfl (fun _ _ _ _ _ => ⟨fun h => h, fun h => h⟩) (fun _ _ h _ => h) trivial ?_
    rotate_left 10
    iterate 3
      first
        | (refine par_skip (a' := ?_) (by rfl) (by rfl) ?_ ?_ ?_; rotate_left 1; with_reducible rfl; (simp only [Act.put, List.setIfInBounds_toArray, List.set_cons_zero, List.set_cons_succ]; with_reducible rfl))
        | (refine par_run (a' := ?_) (by rfl) (by rfl) (fun w' hb hn => ?_) ?_ ?_; rotate_left 1; (have hc := hb.cells; first | (go_simp; (try simp (disch := omega) only [IntWalk.i64_in, IntWalk.i32_in, IntWalk.u64_in, IntWalk.u8_in, IntWalk.u32_in, toNatUp, iteOmega]); with_reducible rfl) | (go_simp; (try simp (disch := omega) only [IntWalk.i64_in, IntWalk.i32_in, IntWalk.u64_in, IntWalk.u8_in, IntWalk.u32_in, toNatUp, iteOmega]); go_simp; with_reducible rfl)); (simp only [Act.put, List.setIfInBounds_toArray, List.set_cons_zero, List.set_cons_succ]; with_reducible rfl))
    refine par_callF (a' := ?a67k3) (f := ?f67k3) (args := ?r67k3) (by rfl) (by rfl) (fun w' => ?e67k3) (RecBox.st _ _ _) (fun w' hb hn => ?h67k3) (fun u => ?p67k3) (fun u => ?g67k3)
    case e67k3 => (go_simp; constructor <;> with_reducible rfl)
    case h67k3 => (exact ofListed_box w' r _)
    case p67k3 => (simp only [Act.put, List.setIfInBounds_toArray, List.set_cons_zero, List.set_cons_succ]; with_reducible rfl)
    refine par_call (a' := ?_) (f := ?_) (args := ?_) (by rfl) (by rfl) (fun w' => ?_) (fun w' hb hn => ?_) ?_ ?_; rotate_left 3; (go_simp; constructor <;> with_reducible rfl); ((obtain ⟨pb, rfl, hpb⟩ := need_head hn (by kernel_rfl); have h := idxLis_list (S := hidB S w.heap.size 3) w' (HL.out.grow LisV.st (sans_grow hb.grow)) sees_refl _ #[.pointer (some ⟨pb, 0, none⟩)] (enters_of Tryz.func211 (by kernel_rfl) rfl) (ofLis r) (fun W x cs _ hx hb => by obtain ⟨v, rfl, -⟩ := hx; exact ofLis_cl W x v r _ pb (keep_at hb hpb)); rw [EL.out] at h; exact h)); (simp only [Act.put, List.setIfInBounds_toArray, List.set_cons_zero, List.set_cons_succ]; with_reducible rfl)
    iterate 3
      first
        | (refine par_skip (a' := ?_) (by rfl) (by rfl) ?_ ?_ ?_; rotate_left 1; with_reducible rfl; (simp only [Act.put, List.setIfInBounds_toArray, List.set_cons_zero, List.set_cons_succ]; with_reducible rfl))
        | (refine par_run (a' := ?_) (by rfl) (by rfl) (fun w' hb hn => ?_) ?_ ?_; rotate_left 1; (have hc := hb.cells; first | (go_simp; (try simp (disch := omega) only [IntWalk.i64_in, IntWalk.i32_in, IntWalk.u64_in, IntWalk.u8_in, IntWalk.u32_in, toNatUp, iteOmega]); with_reducible rfl) | (go_simp; (try simp (disch := omega) only [IntWalk.i64_in, IntWalk.i32_in, IntWalk.u64_in, IntWalk.u8_in, IntWalk.u32_in, toNatUp, iteOmega]); go_simp; with_reducible rfl)); (simp only [Act.put, List.setIfInBounds_toArray, List.set_cons_zero, List.set_cons_succ]; with_reducible rfl))
    refine par_callF (a' := ?a76k8) (f := ?f76k8) (args := ?r76k8) (by rfl) (by rfl) (fun w' => ?e76k8) (RecBox.st _ _ _) (fun w' hb hn => ?h76k8) (fun u => ?p76k8) (fun u => ?g76k8)
    case e76k8 => (go_simp; constructor <;> with_reducible rfl)
    case h76k8 => (exact ofMessage_box w' r _)
    case p76k8 => (simp only [Act.put, List.setIfInBounds_toArray, List.set_cons_zero, List.set_cons_succ]; with_reducible rfl)
    refine par_call (a' := ?_) (f := ?_) (args := ?_) (by rfl) (by rfl) (fun w' => ?_) (fun w' hb hn => ?_) ?_ ?_; rotate_left 3; (go_simp; constructor <;> with_reducible rfl); ((obtain ⟨pb, rfl, hpb⟩ := need_head hn (by kernel_rfl); have h := idxMsg_list (S := hidB S w.heap.size 3) w' (HM.out.grow MsgV.st (sans_grow hb.grow)) sees_refl _ #[.pointer (some ⟨pb, 0, none⟩)] (enters_of Tryz.func212 (by kernel_rfl) rfl) (ofMsg r) (fun W x cs _ hx hb => by obtain ⟨v, u, rfl, -⟩ := hx; exact ofMsg_cl W x v u r _ pb (keep_at hb hpb)); rw [EM.out] at h; exact h)); (simp only [Act.put, List.setIfInBounds_toArray, List.set_cons_zero, List.set_cons_succ]; with_reducible rfl)
    iterate 2
      first
        | (refine par_skip (a' := ?_) (by rfl) (by rfl) ?_ ?_ ?_; rotate_left 1; with_reducible rfl; (simp only [Act.put, List.setIfInBounds_toArray, List.set_cons_zero, List.set_cons_succ]; with_reducible rfl))
        | (refine par_run (a' := ?_) (by rfl) (by rfl) (fun w' hb hn => ?_) ?_ ?_; rotate_left 1; (have hc := hb.cells; first | (go_simp; (try simp (disch := omega) only [IntWalk.i64_in, IntWalk.i32_in, IntWalk.u64_in, IntWalk.u8_in, IntWalk.u32_in, toNatUp, iteOmega]); with_reducible rfl) | (go_simp; (try simp (disch := omega) only [IntWalk.i64_in, IntWalk.i32_in, IntWalk.u64_in, IntWalk.u8_in, IntWalk.u32_in, toNatUp, iteOmega]); go_simp; with_reducible rfl)); (simp only [Act.put, List.setIfInBounds_toArray, List.set_cons_zero, List.set_cons_succ]; with_reducible rfl))
    refine par_end (fun w9 hb9 hf9 _ => ?_)
    replace hb9 := hb9.grow
    try refine wpList_none ?_
    replace hf9 := trivial
    have BV := hid (B0.out.trans (hb9.mono B0.out.size))
    have g0 := hid (keep_at hb9 h0.out)
    have g2 := hid (keep_at hb9 h2.out)
    have hz9 := hb9.size
    have HB9 := hid hb9
    clear k0 k1 k2 k3 k4 k5 k6 k7 k8 k9 k10 k11 r0 r1 r2 r3 r4 r5 r6 r7 r8 r9 r10 r11 r12
    obtain ⟨k0, k1, k2, k3, k4, k5, k6, k7, k8, k9, k10, k11⟩ := cells12 g0.out
    obtain ⟨z0, z1, z2, z3, z4, z5, z6, z7, z8, z9, z10, z11⟩ := cells12 g2.out
    obtain ⟨x0, x1, x2, x3, x4, x5, x6, x7, x8, x9, x10, x11⟩ := frees12 g0.out
    obtain ⟨y0, y1, y2, y3, y4, y5, y6, y7, y8, y9, y10, y11⟩ := frees12 g2.out
    clear h0 h1 h2 hb9 hf9
    go_wp2
    refine post_set12 g2.out ?_
    intro W9 h9 b9
    have bq : But (fun i => i = w.heap.size ∨ i = w.heap.size + 1 + 1) w9 W9 := ((But.refl (fun i => i = w.heap.size) w9).mono (fun _ _ h => .inl h)).trans (b9.out.mono (fun _ _ h => .inr h))
    have hq : Goes (hidB S w.heap.size 3) w9 (hidB S w.heap.size 3) W9 := goes_hid bq (fun i h => .inr (by omega))
    have B9 : Hid (Below w.heap.size w W9) := BV.out.trans (bq.below BV.out.size (fun k h => by omega))
    obtain ⟨k0, k1, k2, k3, k4, k5, k6, k7, k8, k9, k10, k11⟩ := cells12 h9.out
    have hst := Hs.out.put (sans_grow B9.out) (s.pos) (s.done) (s.made) (Hs.out.listed.grow LisV.st (sans_grow B9.out)) (Hs.out.msgs.grow MsgV.st (sans_grow B9.out))
    rw [E.out]
    exact bodyPost_ret (v := .agg #[U s.pos, U s.done, U s.made, .slice xap s.procs.length xcp, .slice xai s.insts.length xci, .slice xat s.tokens.length xct, .slice xaj s.jobs.length xcj, .slice xar s.timers.length xcr, .slice xas s.subs.length xcs, .slice xak s.kept.length xck, .slice xal s.listed.length xcl, .slice xam s.msgs.length xcm]) (by simp [results, Tryz.results105, go_sem, k0, k1, k2, k3, k4, k5, k6, k7, k8, k9, k10, k11]) rfl ⟨[U s.pos, U s.done, U s.made, .slice xap s.procs.length xcp, .slice xai s.insts.length xci, .slice xat s.tokens.length xct, .slice xaj s.jobs.length xcj, .slice xar s.timers.length xcr, .slice xas s.subs.length xcs, .slice xak s.kept.length xck, .slice xal s.listed.length xcl, .slice xam s.msgs.length xcm], rfl, ⟨_, _, _, _, _, _, _, _, _, hst⟩, B9.out⟩
  · obtain ⟨x, hx⟩ := Option.ne_none_iff_exists'.1 hL
    have EL := hid (idxOf_one hl1 hx).1
    have hM : s.msgs.find? (ofMsg r) = none := Hno.out.resolve_left hL
    have EM := hid (idxOf_none hM)
    clear hno hL Hno hM hx
    obtain ⟨vp, vi, vt, vj, vr, vs, vk, vl, vm, hs⟩ := hs
    have Hs := hid hs
    obtain ⟨hcs, hp, hi, ht, hj, hr, hs, hk, hl, hm⟩ := hs
    obtain ⟨xap, xcp, rfl, -⟩ := hp
    obtain ⟨xai, xci, rfl, -⟩ := hi
    obtain ⟨xat, xct, rfl, -⟩ := ht
    obtain ⟨xaj, xcj, rfl, -⟩ := hj
    obtain ⟨xar, xcr, rfl, -⟩ := hr
    obtain ⟨xas, xcs, rfl, -⟩ := hs
    obtain ⟨xak, xck, rfl, -⟩ := hk
    obtain ⟨xal, xcl, rfl, -⟩ := hl
    obtain ⟨xam, xcm, rfl, -⟩ := hm
    subst hcs
    obtain ⟨rv, hrc, hrv⟩ := hrec
    subst hrc
    have Hrv := hid hrv
    obtain ⟨ra, rk, rfl, -⟩ := hrv
    go_enter Tryz.func105, Tryz.ntmps105
    go_wp2_with fail
    refine wp_box3 ?_
    intro W0 h0 h1 h2 B0 hz
    obtain ⟨k0, k1, k2, k3, k4, k5, k6, k7, k8, k9, k10, k11⟩ := cells12 h0.out
    obtain ⟨r0, r1, r2, r3, r4, r5, r6, r7, r8, r9, r10, r11, r12⟩ := cells13 h1.out
    have hT := hidB_lt (k := 3) hS (show w.heap.size + 3 ≤ W0.heap.size by omega)
    have hsee : Sees (sans S w) (sans (hidB S w.heap.size 3) W0) := sees_grow B0.out (fun b => hidB_old b)
    have HL := hid (Hs.out.listed.sees LisV.sees hsee)
    have HM := hid (Hs.out.msgs.sees MsgV.sees hsee)
    refine wp_par (fun _ => False) (fun _ => True) (List.replicate 12 false) _ [.fix ?_, .fix ?_, .fix ?_, .new (RecBox r (.slice ra r.vars.length rk) 211), .fix ?_, .fix ?_, .fix ?_, .fix ?_, .new (RecBox r (.slice ra r.vars.length rk) 212), .fix ?_, .fix ?_, .fix ?_] (by kernel_rfl) (by kernel_rfl) (by simp only [List.length_replicate, List.drop_succ_cons, List.drop_zero, List.drop_nil]; with_reducible rfl) rfl (fun _ _ _ _ _ => ⟨fun h => h, fun h => h⟩) (fun _ _ h _ => h) trivial ?_
    rotate_left 10
    iterate 3
      first
        | (refine par_skip (a' := ?_) (by rfl) (by rfl) ?_ ?_ ?_; rotate_left 1; with_reducible rfl; (simp only [Act.put, List.setIfInBounds_toArray, List.set_cons_zero, List.set_cons_succ]; with_reducible rfl))
        | (refine par_run (a' := ?_) (by rfl) (by rfl) (fun w' hb hn => ?_) ?_ ?_; rotate_left 1; (have hc := hb.cells; first | (go_simp; (try simp (disch := omega) only [IntWalk.i64_in, IntWalk.i32_in, IntWalk.u64_in, IntWalk.u8_in, IntWalk.u32_in, toNatUp, iteOmega]); with_reducible rfl) | (go_simp; (try simp (disch := omega) only [IntWalk.i64_in, IntWalk.i32_in, IntWalk.u64_in, IntWalk.u8_in, IntWalk.u32_in, toNatUp, iteOmega]); go_simp; with_reducible rfl)); (simp only [Act.put, List.setIfInBounds_toArray, List.set_cons_zero, List.set_cons_succ]; with_reducible rfl))
    refine par_callF (a' := ?a149k3) (f := ?f149k3) (args := ?r149k3) (by rfl) (by rfl) (fun w' => ?e149k3) (RecBox.st _ _ _) (fun w' hb hn => ?h149k3) (fun u => ?p149k3) (fun u => ?g149k3)
    case e149k3 => (go_simp; constructor <;> with_reducible rfl)
    case h149k3 => (exact ofListed_box w' r _)
    case p149k3 => (simp only [Act.put, List.setIfInBounds_toArray, List.set_cons_zero, List.set_cons_succ]; with_reducible rfl)
    refine par_call (a' := ?_) (f := ?_) (args := ?_) (by rfl) (by rfl) (fun w' => ?_) (fun w' hb hn => ?_) ?_ ?_; rotate_left 3; (go_simp; constructor <;> with_reducible rfl); ((obtain ⟨pb, rfl, hpb⟩ := need_head hn (by kernel_rfl); have h := idxLis_list (S := hidB S w.heap.size 3) w' (HL.out.grow LisV.st (sans_grow hb.grow)) sees_refl _ #[.pointer (some ⟨pb, 0, none⟩)] (enters_of Tryz.func211 (by kernel_rfl) rfl) (ofLis r) (fun W x cs _ hx hb => by obtain ⟨v, rfl, -⟩ := hx; exact ofLis_cl W x v r _ pb (keep_at hb hpb)); rw [EL.out] at h; exact h)); (simp only [Act.put, List.setIfInBounds_toArray, List.set_cons_zero, List.set_cons_succ]; with_reducible rfl)
    iterate 3
      first
        | (refine par_skip (a' := ?_) (by rfl) (by rfl) ?_ ?_ ?_; rotate_left 1; with_reducible rfl; (simp only [Act.put, List.setIfInBounds_toArray, List.set_cons_zero, List.set_cons_succ]; with_reducible rfl))
        | (refine par_run (a' := ?_) (by rfl) (by rfl) (fun w' hb hn => ?_) ?_ ?_; rotate_left 1; (have hc := hb.cells; first | (go_simp; (try simp (disch := omega) only [IntWalk.i64_in, IntWalk.i32_in, IntWalk.u64_in, IntWalk.u8_in, IntWalk.u32_in, toNatUp, iteOmega]); with_reducible rfl) | (go_simp; (try simp (disch := omega) only [IntWalk.i64_in, IntWalk.i32_in, IntWalk.u64_in, IntWalk.u8_in, IntWalk.u32_in, toNatUp, iteOmega]); go_simp; with_reducible rfl)); (simp only [Act.put, List.setIfInBounds_toArray, List.set_cons_zero, List.set_cons_succ]; with_reducible rfl))
    refine par_callF (a' := ?a158k8) (f := ?f158k8) (args := ?r158k8) (by rfl) (by rfl) (fun w' => ?e158k8) (RecBox.st _ _ _) (fun w' hb hn => ?h158k8) (fun u => ?p158k8) (fun u => ?g158k8)
    case e158k8 => (go_simp; constructor <;> with_reducible rfl)
    case h158k8 => (exact ofMessage_box w' r _)
    case p158k8 => (simp only [Act.put, List.setIfInBounds_toArray, List.set_cons_zero, List.set_cons_succ]; with_reducible rfl)
    refine par_call (a' := ?_) (f := ?_) (args := ?_) (by rfl) (by rfl) (fun w' => ?_) (fun w' hb hn => ?_) ?_ ?_; rotate_left 3; (go_simp; constructor <;> with_reducible rfl); ((obtain ⟨pb, rfl, hpb⟩ := need_head hn (by kernel_rfl); have h := idxMsg_list (S := hidB S w.heap.size 3) w' (HM.out.grow MsgV.st (sans_grow hb.grow)) sees_refl _ #[.pointer (some ⟨pb, 0, none⟩)] (enters_of Tryz.func212 (by kernel_rfl) rfl) (ofMsg r) (fun W x cs _ hx hb => by obtain ⟨v, u, rfl, -⟩ := hx; exact ofMsg_cl W x v u r _ pb (keep_at hb hpb)); rw [EM.out] at h; exact h)); (simp only [Act.put, List.setIfInBounds_toArray, List.set_cons_zero, List.set_cons_succ]; with_reducible rfl)
    iterate 2
      first
        | (refine par_skip (a' := ?_) (by rfl) (by rfl) ?_ ?_ ?_; rotate_left 1; with_reducible rfl; (simp only [Act.put, List.setIfInBounds_toArray, List.set_cons_zero, List.set_cons_succ]; with_reducible rfl))
        | (refine par_run (a' := ?_) (by rfl) (by rfl) (fun w' hb hn => ?_) ?_ ?_; rotate_left 1; (have hc := hb.cells; first | (go_simp; (try simp (disch := omega) only [IntWalk.i64_in, IntWalk.i32_in, IntWalk.u64_in, IntWalk.u8_in, IntWalk.u32_in, toNatUp, iteOmega]); with_reducible rfl) | (go_simp; (try simp (disch := omega) only [IntWalk.i64_in, IntWalk.i32_in, IntWalk.u64_in, IntWalk.u8_in, IntWalk.u32_in, toNatUp, iteOmega]); go_simp; with_reducible rfl)); (simp only [Act.put, List.setIfInBounds_toArray, List.set_cons_zero, List.set_cons_succ]; with_reducible rfl))
    refine par_end (fun w9 hb9 hf9 _ => ?_)
    replace hb9 := hb9.grow
    try refine wpList_none ?_
    replace hf9 := trivial
    have BV := hid (B0.out.trans (hb9.mono B0.out.size))
    have g0 := hid (keep_at hb9 h0.out)
    have g2 := hid (keep_at hb9 h2.out)
    have hz9 := hb9.size
    have HB9 := hid hb9
    clear k0 k1 k2 k3 k4 k5 k6 k7 k8 k9 k10 k11 r0 r1 r2 r3 r4 r5 r6 r7 r8 r9 r10 r11 r12
    obtain ⟨k0, k1, k2, k3, k4, k5, k6, k7, k8, k9, k10, k11⟩ := cells12 g0.out
    obtain ⟨z0, z1, z2, z3, z4, z5, z6, z7, z8, z9, z10, z11⟩ := cells12 g2.out
    obtain ⟨x0, x1, x2, x3, x4, x5, x6, x7, x8, x9, x10, x11⟩ := frees12 g0.out
    obtain ⟨y0, y1, y2, y3, y4, y5, y6, y7, y8, y9, y10, y11⟩ := frees12 g2.out
    clear h0 h1 h2 hb9 hf9
    go_wp2
    refine post_set12 g2.out ?_
    intro W9 h9 b9
    have bq : But (fun i => i = w.heap.size ∨ i = w.heap.size + 1 + 1) w9 W9 := ((But.refl (fun i => i = w.heap.size) w9).mono (fun _ _ h => .inl h)).trans (b9.out.mono (fun _ _ h => .inr h))
    have hq : Goes (hidB S w.heap.size 3) w9 (hidB S w.heap.size 3) W9 := goes_hid bq (fun i h => .inr (by omega))
    have B9 : Hid (Below w.heap.size w W9) := BV.out.trans (bq.below BV.out.size (fun k h => by omega))
    obtain ⟨k0, k1, k2, k3, k4, k5, k6, k7, k8, k9, k10, k11⟩ := cells12 h9.out
    have hst := Hs.out.put (sans_grow B9.out) (s.pos) (s.done) (s.made) (Hs.out.listed.grow LisV.st (sans_grow B9.out)) (Hs.out.msgs.grow MsgV.st (sans_grow B9.out))
    rw [E.out]
    exact bodyPost_ret (v := .agg #[U s.pos, U s.done, U s.made, .slice xap s.procs.length xcp, .slice xai s.insts.length xci, .slice xat s.tokens.length xct, .slice xaj s.jobs.length xcj, .slice xar s.timers.length xcr, .slice xas s.subs.length xcs, .slice xak s.kept.length xck, .slice xal s.listed.length xcl, .slice xam s.msgs.length xcm]) (by simp [results, Tryz.results105, go_sem, k0, k1, k2, k3, k4, k5, k6, k7, k8, k9, k10, k11]) rfl ⟨[U s.pos, U s.done, U s.made, .slice xap s.procs.length xcp, .slice xai s.insts.length xci, .slice xat s.tokens.length xct, .slice xaj s.jobs.length xcj, .slice xar s.timers.length xcr, .slice xas s.subs.length xcs, .slice xak s.kept.length xck, .slice xal s.listed.length xcl, .slice xam s.msgs.length xcm], rfl, ⟨_, _, _, _, _, _, _, _, _, hst⟩, B9.out⟩
theorem cur_split {cur : Array Value} {c0 c1 c2 c3 c4 c5 c6 : Value} (h : cur.toList.take 7 = [c0, c1, c2, c3, c4, c5, c6]) : ∃ rest, cur = (c0 :: c1 :: c2 :: c3 :: c4 :: c5 :: c6 :: rest).toArray := by
  refine ⟨cur.toList.drop 7, ?_⟩
  have e := List.take_append_drop 7 cur.toList
  rw [h] at e
  apply Array.ext'
  rw [← e]
  rfl
theorem over_cons {c0 c1 c2 c3 c4 c5 c6 d0 d1 d2 d3 d4 d5 d6 : Value} {rest : List Value} : overC (c0 :: c1 :: c2 :: c3 :: c4 :: c5 :: c6 :: rest).toArray 0 [d0, d1, d2, d3, d4, d5, d6] = (d0 :: d1 :: d2 :: d3 :: d4 :: d5 :: d6 :: rest).toArray := by
  simp [overC]
theorem hid_lt {T : Nat → Prop} {w W : World} (hT : ∀ b, T b → b < w.heap.size) (hb : Below w.heap.size w W) : ∀ b, T b → b < W.heap.size := fun b h => Nat.lt_of_lt_of_le (hT b h) hb.size
theorem sending1_to {T : Nat → Prop} {w0 w : World} {r : RecV} {rv lv : Value} {l : List VarV} {pb lb : Nat} (hT : ∀ b, T b → b < w.heap.size) (hp : w.heap[pb]? = some (.cells #[I r.cls, I r.kind, U r.from_, I r.time, U r.key, U r.key2, U r.key3, I r.n, I r.m, .string r.a, .string r.b, .string r.c, rv] 49 (0, 0))) (hl : w.heap[lb]? = some (.cells #[lv] 47 (0, 0))) (hv : VarsAt (sans T w) lv l) (hlen : l.length ≤ 1048576)
    (W : World) (x : LisV) (cs : List Value) (b : Nat) (cur : Array Value) (hx : LisV.at_ w0 cs x) (hb : Below w.heap.size w W) (hbb : w.heap.size ≤ b) (hg : W.heap[b]? = some (.cells cur 58 (0, 0))) (htk : cur.toList.take 7 = cs) :
    Calls Tryz.prog 152 (#[.pointer (some ⟨b, 0, none⟩)] ++ #[.pointer (some ⟨pb, 0, none⟩), .pointer (some ⟨lb, 0, none⟩)]) W fun e w' => e = .returned (.tuple #[]) ∧ But (fun x => x = b) W w' ∧ ∃ us, us.length = 7 ∧ w'.heap[b]? = some (.cells (overC cur 0 us) 58 (0, 0)) ∧ LisV.at_ (sans (fun i => T i ∨ i = b) w') us { x with msg := r.key2, vars := l } := by
  obtain ⟨v, rfl, -⟩ := hx
  obtain ⟨rest, rfl⟩ := cur_split htk
  have h1 := heap_lt hp
  have h2 := heap_lt hl
  refine (sending1_cl W b pb lb x v lv rv rest r l T (hid_lt hT hb) hg (keep_at hb hp) (keep_at hb hl) (hv.sees (sees_grow hb (fun i hi h => h.elim id (fun e => by omega)))) hlen (by omega) (by omega)).mono ?_
  rintro e w' ⟨he, hb', u, h3, h4⟩
  exact ⟨he, hb', _, rfl, by rw [over_cons]; exact h3, u, rfl, h4⟩
theorem sending2_to {T : Nat → Prop} {w : World} {inst ib : Nat} (hT : ∀ b, T b → b < w.heap.size) (hi : w.heap[ib]? = some (.cells #[U inst] 22 (0, 0)))
    (W : World) (x : MsgV) (cs : List Value) (b : Nat) (cur : Array Value) (hx : MsgV.at_ (sans T w) cs x) (hb : Below w.heap.size w W) (hbb : w.heap.size ≤ b) (hg : W.heap[b]? = some (.cells cur 66 (0, 0))) (htk : cur.toList.take 7 = cs) (hlen : x.insts.length ≤ 1000) :
    Calls Tryz.prog 154 (#[.pointer (some ⟨b, 0, none⟩)] ++ #[.pointer (some ⟨ib, 0, none⟩)]) W fun e w' => e = .returned (.tuple #[]) ∧ But (fun x => x = b) W w' ∧ ∃ us, us.length = 7 ∧ w'.heap[b]? = some (.cells (overC cur 0 us) 66 (0, 0)) ∧ MsgV.at_ (sans (fun i => T i ∨ i = b) w') us { x with insts := x.insts ++ [inst] } := by
  obtain ⟨v, u, rfl, hv, hu⟩ := hx
  obtain ⟨rest, rfl⟩ := cur_split htk
  have hs : Sees (sans T w) (sans (fun i => T i ∨ i = b) W) := sees_grow hb (fun i hi h => h.elim id (fun e => by omega))
  refine (sending2_cl W b ib x v u rest inst T (hid_lt hT hb) hg (keep_at hb hi) (hu.sees hs) hlen).mono ?_
  rintro e w' ⟨he, hb', u', h3, h4⟩
  exact ⟨he, hb', _, rfl, by rw [over_cons]; exact h3, v, u', rfl, (hv.sees hs).below (goes_but hb').sans, h4⟩
theorem missed1_to {T : Nat → Prop} {w : World} {inst ib : Nat} (hT : ∀ b, T b → b < w.heap.size) (hi : w.heap[ib]? = some (.cells #[U inst] 22 (0, 0)))
    (W : World) (x : MsgV) (cs : List Value) (b : Nat) (cur : Array Value) (hx : MsgV.at_ (sans T w) cs x) (hb : Below w.heap.size w W) (hbb : w.heap.size ≤ b) (hg : W.heap[b]? = some (.cells cur 66 (0, 0))) (htk : cur.toList.take 7 = cs) (hlen : x.insts.length ≤ 1) :
    Calls Tryz.prog 156 (#[.pointer (some ⟨b, 0, none⟩)] ++ #[.pointer (some ⟨ib, 0, none⟩)]) W fun e w' => e = .returned (.tuple #[]) ∧ But (fun x => x = b) W w' ∧ ∃ us, us.length = 7 ∧ w'.heap[b]? = some (.cells (overC cur 0 us) 66 (0, 0)) ∧ MsgV.at_ (sans (fun i => T i ∨ i = b) w') us { x with insts := withoutBy (fun k => decide (k = inst)) x.insts } := by
  obtain ⟨v, u, rfl, hv, hu⟩ := hx
  obtain ⟨rest, rfl⟩ := cur_split htk
  have hs : Sees (sans T w) (sans (fun i => T i ∨ i = b) W) := sees_grow hb (fun i hi h => h.elim id (fun e => by omega))
  refine (missed1_cl W b ib x v u rest inst T (hid_lt hT hb) hg (keep_at hb hi) (hu.sees hs) hlen).mono ?_
  rintro e w' ⟨he, hb', u', h3, h4⟩
  exact ⟨he, hb', _, rfl, by rw [over_cons]; exact h3, v, u', rfl, (hv.sees hs).below (goes_but hb').sans, h4⟩
end Go.Proofs.YtjkbfoeakeoeiaaGreat
