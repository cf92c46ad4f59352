/- Keep: contracts (Gl Gm). -/
import Derived.Test.YtjkbfoeakeoeiaaGreatV11
import Derived.WalkLawsBesides
namespace Go.Proofs.YtjkbfoeakeoeiaaGreat
set_option maxRecDepth 100000
set_option maxHeartbeats 40000000
set_option linter.unusedSimpArgs false
set_option linter.unusedVariables false
open Go.RowKit
abbrev L64 := List (Nat × Value × Nat)
def ents64 (l : L64) : Array MapEntry := (l.map fun p => (⟨.int .i64 (p.1 : Int), p.2.1, p.2.2⟩ : MapEntry)).toArray
def look64 : L64 → Nat → Option Value
  | [], _ => none
  | p :: l, k => if k = p.1 then some p.2.1 else look64 l k
def place64 : L64 → Nat → Nat
  | [], _ => 0
  | p :: l, k => if k = p.1 then 0 else place64 l k + 1
theorem findNow64 (k : Nat) (l : L64) (i : Nat) :
    Instr.findNow (.int .i64) (.int .i64 (k : Int)) (l.map fun p => (⟨.int .i64 (p.1 : Int), p.2.1, p.2.2⟩ : MapEntry)) i = some ((look64 l k).map fun x => (i + place64 l k, x)) := by
  induction l generalizing i with
  | nil => simp [Instr.findNow, look64]
  | cons p l ih =>
    by_cases h : k = p.1
    · have hb : ((k : Int) == (p.1 : Int)) = true := by simp [h]
      simp only [List.map_cons, Instr.findNow, Instr.sameNow, hb, look64, place64, if_pos h]
      simp
    · have hb : ((k : Int) == (p.1 : Int)) = false := by simp; omega
      simp only [List.map_cons, Instr.findNow, Instr.sameNow, hb, look64, place64, if_neg h, ih]
      cases look64 l k <;> simp
      omega
section
variable {P : Program} {w : World} {t K e : TypeId} {mb ck : Nat} {z : Value} {l : L64}
theorem run_findKey64 (hK : P.underlying K = some (.int .i64)) (k : Nat) : (Instr.findKey K (.int .i64 (k : Int)) (ents64 l).toList).run P w = .ok ((look64 l k).map fun x => (place64 l k, x)) w := by
  simp [Instr.findKey, run_underlying hK, ents64, findNow64]
theorem run_checkKey64 (hK : P.underlying K = some (.int .i64)) (b : Bool) (k : Nat) : (Instr.checkKey b 10000 K (.int .i64 (k : Int))).run P w = .ok () w :=
  MapKept.run_checkKey hK (k := .int .i64 (k : Int)) (by simp [MapKept.IsKey]) b 9999
theorem run_lookup64 (ht : P.underlying t = some (.map K e)) (hK : P.underlying K = some (.int .i64)) (hz : (zeroValue e).run P w = .ok z w)
    (hb : w.heap[mb]? = some (.map (ents64 l) ck)) (k : Nat) : (Instr.lookup t (.map (some mb)) (.int .i64 (k : Int)) true).run P w = .ok (.tuple #[(look64 l k).getD z, .bool (look64 l k).isSome]) w := by
  simp only [Instr.lookup]
  simp [run_underlying ht, run_getObj_map hb, run_checkKey64 hK, run_findKey64 hK]
  cases look64 l k <;> simp [hz]
def KAt (w0 W : World) (l : L64) : Prop := W.heap[w0.heap.size]? = some (.map (ents64 l) l.length) ∧ Below w0.heap.size w0 W
theorem ins_step {w0 W : World} (ht : P.underlying t = some (.map K e)) (hK : P.underlying K = some (.int .i64)) (h : Hid (KAt w0 W l)) (k : Nat) (kz : Int) (hkz : kz = k) (v : Value) (hn : look64 l k = none) :
    ∃ W', (Instr.mapUpdate t (.map (some w0.heap.size)) (.int .i64 kz) v).run P W = .ok () W' ∧ Hid (KAt w0 W' (l ++ [(k, v, l.length)])) := by
  subst hkz
  obtain ⟨hb, hB⟩ := h.out
  refine ⟨setB W w0.heap.size (.map (ents64 (l ++ [(k, v, l.length)])) (l.length + 1)), ?_, ?_, ?_⟩
  · unfold Instr.mapUpdate
    simp [run_underlying ht, run_getObj_map hb, run_checkKey64 hK, run_findKey64 hK, hn, run_setObj_map hb]
    simp [ents64]
  · have := setB_at W (.map (ents64 (l ++ [(k, v, l.length)])) (l.length + 1)) (heap_lt hb)
    simpa using this
  · exact ((But.of (w := w0) hB).setB (F := fun _ => False) (fun h => by omega) _).below (Nat.le_refl _) (fun _ h => h.elim)
end
def fnV (f : Nat) : Value := .func (.func f) #[] #[]
def kindTab : L64 := [(1, fnV 87, 0), (2, fnV 88, 1), (3, fnV 89, 2), (4, fnV 90, 3), (6, fnV 91, 4), (7, fnV 92, 5), (8, fnV 93, 6), (9, fnV 94, 7), (10, fnV 95, 8), (11, fnV 96, 9), (12, fnV 97, 10), (13, fnV 98, 11), (14, fnV 99, 12), (15, fnV 100, 13), (16, fnV 100, 14), (17, fnV 101, 15), (18, fnV 102, 16), (19, fnV 103, 17), (20, fnV 104, 18), (21, fnV 105, 19), (22, fnV 106, 20), (23, fnV 107, 21)]
theorem kinds_any (w : World) : Calls Tryz.prog 79 #[] w fun e w' => ∃ u, e = .returned u ∧ (∃ mb, u = .map (some mb) ∧ w'.heap[mb]? = some (.map (ents64 kindTab) 22)) ∧ Below w.heap.size w w' := by
  have hmm := @run_makeMap Tryz.prog
  have b0 : Hid (KAt w (w.alloc (.map #[] 0)) []) := ⟨alloc_new w _, (Below.refl _ w).alloc (Nat.le_refl _) _⟩
  have hu := Tryz.underlying157
  have hi := Tryz.underlying3
  obtain ⟨W1, i1, b1⟩ := ins_step hu hi b0 1 1 rfl (fnV 87) rfl
  unfold fnV at i1
  obtain ⟨W2, i2, b2⟩ := ins_step hu hi b1 2 2 rfl (fnV 88) rfl
  unfold fnV at i2
  obtain ⟨W3, i3, b3⟩ := ins_step hu hi b2 3 3 rfl (fnV 89) rfl
  unfold fnV at i3
  obtain ⟨W4, i4, b4⟩ := ins_step hu hi b3 4 4 rfl (fnV 90) rfl
  unfold fnV at i4
  obtain ⟨W5, i5, b5⟩ := ins_step hu hi b4 6 6 rfl (fnV 91) rfl
  unfold fnV at i5
  obtain ⟨W6, i6, b6⟩ := ins_step hu hi b5 7 7 rfl (fnV 92) rfl
  unfold fnV at i6
  obtain ⟨W7, i7, b7⟩ := ins_step hu hi b6 8 8 rfl (fnV 93) rfl
  unfold fnV at i7
  obtain ⟨W8, i8, b8⟩ := ins_step hu hi b7 9 9 rfl (fnV 94) rfl
  unfold fnV at i8
  obtain ⟨W9, i9, b9⟩ := ins_step hu hi b8 10 10 rfl (fnV 95) rfl
  unfold fnV at i9
  obtain ⟨W10, i10, b10⟩ := ins_step hu hi b9 11 11 rfl (fnV 96) rfl
  unfold fnV at i10
  obtain ⟨W11, i11, b11⟩ := ins_step hu hi b10 12 12 rfl (fnV 97) rfl
  unfold fnV at i11
  obtain ⟨W12, i12, b12⟩ := ins_step hu hi b11 13 13 rfl (fnV 98) rfl
  unfold fnV at i12
  obtain ⟨W13, i13, b13⟩ := ins_step hu hi b12 14 14 rfl (fnV 99) rfl
  unfold fnV at i13
  obtain ⟨W14, i14, b14⟩ := ins_step hu hi b13 15 15 rfl (fnV 100) rfl
  unfold fnV at i14
  obtain ⟨W15, i15, b15⟩ := ins_step hu hi b14 16 16 rfl (fnV 100) rfl
  unfold fnV at i15
  obtain ⟨W16, i16, b16⟩ := ins_step hu hi b15 17 17 rfl (fnV 101) rfl
  unfold fnV at i16
  obtain ⟨W17, i17, b17⟩ := ins_step hu hi b16 18 18 rfl (fnV 102) rfl
  unfold fnV at i17
  obtain ⟨W18, i18, b18⟩ := ins_step hu hi b17 19 19 rfl (fnV 103) rfl
  unfold fnV at i18
  obtain ⟨W19, i19, b19⟩ := ins_step hu hi b18 20 20 rfl (fnV 104) rfl
  unfold fnV at i19
  obtain ⟨W20, i20, b20⟩ := ins_step hu hi b19 21 21 rfl (fnV 105) rfl
  unfold fnV at i20
  obtain ⟨W21, i21, b21⟩ := ins_step hu hi b20 22 22 rfl (fnV 106) rfl
  unfold fnV at i21
  obtain ⟨W22, i22, b22⟩ := ins_step hu hi b21 23 23 rfl (fnV 107) rfl
  unfold fnV at i22
  go_enter Tryz.func79, Tryz.ntmps79
  clear hu hi
  go_wp2
  go_ret
  exact ⟨_, rfl, ⟨_, rfl, b22.out.1⟩, b22.out.2⟩
end Go.Proofs.YtjkbfoeakeoeiaaGreat
namespace Go.Proofs.YtjkbfoeakeoeiaaGreat
set_option maxRecDepth 100000
set_option maxHeartbeats 40000000
set_option linter.unusedSimpArgs false
set_option linter.unusedVariables false
open Go.IntWalk Go.RowKit
theorem zeroFn (w : World) : (zeroValue 155).run Tryz.prog w = .ok .nilFunc w := by kernel_rfl
theorem kind_look (w : World) (mb : Nat) (h : w.heap[mb]? = some (.map (ents64 kindTab) 22)) (k : Nat) : (Instr.lookup 157 (.map (some mb)) (.int .i64 (k : Int)) true).run Tryz.prog w = .ok (.tuple #[(look64 kindTab k).getD .nilFunc, .bool (look64 kindTab k).isSome]) w :=
  run_lookup64 Tryz.underlying157 Tryz.underlying3 (zeroFn w) h k
theorem list_shape {α : Type} {R : World → List Value → α → Prop} {k : Nat} {w : World} {v : Value} {l : List α} (h : ListAt R k w v l) : ∃ a c, v = .slice a l.length c := by
  obtain ⟨a, c, rfl, -⟩ := h
  exact ⟨a, c, rfl⟩
theorem StateAt.shapes {w : World} {cs : List Value} {s : StateV} {vp vi vt vj vr vs vk vl vm : Value} (h : StateAt w cs s vp vi vt vj vr vs vk vl vm) : (∃ a c, vp = .slice a s.procs.length c) ∧ (∃ a c, vi = .slice a s.insts.length c) ∧ (∃ a c, vt = .slice a s.tokens.length c) ∧ (∃ a c, vj = .slice a s.jobs.length c) ∧ (∃ a c, vr = .slice a s.timers.length c) ∧ (∃ a c, vs = .slice a s.subs.length c) ∧ (∃ a c, vk = .slice a s.kept.length c) ∧ (∃ a c, vl = .slice a s.listed.length c) ∧ (∃ a c, vm = .slice a s.msgs.length c) :=
  ⟨list_shape h.procs, list_shape h.insts, list_shape h.tokens, list_shape h.jobs, list_shape h.timers, list_shape h.subs, list_shape h.kept, list_shape h.listed, list_shape h.msgs⟩
theorem StateAt.sees {w0 W : World} {cs : List Value} {s : StateV} {vp vi vt vj vr vs vk vl vm : Value} (hs : Sees w0 W) (h : StateAt w0 cs s vp vi vt vj vr vs vk vl vm) : StateAt W cs s vp vi vt vj vr vs vk vl vm :=
  ⟨h.cells, h.procs.sees DepV.sees hs, h.insts.sees InstV.sees hs, h.tokens.sees TokV.sees hs, h.jobs.sees JobV.sees hs, h.timers.sees TimV.sees hs, h.subs.sees SubV.sees hs, h.kept.sees KeptV.sees hs, h.listed.sees LisV.sees hs, h.msgs.sees MsgV.sees hs⟩
theorem StateAt.upd {w0 W : World} {cs : List Value} {s : StateV} {vp vi vt vj vr vs vk vl vm : Value} (h : StateAt w0 cs s vp vi vt vj vr vs vk vl vm) (hb : Below w0.heap.size w0 W) (pos done made : Nat) :
    StateAt W [U pos, U done, U made, vp, vi, vt, vj, vr, vs, vk, vl, vm] { s with pos := pos, done := done, made := made } vp vi vt vj vr vs vk vl vm := h.put hb pos done made (h.listed.grow LisV.st hb) (h.msgs.grow MsgV.st hb)
theorem applyDo_any (S : Nat → Prop) (w : World) (s : StateV) (r : RecV) (cs rc : List Value) (pos k f : Nat) (g : StateV) (hS : ∀ b, S b → b < w.heap.size) (hs : StAt S w cs s) (hrec : RecAt S w rc r) (hcls : r.cls = 2) (hk : r.kind = (k : Int)) (hf : look64 kindTab k = some (fnV f))
    (ef : ∀ args w, (callFunc f args).run Tryz.prog w = .ok (.enter f args) w) (hdo : s.done < 18446744073709551616 ∧ r.from_ < 18446744073709551616)
    (hg : ∀ (T : Nat → Prop) (W : World) (cs' : List Value), (∀ b, T b → b < W.heap.size) → StAt T W cs' { s with pos := pos, done := max s.done r.from_ } → RecAt T W rc r → Calls Tryz.prog f #[.agg cs'.toArray, .agg rc.toArray] W fun e w' => ∃ cs'', e = .returned (.agg cs''.toArray) ∧ StAt T w' cs'' g ∧ Below W.heap.size W w') :
    Calls Tryz.prog 68 #[.agg cs.toArray, U pos, .agg rc.toArray] w fun e w' => ∃ cs', e = .returned (.agg cs'.toArray) ∧ StAt S w' cs' g ∧ Below w.heap.size w w' := by
  have Hg := hid hg
  have Hrec := hid hrec
  have Hk := hid hk
  have q1 : (r.cls != 2) = false := by rw [hcls]; rfl
  have q2 : (r.cls == 2) = true := by rw [hcls]; rfl
  clear hg hk hcls
  obtain ⟨vp, vi, vt, vj, vr, vs, vk, vl, vm, hs⟩ := hs
  have Hs := hid hs
  obtain ⟨hcs, hp, hi, ht, hj, hr, hs, hk, hl, hm⟩ := hs
  obtain ⟨xap, xcp, rfl, -⟩ := hp
  obtain ⟨xai, xci, rfl, -⟩ := hi
  obtain ⟨xat, xct, rfl, -⟩ := ht
  obtain ⟨xaj, xcj, rfl, -⟩ := hj
  obtain ⟨xar, xcr, rfl, -⟩ := hr
  obtain ⟨xas, xcs, rfl, -⟩ := hs
  obtain ⟨xak, xck, rfl, -⟩ := hk
  obtain ⟨xal, xcl, rfl, -⟩ := hl
  obtain ⟨xam, xcm, rfl, -⟩ := hm
  subst hcs
  obtain ⟨rv, hrc, hrv⟩ := hrec
  subst hrc
  have Hrv := hid hrv
  obtain ⟨ra, rk, rfl, -⟩ := hrv
  go_enter Tryz.func68, Tryz.ntmps68
  go_wp2_with fail
  refine wp_box3 ?_
  intro W0 h0 h1 h2 B0 hz
  have em : max (s.done : Int) (r.from_ : Int) = ((max s.done r.from_ : Nat) : Int) := by omega
  rw [em] at h0
  obtain ⟨k0, k1, k2, k3, k4, k5, k6, k7, k8, k9, k10, k11⟩ := cells12 h0.out
  obtain ⟨r0, r1, r2, r3, r4, r5, r6, r7, r8, r9, r10, r11, r12⟩ := cells13 h1.out
  have hT := hidB_lt (k := 3) hS (show w.heap.size + 3 ≤ W0.heap.size by omega)
  have hsee : Sees (sans S w) (sans (hidB S w.heap.size 3) W0) := sees_grow B0.out (fun b => hidB_old b)
  have hst := hid ((Hs.out.sees hsee).upd (Below.refl _ _) pos (max s.done r.from_) s.made)
  have HR0 := hid (RecV.sees _ _ _ _ hsee Hrec.out)
  rw [Hk.out] at r1
  clear em
  refine wp_par (fun _ => False) (fun _ => True) (List.replicate 9 false) _ [.new (fun u W => ∃ mb, u = .map (some mb) ∧ W.heap[mb]? = some (.map (ents64 kindTab) 22)), .fix ?_, .fix ?_, .fix (.tuple #[fnV f, .bool true]), .fix ?_, .fix ?_, .fix ?_, .fix ?_, .fix ?_] (by kernel_rfl) (by kernel_rfl) (by simp only [List.length_replicate, List.drop_succ_cons, List.drop_zero, List.drop_nil]; with_reducible rfl) rfl (fun _ _ _ _ _ => ⟨fun h => h, fun h => h⟩) (fun _ _ h _ => h) trivial ?_
  rotate_left 7
  refine par_callF (a' := ?a61k0) (f := ?f61k0) (args := ?r61k0) (by rfl) (by rfl) (fun w' => ?e61k0) (fun _ _ _ ⟨mb, hu, hm⟩ hb => ⟨mb, hu, keep_at hb hm⟩) (fun w' hb hn => ?h61k0) (fun u => ?p61k0) (fun u => ?g61k0)
  case e61k0 => (go_simp; constructor <;> with_reducible rfl)
  case h61k0 => (exact kinds_any w')
  case p61k0 => (simp only [Act.put, List.setIfInBounds_toArray, List.set_cons_zero, List.set_cons_succ]; with_reducible rfl)
  iterate 2
    first
      | (refine par_skip (a' := ?_) (by rfl) (by rfl) ?_ ?_ ?_; rotate_left 1; with_reducible rfl; (simp only [Act.put, List.setIfInBounds_toArray, List.set_cons_zero, List.set_cons_succ]; with_reducible rfl))
      | (refine par_run (a' := ?_) (by rfl) (by rfl) (fun w' hb hn => ?_) ?_ ?_; rotate_left 1; (have hc := hb.cells; first | (go_simp; (try simp (disch := omega) only [IntWalk.i64_in, IntWalk.i32_in, IntWalk.u64_in, IntWalk.u8_in, IntWalk.u32_in, toNatUp, iteOmega]); with_reducible rfl) | (go_simp; (try simp (disch := omega) only [IntWalk.i64_in, IntWalk.i32_in, IntWalk.u64_in, IntWalk.u8_in, IntWalk.u32_in, toNatUp, iteOmega]); go_simp; with_reducible rfl)); (simp only [Act.put, List.setIfInBounds_toArray, List.set_cons_zero, List.set_cons_succ]; with_reducible rfl))
  refine par_run (a' := ?a69k3) (by rfl) (by rfl) (fun w' hb hn => ?h69k3) ?p69k3 ?g69k3
  case h69k3 => (have hc := hb.cells; go_simp; (try simp (disch := omega) only [IntWalk.i64_in, IntWalk.i32_in, IntWalk.u64_in, IntWalk.u8_in, IntWalk.u32_in, toNatUp, iteOmega]); (obtain ⟨mb, rfl, hmb⟩ := need_head hn (by kernel_rfl); have hlk := kind_look w' mb hmb k; rw [hf] at hlk; simp only [Option.getD_some, Option.isSome_some] at hlk; go_simp))
  case p69k3 => (simp only [Act.put, List.setIfInBounds_toArray, List.set_cons_zero, List.set_cons_succ]; with_reducible rfl)
  iterate 5
    first
      | (refine par_skip (a' := ?_) (by rfl) (by rfl) ?_ ?_ ?_; rotate_left 1; with_reducible rfl; (simp only [Act.put, List.setIfInBounds_toArray, List.set_cons_zero, List.set_cons_succ]; with_reducible rfl))
      | (refine par_run (a' := ?_) (by rfl) (by rfl) (fun w' hb hn => ?_) ?_ ?_; rotate_left 1; (have hc := hb.cells; first | (go_simp; (try simp (disch := omega) only [IntWalk.i64_in, IntWalk.i32_in, IntWalk.u64_in, IntWalk.u8_in, IntWalk.u32_in, toNatUp, iteOmega]); with_reducible rfl) | (go_simp; (try simp (disch := omega) only [IntWalk.i64_in, IntWalk.i32_in, IntWalk.u64_in, IntWalk.u8_in, IntWalk.u32_in, toNatUp, iteOmega]); go_simp; with_reducible rfl)); (simp only [Act.put, List.setIfInBounds_toArray, List.set_cons_zero, List.set_cons_succ]; with_reducible rfl))
  refine par_end (fun w9 hb9 hf9 _ => ?_)
  replace hb9 := hb9.grow
  try refine wpList_none ?_
  have B1 := hid (B0.out.trans (hb9.mono B0.out.size))
  have g0 := hid (keep_at hb9 h0.out)
  have g1 := hid (keep_at hb9 h1.out)
  have g2 := hid (keep_at hb9 h2.out)
  have hst9 := hid (hst.out.grow (sans_grow hb9))
  have HR9 := hid (RecAt.grow (S := hidB S w.heap.size 3) HR0.out hb9)
  have hb9' := hb9
  clear hf9 hb9 h0 h1 h2 hst HR0 k0 k1 k2 k3 k4 k5 k6 k7 k8 k9 k10 k11 r0 r1 r2 r3 r4 r5 r6 r7 r8 r9 r10 r11 r12
  obtain ⟨k0, k1, k2, k3, k4, k5, k6, k7, k8, k9, k10, k11⟩ := cells12 g0.out
  obtain ⟨r0, r1, r2, r3, r4, r5, r6, r7, r8, r9, r10, r11, r12⟩ := cells13 g1.out
  unfold fnV
  go_wp2_with (go_at_fn f; refine (Hg.out (hidB S w.heap.size 3) w9 _ (hid_lt hT hb9') ⟨_, _, _, _, _, _, _, _, _, hst9.out⟩ HR9.out).mono ?_; rintro e w2 ⟨cs2, rfl, ⟨vp, vi, vt, vj, vr, vs, vk, vl, vm, hs2⟩, b2⟩; have hcs2 := hs2.cells; have hsh := hs2.shapes; obtain ⟨⟨pa, pc, rfl⟩, ⟨ia, ic, rfl⟩, ⟨ta, tc, rfl⟩, ⟨ja, jc, rfl⟩, ⟨ma, mc, rfl⟩, ⟨sa, sc, rfl⟩, ⟨ka, kc, rfl⟩, ⟨la, lc, rfl⟩, ⟨na, nc, rfl⟩⟩ := hsh; subst hcs2; have Hs2 := hid hs2; have B2 := hid b2; have b2s := hid (show w.heap.size + 2 < w2.heap.size from by have := heap_lt (keep_at b2 g2.out); omega); have g22 := hid (keep_at b2 g2.out); obtain ⟨z0, z1, z2, z3, z4, z5, z6, z7, z8, z9, z10, z11⟩ := cells12 g22.out; obtain ⟨y0, y1, y2, y3, y4, y5, y6, y7, y8, y9, y10, y11⟩ := frees12 g22.out; clear hs2 b2 k0 k1 k2 k3 k4 k5 k6 k7 k8 k9 k10 k11 r0 r1 r2 r3 r4 r5 r6 r7 r8 r9 r10 r11 r12)
  refine post_set12 g22.out ?_
  intro W9 h9 b9
  have hz2 := b2s.out
  have hq : Goes (hidB S w.heap.size 3) w2 (hidB S w.heap.size 3) W9 := goes_hid b9.out (fun i h => .inr (by omega))
  have B9 : Hid (Below w.heap.size w W9) := (B1.out.trans (B2.out.mono B1.out.size)).trans (b9.out.below (by omega) (fun k h => by omega))
  obtain ⟨k0, k1, k2, k3, k4, k5, k6, k7, k8, k9, k10, k11⟩ := cells12 h9.out
  exact bodyPost_ret (v := .agg #[U g.pos, U g.done, U g.made, .slice pa g.procs.length pc, .slice ia g.insts.length ic, .slice ta g.tokens.length tc, .slice ja g.jobs.length jc, .slice ma g.timers.length mc, .slice sa g.subs.length sc, .slice ka g.kept.length kc, .slice la g.listed.length lc, .slice na g.msgs.length nc]) (by simp [results, Tryz.results68, go_sem, k0, k1, k2, k3, k4, k5, k6, k7, k8, k9, k10, k11]) rfl ⟨[_, _, _, _, _, _, _, _, _, _, _, _], rfl, ⟨_, _, _, _, _, _, _, _, _, (Hs2.out.grow hq.sans).sees hidB_sees⟩, B9.out⟩
end Go.Proofs.YtjkbfoeakeoeiaaGreat
