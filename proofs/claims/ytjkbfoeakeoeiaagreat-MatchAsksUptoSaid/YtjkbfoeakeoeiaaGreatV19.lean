/- Keep: contracts (Se Gx Gy Gz). -/
import Derived.Test.YtjkbfoeakeoeiaaGreatV17
import Derived.Test.YtjkbfoeakeoeiaaGreatV18
namespace Go.Proofs.YtjkbfoeakeoeiaaGreat
set_option maxRecDepth 100000
set_option maxHeartbeats 40000000
set_option linter.unusedSimpArgs false
set_option linter.unusedVariables false
open Go.RowKit Go.Shelf
attribute [local go_sem] Oper.semAt_some
def toldC (x : Told) : List Value := [I x.1, I x.2.1.cls, I x.2.1.kind, U x.2.1.from_, I x.2.1.time, U x.2.1.key, U x.2.1.key2, U x.2.1.key3, I x.2.1.n, I x.2.1.m, .string x.2.1.a, .string x.2.1.b, .string x.2.1.c, x.2.2]
theorem toldC_len (xs : List Told) : (xs.flatMap toldC).length = xs.length * 14 := by
  induction xs with
  | nil => rfl
  | cons x xs ih => rw [List.flatMap_cons, List.length_append, ih, List.length_cons]; simp [toldC]; omega
def cutM {α : Type} (most : Int) (l : List α) : List α := if most < 0 then l else l.take most.toNat
def SendsAt (S : Nat → Prop) (W : World) (v : Value) (l : List (Int × RecV)) : Prop := ∃ xs : List Told, xs.map pj = l ∧ FlatAt 14 W v xs.length (xs.flatMap toldC) ∧ ∀ x ∈ xs, EVv S x.2.2 x.2.1.vars W
theorem VrKept.put {W : World} {l : Nat} {o : Obj} (o' : Obj) (hl : W.heap[l]? = some o) (ho : o.isCells = false) : VrKept W (W.putObj l o') := by
  intro b cs fr hb
  rw [World.putObj_heap_other (by rintro rfl; rw [hb] at hl; cases hl; cases ho)]
  exact hb
theorem VrKept.grown {W W' : World} {row : Option Nat} (hg : W.grownBy W' row) (hr : ∀ r, row = some r → ∃ o : Obj, W.heap[r]? = some o ∧ ∀ cs fr, o ≠ .cells cs 80 fr) : VrKept W W' := by
  intro b cs fr hb
  refine (hg.block b (heap_lt hb) ?_).trans hb
  rintro rfl
  obtain ⟨o, ho, hn⟩ := hr b rfl
  rw [hb] at ho
  cases ho
  exact hn _ _ rfl
theorem VrKept.set {W : World} {B : Nat} {v u : Value} {T : TypeId} (hB : W.heap[B]? = some (.cells #[v] T (0, 0))) (hT : T ≠ 80) : VrKept W (W.setCell ⟨B, 0, none⟩ u) := by
  intro b cs fr hb
  have hne : b ≠ B := by rintro rfl; rw [hb] at hB; cases hB; exact hT rfl
  exact ((set_but W B 0 u).block b (heap_lt hb) hne).trans hb
theorem cells_new (w : World) (cs : List Value) (t : TypeId) : ∀ j u, cs[j]? = some u → (w.alloc (.cells cs.toArray t)).cell? ((⟨w.heap.size, 0, none⟩ : Addr).add j) = some u := by
  intro j u hj
  have ha : (⟨w.heap.size, 0, none⟩ : Addr).add j = ⟨w.heap.size, 0 + j, none⟩ := by unfold Addr.add; split <;> simp_all
  rw [ha, Nat.zero_add, cell_of (alloc_new w (.cells cs.toArray t)) j]
  simpa using hj
theorem send_kept {W w1 : World} {base B n : Nat} {v : Value} {xs : List Value} {tmp : Obj} (hrow : W.ownsRow base 63 14 v n xs) (hv1 : Boxed w1 B 39 v) (hg : (W.alloc tmp).grownBy w1 v.ownBlock) (u : Value) : VrKept W (w1.setCell ⟨B, 0, none⟩ u) := by
  refine (VrKept.below ((Below.refl _ W).alloc (Nat.le_refl _) tmp)).trans ((VrKept.grown hg fun r e => ?_).trans (VrKept.set hv1 (by decide)))
  rcases (hrow.alloc tmp).2 with ⟨rfl, -⟩ | ⟨g, cap, cur, rfl, -, hgb, -⟩
  · cases e
  · cases e
    exact ⟨_, hgb, fun cs fr h => by cases h⟩
theorem infoS : (Tryz.prog.info? 63).map (fun i => (i.zero, i.size, i.bytes)) = some (some (.agg #[.int .i64 0, .int .i64 0, .int .i64 0, .int .u64 0, .int .i64 0, .int .u64 0, .int .u64 0, .int .u64 0, .int .i64 0, .int .i64 0, .string ⟨#[]⟩, .string ⟨#[]⟩, .string ⟨#[]⟩, .slice none 0 0]), 14, 152) := by kernel_rfl
structure SendI (S : Nat → Prop) (w : World) (most : Int) (pre : List Told) (W : World) : Prop where
  row : ∃ v, Boxed W (w.heap.size + 1) 39 v ∧ W.ownsRow w.heap.size 63 14 v pre.length (pre.flatMap toldC)
  box : W.heap[w.heap.size]? = some (.cells #[I most] 3 (0, 0))
  evs : ∀ x ∈ pre, EVv S x.2.2 x.2.1.vars W
  low : Below w.heap.size w W
theorem SendI.own {S : Nat → Prop} {w : World} {most : Int} (B : Nat) (hB : w.heap.size ≤ B) : OwnFrom B (SendI S w most) := by
  rintro pre W W' row ⟨⟨v, hv, hr⟩, hb, he, hl⟩ hg hrow
  have h1 := (Own.from (holdsRow_own w.heap.size (w.heap.size + 1) 39 63 14 (fun pre : List Told => pre.length) (fun pre => pre.flatMap toldC) (fun _ _ => True)) B) pre W W' row ⟨v, hv, hr, trivial⟩ hg hrow
  obtain ⟨v', hv', hr', -⟩ := h1
  have hkeep : VrKept W W' := VrKept.grown hg (fun r e => by
    obtain ⟨-, o, ho, hc⟩ := hrow r e
    exact ⟨o, ho, fun cs fr h => by rw [h] at hc; cases hc⟩)
  refine ⟨⟨v', hv', hr'⟩, ?_, fun x hx => (he x hx).kept hkeep, ownFrom_below (n₀ := w.heap.size) (Nat.le_refl _) hB pre W W' row hl hg hrow⟩
  refine (hg.block _ (heap_lt hb) ?_).trans hb
  intro e
  obtain ⟨-, o, ho, hc⟩ := hrow _ e.symm
  rw [hb] at ho
  cases ho
  cases hc
theorem pend_stops (n : Nat) (hn : 1 ≤ n) (sb pb : Nat) (S : Nat → Prop) (w0 w : World) (s : StateV) (parts : Int) (vp vi vt vj vr vk vm : Value) (sa la : Option Addr) (sc lc N : Nat) (n₀ : Nat) (hn₀ : n₀ = w0.heap.size) (hw : Below w0.heap.size w0 w) (hS : ∀ b, S b → b < w0.heap.size)
    (hs : ListAt SubV.at_ 6 (sans S w0) (.slice sa s.subs.length sc) s.subs) (hl : ListAt LisV.at_ 7 (sans S w0) (.slice la s.listed.length lc) s.listed)
    (hsb : w0.heap[sb]? = some (.cells #[U s.pos, U s.done, U s.made, vp, vi, vt, vj, vr, .slice sa s.subs.length sc, vk, .slice la s.listed.length lc, vm] 33 (0, 0))) (hpb : w0.heap[pb]? = some (.cells #[I parts] 3 (0, 0))) (hp1 : -9223372036854775808 ≤ parts) (hp2 : parts ≤ 9223372036854775807)
    (hsub : ∀ x ∈ s.subs, x.key.size ≤ 140737488355328) (hlis : ∀ x ∈ s.listed, x.token < 18446744073709551616 ∧ x.vars.length ≤ 1048576) (hN : (pendingV s parts).length ≤ N) :
    SeqE Fence.wide n Tryz.prog 23 #[.pointer (some ⟨sb, 0, none⟩), .pointer (some ⟨pb, 0, none⟩)] toldA (Below n₀) (fun x W => EVv S x.2.2 x.2.1.vars W) (fun ys => ys.map pj = pendingV s parts) (fun pre => pre.map pj <+: pendingV s parts) N w := fun l J Jx W hW hJ _ hY h0 => by
  subst hn₀
  exact pendIt_in n hn l sb pb S w0 s parts vp vi vt vj vr vk vm sa la sc lc N hS hs hl hsb hpb hp1 hp2 hsub hlis hN J Jx W (hw.trans (hW.mono hw.size)) hJ hY h0
theorem sends_in (n : Nat) (hn : 3 ≤ n) (sb pb : Nat) (S : Nat → Prop) (w : World) (s : StateV) (parts most : Int) (vp vi vt vj vr vk vm : Value) (sa la : Option Addr) (sc lc : Nat) (hS : ∀ b, S b → b < w.heap.size)
    (hs : ListAt SubV.at_ 6 (sans S w) (.slice sa s.subs.length sc) s.subs) (hl : ListAt LisV.at_ 7 (sans S w) (.slice la s.listed.length lc) s.listed)
    (hsb : w.heap[sb]? = some (.cells #[U s.pos, U s.done, U s.made, vp, vi, vt, vj, vr, .slice sa s.subs.length sc, vk, .slice la s.listed.length lc, vm] 33 (0, 0))) (hpb : w.heap[pb]? = some (.cells #[I parts] 3 (0, 0))) (hp1 : -9223372036854775808 ≤ parts) (hp2 : parts ≤ 9223372036854775807)
    (hsub : ∀ x ∈ s.subs, x.key.size ≤ 140737488355328) (hlis : ∀ x ∈ s.listed, x.token < 18446744073709551616 ∧ x.vars.length ≤ 1048576) (hN : (pendingV s parts).length ≤ 4194304) (hm : I64 most) :
    CallsIn Fence.wide n Tryz.prog 13 #[.func (.func 23) #[] #[.pointer (some ⟨sb, 0, none⟩), .pointer (some ⟨pb, 0, none⟩)], I most] w fun e w' => ∃ u, e = .returned u ∧ SendsAt S w' u (cutM most (pendingV s parts)) ∧ Below w.heap.size w w' := by
  have h1 : 1 ≤ n := by omega
  have hro : Fence.wide.round = none := rfl
  obtain ⟨i0, hi, hz0, hz1, hz2⟩ := info_parts infoS
  refine callsIn_of_wp_marks Tryz.func13 rfl trivial ?_ hro
  simp only [Tryz.ntmps13, List.size_toArray, List.length_cons, List.length_nil, Nat.reduceAdd, Nat.reduceSub, Array.replicate_succ, Array.replicate_zero, List.push_toArray, List.append_toArray, List.nil_append, List.cons_append]
  have bO := Boxed.new (w.alloc (.cells #[I most] 3)) 39 (.slice none 0 0)
  have bM : ((w.alloc (.cells #[I most] 3)).alloc (.cells #[.slice none 0 0] 39)).heap[w.heap.size]? = some (.cells #[I most] 3 (0, 0)) := box2_a
  have hB0 : Below w.heap.size w ((w.alloc (.cells #[I most] 3)).alloc (.cells #[.slice none 0 0] 39)) := box2_b
  rw [World.size_alloc] at bO
  have HO := hid bO
  have HM := hid bM
  have HB0 := hid hB0
  have kM := cell_of bM 0
  have Hm := hid hm
  clear bO bM hB0
  by_cases hz : most = 0
  · subst hz
    gi_wp2
    exact ⟨_, results_tmp rfl _ _ _, _, rfl, ⟨[], rfl, FlatAt.nil 14 _, fun x h => by cases h⟩, HB0.out⟩
  have hzb : (most == 0) = false := by simpa using hz
  gi_wp2
  clear kM hzb
  refine wpIn_tell hro h1 (gf := 23) (lb := #[.pointer (some ⟨sb, 0, none⟩), .pointer (some ⟨pb, 0, none⟩)]) rfl trivial (enters_of Tryz.func23 (by kernel_rfl) rfl)
    (pend_stops (n - 1) (by omega) sb pb S w _ s parts vp vi vt vj vr vk vm sa la sc lc 4194304 w.heap.size rfl HB0.out hS hs hl hsb hpb hp1 hp2 hsub hlis hN) belowK_t (belowK_b (by simp; omega)) (Below.refl _ _) (fun _ => rfl)
    (fun pre W => SendI S w most pre W ∧ (most < 0 ∨ (pre.length : Int) < most))
    (fun c pre W => c = .exit 0 ∧ SendI S w most pre W ∧ (pre.length : Int) = most)
    (fun pre A B row h hg hr => ⟨SendI.own _ (by simp; omega) pre A B row h.1 hg hr, h.2⟩)
    (fun c pre A B row h hg hr => ⟨h.1, SendI.own _ (by simp; omega) pre A B row h.2.1 hg hr, h.2.2⟩)
    ⟨⟨⟨_, HO.out, World.ownsRow_nil _ _ _ _⟩, HM.out, (fun x h => by cases h), HB0.out⟩, by simp; omega⟩
    (fun pre x a' W => SendI S w most pre W ∧ (most < 0 ∨ (pre.length : Int) < most) ∧ EVv S x.2.2 x.2.1.vars W ∧ ∃ rb, W.heap[rb]? = some (.cells #[I x.2.1.cls, I x.2.1.kind, U x.2.1.from_, I x.2.1.time, U x.2.1.key, U x.2.1.key2, U x.2.1.key3, I x.2.1.n, I x.2.1.m, .string x.2.1.a, .string x.2.1.b, .string x.2.1.c, x.2.2] 49 (0, 0)) ∧ a' = { tmps := #[.func (.func 23) #[] #[.pointer (some ⟨sb, 0, none⟩), .pointer (some ⟨pb, 0, none⟩)], I most, undef, .pointer (some ⟨w.heap.size, 0, none⟩), .slice none 0 0, .pointer (some ⟨w.heap.size + 1, 0, none⟩), I x.1, .pointer (some ⟨rb, 0, none⟩), I most, .bool false, .func (.func 23) #[] #[.pointer (some ⟨sb, 0, none⟩), .pointer (some ⟨pb, 0, none⟩)], I x.1, .agg #[I x.2.1.cls, I x.2.1.kind, U x.2.1.from_, I x.2.1.time, U x.2.1.key, U x.2.1.key2, U x.2.1.key3, I x.2.1.n, I x.2.1.m, .string x.2.1.a, .string x.2.1.b, .string x.2.1.c, x.2.2], undef, undef, undef, undef, undef, undef, undef, undef, undef, undef, undef], defers := [] })
    ?hAx ?assign ?body ?done ?stop
  case hAx =>
    rintro pre x a' _ A B row ⟨g1, g2, g3, rb, g4, g5⟩ hg hr
    have hrw : ∀ r, row = some r → ∃ o : Obj, A.heap[r]? = some o ∧ ∀ cs T fr, o ≠ .cells cs T fr := fun r e => by
      obtain ⟨-, o, ho, hc⟩ := hr r e
      exact ⟨o, ho, fun cs T fr h => by rw [h] at hc; cases hc⟩
    refine ⟨SendI.own _ (by simp; omega) pre A B row g1 hg hr, g2, g3.kept (VrKept.grown hg (fun r e => by obtain ⟨o, ho, hn⟩ := hrw r e; exact ⟨o, ho, fun cs fr => hn cs _ fr⟩)), rb, ?_, g5⟩
    refine (hg.block _ (heap_lt g4) ?_).trans g4
    intro e
    obtain ⟨o, ho, hn⟩ := hrw _ e.symm
    rw [g4] at ho
    cases ho
    exact hn _ _ _ rfl
  case assign =>
    rintro l pre ⟨to, r, v⟩ W K ⟨hi1, hi2⟩ hE hK
    have HE := hid hE
    obtain ⟨⟨va, vc, hv, -⟩, -⟩ := hE
    dsimp only at hv HE
    subst hv
    have HI := hid hi1
    have hn1 := hid (alloc_new W (.cells #[I r.cls, I r.kind, U r.from_, I r.time, U r.key, U r.key2, U r.key3, I r.n, I r.m, .string r.a, .string r.b, .string r.c, .slice va r.vars.length vc] 49 (0, 0)))
    have hB1 := hid ((Below.refl _ W).alloc (Nat.le_refl _) (.cells #[I r.cls, I r.kind, U r.from_, I r.time, U r.key, U r.key2, U r.key3, I r.n, I r.m, .string r.a, .string r.b, .string r.c, .slice va r.vars.length vc] 49 (0, 0)))
    clear hi1
    unfold toldA
    dsimp only
    gi_wp2
    exact hK _ _ ((KeepsOthers.alloc W _).from _) (hB1.out.mono HI.out.low.size) ⟨⟨HI.out.row.elim (fun v h => ⟨v, h.1.alloc _, h.2.alloc _⟩), (alloc_old _ (heap_lt HI.out.box)).trans HI.out.box, (fun y hy => (HI.out.evs y hy).grow hB1.out), HI.out.low.trans (hB1.out.mono HI.out.low.size)⟩, hi2, HE.out.grow hB1.out, _, hn1.out, rfl⟩
  case body =>
    rintro l pre ⟨to, r, v⟩ a' W ⟨⟨⟨u, hv, hrow⟩, hbox, hevs, hlow⟩, hlt, hE, rb, hrb, rfl⟩ hlen
    have HE := hid hE
    obtain ⟨⟨va, vc, he, -⟩, -⟩ := hE
    dsimp only at he HE hrb
    subst he
    have hc := hv.cell
    have HEV := hid hevs
    have HRB := hid hrb
    have HBX := hid hbox
    have kb := cell_of hbox 0
    obtain ⟨q0, q1, q2, q3, q4, q5, q6, q7, q8, q9, q10, q11, q12⟩ := cells13 hrb
    clear hevs hrb hbox
    have hbM : Boxed W w.heap.size 3 (I most) := HBX.out
    have hqq : (pre.length : Int) + 1 = most ∨ ¬ ((pre.length : Int) + 1 = most) := Classical.em _
    rcases hqq with hq | hq
    · have hqb : (((pre.length + 1 : Nat) : Int) == most) = true := by rw [beq_iff_eq]; omega
      have hqb2 : ((pre.length : Int) + 1 == most) = true := by rw [beq_iff_eq]; omega
      gi_wp2_with (gi_at_builtin; refine wpListIn_append_own _ rfl _ _ 39 rfl w.heap.size 63 i0 (.agg #[.int .i64 0, .int .i64 0, .int .i64 0, .int .u64 0, .int .i64 0, .int .u64 0, .int .u64 0, .int .u64 0, .int .i64 0, .int .i64 0, .string ⟨#[]⟩, .string ⟨#[]⟩, .string ⟨#[]⟩, .slice none 0 0]) 14 152 Tryz.underlying39 hi hz0 hz1 hz2 rfl (by decide) _ _ _ rfl (hrow.alloc _) ⟨W.heap.size, 0, none⟩ 1 1 (toldC (to, r, .slice va r.vars.length vc)) rfl rfl (cells_new W (toldC (to, r, .slice va r.vars.length vc)) _) (by simp [toldC, Value.oneCell']) (by unfold maxLen; omega) (by omega) (by have := hlow.size; simp; omega) ?_; intro v' w1 hown' hgrow _; obtain ⟨g', cap', rfl⟩ := ownsRow_succ hown'; obtain ⟨hv1, hv2, hr2, hk2, hb2⟩ := hv.appended (by decide) hrow hlow.size (by omega) hown' hgrow; have hc1 := hv1.cell; have hf1 := hv1.frozen; have hc2 := hv2.cell; have hM1 := (hbM.alloc _).kept hgrow (hbM.not_row (by decide) hrow); have hM2 := ((set_but w1 (w.heap.size + 1) 0 (.slice (some ⟨g', 0, none⟩) (pre.length + 1) cap')).block _ (heap_lt hM1) (by omega)).trans hM1; have kM2 := cell_of hM2 0; have hkv := hid (send_kept hrow hv1 hgrow (.slice (some ⟨g', 0, none⟩) (pre.length + 1) cap')))
      exact ⟨hk2.from _, rfl, ⟨⟨_, hv2, by simpa [toldC] using hr2⟩, hM2, (fun y hy => (List.mem_append.1 hy).elim (fun h => (HEV.out y h).kept hkv.out) (fun h => by rw [List.mem_singleton.1 h]; exact HE.out.kept hkv.out)), hlow.trans hb2⟩, by simp; omega⟩
    · have hqb : (((pre.length + 1 : Nat) : Int) == most) = false := by rw [beq_eq_false_iff_ne]; omega
      have hqb2 : ((pre.length : Int) + 1 == most) = false := by rw [beq_eq_false_iff_ne]; omega
      gi_wp2_with (gi_at_builtin; refine wpListIn_append_own _ rfl _ _ 39 rfl w.heap.size 63 i0 (.agg #[.int .i64 0, .int .i64 0, .int .i64 0, .int .u64 0, .int .i64 0, .int .u64 0, .int .u64 0, .int .u64 0, .int .i64 0, .int .i64 0, .string ⟨#[]⟩, .string ⟨#[]⟩, .string ⟨#[]⟩, .slice none 0 0]) 14 152 Tryz.underlying39 hi hz0 hz1 hz2 rfl (by decide) _ _ _ rfl (hrow.alloc _) ⟨W.heap.size, 0, none⟩ 1 1 (toldC (to, r, .slice va r.vars.length vc)) rfl rfl (cells_new W (toldC (to, r, .slice va r.vars.length vc)) _) (by simp [toldC, Value.oneCell']) (by unfold maxLen; omega) (by omega) (by have := hlow.size; simp; omega) ?_; intro v' w1 hown' hgrow _; obtain ⟨g', cap', rfl⟩ := ownsRow_succ hown'; obtain ⟨hv1, hv2, hr2, hk2, hb2⟩ := hv.appended (by decide) hrow hlow.size (by omega) hown' hgrow; have hc1 := hv1.cell; have hf1 := hv1.frozen; have hc2 := hv2.cell; have hM1 := (hbM.alloc _).kept hgrow (hbM.not_row (by decide) hrow); have hM2 := ((set_but w1 (w.heap.size + 1) 0 (.slice (some ⟨g', 0, none⟩) (pre.length + 1) cap')).block _ (heap_lt hM1) (by omega)).trans hM1; have kM2 := cell_of hM2 0; have hkv := hid (send_kept hrow hv1 hgrow (.slice (some ⟨g', 0, none⟩) (pre.length + 1) cap')))
      exact ⟨hk2.from _, hb2, ⟨⟨_, hv2, by simpa [toldC] using hr2⟩, hM2, (fun y hy => (List.mem_append.1 hy).elim (fun h => (HEV.out y h).kept hkv.out) (fun h => by rw [List.mem_singleton.1 h]; exact HE.out.kept hkv.out)), hlow.trans hb2⟩, by simp; omega⟩
  case done =>
    rintro D ys W hD hys ⟨⟨⟨v, hv, hrow⟩, hbox, hevs, hlow⟩, hlt⟩ hK
    have hc := hv.cell
    have hown := ownsRow_putObj hrow (.deferred none) hK rfl
    have hkv : VrKept W (W.putObj D (.deferred none)) := VrKept.put _ hK rfl
    obtain ⟨a, cap, rfl⟩ : ∃ a cap, v = .slice a ys.length cap := by
      obtain ⟨a, cap, e, -⟩ := FlatAt.of_own hrow
      exact ⟨a, cap, e⟩
    have hcut : cutM most (pendingV s parts) = pendingV s parts := by
      unfold cutM
      split
      · rfl
      · have := congrArg List.length hys
        rw [List.length_map] at this
        exact List.take_of_length_le (by omega)
    gi_wp2
    refine ⟨by simp, .inl ⟨_, _, rfl, run_takeDeferred hK, ?_⟩⟩
    exact ⟨_, results_tmp rfl _ _ _, _, rfl, ⟨ys, by rw [hcut]; exact hys, FlatAt.of_own hown, fun x hx => (hevs x hx).kept hkv⟩, hlow.trans (belowK_b (w := w) (Nat.le_refl _) W D _ _ (by simp at hD; omega) hK rfl rfl)⟩
  case stop =>
    rintro D c pre W hD hpre ⟨rfl, ⟨⟨v, hv, hrow⟩, hbox, hevs, hlow⟩, hlt⟩ hK
    have hc := hv.cell
    have hown := ownsRow_putObj hrow (.deferred none) hK rfl
    have hkv : VrKept W (W.putObj D (.deferred none)) := VrKept.put _ hK rfl
    obtain ⟨a, cap, rfl⟩ : ∃ a cap, v = .slice a pre.length cap := by
      obtain ⟨a, cap, e, -⟩ := FlatAt.of_own hrow
      exact ⟨a, cap, e⟩
    have hcut : cutM most (pendingV s parts) = pre.map pj := by
      unfold cutM
      rw [if_neg (by omega)]
      obtain ⟨t, ht⟩ := hpre
      rw [← ht, show most.toNat = (pre.map pj).length by rw [List.length_map]; omega, List.take_left]
    gi_wp2
    refine ⟨by simp, .inl ⟨_, _, rfl, run_takeDeferred hK, ?_⟩⟩
    exact ⟨_, results_tmp rfl _ _ _, _, rfl, ⟨pre, hcut.symm, FlatAt.of_own hown, fun x hx => (hevs x hx).kept hkv⟩, hlow.trans (belowK_b (w := w) (Nat.le_refl _) W D _ _ (by simp at hD; omega) hK rfl rfl)⟩
end Go.Proofs.YtjkbfoeakeoeiaaGreat
namespace Go.Proofs.YtjkbfoeakeoeiaaGreat
set_option maxRecDepth 100000
set_option maxHeartbeats 40000000
set_option linter.unusedSimpArgs false
set_option linter.unusedVariables false
open Go.RowKit
theorem SlR.slseen {S : Nat → Prop} {w : World} {v : Value} {l : List Value} (h : SlR (sans S w) v l) : SlR w v l := h.sees sees_seen
end Go.Proofs.YtjkbfoeakeoeiaaGreat
namespace Go.Proofs.YtjkbfoeakeoeiaaGreat
set_option maxRecDepth 100000
set_option maxHeartbeats 40000000
set_option linter.unusedSimpArgs false
set_option linter.unusedVariables false
open Go.RowKit
theorem Goes.keep {S S' : Nat → Prop} {w w' : World} {b : Nat} {o : Obj} (h : Goes S w S' w') (hb : ¬ S b) (hw : w.heap[b]? = some o) : w'.heap[b]? = some o := (h.but.block b (heap_lt hw) hb).trans hw
end Go.Proofs.YtjkbfoeakeoeiaaGreat
namespace Go.Proofs.YtjkbfoeakeoeiaaGreat
set_option maxRecDepth 100000
set_option maxHeartbeats 40000000
set_option linter.unusedSimpArgs false
set_option linter.unusedVariables false
open Go.RowKit
end Go.Proofs.YtjkbfoeakeoeiaaGreat
