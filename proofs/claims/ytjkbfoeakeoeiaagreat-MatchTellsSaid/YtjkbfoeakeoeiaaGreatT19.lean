/- Keep: contracts (Se Gx Gy). -/
import Derived.Test.YtjkbfoeakeoeiaaGreatT17
import Derived.Test.YtjkbfoeakeoeiaaGreatT18
namespace Go.Proofs.YtjkbfoeakeoeiaaGreat
set_option maxRecDepth 100000
set_option maxHeartbeats 40000000
set_option linter.unusedSimpArgs false
set_option linter.unusedVariables false
open Go.RowKit Go.Shelf
attribute [local go_sem] Oper.semAt_some
def toldC (x : Told) : List Value := [I x.1, I x.2.1.cls, I x.2.1.kind, U x.2.1.from_, I x.2.1.time, U x.2.1.key, U x.2.1.key2, U x.2.1.key3, I x.2.1.n, I x.2.1.m, .string x.2.1.a, .string x.2.1.b, .string x.2.1.c, x.2.2]
def cutM {α : Type} (most : Int) (l : List α) : List α := if most < 0 then l else l.take most.toNat
def SendsAt (S : Nat → Prop) (W : World) (v : Value) (l : List (Int × RecV)) : Prop := ∃ xs : List Told, xs.map pj = l ∧ FlatAt 14 W v xs.length (xs.flatMap toldC) ∧ ∀ x ∈ xs, EVv S x.2.2 x.2.1.vars W
theorem VrKept.put {W : World} {l : Nat} {o : Obj} (o' : Obj) (hl : W.heap[l]? = some o) (ho : o.isCells = false) : VrKept W (W.putObj l o') := by
  intro b cs fr hb
  rw [World.putObj_heap_other (by rintro rfl; rw [hb] at hl; cases hl; cases ho)]
  exact hb
theorem VrKept.grown {W W' : World} {row : Option Nat} (hg : W.grownBy W' row) (hr : ∀ r, row = some r → ∃ o : Obj, W.heap[r]? = some o ∧ ∀ cs fr, o ≠ .cells cs 80 fr) : VrKept W W' := by
  intro b cs fr hb
  refine (hg.block b (heap_lt hb) ?_).trans hb
  rintro rfl
  obtain ⟨o, ho, hn⟩ := hr b rfl
  rw [hb] at ho
  cases ho
  exact hn _ _ rfl
theorem VrKept.set {W : World} {B : Nat} {v u : Value} {T : TypeId} (hB : W.heap[B]? = some (.cells #[v] T (0, 0))) (hT : T ≠ 80) : VrKept W (W.setCell ⟨B, 0, none⟩ u) := by
  intro b cs fr hb
  have hne : b ≠ B := by rintro rfl; rw [hb] at hB; cases hB; exact hT rfl
  exact ((set_but W B 0 u).block b (heap_lt hb) hne).trans hb
theorem cells_new (w : World) (cs : List Value) (t : TypeId) : ∀ j u, cs[j]? = some u → (w.alloc (.cells cs.toArray t)).cell? ((⟨w.heap.size, 0, none⟩ : Addr).add j) = some u := by
  intro j u hj
  have ha : (⟨w.heap.size, 0, none⟩ : Addr).add j = ⟨w.heap.size, 0 + j, none⟩ := by unfold Addr.add; split <;> simp_all
  rw [ha, Nat.zero_add, cell_of (alloc_new w (.cells cs.toArray t)) j]
  simpa using hj
theorem send_kept {W w1 : World} {base B n : Nat} {v : Value} {xs : List Value} {tmp : Obj} (hrow : W.ownsRow base 63 14 v n xs) (hv1 : Boxed w1 B 39 v) (hg : (W.alloc tmp).grownBy w1 v.ownBlock) (u : Value) : VrKept W (w1.setCell ⟨B, 0, none⟩ u) := by
  refine (VrKept.below ((Below.refl _ W).alloc (Nat.le_refl _) tmp)).trans ((VrKept.grown hg fun r e => ?_).trans (VrKept.set hv1 (by decide)))
  rcases (hrow.alloc tmp).2 with ⟨rfl, -⟩ | ⟨g, cap, cur, rfl, -, hgb, -⟩
  · cases e
  · cases e
    exact ⟨_, hgb, fun cs fr h => by cases h⟩
theorem infoS : (Tryz.prog.info? 63).map (fun i => (i.zero, i.size, i.bytes)) = some (some (.agg #[.int .i64 0, .int .i64 0, .int .i64 0, .int .u64 0, .int .i64 0, .int .u64 0, .int .u64 0, .int .u64 0, .int .i64 0, .int .i64 0, .string ⟨#[]⟩, .string ⟨#[]⟩, .string ⟨#[]⟩, .slice none 0 0]), 14, 152) := by kernel_rfl
structure SendI (S : Nat → Prop) (w : World) (most : Int) (pre : List Told) (W : World) : Prop where
  row : ∃ v, Boxed W (w.heap.size + 1) 39 v ∧ W.ownsRow w.heap.size 63 14 v pre.length (pre.flatMap toldC)
  box : W.heap[w.heap.size]? = some (.cells #[I most] 3 (0, 0))
  evs : ∀ x ∈ pre, EVv S x.2.2 x.2.1.vars W
  low : Below w.heap.size w W
theorem SendI.own {S : Nat → Prop} {w : World} {most : Int} (B : Nat) (hB : w.heap.size ≤ B) : OwnFrom B (SendI S w most) := by
  rintro pre W W' row ⟨⟨v, hv, hr⟩, hb, he, hl⟩ hg hrow
  have h1 := (Own.from (holdsRow_own w.heap.size (w.heap.size + 1) 39 63 14 (fun pre : List Told => pre.length) (fun pre => pre.flatMap toldC) (fun _ _ => True)) B) pre W W' row ⟨v, hv, hr, trivial⟩ hg hrow
  obtain ⟨v', hv', hr', -⟩ := h1
  have hkeep : VrKept W W' := VrKept.grown hg (fun r e => by
    obtain ⟨-, o, ho, hc⟩ := hrow r e
    exact ⟨o, ho, fun cs fr h => by rw [h] at hc; cases hc⟩)
  refine ⟨⟨v', hv', hr'⟩, ?_, fun x hx => (he x hx).kept hkeep, ownFrom_below (n₀ := w.heap.size) (Nat.le_refl _) hB pre W W' row hl hg hrow⟩
  refine (hg.block _ (heap_lt hb) ?_).trans hb
  intro e
  obtain ⟨-, o, ho, hc⟩ := hrow _ e.symm
  rw [hb] at ho
  cases ho
  cases hc
theorem pend_stops (n : Nat) (hn : 1 ≤ n) (sb pb : Nat) (S : Nat → Prop) (w0 w : World) (s : StateV) (parts : Int) (vp vi vt vj vr vk vm : Value) (sa la : Option Addr) (sc lc N : Nat) (n₀ : Nat) (hn₀ : n₀ = w0.heap.size) (hw : Below w0.heap.size w0 w) (hS : ∀ b, S b → b < w0.heap.size)
    (hs : ListAt SubV.at_ 6 (sans S w0) (.slice sa s.subs.length sc) s.subs) (hl : ListAt LisV.at_ 7 (sans S w0) (.slice la s.listed.length lc) s.listed)
    (hsb : w0.heap[sb]? = some (.cells #[U s.pos, U s.done, U s.made, vp, vi, vt, vj, vr, .slice sa s.subs.length sc, vk, .slice la s.listed.length lc, vm] 33 (0, 0))) (hpb : w0.heap[pb]? = some (.cells #[I parts] 3 (0, 0))) (hp1 : -9223372036854775808 ≤ parts) (hp2 : parts ≤ 9223372036854775807)
    (hsub : ∀ x ∈ s.subs, x.key.size ≤ 140737488355328) (hlis : ∀ x ∈ s.listed, x.token < 18446744073709551616 ∧ x.vars.length ≤ 1048576) (hN : (pendingV s parts).length ≤ N) :
    SeqE Fence.wide n Tryz.prog 23 #[.pointer (some ⟨sb, 0, none⟩), .pointer (some ⟨pb, 0, none⟩)] toldA (Below n₀) (fun x W => EVv S x.2.2 x.2.1.vars W) (fun ys => ys.map pj = pendingV s parts) (fun pre => pre.map pj <+: pendingV s parts) N w := fun l J Jx W hW hJ _ hY h0 => by
  subst hn₀
  exact pendIt_in n hn l sb pb S w0 s parts vp vi vt vj vr vk vm sa la sc lc N hS hs hl hsb hpb hp1 hp2 hsub hlis hN J Jx W (hw.trans (hW.mono hw.size)) hJ hY h0
theorem sends_in (n : Nat) (hn : 3 ≤ n) (sb pb : Nat) (S : Nat → Prop) (w : World) (s : StateV) (parts most : Int) (vp vi vt vj vr vk vm : Value) (sa la : Option Addr) (sc lc : Nat) (hS : ∀ b, S b → b < w.heap.size)
    (hs : ListAt SubV.at_ 6 (sans S w) (.slice sa s.subs.length sc) s.subs) (hl : ListAt LisV.at_ 7 (sans S w) (.slice la s.listed.length lc) s.listed)
    (hsb : w.heap[sb]? = some (.cells #[U s.pos, U s.done, U s.made, vp, vi, vt, vj, vr, .slice sa s.subs.length sc, vk, .slice la s.listed.length lc, vm] 33 (0, 0))) (hpb : w.heap[pb]? = some (.cells #[I parts] 3 (0, 0))) (hp1 : -9223372036854775808 ≤ parts) (hp2 : parts ≤ 9223372036854775807)
    (hsub : ∀ x ∈ s.subs, x.key.size ≤ 140737488355328) (hlis : ∀ x ∈ s.listed, x.token < 18446744073709551616 ∧ x.vars.length ≤ 1048576) (hN : (pendingV s parts).length ≤ 4194304) (hm : I64 most) :
    CallsIn Fence.wide n Tryz.prog 13 #[.func (.func 23) #[] #[.pointer (some ⟨sb, 0, none⟩), .pointer (some ⟨pb, 0, none⟩)], I most] w fun e w' => ∃ u, e = .returned u ∧ SendsAt S w' u (cutM most (pendingV s parts)) ∧ Below w.heap.size w w' := by
  have h1 : 1 ≤ n := by omega
  have hro : Fence.wide.round = none := rfl
  obtain ⟨i0, hi, hz0, hz1, hz2⟩ := info_parts infoS
  refine callsIn_of_wp_marks Tryz.func13 rfl trivial ?_ hro
  simp only [Tryz.ntmps13, List.size_toArray, List.length_cons, List.length_nil, Nat.reduceAdd, Nat.reduceSub, Array.replicate_succ, Array.replicate_zero, List.push_toArray, List.append_toArray, List.nil_append, List.cons_append]
  have bO := Boxed.new (w.alloc (.cells #[I most] 3)) 39 (.slice none 0 0)
  have bM : ((w.alloc (.cells #[I most] 3)).alloc (.cells #[.slice none 0 0] 39)).heap[w.heap.size]? = some (.cells #[I most] 3 (0, 0)) := box2_a
  have hB0 : Below w.heap.size w ((w.alloc (.cells #[I most] 3)).alloc (.cells #[.slice none 0 0] 39)) := box2_b
  rw [World.size_alloc] at bO
  have HO := hid bO
  have HM := hid bM
  have HB0 := hid hB0
  have kM := cell_of bM 0
  have Hm := hid hm
  clear bO bM hB0
  by_cases hz : most = 0
  · subst hz
    gi_wp2
    exact ⟨_, results_tmp rfl _ _ _, _, rfl, ⟨[], rfl, FlatAt.nil 14 _, fun x h => by cases h⟩, HB0.out⟩
  have hzb : (most == 0) = false := by simpa using hz
  gi_wp2
  clear kM hzb
  refine wpIn_tell hro h1 (gf := 23) (lb := #[.pointer (some ⟨sb, 0, none⟩), .pointer (some ⟨pb, 0, none⟩)]) rfl trivial (enters_of Tryz.func23 (by kernel_rfl) rfl)
    (pend_stops (n - 1) (by omega) sb pb S w _ s parts vp vi vt vj vr vk vm sa la sc lc 4194304 w.heap.size rfl HB0.out hS hs hl hsb hpb hp1 hp2 hsub hlis hN) belowK_t (belowK_b (by simp; omega)) (Below.refl _ _) (fun _ => rfl)
    (fun pre W => SendI S w most pre W ∧ (most < 0 ∨ (pre.length : Int) < most))
    (fun c pre W => c = .exit 0 ∧ SendI S w most pre W ∧ (pre.length : Int) = most)
    (fun pre A B row h hg hr => ⟨SendI.own _ (by simp; omega) pre A B row h.1 hg hr, h.2⟩)
    (fun c pre A B row h hg hr => ⟨h.1, SendI.own _ (by simp; omega) pre A B row h.2.1 hg hr, h.2.2⟩)
    ⟨⟨⟨_, HO.out, World.ownsRow_nil _ _ _ _⟩, HM.out, (fun x h => by cases h), HB0.out⟩, by simp; omega⟩
    (fun pre x a' W => SendI S w most pre W ∧ (most < 0 ∨ (pre.length : Int) < most) ∧ EVv S x.2.2 x.2.1.vars W ∧ ∃ rb, W.heap[rb]? = some (.cells #[I x.2.1.cls, I x.2.1.kind, U x.2.1.from_, I x.2.1.time, U x.2.1.key, U x.2.1.key2, U x.2.1.key3, I x.2.1.n, I x.2.1.m, .string x.2.1.a, .string x.2.1.b, .string x.2.1.c, x.2.2] 49 (0, 0)) ∧ a' = { tmps := #[.func (.func 23) #[] #[.pointer (some ⟨sb, 0, none⟩), .pointer (some ⟨pb, 0, none⟩)], I most, undef, .pointer (some ⟨w.heap.size, 0, none⟩), .slice none 0 0, .pointer (some ⟨w.heap.size + 1, 0, none⟩), I x.1, .pointer (some ⟨rb, 0, none⟩), I most, .bool false, .func (.func 23) #[] #[.pointer (some ⟨sb, 0, none⟩), .pointer (some ⟨pb, 0, none⟩)], I x.1, .agg #[I x.2.1.cls, I x.2.1.kind, U x.2.1.from_, I x.2.1.time, U x.2.1.key, U x.2.1.key2, U x.2.1.key3, I x.2.1.n, I x.2.1.m, .string x.2.1.a, .string x.2.1.b, .string x.2.1.c, x.2.2], undef, undef, undef, undef, undef, undef, undef, undef, undef, undef, undef], defers := [] })
    ?hAx ?assign ?body ?done ?stop
  case hAx =>
    rintro pre x a' _ A B row ⟨g1, g2, g3, rb, g4, g5⟩ hg hr
    have hrw : ∀ r, row = some r → ∃ o : Obj, A.heap[r]? = some o ∧ ∀ cs T fr, o ≠ .cells cs T fr := fun r e => by
      obtain ⟨-, o, ho, hc⟩ := hr r e
      exact ⟨o, ho, fun cs T fr h => by rw [h] at hc; cases hc⟩
    refine ⟨SendI.own _ (by simp; omega) pre A B row g1 hg hr, g2, g3.kept (VrKept.grown hg (fun r e => by obtain ⟨o, ho, hn⟩ := hrw r e; exact ⟨o, ho, fun cs fr => hn cs _ fr⟩)), rb, ?_, g5⟩
    refine (hg.block _ (heap_lt g4) ?_).trans g4
    intro e
    obtain ⟨o, ho, hn⟩ := hrw _ e.symm
    rw [g4] at ho
    cases ho
    exact hn _ _ _ rfl
  case assign =>
    rintro l pre ⟨to, r, v⟩ W K ⟨hi1, hi2⟩ hE hK
    have HE := hid hE
    obtain ⟨⟨va, vc, hv, -⟩, -⟩ := hE
    dsimp only at hv HE
    subst hv
    have HI := hid hi1
    have hn1 := hid (alloc_new W (.cells #[I r.cls, I r.kind, U r.from_, I r.time, U r.key, U r.key2, U r.key3, I r.n, I r.m, .string r.a, .string r.b, .string r.c, .slice va r.vars.length vc] 49 (0, 0)))
    have hB1 := hid ((Below.refl _ W).alloc (Nat.le_refl _) (.cells #[I r.cls, I r.kind, U r.from_, I r.time, U r.key, U r.key2, U r.key3, I r.n, I r.m, .string r.a, .string r.b, .string r.c, .slice va r.vars.length vc] 49 (0, 0)))
    clear hi1
    unfold toldA
    dsimp only
    gi_wp2
    exact hK _ _ ((KeepsOthers.alloc W _).from _) (hB1.out.mono HI.out.low.size) ⟨⟨HI.out.row.elim (fun v h => ⟨v, h.1.alloc _, h.2.alloc _⟩), (alloc_old _ (heap_lt HI.out.box)).trans HI.out.box, (fun y hy => (HI.out.evs y hy).grow hB1.out), HI.out.low.trans (hB1.out.mono HI.out.low.size)⟩, hi2, HE.out.grow hB1.out, _, hn1.out, rfl⟩
  case body =>
    rintro l pre ⟨to, r, v⟩ a' W ⟨⟨⟨u, hv, hrow⟩, hbox, hevs, hlow⟩, hlt, hE, rb, hrb, rfl⟩ hlen
    have HE := hid hE
    obtain ⟨⟨va, vc, he, -⟩, -⟩ := hE
    dsimp only at he HE hrb
    subst he
    have hc := hv.cell
    have HEV := hid hevs
    have HRB := hid hrb
    have HBX := hid hbox
    have kb := cell_of hbox 0
    obtain ⟨q0, q1, q2, q3, q4, q5, q6, q7, q8, q9, q10, q11, q12⟩ := cells13 hrb
    clear hevs hrb hbox
    have hbM : Boxed W w.heap.size 3 (I most) := HBX.out
    have hqq : (pre.length : Int) + 1 = most ∨ ¬ ((pre.length : Int) + 1 = most) := Classical.em _
    rcases hqq with hq | hq
    · have hqb : (((pre.length + 1 : Nat) : Int) == most) = true := by rw [beq_iff_eq]; omega
      have hqb2 : ((pre.length : Int) + 1 == most) = true := by rw [beq_iff_eq]; omega
      gi_wp2_with (gi_at_builtin; refine wpListIn_append_own _ rfl _ _ 39 rfl w.heap.size 63 i0 (.agg #[.int .i64 0, .int .i64 0, .int .i64 0, .int .u64 0, .int .i64 0, .int .u64 0, .int .u64 0, .int .u64 0, .int .i64 0, .int .i64 0, .string ⟨#[]⟩, .string ⟨#[]⟩, .string ⟨#[]⟩, .slice none 0 0]) 14 152 Tryz.underlying39 hi hz0 hz1 hz2 rfl (by decide) _ _ _ rfl (hrow.alloc _) ⟨W.heap.size, 0, none⟩ 1 1 (toldC (to, r, .slice va r.vars.length vc)) rfl rfl (cells_new W (toldC (to, r, .slice va r.vars.length vc)) _) (by simp [toldC, Value.oneCell']) (by unfold maxLen; omega) (by omega) (by have := hlow.size; simp; omega) ?_; intro v' w1 hown' hgrow _; obtain ⟨g', cap', rfl⟩ := ownsRow_succ hown'; obtain ⟨hv1, hv2, hr2, hk2, hb2⟩ := hv.appended (by decide) hrow hlow.size (by omega) hown' hgrow; have hc1 := hv1.cell; have hf1 := hv1.frozen; have hc2 := hv2.cell; have hM1 := (hbM.alloc _).kept hgrow (hbM.not_row (by decide) hrow); have hM2 := ((set_but w1 (w.heap.size + 1) 0 (.slice (some ⟨g', 0, none⟩) (pre.length + 1) cap')).block _ (heap_lt hM1) (by omega)).trans hM1; have kM2 := cell_of hM2 0; have hkv := hid (send_kept hrow hv1 hgrow (.slice (some ⟨g', 0, none⟩) (pre.length + 1) cap')))
      exact ⟨hk2.from _, rfl, ⟨⟨_, hv2, by simpa [toldC] using hr2⟩, hM2, (fun y hy => (List.mem_append.1 hy).elim (fun h => (HEV.out y h).kept hkv.out) (fun h => by rw [List.mem_singleton.1 h]; exact HE.out.kept hkv.out)), hlow.trans hb2⟩, by simp; omega⟩
    · have hqb : (((pre.length + 1 : Nat) : Int) == most) = false := by rw [beq_eq_false_iff_ne]; omega
      have hqb2 : ((pre.length : Int) + 1 == most) = false := by rw [beq_eq_false_iff_ne]; omega
      gi_wp2_with (gi_at_builtin; refine wpListIn_append_own _ rfl _ _ 39 rfl w.heap.size 63 i0 (.agg #[.int .i64 0, .int .i64 0, .int .i64 0, .int .u64 0, .int .i64 0, .int .u64 0, .int .u64 0, .int .u64 0, .int .i64 0, .int .i64 0, .string ⟨#[]⟩, .string ⟨#[]⟩, .string ⟨#[]⟩, .slice none 0 0]) 14 152 Tryz.underlying39 hi hz0 hz1 hz2 rfl (by decide) _ _ _ rfl (hrow.alloc _) ⟨W.heap.size, 0, none⟩ 1 1 (toldC (to, r, .slice va r.vars.length vc)) rfl rfl (cells_new W (toldC (to, r, .slice va r.vars.length vc)) _) (by simp [toldC, Value.oneCell']) (by unfold maxLen; omega) (by omega) (by have := hlow.size; simp; omega) ?_; intro v' w1 hown' hgrow _; obtain ⟨g', cap', rfl⟩ := ownsRow_succ hown'; obtain ⟨hv1, hv2, hr2, hk2, hb2⟩ := hv.appended (by decide) hrow hlow.size (by omega) hown' hgrow; have hc1 := hv1.cell; have hf1 := hv1.frozen; have hc2 := hv2.cell; have hM1 := (hbM.alloc _).kept hgrow (hbM.not_row (by decide) hrow); have hM2 := ((set_but w1 (w.heap.size + 1) 0 (.slice (some ⟨g', 0, none⟩) (pre.length + 1) cap')).block _ (heap_lt hM1) (by omega)).trans hM1; have kM2 := cell_of hM2 0; have hkv := hid (send_kept hrow hv1 hgrow (.slice (some ⟨g', 0, none⟩) (pre.length + 1) cap')))
      exact ⟨hk2.from _, hb2, ⟨⟨_, hv2, by simpa [toldC] using hr2⟩, hM2, (fun y hy => (List.mem_append.1 hy).elim (fun h => (HEV.out y h).kept hkv.out) (fun h => by rw [List.mem_singleton.1 h]; exact HE.out.kept hkv.out)), hlow.trans hb2⟩, by simp; omega⟩
  case done =>
    rintro D ys W hD hys ⟨⟨⟨v, hv, hrow⟩, hbox, hevs, hlow⟩, hlt⟩ hK
    have hc := hv.cell
    have hown := ownsRow_putObj hrow (.deferred none) hK rfl
    have hkv : VrKept W (W.putObj D (.deferred none)) := VrKept.put _ hK rfl
    obtain ⟨a, cap, rfl⟩ : ∃ a cap, v = .slice a ys.length cap := by
      obtain ⟨a, cap, e, -⟩ := FlatAt.of_own hrow
      exact ⟨a, cap, e⟩
    have hcut : cutM most (pendingV s parts) = pendingV s parts := by
      unfold cutM
      split
      · rfl
      · have := congrArg List.length hys
        rw [List.length_map] at this
        exact List.take_of_length_le (by omega)
    gi_wp2
    refine ⟨by simp, .inl ⟨_, _, rfl, run_takeDeferred hK, ?_⟩⟩
    exact ⟨_, results_tmp rfl _ _ _, _, rfl, ⟨ys, by rw [hcut]; exact hys, FlatAt.of_own hown, fun x hx => (hevs x hx).kept hkv⟩, hlow.trans (belowK_b (w := w) (Nat.le_refl _) W D _ _ (by simp at hD; omega) hK rfl rfl)⟩
  case stop =>
    rintro D c pre W hD hpre ⟨rfl, ⟨⟨v, hv, hrow⟩, hbox, hevs, hlow⟩, hlt⟩ hK
    have hc := hv.cell
    have hown := ownsRow_putObj hrow (.deferred none) hK rfl
    have hkv : VrKept W (W.putObj D (.deferred none)) := VrKept.put _ hK rfl
    obtain ⟨a, cap, rfl⟩ : ∃ a cap, v = .slice a pre.length cap := by
      obtain ⟨a, cap, e, -⟩ := FlatAt.of_own hrow
      exact ⟨a, cap, e⟩
    have hcut : cutM most (pendingV s parts) = pre.map pj := by
      unfold cutM
      rw [if_neg (by omega)]
      obtain ⟨t, ht⟩ := hpre
      rw [← ht, show most.toNat = (pre.map pj).length by rw [List.length_map]; omega, List.take_left]
    gi_wp2
    refine ⟨by simp, .inl ⟨_, _, rfl, run_takeDeferred hK, ?_⟩⟩
    exact ⟨_, results_tmp rfl _ _ _, _, rfl, ⟨pre, hcut.symm, FlatAt.of_own hown, fun x hx => (hevs x hx).kept hkv⟩, hlow.trans (belowK_b (w := w) (Nat.le_refl _) W D _ _ (by simp at hD; omega) hK rfl rfl)⟩
end Go.Proofs.YtjkbfoeakeoeiaaGreat
namespace Go.Proofs.YtjkbfoeakeoeiaaGreat
set_option maxRecDepth 100000
set_option maxHeartbeats 40000000
set_option linter.unusedSimpArgs false
set_option linter.unusedVariables false
open Go.IntWalk Go.RowKit
theorem under_any (w : World) (wb : Nat) (S : Nat → Prop) (ve : Value) (k : WorkV) (r : RecV) (ua : Option Addr) (un uc : Nat) (hW : WorkAt w wb S ve k) (hsm : SmS k.s) :
    Calls Tryz.prog 44 #[.pointer (some ⟨wb, 0, none⟩), .agg #[I r.cls, I r.kind, U r.from_, I r.time, U r.key, U r.key2, U r.key3, I r.n, I r.m, .string r.a, .string r.b, .string r.c, .slice ua un uc]] w fun e w' => e = .returned (.bool (underV k r)) ∧ Below w.heap.size w w' := by
  have HW := hid hW
  have HSm := hid hsm
  have hS := hid (fun b h => (hW.lt b h).1)
  clear hW hsm
  go_enter Tryz.func44, Tryz.ntmps44
  go_wp2_with fail
  refine calls_box1 ?_
  intro W0 h0 B0 hz
  refine (wstate_any W0 wb S ve k (HW.out.grow B0.out) HSm.out).mono ?_
  rintro e w1 ⟨cs, rfl, ⟨vp, vi, vt, vj, vr, vs, vk, vl, vm, hs⟩, b1⟩
  have hcs := hs.cells
  obtain ⟨⟨pa, pc, rfl⟩, ⟨ia, ic, rfl⟩, ⟨ta, tc, rfl⟩, ⟨ja, jc, rfl⟩, ⟨ra, rc, rfl⟩, ⟨sa, sc, rfl⟩, ⟨ka, kc, rfl⟩, ⟨la, lc, rfl⟩, ⟨ma, mc, rfl⟩⟩ := hs.shapes
  subst hcs
  have Hs := hid hs
  have B1 := hid (B0.out.trans (b1.mono B0.out.size))
  have H1 := hid (keep_at b1 h0.out)
  have hz1 := b1.size
  clear hs b1 h0
  go_wp2_with fail
  refine wp_box1 ?_
  intro W2 h2 B2 hz2
  have B2' := hid (B1.out.trans (B2.out.mono B1.out.size))
  have H12 := hid (keep_at B2.out H1.out)
  have Hs2 := hid (Hs.out.grow (sans_grow B2.out))
  obtain ⟨k0, k1, k2, k3, k4, k5, k6, k7, k8, k9, k10, k11⟩ := cells12 h2.out
  obtain ⟨r0, r1, r2, r3, r4, r5, r6, r7, r8, r9, r10, r11, r12⟩ := cells13 H12.out
  have hl2 := heap_lt h2.out
  have hlr := heap_lt H12.out
  clear hz hz1 hz2
  refine wp_par (fun _ => False) (fun _ => True) (List.replicate 5 false) _ [.fix ?_, .fix ?_, .fix ?_, .fix ?_, .fix ?_] (by kernel_rfl) (by kernel_rfl) (by simp only [List.length_replicate, List.drop_succ_cons, List.drop_zero, List.drop_nil]; with_reducible rfl) rfl (fun _ _ _ _ _ => ⟨fun h => h, fun h => h⟩) (fun _ _ h _ => h) trivial ?_
  rotate_left 5
  iterate 2
    first
      | (refine par_skip (a' := ?_) (by rfl) (by rfl) ?_ ?_ ?_; rotate_left 1; with_reducible rfl; (simp only [Act.put, List.setIfInBounds_toArray, List.set_cons_zero, List.set_cons_succ]; with_reducible rfl))
      | (refine par_run (a' := ?_) (by rfl) (by rfl) (fun w' hb hn => ?_) ?_ ?_; rotate_left 1; (have hc := hb.cells; first | (go_simp; (try simp (disch := omega) only [IntWalk.i64_in, IntWalk.i32_in, IntWalk.u64_in, IntWalk.u8_in, IntWalk.u32_in, toNatUp, iteOmega]); with_reducible rfl) | (go_simp; (try simp (disch := omega) only [IntWalk.i64_in, IntWalk.i32_in, IntWalk.u64_in, IntWalk.u8_in, IntWalk.u32_in, toNatUp, iteOmega]); go_simp; with_reducible rfl)); (simp only [Act.put, List.setIfInBounds_toArray, List.set_cons_zero, List.set_cons_succ]; with_reducible rfl))
  refine par_call (a' := ?_) (f := ?_) (args := ?_) (by rfl) (by rfl) (fun w' => ?_) (fun w' hb hn => ?_) ?_ ?_; rotate_left 3; (go_simp; constructor <;> with_reducible rfl); (exact of_any w' r (.slice ua un uc)); (simp only [Act.put, List.setIfInBounds_toArray, List.set_cons_zero, List.set_cons_succ]; with_reducible rfl)
  refine par_call (a' := ?_) (f := ?_) (args := ?_) (by rfl) (by rfl) (fun w' => ?_) (fun w' hb hn => ?_) ?_ ?_; rotate_left 3; (go_simp; constructor <;> with_reducible rfl); (exact mlisted_any S w' k.s _ r ⟨_, _, _, _, _, _, _, _, _, Hs2.out.grow (sans_grow hb.grow)⟩); (simp only [Act.put, List.setIfInBounds_toArray, List.set_cons_zero, List.set_cons_succ]; with_reducible rfl)
  iterate 1
    first
      | (refine par_skip (a' := ?_) (by rfl) (by rfl) ?_ ?_ ?_; rotate_left 1; with_reducible rfl; (simp only [Act.put, List.setIfInBounds_toArray, List.set_cons_zero, List.set_cons_succ]; with_reducible rfl))
      | (refine par_run (a' := ?_) (by rfl) (by rfl) (fun w' hb hn => ?_) ?_ ?_; rotate_left 1; (have hc := hb.cells; first | (go_simp; (try simp (disch := omega) only [IntWalk.i64_in, IntWalk.i32_in, IntWalk.u64_in, IntWalk.u8_in, IntWalk.u32_in, toNatUp, iteOmega]); with_reducible rfl) | (go_simp; (try simp (disch := omega) only [IntWalk.i64_in, IntWalk.i32_in, IntWalk.u64_in, IntWalk.u8_in, IntWalk.u32_in, toNatUp, iteOmega]); go_simp; with_reducible rfl)); (simp only [Act.put, List.setIfInBounds_toArray, List.set_cons_zero, List.set_cons_succ]; with_reducible rfl))
  refine par_end (fun w9 hb9 hf9 _ => ?_)
  replace hb9 := hb9.grow
  try refine wpList_none ?_
  have B9 := hid (B2'.out.trans (hb9.mono B2'.out.size))
  have H29 := hid (keep_at hb9 h2.out)
  have H19 := hid (keep_at hb9 H12.out)
  have Hs9 := hid (Hs2.out.grow (sans_grow hb9))
  clear hb9 k0 k1 k2 k3 k4 k5 k6 k7 k8 k9 k10 k11 r0 r1 r2 r3 r4 r5 r6 r7 r8 r9 r10 r11 r12 h2 H1 H12 hl2 hlr
  have kk := cell_of H29.out 10
  have r5 := cell_of H19.out 5
  have hl2 := heap_lt H29.out
  have hlr := heap_lt H19.out
  obtain ⟨w4, rfl⟩ : ∃ w4 : World, w4 = w9 := ⟨_, rfl⟩
  cases hf : k.s.listed.find? (ofLis r) with
  | none =>
    have EL := idxOf_none hf
    have EU : Hid (underV k r = false) := by show _ = _; unfold underV; rw [hf]
    rw [EL]
    clear hf EL
    go_wp2_with fail
    refine wp_par (fun _ => False) (fun _ => True) (List.replicate 19 false) _ [.fix ?_, .fix ?_, .fix ?_, .fix ?_, .fix ?_, .fix ?_, .fix ?_, .fix ?_, .fix ?_, .fix ?_, .fix ?_, .fix ?_, .fix ?_, .fix ?_, .fix ?_, .fix ?_, .fix ?_, .fix ?_, .fix ?_] (by kernel_rfl) (by kernel_rfl) (by simp only [List.length_replicate, List.drop_succ_cons, List.drop_zero, List.drop_nil]; with_reducible rfl) rfl (fun _ _ _ _ _ => ⟨fun h => h, fun h => h⟩) (fun _ _ h _ => h) trivial ?_
    rotate_left 19
    iterate 19
      first
        | (refine par_skip (a' := ?_) (by rfl) (by rfl) ?_ ?_ ?_; rotate_left 1; with_reducible rfl; (simp only [Act.put, List.setIfInBounds_toArray, List.set_cons_zero, List.set_cons_succ]; with_reducible rfl))
        | (refine par_run (a' := ?_) (by rfl) (by rfl) (fun w' hb hn => ?_) ?_ ?_; rotate_left 1; (have hc := hb.cells; first | (go_simp; (try simp (disch := omega) only [IntWalk.i64_in, IntWalk.i32_in, IntWalk.u64_in, IntWalk.u8_in, IntWalk.u32_in, toNatUp, iteOmega]); with_reducible rfl) | (go_simp; (try simp (disch := omega) only [IntWalk.i64_in, IntWalk.i32_in, IntWalk.u64_in, IntWalk.u8_in, IntWalk.u32_in, toNatUp, iteOmega]); go_simp; with_reducible rfl)); (simp only [Act.put, List.setIfInBounds_toArray, List.set_cons_zero, List.set_cons_succ]; with_reducible rfl))
    refine par_end (fun w9 hb9 hf9 _ => ?_)
    replace hb9 := hb9.grow
    try refine wpList_none ?_
    have B99 := hid (B9.out.trans (hb9.mono B9.out.size))
    clear hb9
    go_wp2
    go_ret
    exact ⟨by rw [EU.out]; rfl, B99.out⟩
  | some x =>
    have hiL := idxOf_one HSm.out.l1 hf
    have hL0 : k.s.listed[0]? = some x := by rw [hiL.2.1]; rfl
    have hLl : 0 < k.s.listed.length := by rw [hiL.2.1]; simp
    have EU : Hid (underV k r = (decide (r.key2 ≠ 0) && decide (x.msg = r.key2))) := by show _ = _; unfold underV; rw [hf]
    obtain ⟨bl, ofl, csl, rfl, -, ⟨lv, rfl, -⟩, hcl⟩ := elem0 Hs9.out.listed hL0
    have q5 := (sans_cell (hcl 5 _ rfl)).1
    have hq := World.block_lt_of_cell? w4 _ q5
    have EL := hiL.1
    rw [EL]
    clear hf EL hL0 hcl hiL
    by_cases hk : r.key2 = 0
    · have EU' : Hid (underV k r = false) := by
        show _ = _
        rw [EU.out]
        simp [hk]
      rw [hk] at r5
      clear EU hk
      go_wp2_with fail
      refine wp_par (fun _ => False) (fun _ => True) (List.replicate 19 false) _ [.fix ?_, .fix ?_, .fix ?_, .fix ?_, .fix ?_, .fix ?_, .fix ?_, .fix ?_, .fix ?_, .fix ?_, .fix ?_, .fix ?_, .fix ?_, .fix ?_, .fix ?_, .fix ?_, .fix ?_, .fix ?_, .fix ?_] (by kernel_rfl) (by kernel_rfl) (by simp only [List.length_replicate, List.drop_succ_cons, List.drop_zero, List.drop_nil]; with_reducible rfl) rfl (fun _ _ _ _ _ => ⟨fun h => h, fun h => h⟩) (fun _ _ h _ => h) trivial ?_
      rotate_left 19
      iterate 19
        first
          | (refine par_skip (a' := ?_) (by rfl) (by rfl) ?_ ?_ ?_; rotate_left 1; with_reducible rfl; (simp only [Act.put, List.setIfInBounds_toArray, List.set_cons_zero, List.set_cons_succ]; with_reducible rfl))
          | (refine par_run (a' := ?_) (by rfl) (by rfl) (fun w' hb hn => ?_) ?_ ?_; rotate_left 1; (have hc := hb.cells; first | (go_simp; (try simp (disch := omega) only [IntWalk.i64_in, IntWalk.i32_in, IntWalk.u64_in, IntWalk.u8_in, IntWalk.u32_in, toNatUp, iteOmega]); with_reducible rfl) | (go_simp; (try simp (disch := omega) only [IntWalk.i64_in, IntWalk.i32_in, IntWalk.u64_in, IntWalk.u8_in, IntWalk.u32_in, toNatUp, iteOmega]); go_simp; with_reducible rfl)); (simp only [Act.put, List.setIfInBounds_toArray, List.set_cons_zero, List.set_cons_succ]; with_reducible rfl))
      refine par_end (fun w9 hb9 hf9 _ => ?_)
      replace hb9 := hb9.grow
      try refine wpList_none ?_
      have B99 := hid (B9.out.trans (hb9.mono B9.out.size))
      clear hb9
      go_wp2
      go_ret
      exact ⟨by rw [EU'.out]; rfl, B99.out⟩
    · have EU' : Hid (underV k r = ((x.msg : Int) == (r.key2 : Int))) := by
        show _ = _
        rw [EU.out, beq_nat]
        simp [hk]
      have hk2 : ((r.key2 : Int) = 0) = False := by simp; omega
      have hk3 : ((r.key2 : Int) == 0) = false := by simp; omega
      have hk4 : ((r.key2 : Int) != 0) = true := by simp; omega
      clear EU hk
      go_wp2_with fail
      refine wp_par (fun _ => False) (fun _ => True) (List.replicate 19 false) _ [.fix ?_, .fix ?_, .fix ?_, .fix ?_, .fix ?_, .fix ?_, .fix ?_, .fix ?_, .fix ?_, .fix ?_, .fix ?_, .fix ?_, .fix ?_, .fix ?_, .fix ?_, .fix ?_, .fix ?_, .fix ?_, .fix ?_] (by kernel_rfl) (by kernel_rfl) (by simp only [List.length_replicate, List.drop_succ_cons, List.drop_zero, List.drop_nil]; with_reducible rfl) rfl (fun _ _ _ _ _ => ⟨fun h => h, fun h => h⟩) (fun _ _ h _ => h) trivial ?_
      rotate_left 19
      iterate 19
        first
          | (refine par_skip (a' := ?_) (by rfl) (by rfl) ?_ ?_ ?_; rotate_left 1; with_reducible rfl; (simp only [Act.put, List.setIfInBounds_toArray, List.set_cons_zero, List.set_cons_succ]; with_reducible rfl))
          | (refine par_run (a' := ?_) (by rfl) (by rfl) (fun w' hb hn => ?_) ?_ ?_; rotate_left 1; (have hc := hb.cells; first | (go_simp; (try simp (disch := omega) only [IntWalk.i64_in, IntWalk.i32_in, IntWalk.u64_in, IntWalk.u8_in, IntWalk.u32_in, toNatUp, iteOmega]); with_reducible rfl) | (go_simp; (try simp (disch := omega) only [IntWalk.i64_in, IntWalk.i32_in, IntWalk.u64_in, IntWalk.u8_in, IntWalk.u32_in, toNatUp, iteOmega]); go_simp; with_reducible rfl)); (simp only [Act.put, List.setIfInBounds_toArray, List.set_cons_zero, List.set_cons_succ]; with_reducible rfl))
      refine par_end (fun w9 hb9 hf9 _ => ?_)
      replace hb9 := hb9.grow
      try refine wpList_none ?_
      have B99 := hid (B9.out.trans (hb9.mono B9.out.size))
      clear hb9
      go_wp2
      go_ret
      exact ⟨by rw [EU'.out]; rfl, B99.out⟩
theorem post_box1 {P : Program} {f : Func} {R : Ending → World → Prop} {e : Exit} {a : Act} {w : World} {A : Obj} (h : ∀ W, Below w.heap.size w W → bodyPost P f R e a W) : bodyPost P f R e a (w.alloc A) := h _ box1_b
theorem SlR.slseen {S : Nat → Prop} {w : World} {v : Value} {l : List Value} (h : SlR (sans S w) v l) : SlR w v l := h.sees sees_seen
theorem goesOn_cl (W : World) (m : MsgV) (x : LisV) (mv mu lv : Value) (pb : Nat) (h : W.heap[pb]? = some (.cells #[U m.key, .string m.name, .string m.for_, .string m.id, I m.till, mv, mu] 66 (0, 0))) (hmv : VarsAt W mv m.vars) (hmu : SlR W mu (natsV m.insts)) (hl : m.insts.length ≤ 1000000) :
    Calls Tryz.prog 73 #[.agg #[U x.token, U x.inst, I x.node, .string x.name, .string x.key, U x.msg, lv], .pointer (some ⟨pb, 0, none⟩)] W fun e w' => e = .returned (.bool (suitsV m x)) ∧ Below W.heap.size W w' := by
  have H := hid h
  have HU := hid hmu
  clear h hmu hmv
  go_enter Tryz.func73, Tryz.ntmps73
  obtain ⟨d0, d1, d2, d3, d4, d5, d6⟩ := cells7 (alloc_old (.cells #[U x.token, U x.inst, I x.node, .string x.name, .string x.key, U x.msg, lv] 58) (heap_lt H.out) |>.trans H.out)
  go_wp2_with fail
  refine calls_box1 ?_
  intro W0 h0 B0 hz
  refine (suits_any W0 m x mv mu lv (HU.out.below B0.out) hl).mono ?_
  rintro e w1 ⟨rfl, b1⟩
  have B1 := hid (B0.out.trans (b1.mono B0.out.size))
  clear b1
  go_wp2
  go_ret
  exact ⟨rfl, B1.out⟩
theorem goesOn_any (w : World) (wb : Nat) (S : Nat → Prop) (ve : Value) (k : WorkV) (key b : Nat) (hW : WorkAt w wb S ve k) (hb : SmW b k) (hb9 : b < 1000) :
    Calls Tryz.prog 45 #[.pointer (some ⟨wb, 0, none⟩), U key] w fun e w' => e = .returned (.tuple #[]) ∧ ∃ S' ve', WorkAt w' wb S' ve' (goesOnV k key) ∧ Goes S w S' w' := by
  have HW := hid hW
  have Hb := hid hb
  have hS := hid (fun b h => (hW.lt b h).1)
  clear hW hb
  go_enter Tryz.func45, Tryz.ntmps45
  go_wp2_with fail
  refine (wstate_any w wb S ve k HW.out Hb.out.sm).mono ?_
  rintro e w1 ⟨cs, rfl, ⟨vp, vi, vt, vj, vr, vs, vk, vl, vm, hs⟩, b1⟩
  have hcs := hs.cells
  obtain ⟨⟨pa, pc, rfl⟩, ⟨ia, ic, rfl⟩, ⟨ta, tc, rfl⟩, ⟨ja, jc, rfl⟩, ⟨ra, rc, rfl⟩, ⟨sa, sc, rfl⟩, ⟨ka, kc, rfl⟩, ⟨la, lc, rfl⟩, ⟨ma, mc, rfl⟩⟩ := hs.shapes
  subst hcs
  have Hs := hid hs
  have B1 := hid b1
  clear hs b1
  go_wp2_with fail
  refine calls_box1 ?_
  intro W2 h2 B2 hz2
  have B2' := hid (B1.out.trans (B2.out.mono B1.out.size))
  have Hs2 := hid (Hs.out.grow (sans_grow B2.out))
  refine (message_any S W2 k.s _ key (fun b h => Nat.lt_of_lt_of_le (hS.out b h) B2'.out.size) ⟨_, _, _, _, _, _, _, _, _, Hs2.out⟩ Hb.out.sm.m1).mono ?_
  rintro e w3 ⟨c, m, rfl, hm, hx, b3⟩
  obtain ⟨mv, mu, rfl, hmv, hmu⟩ := hm
  have HMV := hid hmv
  have HMU := hid hmu
  obtain ⟨mva, mvc, rfl, -⟩ := hmv
  obtain ⟨mua, muc, rfl, -⟩ := hmu
  have B3 := hid (B2'.out.trans (b3.mono B2'.out.size))
  have Hs3 := hid (Hs2.out.grow (sans_grow b3))
  have H23 := hid (keep_at b3 h2.out)
  have HX := hid hx
  clear hx b3 h2 hz2
  cases hf : k.s.msgs.find? (fun m => decide (m.key = key)) with
  | none =>
    have EG : Hid (goesOnV k key = k) := by show _ = _; unfold goesOnV; rw [hf]
    clear hf
    go_wp2
    refine post_box1 ?_
    intro W9 b9
    ((try simp only [Exit.inBlock, Exit.then]); refine bodyPost_ret (results_none rfl _ _ _) rfl ?_)
    rw [EG.out]
    exact ⟨rfl, S, ve, HW.out.grow (B3.out.trans (b9.mono B3.out.size)), Goes.of (B3.out.trans (b9.mono B3.out.size))⟩
  | some m2 =>
    obtain rfl := HX.out m2 hf
    have hmem := List.mem_of_find?_eq_some hf
    have hmi := (Hb.out.sm.mv m hmem).2
    go_wp2_with fail
    refine calls_box1 ?_
    intro W4 h4 B4 hz4
    have B4' := hid (B3.out.trans (B4.out.mono B3.out.size))
    refine (lives_any W4 wb S ve k m _ _ (HW.out.grow B4'.out)).mono ?_
    rintro e w5 ⟨rfl, b5⟩
    have B5 := hid (B4'.out.trans (b5.mono B4'.out.size))
    have H5 := hid (keep_at b5 h4.out)
    have H25 := hid (keep_at b5 (keep_at B4.out H23.out))
    have Hs5 := hid (Hs3.out.grow (sans_grow (B4.out.trans (b5.mono B4.out.size))))
    have HMV5 := hid (HMV.out.seen.below (B4.out.trans (b5.mono B4.out.size)))
    have HMU5 := hid (HMU.out.below (sans_grow (B4.out.trans (b5.mono B4.out.size))))
    clear b5 h4 hz4
    cases hlv : livesV k m with
    | false =>
      have EG : Hid (goesOnV k key = k) := by show _ = _; unfold goesOnV; rw [hf]; simp [hlv]
      clear hf
      go_wp2
      ((try simp only [Exit.inBlock, Exit.then]); refine bodyPost_ret (results_none rfl _ _ _) rfl ?_)
      rw [EG.out]
      exact ⟨rfl, S, ve, HW.out.grow B5.out, Goes.of B5.out⟩
    | true =>
      have kk := cell_of H25.out 10
      go_wp2_with fail
      clear kk
      have HE : Hid (∀ x : LisV, goesOnV k key = match k.s.listed.find? (suitsV m) with | some x => emitV k (sendR x key) | none => k) := fun _ => by unfold goesOnV; rw [hf]; simp only [hlv, if_true]; cases List.find? (suitsV m) k.s.listed <;> rfl
      have h := idxLis_list (S := S) w5 Hs5.out.listed sees_refl _ #[.pointer (some ⟨w3.heap.size, 0, none⟩)] (enters_of Tryz.func73 (by kernel_rfl) rfl) (suitsV m) (fun W x cs _ hx hb => by obtain ⟨v, rfl, -⟩ := hx; exact goesOn_cl W m x _ _ v _ (keep_at hb H5.out) (HMV5.out.below hb) (HMU5.out.slseen.below hb) (by omega))
      refine h.mono ?_
      rintro e w6 ⟨rfl, b6⟩
      have B6 := hid (B5.out.trans (b6.mono B5.out.size))
      have H26 := hid (keep_at b6 H25.out)
      have Hs6 := hid (Hs5.out.grow (sans_grow b6))
      clear h b6
      cases hg : k.s.listed.find? (suitsV m) with
      | none =>
        have EI := idxOf_none hg
        have EG : Hid (goesOnV k key = k) := by show _ = _; rw [HE.out ⟨0, 0, 0, ⟨#[]⟩, ⟨#[]⟩, 0, []⟩, hg]
        rw [EI]
        clear hf hg EI
        go_wp2
        go_end0
        rw [EG.out]
        exact ⟨rfl, S, ve, HW.out.grow B6.out, Goes.of B6.out⟩
      | some x =>
        have hiL := idxOf_one Hb.out.sm.l1 hg
        have hL0 : k.s.listed[0]? = some x := by rw [hiL.2.1]; rfl
        have hLl : 0 < k.s.listed.length := by rw [hiL.2.1]; simp
        obtain ⟨bl, ofl, csl, rfl, -, ⟨lv, rfl, hlvv⟩, hcl⟩ := elem0 Hs6.out.listed hL0
        obtain ⟨lva, lvc, rfl, -⟩ := hlvv
        have q0 := (sans_cell (hcl 0 _ rfl)).1
        have q1 := (sans_cell (hcl 1 _ rfl)).1
        have q2 := (sans_cell (hcl 2 _ rfl)).1
        have q3 := (sans_cell (hcl 3 _ rfl)).1
        have q4 := (sans_cell (hcl 4 _ rfl)).1
        have q5 := (sans_cell (hcl 5 _ rfl)).1
        have q6 := (sans_cell (hcl 6 _ rfl)).1
        rw [Nat.add_zero] at q0
        have kk := cell_of H26.out 10
        have EI := hiL.1
        have EG : Hid (goesOnV k key = emitV k (sendR x key)) := by show _ = _; rw [HE.out x, hg]
        rw [EI]
        clear hf hg EI hiL hL0 hcl
        go_wp2_with fail
        refine (send_any w6 wb S ve k x _ key b (HW.out.grow B6.out) Hb.out hb9).mono ?_
        rintro e w7 ⟨rfl, S', ve', h1, h2⟩
        have HF := hid (And.intro h1 h2)
        clear h1 h2 q0 q1 q2 q3 q4 q5 q6 kk
        go_wp2
        go_end0
        rw [EG.out]
        exact ⟨rfl, S', ve', HF.out.1, (Goes.of B6.out).trans HF.out.2⟩
end Go.Proofs.YtjkbfoeakeoeiaaGreat
namespace Go.Proofs.YtjkbfoeakeoeiaaGreat
set_option maxRecDepth 100000
set_option maxHeartbeats 40000000
set_option linter.unusedSimpArgs false
set_option linter.unusedVariables false
open Go.RowKit
theorem Goes.keep {S S' : Nat → Prop} {w w' : World} {b : Nat} {o : Obj} (h : Goes S w S' w') (hb : ¬ S b) (hw : w.heap[b]? = some o) : w'.heap[b]? = some o := (h.but.block b (heap_lt hw) hb).trans hw
theorem matched_any (w : World) (wb : Nat) (S : Nat → Prop) (ve : Value) (k : WorkV) (r : RecV) (ua : Option Addr) (un uc b : Nat) (hW : WorkAt w wb S ve k) (hb : SmW b k) (hb9 : b < 999) (hu : underV k r = true) :
    Calls Tryz.prog 20 #[.pointer (some ⟨wb, 0, none⟩), .agg #[I r.cls, I r.kind, U r.from_, I r.time, U r.key, U r.key2, U r.key3, I r.n, I r.m, .string r.a, .string r.b, .string r.c, .slice ua un uc]] w fun e w' => e = .returned (I 0) ∧ ∃ S' ve', WorkAt w' wb S' ve' (matchedV k r).1 ∧ Goes S w S' w' := by
  have HW := hid hW
  have Hb := hid hb
  have hS := hid (fun b h => (hW.lt b h).1)
  have Hu := hid hu
  have HV : Hid ((matchedV k r).1 = goesOnV (emitV k { rec0 with kind := 22, key := r.key, n := r.n, key2 := r.key2 }) r.key2) := by
    show _ = _
    unfold matchedV
    rw [if_neg (by rw [hu]; decide)]
  skip
  have HE := hid (emit_sm k { rec0 with kind := 22, key := r.key, n := r.n, key2 := r.key2 } b hb (by omega) (fun h => by revert h; simp [rec0]) (fun h => by revert h; simp [rec0]) (by simp [rec0]))
  clear hW hb hu 
  go_enter Tryz.func20, Tryz.ntmps20
  have g := hid (box1_at (w := w) (A := .cells #[I r.cls, I r.kind, U r.from_, I r.time, U r.key, U r.key2, U r.key3, I r.n, I r.m, .string r.a, .string r.b, .string r.c, .slice ua un uc] 49 (0, 0)))
  obtain ⟨r0, r1, r2, r3, r4, r5, r6, r7, r8, r9, r10, r11, r12⟩ := cells13 g.out
  go_wp2_with fail
  clear g r0 r1 r2 r3 r4 r5 r6 r7 r8 r9 r10 r11 r12
  refine calls_box1 ?_
  intro W0 h0 B0 hz
  refine (under_any W0 wb S ve k r ua un uc (HW.out.grow B0.out) Hb.out.sm).mono ?_
  rintro e w1 ⟨rfl, b1⟩
  rw [Hu.out]
  have B1 := hid (B0.out.trans (b1.mono B0.out.size))
  have H1 := hid (keep_at b1 h0.out)
  have k4 := cell_of H1.out 4
  have k5 := cell_of H1.out 5
  have k7 := cell_of H1.out 7
  clear b1 h0 hz
  go_wp2_with fail
  refine (emitV_any w1 wb S ve k { rec0 with kind := 22, key := r.key, n := r.n, key2 := r.key2 } [I 0, I 22, U 0, I 0, U r.key, U r.key2, U 0, I r.n, I 0, .string ⟨#[]⟩, .string ⟨#[]⟩, .string ⟨#[]⟩, .slice none 0 0] b (HW.out.grow B1.out) Hb.out (by omega) (.inr (.inr (.inr (.inr (.inl rfl))))) ⟨_, rfl, vnil _⟩ (by simp [rec0])).mono ?_
  rintro e w2 ⟨rfl, S2, ve2, hw2, g2⟩
  have HW2 := hid hw2
  have G2 := hid g2
  have H2 := hid (g2.keep (fun h => Nat.lt_irrefl _ (hS.out _ h)) H1.out)
  clear hw2 g2 k4 k5 k7
  have k5 := cell_of H2.out 5
  go_wp2_with fail
  refine (goesOn_any w2 wb S2 ve2 _ r.key2 (b + 1) HW2.out HE.out (by omega)).mono ?_
  rintro e w3 ⟨rfl, S3, ve3, hw3, g3⟩
  have HW3 := hid hw3
  have G3 := hid g3
  clear hw3 g3 k5
  go_wp2
  go_ret
  rw [HV.out]
  exact ⟨rfl, S3, ve3, HW3.out, ((Goes.of B1.out).trans G2.out).trans G3.out⟩
theorem missed_any (w : World) (wb : Nat) (S : Nat → Prop) (ve : Value) (k : WorkV) (r : RecV) (ua : Option Addr) (un uc b : Nat) (hW : WorkAt w wb S ve k) (hb : SmW b k) (hb9 : b < 999) (hu : underV k r = true) (hi : ∀ m ∈ k.s.msgs, m.insts.length ≤ 1) :
    Calls Tryz.prog 19 #[.pointer (some ⟨wb, 0, none⟩), .agg #[I r.cls, I r.kind, U r.from_, I r.time, U r.key, U r.key2, U r.key3, I r.n, I r.m, .string r.a, .string r.b, .string r.c, .slice ua un uc]] w fun e w' => e = .returned (I 0) ∧ ∃ S' ve', WorkAt w' wb S' ve' (missedV k r).1 ∧ Goes S w S' w' := by
  have HW := hid hW
  have Hb := hid hb
  have hS := hid (fun b h => (hW.lt b h).1)
  have Hu := hid hu
  have HV : Hid ((missedV k r).1 = goesOnV (emitV k { rec0 with kind := 23, key := r.key, n := r.n, key2 := r.key2 }) r.key2) := by
    show _ = _
    unfold missedV
    rw [if_neg (by rw [hu]; decide)]
  have Hi := hid hi
  have HE := hid (emit_sm k { rec0 with kind := 23, key := r.key, n := r.n, key2 := r.key2 } b hb (by omega) (fun h => by revert h; simp [rec0]) (fun h => by revert h; simp [rec0]) (by simp [rec0]))
  clear hW hb hu hi
  go_enter Tryz.func19, Tryz.ntmps19
  have g := hid (box1_at (w := w) (A := .cells #[I r.cls, I r.kind, U r.from_, I r.time, U r.key, U r.key2, U r.key3, I r.n, I r.m, .string r.a, .string r.b, .string r.c, .slice ua un uc] 49 (0, 0)))
  obtain ⟨r0, r1, r2, r3, r4, r5, r6, r7, r8, r9, r10, r11, r12⟩ := cells13 g.out
  go_wp2_with fail
  clear g r0 r1 r2 r3 r4 r5 r6 r7 r8 r9 r10 r11 r12
  refine calls_box1 ?_
  intro W0 h0 B0 hz
  refine (under_any W0 wb S ve k r ua un uc (HW.out.grow B0.out) Hb.out.sm).mono ?_
  rintro e w1 ⟨rfl, b1⟩
  rw [Hu.out]
  have B1 := hid (B0.out.trans (b1.mono B0.out.size))
  have H1 := hid (keep_at b1 h0.out)
  have k4 := cell_of H1.out 4
  have k5 := cell_of H1.out 5
  have k7 := cell_of H1.out 7
  clear b1 h0 hz
  go_wp2_with fail
  refine (emitV_any w1 wb S ve k { rec0 with kind := 23, key := r.key, n := r.n, key2 := r.key2 } [I 0, I 23, U 0, I 0, U r.key, U r.key2, U 0, I r.n, I 0, .string ⟨#[]⟩, .string ⟨#[]⟩, .string ⟨#[]⟩, .slice none 0 0] b (HW.out.grow B1.out) Hb.out (by omega) (.inr (.inr (.inr (.inr (.inr ⟨rfl, Hi.out⟩))))) ⟨_, rfl, vnil _⟩ (by simp [rec0])).mono ?_
  rintro e w2 ⟨rfl, S2, ve2, hw2, g2⟩
  have HW2 := hid hw2
  have G2 := hid g2
  have H2 := hid (g2.keep (fun h => Nat.lt_irrefl _ (hS.out _ h)) H1.out)
  clear hw2 g2 k4 k5 k7
  have k5 := cell_of H2.out 5
  go_wp2_with fail
  refine (goesOn_any w2 wb S2 ve2 _ r.key2 (b + 1) HW2.out HE.out (by omega)).mono ?_
  rintro e w3 ⟨rfl, S3, ve3, hw3, g3⟩
  have HW3 := hid hw3
  have G3 := hid g3
  clear hw3 g3 k5
  go_wp2
  go_ret
  rw [HV.out]
  exact ⟨rfl, S3, ve3, HW3.out, ((Goes.of B1.out).trans G2.out).trans G3.out⟩
end Go.Proofs.YtjkbfoeakeoeiaaGreat
