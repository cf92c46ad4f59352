/- Keep: contracts (Cd). -/
import Derived.Test.YthikijlbclckdaaGreatT14
import Derived.Test.YthikijlbclckdaaGreatT19
import Derived.Maps.Range
import Derived.Carry
namespace Go.Proofs.YthikijlbclckdaaGreat
set_option maxRecDepth 100000
set_option maxHeartbeats 40000000
set_option linter.unusedSimpArgs false
set_option linter.unusedVariables false
open Go.RowKit Go.Shelf
attribute [local go_sem] Oper.semAt_some
theorem run_neq_func_some {P : Program} (w : World) (t : TypeId) (f : Fn) (xs ys : Array Value) {a b c} (h : P.underlying t = some (.func a b c)) : (binOp .neq t (.func f xs ys) .nilFunc).run P w = .ok (.bool true) w := by
 have e : (Op.equal t (.func f xs ys) .nilFunc).run P w = .ok false w := by
  show (Op.equalIn (Nat.succ 9999) t (.func f xs ys) .nilFunc).run P w = _
  generalize 9999 = d
  simp [Op.equalIn, run_underlying h]
 simp only [binOp]
 simp [e]
theorem zero_str (w : World) : (zeroValue 9).run Tryz.prog w = .ok (.string ⟨#[]⟩) w := by kernel_rfl
theorem zero_cell (w : World) : (zeroValue 61).run Tryz.prog w = .ok (.agg #[.string ⟨#[]⟩, .bool false]) w := by kernel_rfl
theorem cell_three_new (w : World) (x y z : Value) (t : TypeId) : ∀ j u, [x, y, z][j]? = some u → (w.alloc (.cells #[x, y, z] t)).cell? ((⟨w.heap.size, 0, none⟩ : Addr).add j) = some u := by
 intro j u hj
 match j, hj with
 | 0, hj =>
  simp at hj
  subst hj
  exact cell_of (alloc_new w (.cells #[x, y, z] t)) 0
 | 1, hj =>
  simp at hj
  subst hj
  exact cell_of (alloc_new w (.cells #[x, y, z] t)) 1
 | 2, hj =>
  simp at hj
  subst hj
  exact cell_of (alloc_new w (.cells #[x, y, z] t)) 2
def encC (x : CellV) : Value := .agg #[.string x.1, .bool x.2]
def lastC (l : List RowV) : ByteArray := match l.getLast? with
 | none => ⟨#[]⟩
 | some x => x.1
theorem ris_step (l : List RowV) (x : RowV) : risL (l ++ [x]) = if (risL l).isEmpty = true ∨ ltS (lastC (risL l)) x.1 = true then risL l ++ [x] else risL l := by
 rw [risL_snoc]
 unfold risF lastC
 cases hq : (risL l).getLast? with
 | none => rw [List.getLast?_eq_none_iff.1 hq]; rfl
 | some q =>
  have hne : (risL l).isEmpty = false := by cases hr : risL l with | nil => rw [hr] at hq; cases hq | cons => rfl
  rw [hne]
  simp
theorem lastC_snoc (l : List RowV) (x : RowV) : lastC (l ++ [x]) = x.1 := by unfold lastC; rw [List.getLast?_concat]
theorem up_last {l : List RowV} (h : Up l) {k : ByteArray} (hk : ltS (lastC l) k = true) : ∀ p ∈ l, p.1 ≠ k := by
 intro p hp
 unfold lastC at hk
 cases hq : l.getLast? with
 | none => rw [List.getLast?_eq_none_iff.1 hq] at hp; cases hp
 | some q =>
  rw [hq] at hk
  obtain ⟨ys, rfl⟩ := List.getLast?_eq_some_iff.1 hq
  rcases List.mem_append.1 hp with hp | hp
  ·
   exact clt_ne (clt_trans ((List.pairwise_append.1 h).2.2 p hp q (by simp)) hk)
  ·
   obtain rfl : p = q := by simpa using hp
   exact clt_ne hk
theorem kle_not (a b : ByteArray) : (Op.bytesLess b.toList a.toList || b.toList == a.toList) = !ltS a b := by
 rw [Lib.toList_data, Lib.toList_data, bytesLess_eq]
 unfold ltS
 rw [bytesLess_eq]
 by_cases h : a.data.toList < b.data.toList
 ·
  simp only [h, decide_true, Bool.not_true, Bool.or_eq_false_iff, decide_eq_false_iff_not, beq_eq_false_iff_ne, ne_eq]
  exact ⟨fun h2 => List.lt_irrefl _ (List.lt_trans h h2), fun e => by rw [e] at h; exact List.lt_irrefl _ h⟩
 ·
  simp only [h, decide_false, Bool.not_false, Bool.or_eq_true, decide_eq_true_eq, beq_iff_eq]
  rcases Std.le_total (a := b.data.toList) (b := a.data.toList) with h2 | h2
  ·
   by_cases e : b.data.toList = a.data.toList
   ·
    exact .inr e
   ·
    exact .inl (Std.lt_of_le_of_ne h2 e)
  ·
   by_cases e : b.data.toList = a.data.toList
   ·
    exact .inr e
   ·
    exact absurd (Std.lt_of_le_of_ne h2 (Ne.symm e)) h
theorem own_base {w : World} {base e size n : Nat} {v : Value} {xs : List Value} (h : w.ownsRow base e size v n xs) {k : Nat} (hk : v.ownBlock = some k) : base ≤ k := by
 rcases h.2 with ⟨rfl, _⟩ | ⟨g, cap, cur, rfl, hg, _⟩
 ·
  simp [Value.ownBlock] at hk
 ·
  have : g = k := by simpa [Value.ownBlock] using hk
  omega
theorem keeps_lt {F : Nat → Prop} {B : Nat} {W W' : World} (h : But F W W') (hF : ∀ k, F k → k < B) : KeepsFrom B W W' :=
 ⟨h.size, fun k _ hB hk _ => (h.block k (heap_lt hk) (fun hf => by have := hF k hf; omega)).trans hk⟩
theorem up_adj : ∀ (l : List RowV), (∀ i r q, l[i + 1]? = some r → l[i]? = some q → ltS q.1 r.1 = true) → Up l
 | [], _ => .nil
 | [x], _ => List.pairwise_singleton _ _
 | x :: y :: l, h => by
  have ih := up_adj (y :: l) (fun i r q hr hq => h (i + 1) r q hr hq)
  have hxy : ltS x.1 y.1 = true := h 0 y x rfl rfl
  refine List.pairwise_cons.2 ⟨fun z hz => ?_, ih⟩
  rcases List.mem_cons.1 hz with rfl | hz
  ·
   exact hxy
  ·
   exact clt_trans hxy (ih.head z hz)
theorem alloc4 (w : World) (A B C D : Obj) : ∃ W, W = (((w.alloc A).alloc B).alloc C).alloc D ∧ W.heap[w.heap.size]? = some A ∧ W.heap[w.heap.size + 1]? = some B ∧ W.heap[w.heap.size + 1 + 1]? = some C ∧ W.heap[w.heap.size + 1 + 1 + 1]? = some D ∧ Below w.heap.size w W ∧ W.heap.size = w.heap.size + 1 + 1 + 1 + 1 := by
 refine ⟨_, rfl, ?_, ?_, ?_, ?_, ?_, by simp only [World.size_alloc]⟩
 ·
  have x := alloc_new w A
  have x := (alloc_old B (heap_lt x)).trans x
  have x := (alloc_old C (heap_lt x)).trans x
  exact (alloc_old D (heap_lt x)).trans x
 ·
  have x := alloc_new (w.alloc A) B
  have x := (alloc_old C (heap_lt x)).trans x
  have x := (alloc_old D (heap_lt x)).trans x
  simpa only [World.size_alloc] using x
 ·
  have x := alloc_new ((w.alloc A).alloc B) C
  have x := (alloc_old D (heap_lt x)).trans x
  simpa only [World.size_alloc] using x
 ·
  have x := alloc_new (((w.alloc A).alloc B).alloc C) D
  simpa only [World.size_alloc] using x
 ·
  refine (((((Below.refl _ w).alloc (Nat.le_refl _) _).alloc ?_ _).alloc ?_ _).alloc ?_ _) <;> (simp only [World.size_alloc]; omega)
structure Cw1 (b3 b5 b6 b7 mw : Nat) (ob : Obj) (acc : List RowV) (W : World) : Prop where
 x3 : W.heap[b3]? = some ob
 x5 : W.heap[b5]? = some (.cells #[.map (some mw)] 119 (0, 0))
 x6 : W.heap[b6]? = some (.cells #[.string (lastC acc)] 9 (0, 0))
 x7 : W.heap[b7]? = some (.cells #[.bool acc.isEmpty] 4 (0, 0))
 mp : MapAt W mw Value.string acc
theorem Cw1.same {b3 b5 b6 b7 mw : Nat} {ob : Obj} {acc : List RowV} {W W' : World} (h : Cw1 b3 b5 b6 b7 mw ob acc W) (hk : ∀ k, k = b3 ∨ k = b5 ∨ k = b6 ∨ k = b7 ∨ k = mw → W'.heap[k]? = W.heap[k]?) : Cw1 b3 b5 b6 b7 mw ob acc W' :=
 ⟨(hk _ (.inl rfl)).trans h.x3, (hk _ (.inr (.inl rfl))).trans h.x5, (hk _ (.inr (.inr (.inl rfl)))).trans h.x6, (hk _ (.inr (.inr (.inr (.inl rfl))))).trans h.x7, h.mp.same (hk _ (.inr (.inr (.inr (.inr rfl)))))⟩
theorem Cw1.own {b3 b5 b6 b7 mw B : Nat} {ob : Obj} (hb : ∀ k, k = b3 ∨ k = b5 ∨ k = b6 ∨ k = b7 ∨ k = mw → k < B) : OwnFrom B (fun (acc : List RowV) W => Cw1 b3 b5 b6 b7 mw ob acc W ∧ B ≤ W.heap.size) := fun a W W' row h hg hr =>
 ⟨h.1.same (fun k hk => hg.block k (Nat.lt_of_lt_of_le (hb k hk) h.2) (fun e => by have := (hr k e.symm).1; have := hb k hk; omega)), Nat.le_trans h.2 hg.size⟩
theorem Cw1.step {b3 b5 b6 b7 mw B n₀ : Nat} {ob : Obj} {acc : List RowV} {W : World} (h : Cw1 b3 b5 b6 b7 mw ob acc W) {x : RowV} {O : Obj} (hO : MapAt (setB W mw O) mw Value.string (mput acc x.1 x.2)) (hn : ∀ p ∈ acc, p.1 ≠ x.1)
  (n1 : b3 < b5 ∧ b5 < b6 ∧ b6 < b7 ∧ mw < b5 ∧ b3 < mw) (hB : b7 < B) (h0 : n₀ ≤ b3) :
  Cw1 b3 b5 b6 b7 mw ob (acc ++ [x]) (((setB W mw O).setCell ⟨b6, 0, none⟩ (.string x.1)).setCell ⟨b7, 0, none⟩ (.bool false)) ∧
  KeepsFrom B W (((setB W mw O).setCell ⟨b6, 0, none⟩ (.string x.1)).setCell ⟨b7, 0, none⟩ (.bool false)) ∧ Below n₀ W (((setB W mw O).setCell ⟨b6, 0, none⟩ (.string x.1)).setCell ⟨b7, 0, none⟩ (.bool false)) := by
 have l3 := heap_lt h.x3
 obtain ⟨c1, c2, c3, c4, c5⟩ := n1
 have c : But (fun k => k = mw ∨ k = b6 ∨ k = b7) W (((setB W mw O).setCell ⟨b6, 0, none⟩ (.string x.1)).setCell ⟨b7, 0, none⟩ (.bool false)) := (((But.refl _ W).setB (fun _ => .inl rfl) O).setCell (fun _ => .inr (.inl rfl)) _).setCell (fun _ => .inr (.inr rfl)) _
 have p6 : (setB W mw O).heap[b6]? = _ := (setB_past W O b6 (by omega)).trans h.x6
 have q6 := setCell_at p6 0 (.string x.1)
 have c6 := But.setCell (But.refl (fun k => k = b6) (setB W mw O)) (p := ⟨b6, 0, none⟩) (fun _ => rfl) (.string x.1)
 have p7 := (c6.block b7 (by rw [setB_size]; exact heap_lt h.x7) (by omega)).trans ((setB_past W O b7 (by omega)).trans h.x7)
 have q7 := setCell_at p7 0 (.bool false)
 have c7 := But.setCell (But.refl (fun k => k = b7) ((setB W mw O).setCell ⟨b6, 0, none⟩ (.string x.1))) (p := ⟨b7, 0, none⟩) (fun _ => rfl) (.bool false)
 have hml : mw < (setB W mw O).heap.size := hO.lt
 have e7 : (acc ++ [x]).isEmpty = false := by simp
 refine ⟨⟨(c.block b3 l3 (by omega)).trans h.x3, (c.block b5 (heap_lt h.x5) (by omega)).trans h.x5, ?_, ?_, ?_⟩, keeps_lt c (by omega), c.below (by omega) (by omega)⟩
 ·
  rw [lastC_snoc]
  exact (c7.block b6 (heap_lt q6) (by omega)).trans q6
 ·
  rw [e7]
  exact q7
 ·
  have hm := hO.same (w' := ((setB W mw O).setCell ⟨b6, 0, none⟩ (.string x.1)).setCell ⟨b7, 0, none⟩ (.bool false)) ((c7.block mw (Nat.lt_of_lt_of_le hml c6.size) (by omega)).trans (c6.block mw hml (by omega)))
  have e : acc ++ [x] = mput acc x.1 x.2 := (mput_new (α := ByteArray) x.2 hn).symm
  rw [e]
  exact hm
structure Cw2 (b5 b10 mw mc D1 : Nat) (m : Fm ByteArray × Fm CellV) (W : World) : Prop where
 x5 : W.heap[b5]? = some (.cells #[.map (some mw)] 119 (0, 0))
 x10 : W.heap[b10]? = some (.cells #[.map (some mc)] 120 (0, 0))
 mp : MapAt W mw Value.string m.1
 mq : MapAt W mc encC m.2
 d1 : W.heap[D1]? = some (.deferred (some []))
theorem Cw2.same {b5 b10 mw mc D1 : Nat} {m : Fm ByteArray × Fm CellV} {W W' : World} (h : Cw2 b5 b10 mw mc D1 m W) (hk : ∀ k, k = b5 ∨ k = b10 ∨ k = mw ∨ k = mc ∨ k = D1 → W'.heap[k]? = W.heap[k]?) : Cw2 b5 b10 mw mc D1 m W' :=
 ⟨(hk _ (.inl rfl)).trans h.x5, (hk _ (.inr (.inl rfl))).trans h.x10, h.mp.same (hk _ (.inr (.inr (.inl rfl)))), h.mq.same (hk _ (.inr (.inr (.inr (.inl rfl))))), (hk _ (.inr (.inr (.inr (.inr rfl))))).trans h.d1⟩
theorem Cw2.own {b5 b10 mw mc D1 B : Nat} (hb : ∀ k, k = b5 ∨ k = b10 ∨ k = mw ∨ k = mc ∨ k = D1 → k < B) : OwnFrom B (fun (m : Fm ByteArray × Fm CellV) W => Cw2 b5 b10 mw mc D1 m W ∧ B ≤ W.heap.size) := fun a W W' row h hg hr =>
 ⟨h.1.same (fun k hk => hg.block k (Nat.lt_of_lt_of_le (hb k hk) h.2) (fun e => by have := (hr k e.symm).1; have := hb k hk; omega)), Nat.le_trans h.2 hg.size⟩
theorem Cw2.gone {b5 b10 mw mc D1 B n₀ : Nat} {m m' : Fm ByteArray × Fm CellV} {W : World} (h : Cw2 b5 b10 mw mc D1 m W) {O : Obj} (hO : MapAt (setB W mw O) mw Value.string m'.1) (hm : m'.2 = m.2)
  (n1 : mw ≠ b5 ∧ mw ≠ b10 ∧ mw ≠ mc ∧ mw ≠ D1) (hB : mw < B) (h0 : n₀ ≤ mw) (h1 : n₀ ≤ W.heap.size) :
  Cw2 b5 b10 mw mc D1 m' (setB W mw O) ∧ KeepsFrom B W (setB W mw O) ∧ CK W (setB W mw O) ∧ Below n₀ W (setB W mw O) := by
 have c : But (fun k => k = mw) W (setB W mw O) := (But.refl (fun k => k = mw) W).setB (fun _ => rfl) O
 obtain ⟨l, ck, hl, -⟩ := h.mp
 refine ⟨⟨(setB_past W O _ (by omega)).trans h.x5, (setB_past W O _ (by omega)).trans h.x10, hO, ?_, (setB_past W O _ (by omega)).trans h.d1⟩, keeps_lt c (by omega), CK.of_but c (fun k hk cs t fr e => by subst hk; rw [hl] at e; cases e), c.below h1 (by omega)⟩
 rw [hm]
 exact h.mq.same (setB_past W O _ (by omega))
theorem Cw2.put {b5 b10 mw mc D1 B n₀ : Nat} {m : Fm ByteArray × Fm CellV} {W : World} (h : Cw2 b5 b10 mw mc D1 m W) {q : Fm CellV} {O : Obj} (hO : MapAt (setB W mc O) mc encC q)
  (n1 : mc ≠ b5 ∧ mc ≠ b10 ∧ mw ≠ mc ∧ mc ≠ D1) (hB : mc < B) (h0 : n₀ ≤ mc) (h1 : n₀ ≤ W.heap.size) :
  Cw2 b5 b10 mw mc D1 (m.1, q) (setB W mc O) ∧ KeepsFrom B W (setB W mc O) ∧ CK W (setB W mc O) ∧ Below n₀ W (setB W mc O) := by
 have c : But (fun k => k = mc) W (setB W mc O) := (But.refl (fun k => k = mc) W).setB (fun _ => rfl) O
 obtain ⟨l, ck, hl, -⟩ := h.mq
 exact ⟨⟨(setB_past W O _ (by omega)).trans h.x5, (setB_past W O _ (by omega)).trans h.x10, h.mp.same (setB_past W O _ (by omega)), hO, (setB_past W O _ (by omega)).trans h.d1⟩, keeps_lt c (by omega), CK.of_but c (fun k hk cs t fr e => by subst hk; rw [hl] at e; cases e), c.below h1 (by omega)⟩
theorem alloc2 (w : World) (A B : Obj) : ∃ W, W = (w.alloc A).alloc B ∧ W.heap[w.heap.size]? = some A ∧ W.heap[w.heap.size + 1]? = some B ∧ Below w.heap.size w W ∧ W.heap.size = w.heap.size + 1 + 1 := by
 refine ⟨_, rfl, ?_, ?_, ?_, by simp only [World.size_alloc]⟩
 ·
  have x := alloc_new w A
  exact (alloc_old B (heap_lt x)).trans x
 ·
  have x := alloc_new (w.alloc A) B
  simpa only [World.size_alloc] using x
 ·
  refine ((Below.refl _ w).alloc (Nat.le_refl _) _).alloc ?_ _ <;> (simp only [World.size_alloc]; omega)
theorem IterAt.left_eq {α : Type} {w : World} {r mb : Nat} {enc : α → Value} {m todo : Fm α} (h : IterAt w r mb enc m todo) : w.rangeLeft mb r = todo.length := by
 obtain ⟨l, ck, since, seen, c0, hb, _, _, hr, _, _, _, rfl⟩ := h
 simp only [World.rangeLeft, hb, hr, left_ents, ents_size]
 simp [strip]
theorem changes_in (n : Nat) (hn : 6 ≤ n) (kb vb : Nat) (l : List RowV) (hl : l.length ≤ 4194304) (hsz : RowsSz l) (s : StateV) (hok : StateOk s) (cs : List Value) (vp vi vt vj vr vs vk vl vm : Value) (w : World) (ho : OverAt w kb vb l) (hs : StateAt w cs s vp vi vt vj vr vs vk vl vm) :
  CallsIn Fence.wide n Tryz.prog 23 #[(.func (.func 103) #[] #[.pointer (some ⟨kb, 0, none⟩), .pointer (some ⟨vb, 0, none⟩)]), .agg cs.toArray] w fun e w' => ∃ u, e = .returned u ∧ chgF (chgS l s) u w' ∧ Below w.heap.size w w' := by
 have h1 : 1 ≤ n := by omega
 have hro : Fence.wide.round = none := rfl
 have HO := hid ho
 have Hs := hid hs
 have Hsz := hid hsz
 have Hok := hid hok
 obtain ⟨hcs, hp, hi, ht, hj, hr, hs, hk, hl', hm⟩ := hs
 obtain ⟨xap, xcp, rfl, -⟩ := hp
 obtain ⟨xai, xci, rfl, -⟩ := hi
 obtain ⟨xat, xct, rfl, -⟩ := ht
 obtain ⟨xaj, xcj, rfl, -⟩ := hj
 obtain ⟨xar, xcr, rfl, -⟩ := hr
 obtain ⟨xas, xcs, rfl, -⟩ := hs
 obtain ⟨xak, xck, rfl, -⟩ := hk
 obtain ⟨xal, xcl, rfl, -⟩ := hl'
 obtain ⟨xam, xcm, rfl, -⟩ := hm
 subst hcs
 clear hok hsz ho
 refine callsIn_of_wp_marks Tryz.func23 rfl trivial ?_ hro
 simp only [Tryz.ntmps23, List.size_toArray, List.length_cons, List.length_nil, Nat.reduceAdd, Nat.reduceSub, Array.replicate_succ, Array.replicate_zero, List.push_toArray, List.append_toArray, List.nil_append, List.cons_append]
 have hmm := @run_makeMap Tryz.prog
 have he := fun w => run_neq_func_some (P := Tryz.prog) w 38 (.func 103) #[] #[.pointer (some ⟨kb, 0, none⟩), .pointer (some ⟨vb, 0, none⟩)] Tryz.underlying38
 have hst := hid (alloc_new w (.cells #[U s.pos, U s.done, U s.made, .slice xap s.procs.length xcp, .slice xai s.insts.length xci, .slice xat s.tokens.length xct, .slice xaj s.jobs.length xcj, .slice xar s.timers.length xcr, .slice xas s.subs.length xcs, .slice xak s.kept.length xck, .slice xal s.listed.length xcl, .slice xam s.msgs.length xcm] 33))
 have hB0 := hid ((Below.refl _ w).alloc (Nat.le_refl _) (.cells #[U s.pos, U s.done, U s.made, .slice xap s.procs.length xcp, .slice xai s.insts.length xci, .slice xat s.tokens.length xct, .slice xaj s.jobs.length xcj, .slice xar s.timers.length xcr, .slice xas s.subs.length xcs, .slice xak s.kept.length xck, .slice xal s.listed.length xcl, .slice xam s.msgs.length xcm] 33))
 obtain ⟨k0, k1, k2, k3, k4, k5, k6, k7, k8, k9, k10, k11⟩ := cells12 hst.out
 gi_wp2
 clear k0 k1 k2 k3 k4 k5 k6 k7 k8 k9 k10 k11
 generalize w.alloc (.cells #[U s.pos, U s.done, U s.made, .slice xap s.procs.length xcp, .slice xai s.insts.length xci, .slice xat s.tokens.length xct, .slice xaj s.jobs.length xcj, .slice xar s.timers.length xcr, .slice xas s.subs.length xcs, .slice xak s.kept.length xck, .slice xal s.listed.length xcl, .slice xam s.msgs.length xcm] 33) = w0 at hst hB0 ⊢
 refine ⟨trivial, (callsIn_wide.2 (smay_any s Hok.out (rowsSz s Hok.out) [U s.pos, U s.done, U s.made, .slice xap s.procs.length xcp, .slice xai s.insts.length xci, .slice xat s.tokens.length xct, .slice xaj s.jobs.length xcj, .slice xar s.timers.length xcr, .slice xas s.subs.length xcs, .slice xak s.kept.length xck, .slice xal s.listed.length xcl, .slice xam s.msgs.length xcm] _ _ _ _ _ _ _ _ _ w0 (Hs.out.grow hB0.out))).mono ?_⟩
 rintro e w1 ⟨rfl, b1⟩
 have hst1 := hid ((b1.block w.heap.size (heap_lt hst.out)).trans hst.out)
 have hB1 := hid (hB0.out.trans (b1.mono hB0.out.size))
 have hsz1 : w.heap.size < w1.heap.size := heap_lt hst1.out
 clear b1 hst
 cases hmy : mayB s with
 | false =>
  gi_wp2
  refine ⟨_, results_tmp rfl _ _ _, ?_⟩
  exact ⟨_, rfl, by unfold chgS chgF; rw [if_neg (by rw [hmy]; decide)]; exact ⟨none, 0, rfl, Nat.le_refl _, by simp [maxLen], rfl, fun j u h => by cases h⟩, hB1.out⟩
 | true =>
  have hch : Hid (chgS l s = mergeC (risL l) (rows s)) := by show _ = _; unfold chgS; rw [if_pos hmy]
  gi_wp2
  obtain ⟨W, hW, g1, g2, g3, g4, gB, gS⟩ := alloc4 w1 (.map #[] 0) (.cells #[.map (some w1.heap.size)] 119) (.cells #[.string ⟨#[]⟩] 9) (.cells #[.bool true] 4)
  rw [← hW]
  clear hW
  have C0 := hid (show Cw1 w.heap.size (w1.heap.size + 1) (w1.heap.size + 1 + 1) (w1.heap.size + 1 + 1 + 1) w1.heap.size (.cells #[U s.pos, U s.done, U s.made, .slice xap s.procs.length xcp, .slice xai s.insts.length xci, .slice xat s.tokens.length xct, .slice xaj s.jobs.length xcj, .slice xar s.timers.length xcr, .slice xas s.subs.length xcs, .slice xak s.kept.length xck, .slice xal s.listed.length xcl, .slice xam s.msgs.length xcm] 33 (0, 0)) [] W from ⟨(gB.block _ hsz1).trans hst1.out, g2, g3, g4, ⟨[], 0, g1, rfl, by simp [stamped_ents]⟩⟩)
  have hB2 := hid (hB1.out.trans (gB.mono hB1.out.size))
  have GS := hid gS
  clear g1 g2 g3 g4 gB hst1 he gS
  refine wpIn_rangeFunc_ownG hro h1 (gf := 103) (lb := #[.pointer (some ⟨kb, 0, none⟩), .pointer (some ⟨vb, 0, none⟩)]) rfl trivial (enters_of Tryz.func103 (by kernel_rfl) rfl)
   (over_stops (n - 1) (by omega) kb vb _ l w.heap.size w rfl hB2.out HO.out (by omega)) belowK_t (belowK_b hB2.out.size) (Below.refl _ _) (fun _ => rfl)
   (fun pre W' => (Cw1 w.heap.size (w1.heap.size + 1) (w1.heap.size + 1 + 1) (w1.heap.size + 1 + 1 + 1) w1.heap.size (.cells #[U s.pos, U s.done, U s.made, .slice xap s.procs.length xcp, .slice xai s.insts.length xci, .slice xat s.tokens.length xct, .slice xaj s.jobs.length xcj, .slice xar s.timers.length xcr, .slice xas s.subs.length xcs, .slice xak s.kept.length xck, .slice xal s.listed.length xcl, .slice xam s.msgs.length xcm] 33 (0, 0)) (risL pre) W' ∧ W.heap.size ≤ W'.heap.size) ∧ Below w.heap.size w W')
   (fun _ _ _ => False)
   (OwnFrom.and (fun pre A B row h hg hr => Cw1.own (B := W.heap.size) (by intro k hk; rw [GS.out]; omega) (risL pre) A B row h hg hr) (ownFrom_below (Nat.le_refl _) hB2.out.size))
   (fun _ _ _ _ _ hs _ _ => hs)
   ⟨⟨C0.out, Nat.le_refl _⟩, hB2.out⟩
   (fun x => { tmps := #[(.func (.func 103) #[] #[.pointer (some ⟨kb, 0, none⟩), .pointer (some ⟨vb, 0, none⟩)]), .agg #[U s.pos, U s.done, U s.made, .slice xap s.procs.length xcp, .slice xai s.insts.length xci, .slice xat s.tokens.length xct, .slice xaj s.jobs.length xcj, .slice xar s.timers.length xcr, .slice xas s.subs.length xcs, .slice xak s.kept.length xck, .slice xal s.listed.length xcl, .slice xam s.msgs.length xcm], undef, .pointer (some ⟨w.heap.size, 0, none⟩), .slice none 0 0, .pointer (some ⟨w1.heap.size + 1, 0, none⟩), .pointer (some ⟨w1.heap.size + 1 + 1, 0, none⟩), .pointer (some ⟨w1.heap.size + 1 + 1 + 1, 0, none⟩), .string x.1, .string x.2, undef, undef, undef, undef, undef, undef, undef, undef, undef, .agg #[U s.pos, U s.done, U s.made, .slice xap s.procs.length xcp, .slice xai s.insts.length xci, .slice xat s.tokens.length xct, .slice xaj s.jobs.length xcj, .slice xar s.timers.length xcr, .slice xas s.subs.length xcs, .slice xak s.kept.length xck, .slice xal s.listed.length xcl, .slice xam s.msgs.length xcm], .bool true, .bool false, .map (some w1.heap.size), (.func (.func 103) #[] #[.pointer (some ⟨kb, 0, none⟩), .pointer (some ⟨vb, 0, none⟩)]), .bool true, (.func (.func 103) #[] #[.pointer (some ⟨kb, 0, none⟩), .pointer (some ⟨vb, 0, none⟩)]), .string x.1, .string x.2, undef, undef, undef, undef, undef, undef, undef, undef, undef, undef, undef, undef, undef, undef, undef, undef, undef, undef, undef, undef, undef, undef, undef, undef, undef, undef, undef, undef, undef, undef, undef, undef, undef, undef, undef, undef, undef, undef, undef, undef, undef, undef, undef, undef, undef, undef, undef, undef, undef, undef, undef, undef, undef, undef, undef, undef, undef, undef, undef, undef, undef], defers := [] }) ?assign ?body ?done ?stop
  case assign =>
   intro l x W K hK
   gi_wp2
   exact hK
  case body =>
   rintro l' pre ⟨rk, rv⟩ W' ⟨⟨C1, hBW⟩, hB⟩ -
   dsimp only
   have hst := ris_step pre (rk, rv)
   have hu := fun hk => up_last (ris_up pre) (k := rk) hk
   generalize risL pre = acc at C1 hst hu
   have q5 := cell_of C1.x5 0
   have q6 := cell_of C1.x6 0
   have q7 := cell_of C1.x7 0
   obtain ⟨O, hO1, hO2⟩ := C1.mp.update (P := Tryz.prog) Tryz.underlying119 Tryz.underlying9 rk rv
   have hO3 := hO1 (.string rv) rfl
   clear hO1
   have p6 : (setB W' w1.heap.size O).heap[w1.heap.size + 1 + 1]? = _ := (setB_past W' O _ (by omega)).trans C1.x6
   have y6 := cell_of p6 0
   have z6 := free_of p6 0
   have c6 := But.setCell (But.refl (fun k => k = w1.heap.size + 1 + 1) (setB W' w1.heap.size O)) (p := ⟨w1.heap.size + 1 + 1, 0, none⟩) (fun _ => rfl) (.string rk)
   have p7 := (c6.block (w1.heap.size + 1 + 1 + 1) (by rw [setB_size]; exact heap_lt C1.x7) (by omega)).trans ((setB_past W' O _ (by omega)).trans C1.x7)
   have y7 := cell_of p7 0
   have z7 := free_of p7 0
   have H1 := hid C1
   have HM := hid hO2
   clear c6 p6 p7 C1 hO2
   cases hE : acc.isEmpty with
   | true =>
    have Hst : Hid (risL (pre ++ [(rk, rv)]) = acc ++ [(rk, rv)]) := by show _ = _; rw [hst, if_pos (.inl hE)]
    clear hst
    rw [hE] at q7
    have hfr : ∀ p ∈ acc, p.1 ≠ rk := by rw [List.isEmpty_iff.1 hE]; simp
    have hf := hid (Cw1.step (B := W.heap.size) (n₀ := w.heap.size) H1.out (x := (rk, rv)) HM.out hfr (by omega) (by rw [GS.out]; omega) (Nat.le_refl _))
    clear hfr hu
    gi_wp2
    exact ⟨hf.out.2.1, hf.out.2.2, ⟨by rw [Hst.out]; exact hf.out.1, Nat.le_trans hBW hf.out.2.1.size⟩, hB.trans hf.out.2.2⟩
   | false =>
    rw [hE] at q7
    cases hL : ltS (lastC acc) rk with
    | true =>
     have Hst : Hid (risL (pre ++ [(rk, rv)]) = acc ++ [(rk, rv)]) := by show _ = _; rw [hst, if_pos (.inr hL)]
     clear hst
     have hf := hid (Cw1.step (B := W.heap.size) (n₀ := w.heap.size) H1.out (x := (rk, rv)) HM.out (hu hL) (by omega) (by rw [GS.out]; omega) (Nat.le_refl _))
     have hle := kle_not (lastC acc) rk
     rw [hL] at hle
     simp only [Bool.not_true, Bool.or_eq_false_iff] at hle
     obtain ⟨hle1, hle2⟩ := hle
     clear hu
     gi_wp2
     exact ⟨hf.out.2.1, hf.out.2.2, ⟨by rw [Hst.out]; exact hf.out.1, Nat.le_trans hBW hf.out.2.1.size⟩, hB.trans hf.out.2.2⟩
    | false =>
     have Hst : Hid (risL (pre ++ [(rk, rv)]) = acc) := by show _ = _; rw [hst, if_neg (by rw [hE, hL]; simp)]
     clear hst
     have hle := kle_not (lastC acc) rk
     rw [hL] at hle
     clear hu
     cases hle1 : Op.bytesLess rk.toList (lastC acc).toList with
     | true =>
      clear hle
      gi_wp2
      exact ⟨KeepsFrom.refl _ _, Below.refl _ _, ⟨by rw [Hst.out]; exact H1.out, hBW⟩, hB⟩
     | false =>
      rw [hle1] at hle
      have hle2 : (rk.toList == (lastC acc).toList) = true := by simpa using hle
      clear hle
      gi_wp2
      exact ⟨KeepsFrom.refl _ _, Below.refl _ _, ⟨by rw [Hst.out]; exact H1.out, hBW⟩, hB⟩
  case stop =>
   rintro D c pre W _ _ h _
   exact h.elim
  case done =>
   rintro D1 ys W3 hD1 rfl ⟨⟨C1, hBW⟩, hB⟩ hK1
   have X3 := hid C1.x3
   have X5 := hid C1.x5
   have MP := hid C1.mp
   have K1 := hid hK1
   have hB3 := hid hB
   have hx3 := heap_lt X3.out
   rw [GS.out] at hBW hD1
   clear C1 hK1 hB C0
   obtain ⟨k0, k1, k2, k3, k4, k5, k6, k7, k8, k9, k10, k11⟩ := cells12 X3.out
   gi_wp2
   clear k0 k1 k2 k3 k4 k5 k6 k7 k8 k9 k10 k11
   obtain ⟨W4, hW4, g1, g2, gB, gS4⟩ := alloc2 W3 (.map #[] 0) (.cells #[.map (some W3.heap.size)] 120)
   rw [← hW4]
   clear hW4
   have hB4 := hid (hB3.out.trans (gB.mono hB3.out.size))
   have C4 : Cw2 (w1.heap.size + 1) (W3.heap.size + 1) w1.heap.size W3.heap.size D1 (risL ys, []) W4 := ⟨(gB.block _ (heap_lt X5.out)).trans X5.out, g2, MP.out.same (gB.block _ MP.out.lt), ⟨[], 0, g1, rfl, by simp [stamped_ents]⟩, (gB.block _ (heap_lt K1.out)).trans K1.out⟩
   have hD1' := heap_lt K1.out
   have HC4 := hid C4
   clear g1 g2 gB C4 K1 MP X5 X3
   refine ⟨trivial, (callsIn_wide.2 (srows_any s Hok.out [U s.pos, U s.done, U s.made, .slice xap s.procs.length xcp, .slice xai s.insts.length xci, .slice xat s.tokens.length xct, .slice xaj s.jobs.length xcj, .slice xar s.timers.length xcr, .slice xas s.subs.length xcs, .slice xak s.kept.length xck, .slice xal s.listed.length xcl, .slice xam s.msgs.length xcm] _ _ _ _ _ _ _ _ _ W4 (Hs.out.grow hB4.out))).mono ?_⟩
   rintro e w5 ⟨lc, vv, rfl, hlc, hrv, b5⟩
   rw [toldS_yes hmy] at hrv
   have hB5 := hid (hB4.out.trans (b5.mono hB4.out.size))
   have hsz5 := b5.size
   have C5 := hid (HC4.out.same (fun k hk => b5.block k (by omega)))
   clear b5 HC4
   gi_wp2
   refine wpIn_rangeFunc_ownG hro h1 (gf := 27) (lb := #[.pointer (some ⟨lc, 0, none⟩)]) rfl trivial (enters_of Tryz.func27 (by kernel_rfl) rfl)
    (rows_ck (n - 1) (by omega) lc _ vv (rows s) hlc hrv (rows_len Hok.out)) ck_t ck_b (Below.refl _ _) (fun _ => rfl)
    (fun pre W' => (Cw2 (w1.heap.size + 1) (W3.heap.size + 1) w1.heap.size W3.heap.size D1 (chFold (risL ys) pre) W' ∧ w5.heap.size ≤ W'.heap.size) ∧ Below w.heap.size w W')
    (fun _ _ _ => False)
    (OwnFrom.and (fun pre A B row h hg hr => Cw2.own (B := w5.heap.size) (by intro k hk; omega) (chFold (risL ys) pre) A B row h hg hr) (ownFrom_below (Nat.le_refl _) hB5.out.size))
    (fun _ _ _ _ _ hs _ _ => hs)
    ⟨⟨C5.out, Nat.le_refl _⟩, hB5.out⟩
    (fun x => { tmps := #[(.func (.func 103) #[] #[.pointer (some ⟨kb, 0, none⟩), .pointer (some ⟨vb, 0, none⟩)]), .agg #[U s.pos, U s.done, U s.made, .slice xap s.procs.length xcp, .slice xai s.insts.length xci, .slice xat s.tokens.length xct, .slice xaj s.jobs.length xcj, .slice xar s.timers.length xcr, .slice xas s.subs.length xcs, .slice xak s.kept.length xck, .slice xal s.listed.length xcl, .slice xam s.msgs.length xcm], undef, .pointer (some ⟨w.heap.size, 0, none⟩), .slice none 0 0, .pointer (some ⟨w1.heap.size + 1, 0, none⟩), .pointer (some ⟨w1.heap.size + 1 + 1, 0, none⟩), .pointer (some ⟨w1.heap.size + 1 + 1 + 1, 0, none⟩), undef, undef, .pointer (some ⟨W3.heap.size + 1, 0, none⟩), .string x.1, .string x.2, undef, undef, undef, undef, undef, undef, .agg #[U s.pos, U s.done, U s.made, .slice xap s.procs.length xcp, .slice xai s.insts.length xci, .slice xat s.tokens.length xct, .slice xaj s.jobs.length xcj, .slice xar s.timers.length xcr, .slice xas s.subs.length xcs, .slice xak s.kept.length xck, .slice xal s.listed.length xcl, .slice xam s.msgs.length xcm], .bool true, .bool false, .map (some w1.heap.size), (.func (.func 103) #[] #[.pointer (some ⟨kb, 0, none⟩), .pointer (some ⟨vb, 0, none⟩)]), .bool true, (.func (.func 103) #[] #[.pointer (some ⟨kb, 0, none⟩), .pointer (some ⟨vb, 0, none⟩)]), undef, undef, undef, undef, undef, undef, undef, undef, undef, undef, undef, undef, .map (some W3.heap.size), .agg #[U s.pos, U s.done, U s.made, .slice xap s.procs.length xcp, .slice xai s.insts.length xci, .slice xat s.tokens.length xct, .slice xaj s.jobs.length xcj, .slice xar s.timers.length xcr, .slice xas s.subs.length xcs, .slice xak s.kept.length xck, .slice xal s.listed.length xcl, .slice xam s.msgs.length xcm], (.func (.func 27) #[] #[.pointer (some ⟨lc, 0, none⟩)]), .string x.1, .string x.2, undef, undef, undef, undef, undef, undef, undef, undef, undef, undef, undef, undef, undef, undef, undef, undef, undef, undef, undef, undef, undef, undef, undef, undef, undef, undef, undef, undef, undef, undef, undef, undef, undef, undef, undef, undef, undef, undef, undef, undef, undef, undef, undef, undef, undef, undef], defers := [] }) ?assign2 ?body2 ?done2 ?stop2
   case assign2 =>
    intro l x W K hK
    gi_wp2
    exact hK
   case stop2 =>
    rintro D c pre W _ _ h _
    exact h.elim
   case body2 =>
    rintro l' pre ⟨rk, rv⟩ W' ⟨⟨C2, hBW'⟩, hB'⟩ -
    dsimp only
    have hcs := chFold_snoc (risL ys) pre (rk, rv)
    generalize chFold (risL ys) pre = m at C2 hcs
    have hlk := C2.mp.look_ok (P := Tryz.prog) Tryz.underlying119 Tryz.underlying9 (zero_str _) rk
    have q5 := cell_of C2.x5 0
    have q10 := cell_of C2.x10 0
    obtain ⟨O1, u1, m1⟩ := C2.mq.update (P := Tryz.prog) Tryz.underlying120 Tryz.underlying9 rk (rv, false)
    have u1' := u1 (.agg #[.string rv, .bool false]) rfl
    have P1 := Cw2.put (B := w5.heap.size) (n₀ := w.heap.size) C2 m1 (by omega) (by omega) (by omega) (by omega)
    obtain ⟨O2, u2, m2⟩ := P1.1.mp.delete (P := Tryz.prog) Tryz.underlying119 Tryz.underlying9 rk
    obtain ⟨O3, u3, m3⟩ := C2.mp.delete (P := Tryz.prog) Tryz.underlying119 Tryz.underlying9 rk
    have r5 := cell_of P1.1.x5 0
    have P2 := hid (Cw2.gone (B := w5.heap.size) (n₀ := w.heap.size) (m' := (mdel m.1 rk, mput m.2 rk (rv, false))) P1.1 m2 rfl (by omega) (by omega) (by omega) (Nat.le_trans (by omega) P1.2.1.size))
    have P3 := hid (Cw2.gone (B := w5.heap.size) (n₀ := w.heap.size) (m' := (mdel m.1 rk, m.2)) C2 m3 rfl (by omega) (by omega) (by omega) (by omega))
    replace P1 := hid P1
    have s2 := Nat.le_trans P1.out.2.1.size P2.out.2.1.size
    have s3 := P3.out.2.1.size
    clear C2 m1 m2 m3 u1
    cases hm : mlook m.1 rk with
    | none =>
     have hh : mhas m.1 rk = false := by unfold mhas; rw [hm]; rfl
     rw [hm, hh] at hlk
     simp only [Option.map_none, Option.getD_none] at hlk
     have hst : chStep m (rk, rv) = (mdel m.1 rk, mput m.2 rk (rv, false)) := by unfold chStep; rw [if_neg (by rw [hm]; simp)]
     have Hst := hid (hcs.trans hst)
     clear hst hcs u3 hm hh
     gi_wp2
     exact ⟨P1.out.2.1.trans P2.out.2.1, P1.out.2.2.1.trans P2.out.2.2.1, ⟨by rw [Hst.out]; exact P2.out.1, by omega⟩, hB'.trans (P1.out.2.2.2.trans P2.out.2.2.2)⟩
    | some v0 =>
     have hh : mhas m.1 rk = true := by unfold mhas; rw [hm]; rfl
     rw [hm, hh] at hlk
     simp only [Option.map_some, Option.getD_some] at hlk
     by_cases hv : v0 = rv
     ·
      subst hv
      have hbq := beq_self_eq_true v0.toList
      have hst : chStep m (rk, v0) = (mdel m.1 rk, m.2) := by unfold chStep; rw [if_pos hm]
      have Hst := hid (hcs.trans hst)
      clear hst hcs u2 u1' hm hh r5
      gi_wp2
      exact ⟨P3.out.2.1, P3.out.2.2.1, ⟨by rw [Hst.out]; exact P3.out.1, by omega⟩, hB'.trans P3.out.2.2.2⟩
     ·
      have hbn : (v0.toList == rv.toList) = false := beq_eq_false_iff_ne.2 fun e => hv (by rw [Lib.toList_data, Lib.toList_data] at e; exact ByteArray.ext (Array.toList_inj.1 e))
      have hst : chStep m (rk, rv) = (mdel m.1 rk, mput m.2 rk (rv, false)) := by unfold chStep; rw [if_neg (by rw [hm]; simpa using hv)]
      have Hst := hid (hcs.trans hst)
      clear hst hcs u3 hm hh
      gi_wp2
      exact ⟨P1.out.2.1.trans P2.out.2.1, P1.out.2.2.1.trans P2.out.2.2.1, ⟨by rw [Hst.out]; exact P2.out.1, by omega⟩, hB'.trans (P1.out.2.2.2.trans P2.out.2.2.2)⟩
   case done2 =>
    rintro D2 zs W6 hD2 rfl ⟨⟨C6, hBW6⟩, hB6⟩ hK2
    obtain ⟨o, hr, hi⟩ := IterAt.start (P := Tryz.prog) C6.mp Tryz.underlying119
    have q5 := cell_of C6.x5 0
    have hD2' := heap_lt hK2
    have C7 := hid (C6.same (fun k hk => alloc_old o (show k < W6.heap.size by omega)))
    have K7 := hid ((alloc_old o hD2').trans hK2)
    have hB7 := hid (hB6.alloc hB6.size o)
    have HI := hid hi
    have hB6s := hB6.size
    clear C6 hK2 hB6 hi C5 hB5 hrv hlc
    have hA := ris_up ys
    have hBu := up_adj (rows s) (fun i r q hr hq => rows_rise hmy hr hq)
    have hperm := fun d hd => changes_perm (d := d) hA hBu hd
    have hfr := fun d q r x hd => gone_fresh (d := d) (q := q) (r := r) (x := x) hA hBu hd
    have hUp := merge_up _ _ hA hBu
    have hks : ∀ c ∈ mergeC (risL ys) (rows s), c.key.size ≤ 4611686018427387904 := fun c hc => by
     rcases merge_key hA hBu hc with ⟨x, hx, e⟩ | ⟨y, hy, e⟩
     ·
      rw [e]
      rcases risL_mem ys [] x hx with h | h
      ·
       cases h
      ·
       exact (Hsz.out x h).1
     ·
      rw [e]
      exact (rowsSz s Hok.out y hy).1
    have hml : (mergeC (risL ys) (rows s)).length ≤ 8388608 := by
     have g1 := merge_len (risL ys) (rows s)
     have g2 := risL_len ys []
     have g3 := rows_len Hok.out
     have g4 : (risL ys).length ≤ ys.length := by unfold risL; simpa using g2
     omega
    gi_wp2
    generalize W6.alloc o = W7 at C7 K7 hB7 HI ⊢
    generalize mergeC (risL ys) (rows s) = M at hch hperm hUp hks hml
    generalize chFold (risL ys) (rows s) = m at hperm hfr C7 HI
    clear hA hBu hr q5
    gi_loopw [15] (fun _ wr => ∃ (d t : Fm ByteArray), IterAt wr W6.heap.size w1.heap.size Value.string m.1 t ∧ Hid ((d ++ t).Perm m.1 ∧ Cw2 (w1.heap.size + 1) (W3.heap.size + 1) w1.heap.size W3.heap.size D1 (m.1, m.2 ++ d.map cellGone) wr ∧ wr.heap[D2]? = some (.deferred (some [])) ∧ Below w.heap.size w wr ∧ W6.heap.size < wr.heap.size)) (fun _ wr => wr.rangeLeft w1.heap.size W6.heap.size)
    case atStart => exact ⟨[], m.1, HI.out, ⟨.refl _, by simpa using C7.out, K7.out, hB7.out, HI.out.lt⟩⟩
    case round =>
     obtain ⟨wo, rfl⟩ : ∃ wo : World, wo = wr := ⟨_, rfl⟩
     obtain ⟨d, t, hI, hR⟩ := hrel
     have q5 := cell_of hR.out.2.1.x5 0
     have hwo := hR.out.2.2.2.2
     rcases hI.next (P := Tryz.prog) 0 with ⟨rfl, hrun⟩ | ⟨a, k, x, b, w', rfl, hrun, hI', hb', hen⟩
     ·
      have hd : d.Perm m.1 := by simpa using hR.out.1
      have hp := hperm d hd
      have hC := hR.out.2.1
      have KD2 := hid hR.out.2.2.1
      have hB9 := hid hR.out.2.2.2.1
      generalize m.2 ++ d.map cellGone = cm at hp hC
      have hlook := hid (fun c hc => look_of hp hUp (c := c) hc)
      have hsk := skeys_of hp hUp
      have hlen : cm.length = M.length := by have := hp.length_eq; simpa using this
      have q10 := cell_of hC.x10 0
      have hmc := hC.mq.lt
      obtain ⟨D, hown, hperm2, hsz⟩ := hC.mq.owns (P := Tryz.prog) Tryz.underlying9 (by rw [hlen]; unfold maxLen; omega) (fun p hp' => by
       have := hks (toChg p) (hp.mem_iff.1 (List.mem_map.2 ⟨p, hp', rfl⟩))
       exact Nat.le_trans this (by unfold maxLen; decide))
      have hmx : Maps.size D ≤ maxLen := by rw [hsz, hlen]; unfold maxLen; omega
      have hby : Maps.size D * 16 ≤ 140737488355328 := by rw [hsz, hlen]; omega
      have hfK : Fence.wide.fn 46 := trivial
      have hfS : Fence.wide.fn 45 := trivial
      have HP := hid hperm2
      have HC := hid hC
      have HSK := hid hsk
      have HL := hid hlen
      clear hp hC hsk hlen hperm2 hsz hks hd hfr hperm hR C7 K7 hB7 HI
      gi_wp2_with (first
       | (gi_at_call 46; refine (callsIn_wide.2 ((callsIn_wide (n := 5)).1 (Tryz.maps_Keys_46 _ _))).mono ?_; rintro e w' ⟨rfl, rfl⟩)
       | (gi_at_call 45; refine (callsIn_wide.2 ((callsIn_wide (n := 5)).1 (Tryz.slices_Sorted_keys_45_46 W3.heap.size _ D anyR wo hown hmx hby))).mono ?_; rintro e w8 ⟨v, ss, rfl, hS, hrow, hnil, hb8⟩; obtain ⟨sa, sc, rfl⟩ := own_slice hrow; have hl : ss.length = M.length := (by have := (hS.trans HP.out).length_eq; rw [this, List.length_map]; exact HL.out); have hss : (ss.mergeSort (fun x y => decide (x ≤ y))) = (cm.map fun p => p.1.data.toList).mergeSort leB := mergeSort_of_perm (hS.trans HP.out); rw [hl] at hrow ⊢))
      have bA := (Below.refl _ wo).alloc (Nat.le_refl _) (.cells #[.map (some W3.heap.size)] 120)
      have b8 : Below wo.heap.size wo w8 := bA.trans (hb8.mono bA.size)
      have C8 := hid (HC.out.same (fun k hk => b8.block k (by omega)))
      have KD8 := hid ((b8.block D2 (by omega)).trans KD2.out)
      have hB10 := hid (hB9.out.trans (b8.mono hB9.out.size))
      have hs8 := b8.size
      have he8 : (M.map ChgV.key).map Value.string = (ss.mergeSort (fun x y => decide (x ≤ y))).map encStr := by
       rw [← HSK.out, hss]
       simp [skeys, Function.comp_def]
      rw [← he8] at hrow
      have FK := hid (FlatAt.of_own hrow)
      obtain ⟨i0, hi0, hz0, hz1, hz2⟩ := info_parts info_chg
      clear bA b8 he8 hrow hb8 hnil hl hss hS HC KD2 hB9 HSK HL HP hown hmx hby hI hrun q5 q10
      gi_loopw [16, 75] (fun vo vi wq => ∃ i : Nat, i ≤ M.length ∧ vi = .int .i64 i ∧ Hid (wq.ownsRow w8.heap.size 63 3 vo i (chgsC (M.take i)) ∧ Below w8.heap.size w8 wq)) (fun _ vi _ => M.length - (intOf vi).toNat)
      case atStart => exact ⟨0, Nat.zero_le _, rfl, ⟨World.ownsRow_nil _ _ _ _, Below.refl _ _⟩⟩
      case round =>
       obtain ⟨i, hi, rfl, hQ⟩ := hrel
       obtain ⟨ao, co, rfl⟩ := own_slice hQ.out.1
       have hBq := hQ.out.2.size
       by_cases hlt : i < M.length
       ·
        obtain ⟨⟨key, cS, cg⟩, hx⟩ : ∃ x, M[i]? = some x := ⟨_, List.getElem?_eq_getElem hlt⟩
        have hmem := List.mem_of_getElem? hx
        obtain ⟨b, off, cap', he, d0⟩ := flat_get (FK.out.grow hQ.out.2) (i := i) (u := .string key) (by simp [hx])
        cases he
        have C9 := C8.out.same (fun k hk => hQ.out.2.block k (by omega))
        have q10 := cell_of C9.x10 0
        have hl1 := C9.mq.look_one (P := Tryz.prog) Tryz.underlying120 Tryz.underlying9 (zero_cell _) key
        have hlk := hlook.out _ hmem
        dsimp only at hlk
        rw [hlk] at hl1
        simp only [Option.map_some, Option.getD_some, encC] at hl1
        have hown := hQ.out.1
        have Hx := hid hx
        clear hx hmem hlk C9
        gi_wp2_with (gi_at_builtin; refine wpListIn_append_own _ rfl _ _ 57 rfl w8.heap.size 63 i0 (.agg #[.string ⟨#[]⟩, .string ⟨#[]⟩, .bool false]) 3 40 Tryz.underlying57 hi0 hz0 hz1 hz2 rfl (by decide) _ _ _ rfl (hown.alloc _) ⟨wr.heap.size, 0, none⟩ 1 1 [.string key, .string cS, .bool cg] rfl rfl (cell_three_new _ _ _ _ _) (by simp [Value.oneCell']) (by unfold maxLen; omega) (by omega) (by simp; omega) ?_; intro v' w9 hown' hgrow _; obtain ⟨g', cap'', rfl⟩ := ownsRow_succ hown')
        have B9 := hid ((hQ.out.2.alloc hBq (.cells #[.string key, .string cS, .bool cg] 63)).grown hgrow (by rw [World.size_alloc]; omega) (fun k e => own_base hown e))
        have O9 := hid hown'
        clear hown' hgrow hown
        gi_wp2
        go_roundw
        case rel => exact ⟨i + 1, by omega, by go_num, ⟨by rw [take_snoc Hx.out, chgsC_snoc]; exact O9.out, B9.out⟩⟩
        case measure => simp [intOf]; omega
       ·
        obtain rfl : i = M.length := by omega
        have F9 := hid (FlatAt.of_own hQ.out.1)
        have K2 := (hQ.out.2.block D2 (by omega)).trans KD8.out
        have K1 := (hQ.out.2.block D1 (by omega)).trans C8.out.d1
        have K1' := (World.putObj_heap_other (o := .deferred none) (show D1 ≠ D2 by omega)).trans K1
        have hB11 := hid (hB10.out.trans (hQ.out.2.mono hB10.out.size))
        have K2' := hid K2
        have K3' := hid K1'
        clear K1 K2 K1'
        gi_wp2
        refine ⟨by simp, .inl ⟨_, _, rfl, run_takeDeferred K2'.out, ⟨by simp, .inl ⟨_, _, rfl, run_takeDeferred K3'.out, _, results_tmp rfl _ _ _, ?_⟩⟩⟩⟩
        refine ⟨_, rfl, ?_, ?_⟩
        ·
         rw [hch.out]
         have f1 := F9.out
         rw [List.take_length] at f1
         exact (FlatAt.ck f1 (ck_b (w := w) _ D2 _ _ (by omega) K2'.out rfl rfl)).ck (ck_b (w := w) _ D1 _ _ (by omega) K3'.out rfl rfl)
        ·
         exact (hB11.out.trans (belowK_b (w := w) (Nat.le_refl _) _ D2 _ _ (by omega) K2'.out rfl rfl)).trans (belowK_b (w := w) (Nat.le_refl _) _ D1 _ _ (by omega) K3'.out rfl rfl)
     ·
      have C8 := hR.out.2.1.same (W' := w') (fun k hk => hb'.block k (by omega) (show ¬ (k = W6.heap.size) by omega))
      have q10 := cell_of C8.x10 0
      obtain ⟨O, u, hm⟩ := C8.mq.update (P := Tryz.prog) Tryz.underlying120 Tryz.underlying9 k (⟨#[]⟩, true)
      have u' := u (.agg #[.string ⟨#[]⟩, .bool true]) rfl
      have hP := hR.out.1
      have hnew : mput (m.2 ++ d.map cellGone) k (⟨#[]⟩, true) = m.2 ++ (d ++ [(k, x)]).map cellGone := by
       rw [mput_new _ (hfr d a b (k, x) hP), List.map_append, ← List.append_assoc]
       rfl
      have hszw := hb'.size
      have hBw : Below w.heap.size w w' := hR.out.2.2.2.1.trans (hb'.below (Nat.le_trans (by omega) hR.out.2.2.2.1.size) (fun k hk => by rw [show k = W6.heap.size from hk]; exact hB6s))
      have P1 := Cw2.put (B := W6.heap.size) (n₀ := w.heap.size) C8 hm (by omega) (by omega) (by omega) hBw.size
      dsimp only at P1
      rw [hnew] at P1
      have HI2 := hid (hI'.same (setB_past (mb := W3.heap.size) w' O w1.heap.size (by omega)) (setB_past (mb := W3.heap.size) w' O W6.heap.size (by omega)))
      have KD := hid ((setB_past (mb := W3.heap.size) w' O D2 (by omega)).trans ((hb'.block D2 (by omega) (show ¬ (D2 = W6.heap.size) by omega)).trans hR.out.2.2.1))
      have hpm : Hid (((d ++ [(k, x)]) ++ (a ++ b)).Perm m.1) := by
       refine List.Perm.trans ?_ hP
       rw [List.append_assoc]
       exact (show (d ++ ((k, x) :: (a ++ b))).Perm _ from (List.perm_middle.symm).append_left d)
      have HP1 := hid P1
      have hBw' := hid hBw
      have hlt : W6.heap.size < (setB w' W3.heap.size O).heap.size := by rw [setB_size]; have := hR.out.2.2.2.2; omega
      clear C8 hm u P1 hnew hP hBw
      gi_wp2
      go_roundw
      case rel => exact ⟨d ++ [(k, x)], a ++ b, HI2.out, ⟨hpm.out, HP1.out.1, KD.out, hBw'.out.trans HP1.out.2.2.2, hlt⟩⟩
      case measure => rw [HI2.out.left_eq, hI.left_eq]; simp only [List.length_append, List.length_cons]; omega
theorem schanges_any (kb vb : Nat) (l : List RowV) (hl : l.length ≤ 4194304) (hsz : RowsSz l) (s : StateV) (hok : StateOk s) (cs : List Value) (vp vi vt vj vr vs vk vl vm : Value) (w : World) (ho : OverAt w kb vb l) (hs : StateAt w cs s vp vi vt vj vr vs vk vl vm) :
  Calls Tryz.prog 23 #[overV kb vb, .agg cs.toArray] w fun e w' => ∃ u, e = .returned u ∧ chgF (chgS l s) u w' ∧ Below w.heap.size w w' :=
 (callsIn_wide (n := 6)).1 (changes_in 6 (Nat.le_refl _) kb vb l hl hsz s hok cs vp vi vt vj vr vs vk vl vm w ho hs)
end Go.Proofs.YthikijlbclckdaaGreat
