/- KeepReads: contracts (Fl Ap Tw Tw2 Sw Sb). -/
import Derived.Test.YthikijlbclckdaaGreatQ1
import Derived.Test.YthikijlbclckdaaGreatQ4
import Derived.Test.YthikijlbclckdaaGreatQ6
import Derived.Deep.Upon
import Derived.ArgAppend
import Derived.Test.YthikijlbclckdaaGreatProg
import Derived.Lib.FrozenHead
import Derived.Lib.UnsafeStr
import Derived.Lib.Builder
import Derived.Shelf.Strings.Builder1
import Derived.Shelf.Strings.BuilderF
import Derived.Shelf.Strings.BuilderK
import Derived.Ground.SlgmProg
import Derived.Shelf.SortM.Plain
import Derived.Shelf.SortM.SortNone
namespace Go.Proofs.YthikijlbclckdaaGreat
set_option maxRecDepth 100000
set_option maxHeartbeats 40000000
set_option linter.unusedSimpArgs false
set_option linter.unusedVariables false
open Go.RowKit
def FlatAt (size : Nat) (w : World) (v : Value) (n : Nat) (cs : List Value) : Prop :=
 ∃ a cap, v = .slice a n cap ∧ n ≤ cap ∧ n ≤ maxLen ∧ cs.length = n * size ∧ ∀ j u, cs[j]? = some u → ∃ b off, a = some ⟨b, off, none⟩ ∧ w.cell? ⟨b, off + j, none⟩ = some u
theorem FlatAt.grow {size n : Nat} {w w' : World} {v : Value} {cs : List Value} (h : FlatAt size w v n cs) (hb : Below w.heap.size w w') : FlatAt size w' v n cs := by
 obtain ⟨a, cap, hv, h1, h2, h3, h4⟩ := h
 refine ⟨a, cap, hv, h1, h2, h3, fun j u hu => ?_⟩
 obtain ⟨b, off, ha, hc⟩ := h4 j u hu
 exact ⟨b, off, ha, (hb.cell (p := ⟨b, off + j, none⟩) (World.block_lt_of_cell? w _ hc)).trans hc⟩
theorem FlatAt.but {size n : Nat} {O : Nat → Prop} {w w' : World} {v : Value} {cs : List Value} (h : FlatAt size w v n cs) (hb : But O w w') (hO : ∀ a m cap, v = .slice (some a) m cap → ¬ O a.block) : FlatAt size w' v n cs := by
 obtain ⟨a, cap, hv, h1, h2, h3, h4⟩ := h
 refine ⟨a, cap, hv, h1, h2, h3, fun j u hu => ?_⟩
 obtain ⟨b, off, ha, hc⟩ := h4 j u hu
 subst ha
 exact ⟨b, off, rfl, hb.cell hc (show ¬ O b from hO ⟨b, off, none⟩ _ _ hv)⟩
theorem FlatAt.of_own {size n base e : Nat} {w : World} {v : Value} {cs : List Value} (h : w.ownsRow base e size v n cs) : FlatAt size w v n cs := by
 rcases h.2 with ⟨rfl, rfl⟩ | ⟨g, cap, cur, rfl, hg, hh, hnc, hcm, hs, ht⟩
 ·
  refine ⟨none, 0, rfl, Nat.le_refl _, by simp [maxLen], h.1, fun j u hu => ?_⟩
  have := h.1
  simp at this
  subst this
  simp at hu
 ·
  refine ⟨_, cap, rfl, hnc, by omega, h.1, fun j u hu => ⟨g, 0, rfl, ?_⟩⟩
  have := h.cells (g := g) rfl j u hu
  have ha : (⟨g, 0, none⟩ : Addr).add j = ⟨g, 0 + j, none⟩ := by unfold Addr.add; split <;> simp_all
  rwa [ha] at this
theorem FlatAt.nil (size : Nat) (w : World) : FlatAt size w (.slice none 0 0) 0 [] := ⟨none, 0, rfl, Nat.le_refl _, by simp [maxLen], by simp, by simp⟩
theorem FlatAt.made {size n : Nat} (w : World) (cs : List Value) (T : TypeId) (hl : cs.length = n * size) (hn : n ≤ maxLen) : FlatAt size (w.alloc (.cells cs.toArray T)) (.slice (some ⟨w.heap.size, 0, none⟩) n n) n cs := by
 refine ⟨_, n, rfl, Nat.le_refl _, hn, hl, fun j u hu => ⟨w.heap.size, 0, rfl, ?_⟩⟩
 rw [cell_of (alloc_new w _)]
 simpa using hu
theorem ownsRow_base {w : World} {B B' e size n : Nat} {v : Value} {xs : List Value} (h : w.ownsRow B e size v n xs) (hB : B' ≤ B) : w.ownsRow B' e size v n xs := by
 refine ⟨h.1, ?_⟩
 rcases h.2 with hn | ⟨g, cap, cur, hv, hg, r⟩
 ·
  exact .inl hn
 ·
  exact .inr ⟨g, cap, cur, hv, by omega, r⟩
theorem run_app_flat {P : Program} {W : World} (t e : TypeId) {z : Value} {size bytes : Nat} (ty : TypeId) (ht : P.underlying t = some (.slice e))
  (hinfo : (P.info? e).map (fun i => (i.zero, i.size, i.bytes)) = some (some z, size, bytes)) (hzs : z.cells.size = size) (hsz : 0 < size)
  {base n m : Nat} {v x : Value} {xs cs : List Value} (hown : W.ownsRow base e size v n xs) (hbase : base ≤ W.heap.size) (hx : FlatAt size W x m cs) (hn : n + m ≤ maxLen) (hby : (n + m) * bytes ≤ 140737488355328)
  (h1 : ∀ u ∈ cs, u.oneCell' = true) :
  ∃ v' w', (Builtin.append_ #[t, t] ty #[v, x]).run P W = .ok v' w' ∧ w'.ownsRow base e size v' (n + m) (xs ++ cs) ∧ Below base W w' := by
 obtain ⟨i0, hi, hzz⟩ := Option.map_eq_some_iff.1 hinfo
 simp only [Prod.mk.injEq] at hzz
 obtain ⟨hz0, hz1, hz2⟩ := hzz
 obtain ⟨a, cap, rfl, hc1, hc2, hl, hcs⟩ := hx
 by_cases hm : m = 0
 ·
  subst hm
  have hnil : cs = [] := List.eq_nil_of_length_eq_zero (by simpa using hl)
  subst hnil
  refine ⟨v, W, ?_, by simpa using hown, Below.refl _ _⟩
  obtain ⟨ao, sc, rfl, hle⟩ : ∃ ao sc, v = .slice ao n sc ∧ n ≤ sc := by
   rcases hown.2 with ⟨rfl, rfl⟩ | ⟨g, cap2, cur, rfl, _, _, hnc, _⟩
   ·
    exact ⟨none, 0, rfl, Nat.le_refl _⟩
   ·
    exact ⟨_, _, rfl, hnc⟩
  cases a <;> cases ao <;> simp [Builtin.append_, run_underlying ht, sizeOf, typeInfo, hi, Builtin.lenOf, Builtin.firstCells, hle, Result.andThen, storeCells, go_sem]
 ·
  obtain ⟨u0, hu0⟩ : ∃ u, cs[0]? = some u := ⟨_, List.getElem?_eq_getElem (by rw [hl]; exact Nat.mul_pos (by omega) hsz)⟩
  obtain ⟨b, off, rfl, -⟩ := hcs 0 u0 hu0
  obtain ⟨v', w', hr, h2, h3, -⟩ := run_append_own (P := P) (w := W) base t ty e i0 z size bytes ht hi hz0 hz1 hz2 hzs hsz v n xs hown ⟨b, off, none⟩ m cap cs hl (fun j u hu => by
   obtain ⟨b2, off2, he, hc⟩ := hcs j u hu
   cases he
   have ha : (⟨b, off, none⟩ : Addr).add j = ⟨b, off + j, none⟩ := by unfold Addr.add; split <;> simp_all
   rw [ha]; exact hc) h1 hn hby hbase
  exact ⟨v', w', hr, h2, (Below.refl base W).grown h3 hbase (fun k hk => (hown.lt k hk).1)⟩
theorem app_flat {P : Program} {ops : Array Oper} {rest : List Oper} {o : Oper} {a : Act} {Q : Exit → Act → World → Prop} {W : World} (t e : TypeId) {z : Value} {size bytes : Nat} (ht : P.underlying t = some (.slice e))
  (hinfo : (P.info? e).map (fun i => (i.zero, i.size, i.bytes)) = some (some z, size, bytes)) (hzs : z.cells.size = size) (hsz : 0 < size)
  {base n m : Nat} {v x : Value} {xs cs : List Value} (hown : W.ownsRow base e size v n xs) (hbase : base ≤ W.heap.size) (hx : FlatAt size W x m cs) (hn : n + m ≤ maxLen) (hby : (n + m) * bytes ≤ 140737488355328)
  (h1 : ∀ u ∈ cs, u.oneCell' = true)
  {s x' : Operand} (hgd : o.guard = none) (ho : o.op = .call { callee := .builtin .append, args := #[s, x'], argTypes := #[t, t] }) (hs : a.eval s = v) (hx' : a.eval x' = x)
  (h : ∀ v' w', w'.ownsRow base e size v' (n + m) (xs ++ cs) → Below base W w' → wpList P ops Q rest (a.put o.dst v') w') :
  wpList P ops Q (o :: rest) a W := by
 refine wpList_plain hgd fun K hK => ?_
 obtain ⟨v', w', hr, h2, h3⟩ := run_app_flat (P := P) t e o.type ht hinfo hzs hsz hown hbase hx hn hby h1
 unfold Oper.wp execOp
 simp only [ho, resolve, invoke, builtin, Sem.run_bind, Sem.run_pure, Result.andThen_ok, List.map_toArray, List.map_cons, List.map_nil, hs, hx', hr]
 exact hK _ _ (h v' w' h2 h3)
theorem app_run {P : Program} {ops : Array Oper} {rest : List Oper} {o : Oper} {a : Act} {Q : Exit → Act → World → Prop} {W w' : World} {t u : TypeId} {v x r : Value}
  {s x' : Operand} (hgd : o.guard = none) (ho : o.op = .call { callee := .builtin .append, args := #[s, x'], argTypes := #[t, u] }) (hs : a.eval s = v) (hx' : a.eval x' = x)
  (hrun : (Builtin.append_ #[t, u] o.type #[v, x]).run P W = .ok r w') (h : wpList P ops Q rest (a.put o.dst r) w') : wpList P ops Q (o :: rest) a W := by
 refine wpList_plain hgd fun K hK => ?_
 unfold Oper.wp execOp
 simp only [ho, resolve, invoke, builtin, Sem.run_bind, Sem.run_pure, Result.andThen_ok, List.map_toArray, List.map_cons, List.map_nil, hs, hx', hrun]
 exact hK _ _ h
def rowF (size n : Nat) (vs : List Value) : Value → World → Prop := fun u w => FlatAt size w u n vs
section
variable {P : Program} {ops : Array Oper} {Q : Exit → Act → World → Prop} {O : Nat → Prop} {W0 : World} {tl : List Oper} {i : Nat} {o : Oper} {L : List Sp} {Φ : List (Nat × (World → Prop))} {R : World → Prop} {a : Act} {a' : Value → Act}
theorem par_row {size n m : Nat} {T : TypeId} {vs cs : List Value} {r : World → Result Next} (ho : ops.toList[i]? = some o) (hw : Region.wanted o (yielded ops a.tmps) = true)
  (h : ∀ w, But (fun _ => False) W0 w → Need ops i Φ w → (execOp a.eval o).run P w = r w) (hrr : ∀ w, r w = .ok (.value (.slice (some ⟨w.heap.size, 0, none⟩) m m)) (w.alloc (.cells cs.toArray T)))
  (hn : n = m) (hvs : vs = cs) (hl : cs.length = m * size) (hm : m ≤ maxLen) (ha : ∀ u, a.put o.dst u = a' u)
  (hr : ∀ u, ParOk P ops Q (fun _ => False) W0 tl (number (i + 1) L) ((i, rowF size n vs u) :: Φ) R (a' u)) : ParOk P ops Q (fun _ => False) W0 tl (number i (.new (rowF size n vs) :: L)) Φ R a := by
 subst hn hvs
 refine par_new ho (fun u w w' hf hb => FlatAt.grow hf hb.grow) (fun w hb hn K hK => ?_) ha hr
 rw [if_pos hw]
 unfold Oper.wp
 rw [h w hb hn, hrr w]
 exact hK _ _ (FlatAt.made w _ T hl hm) ((Below.refl _ w).alloc (Nat.le_refl _) _)
theorem FlatAt.slr {w : World} {v : Value} {n : Nat} {cs : List Value} (h : FlatAt 1 w v n cs) : SlR w v cs := by
 obtain ⟨a, cap, rfl, h1, h2, h3, h4⟩ := h
 simp only [Nat.mul_one] at h3
 subst h3
 exact ⟨a, cap, rfl, h2, h1, h4⟩
theorem need_head {x : Nat × (World → Prop)} {Φ : List (Nat × (World → Prop))} {w : World} (hn : Need ops i (x :: Φ) w) (he : edge ops i x.1 = true) : x.2 w := hn x List.mem_cons_self he
theorem par_callF {F : Value → World → Prop} {f : FuncId} {args : Array Value} (ho : ops.toList[i]? = some o) (hw : Region.wanted o (yielded ops a.tmps) = true)
  (he : ∀ w, (execOp a.eval o).run P w = .ok (.enter f args) w) (hs : ∀ u w w', F u w → Below w.heap.size w w' → F u w')
  (h : ∀ w, But (fun _ => False) W0 w → Need ops i Φ w → Calls P f args w fun e w' => ∃ u, e = .returned u ∧ F u w' ∧ Below w.heap.size w w') (ha : ∀ u, a.put o.dst u = a' u)
  (hr : ∀ u, ParOk P ops Q (fun _ => False) W0 tl (number (i + 1) L) ((i, F u) :: Φ) R (a' u)) : ParOk P ops Q (fun _ => False) W0 tl (number i (.new F :: L)) Φ R a := by
 refine par_new ho (fun u w w' hf hb => hs u w w' hf hb.grow) (fun w hb hn K hK => ?_) ha hr
 rw [if_pos hw]
 unfold Oper.wp
 rw [he w, Oper.upon_enter]
 refine (h w hb hn).mono ?_
 rintro e w' ⟨u, rfl, hf, hb'⟩
 exact hK u w' hf hb'
end
end Go.Proofs.YthikijlbclckdaaGreat
namespace Go.Proofs.YthikijlbclckdaaGreat
set_option maxRecDepth 100000
set_option maxHeartbeats 40000000
set_option linter.unusedSimpArgs false
set_option linter.unusedVariables false
open Go.RowKit
def ownB (v : Value) : Nat → Prop := fun k => v.ownBlock = some k
theorem But.grownBy {w w' : World} {v : Value} (h : w.grownBy w' v.ownBlock) : But (ownB v) w w' := ⟨h.os, h.tape, h.output, h.size, fun k hk hn => h.block k hk (fun e => hn e.symm)⟩
theorem But.grownNone {w w' : World} {F : Nat → Prop} (h : w.grownBy w' none) : But F w w' := ⟨h.os, h.tape, h.output, h.size, fun k hk _ => h.block k hk (fun e => by cases e)⟩
theorem run_app_k {P : Program} {W : World} (t e : TypeId) {z : Value} {size bytes : Nat} (ty : TypeId) (ht : P.underlying t = some (.slice e))
  (hinfo : (P.info? e).map (fun i => (i.zero, i.size, i.bytes)) = some (some z, size, bytes)) (hzs : z.cells.size = size) (hsz : 0 < size)
  {base n m : Nat} {v x : Value} {xs cs : List Value} (hown : W.ownsRow base e size v n xs) (hbase : base ≤ W.heap.size) (hx : FlatAt size W x m cs) (hn : n + m ≤ maxLen) (hby : (n + m) * bytes ≤ 140737488355328)
  (h1 : ∀ u ∈ cs, u.oneCell' = true) :
  ∃ v' w', (Builtin.append_ #[t, t] ty #[v, x]).run P W = .ok v' w' ∧ w'.ownsRow base e size v' (n + m) (xs ++ cs) ∧ But (ownB v) W w' ∧ (∀ g, v'.ownBlock = some g → v.ownBlock = some g ∨ W.heap.size ≤ g) := by
 obtain ⟨i0, hi, hzz⟩ := Option.map_eq_some_iff.1 hinfo
 simp only [Prod.mk.injEq] at hzz
 obtain ⟨hz0, hz1, hz2⟩ := hzz
 obtain ⟨a, cap, rfl, hc1, hc2, hl, hcs⟩ := hx
 by_cases hm : m = 0
 ·
  subst hm
  have hnil : cs = [] := List.eq_nil_of_length_eq_zero (by simpa using hl)
  subst hnil
  refine ⟨v, W, ?_, by simpa using hown, But.refl _ _, fun g hg => .inl hg⟩
  obtain ⟨ao, sc, rfl, hle⟩ : ∃ ao sc, v = .slice ao n sc ∧ n ≤ sc := by
   rcases hown.2 with ⟨rfl, rfl⟩ | ⟨g, cap2, cur, rfl, _, _, hnc, _⟩
   ·
    exact ⟨none, 0, rfl, Nat.le_refl _⟩
   ·
    exact ⟨_, _, rfl, hnc⟩
  cases a <;> cases ao <;> simp [Builtin.append_, run_underlying ht, sizeOf, typeInfo, hi, Builtin.lenOf, Builtin.firstCells, hle, Result.andThen, storeCells, go_sem]
 ·
  obtain ⟨u0, hu0⟩ : ∃ u, cs[0]? = some u := ⟨_, List.getElem?_eq_getElem (by rw [hl]; exact Nat.mul_pos (by omega) hsz)⟩
  obtain ⟨b, off, rfl, -⟩ := hcs 0 u0 hu0
  have hnews : ∀ (j : Nat) (u : Value), cs[j]? = some u → W.cell? ((⟨b, off, none⟩ : Addr).add j) = some u := fun j u hu => by
   obtain ⟨b2, off2, he, hc⟩ := hcs j u hu
   cases he
   have ha : (⟨b, off, none⟩ : Addr).add j = ⟨b, off + j, none⟩ := by unfold Addr.add; split <;> simp_all
   rw [ha]; exact hc
  rcases hown.2 with ⟨rfl, rfl⟩ | ⟨g, cap2, cur, rfl, hbg, hg, hnc, hcm, hcur, htake⟩
  ·
   obtain ⟨v', w', hr, h2, h3, -⟩ := run_append_own (P := P) (w := W) W.heap.size t ty e i0 z size bytes ht hi hz0 hz1 hz2 hzs hsz (.slice none 0 0) 0 xs ⟨hown.1, .inl ⟨rfl, rfl⟩⟩ ⟨b, off, none⟩ m cap cs hl hnews h1 hn hby (Nat.le_refl _)
   exact ⟨v', w', hr, ownsRow_base h2 hbase, But.grownBy h3, fun g hg => .inr (h2.lt g hg).1⟩
  ·
   by_cases hroom : n + m ≤ cap2
   ·
    obtain ⟨v', w', hr, h2, h3, -⟩ := run_append_own (P := P) (w := W) base t ty e i0 z size bytes ht hi hz0 hz1 hz2 hzs hsz _ n xs hown ⟨b, off, none⟩ m cap cs hl hnews h1 hn hby hbase
    have hfit : n * i0.size + cs.length ≤ cur.size := by rw [hl, hcur, hz1, ← Nat.add_mul]; exact Nat.mul_le_mul_right _ hroom
    have hr2 := run_append_room (P := P) W t ty e i0 ht hi g n cap2 cur hg ⟨b, off, none⟩ m cap cs (by rw [hz1]; exact hl) hnews h1 hroom hfit
    rw [hr2] at hr
    injection hr with e1 e2
    subst e1
    exact ⟨_, w', by rw [hr2, e2], h2, But.grownBy h3, fun g' hg' => .inl hg'⟩
   ·
    have holds : ∀ j u, xs[j]? = some u → W.cell? ((⟨g, 0, none⟩ : Addr).add j) = some u := hown.cells (g := g) rfl
    obtain ⟨v', w', hr, h2, h3⟩ := run_append_arg_grows (P := P) W t ty e i0 z size bytes ht hi hz0 hz1 hz2 hzs hsz ⟨g, 0, none⟩ n cap2 xs hown.1 holds ⟨b, off, none⟩ m cap cs hl hnews (by omega) hn hby
    exact ⟨v', w', hr, ownsRow_base h2 hbase, But.grownNone h3, fun g' hg' => .inr (h2.lt g' hg').1⟩
theorem appk {P : Program} {ops : Array Oper} {rest : List Oper} {o : Oper} {a : Act} {Q : Exit → Act → World → Prop} {W : World} (t e : TypeId) {z : Value} {size bytes : Nat} (ht : P.underlying t = some (.slice e))
  (hinfo : (P.info? e).map (fun i => (i.zero, i.size, i.bytes)) = some (some z, size, bytes)) (hzs : z.cells.size = size) (hsz : 0 < size)
  {base n m : Nat} {v x : Value} {xs cs : List Value} (hown : W.ownsRow base e size v n xs) (hbase : base ≤ W.heap.size) (hx : FlatAt size W x m cs) (hn : n + m ≤ maxLen) (hby : (n + m) * bytes ≤ 140737488355328)
  (h1 : ∀ u ∈ cs, u.oneCell' = true)
  {s x' : Operand} (hgd : o.guard = none) (ho : o.op = .call { callee := .builtin .append, args := #[s, x'], argTypes := #[t, t] }) (hs : a.eval s = v) (hx' : a.eval x' = x)
  (h : ∀ v' w', w'.ownsRow base e size v' (n + m) (xs ++ cs) → But (ownB v) W w' → (∀ g, v'.ownBlock = some g → v.ownBlock = some g ∨ W.heap.size ≤ g) → wpList P ops Q rest (a.put o.dst v') w') :
  wpList P ops Q (o :: rest) a W := by
 refine wpList_plain hgd fun K hK => ?_
 obtain ⟨v', w', hr, h2, h3, h4⟩ := run_app_k (P := P) t e o.type ht hinfo hzs hsz hown hbase hx hn hby h1
 unfold Oper.wp execOp
 simp only [ho, resolve, invoke, builtin, Sem.run_bind, Sem.run_pure, Result.andThen_ok, List.map_toArray, List.map_cons, List.map_nil, hs, hx', hr]
 exact hK _ _ (h v' w' h2 h3 h4)
theorem app1k {P : Program} {ops : Array Oper} {rest : List Oper} {o : Oper} {a : Act} {Q : Exit → Act → World → Prop} {W : World} (t e : TypeId) {z : Value} {size bytes : Nat} (ht : P.underlying t = some (.slice e))
  (hinfo : (P.info? e).map (fun i => (i.zero, i.size, i.bytes)) = some (some z, size, bytes)) (hzs : z.cells.size = size) (hsz : 0 < size)
  {base n : Nat} {v : Value} {xs : List Value} (hown : W.ownsRow base e size v n xs) (hbase : base ≤ W.heap.size) (hn : n + 1 ≤ maxLen) (hby : (n + 1) * bytes ≤ 140737488355328)
  {s x : Operand} {cs : Array Value} (hgd : o.guard = none) (ho : o.op = .call { callee := .builtin .append, args := #[s, x], argTypes := #[t, t] }) (hs : a.eval s = v)
  {k : Nat} (hx : a.eval x = .slice (some ⟨k, 0, none⟩) 1 1) (hk : k = W.heap.size) (hcs : cs.size = size) (h1 : ∀ u ∈ cs.toList, u.oneCell' = true)
  (h : ∀ v' w', w'.ownsRow base e size v' (n + 1) (xs ++ cs.toList) → But (ownB v) W w' → (∀ g, v'.ownBlock = some g → v.ownBlock = some g ∨ W.heap.size ≤ g) → wpList P ops Q rest (a.put o.dst v') w') :
  wpList P ops Q (o :: rest) a (W.alloc (.cells cs e)) := by
 subst hk
 refine appk t e ht hinfo hzs hsz (hown.alloc _) (by simp; omega) (x := .slice (some ⟨W.heap.size, 0, none⟩) 1 1) (m := 1) (cs := cs.toList) ?_ hn hby h1 hgd ho hs hx ?_
 ·
  exact ⟨some ⟨W.heap.size, 0, none⟩, 1, rfl, Nat.le_refl _, by simp [maxLen], by simpa using hcs, fun j u hu => ⟨_, _, rfl, by rw [Nat.zero_add, cell_of (heap_alloc_new W _) j]; simpa using hu⟩⟩
 ·
  intro v' w' h2 h3 h4
  refine h v' w' h2 ((But.alloc (But.refl _ W) _).trans h3) fun g hg => ?_
  rcases h4 g hg with h | h
  ·
   exact .inl h
  ·
   exact .inr (by simp at h; omega)
theorem own_at {F : Nat → Prop} {w w' : World} {base e size n : Nat} {v : Value} {vs : List Value} (h : w.ownsRow base e size v n vs) (hb : But F w w') (hF : ∀ k, v.ownBlock = some k → ¬ F k) : w'.ownsRow base e size v n vs := by
 refine ⟨h.1, ?_⟩
 rcases h.2 with hn | ⟨g, cap, cur, rfl, hbg, hg, r⟩
 ·
  exact .inl hn
 ·
  exact .inr ⟨g, cap, cur, rfl, hbg, (hb.block g (heap_lt hg) (hF g rfl)).trans hg, r⟩
end Go.Proofs.YthikijlbclckdaaGreat
namespace Go.Proofs.YthikijlbclckdaaGreat
set_option maxRecDepth 100000
set_option maxHeartbeats 40000000
set_option linter.unusedSimpArgs false
set_option linter.unusedVariables false
open Go.RowKit
def varC (x : VarV) : List Value := [.string x.name, .int .i64 x.v.k, .int .i64 x.v.n, .string x.v.s]
def varsC (l : List VarV) : List Value := l.flatMap varC
theorem varsC_snoc (l : List VarV) (x : VarV) : varsC (l ++ [x]) = varsC l ++ varC x := by simp [varsC]
theorem varsC_at (l : List VarV) : ∀ (i : Nat) (x : VarV), l[i]? = some x → (varsC l)[i * 4]? = some (.string x.name) ∧ (varsC l)[i * 4 + 1]? = some (.int .i64 x.v.k) ∧ (varsC l)[i * 4 + 2]? = some (.int .i64 x.v.n) ∧ (varsC l)[i * 4 + 3]? = some (.string x.v.s) := by
 induction l with
 | nil => intro i x h; simp at h
 | cons y l ih =>
  intro i x h
  cases i with
  | zero => simp at h; subst h; simp [varsC, varC]
  | succ i =>
   have h1 := ih i x (by simpa using h)
   have e : varsC (y :: l) = varC y ++ varsC l := by simp [varsC]
   have k : ∀ j, (varC y ++ varsC l)[(i + 1) * 4 + j]? = (varsC l)[i * 4 + j]? := by
    intro j
    rw [List.getElem?_append_right (by simp [varC]; omega)]
    congr 1
    simp [varC]; omega
   rw [e]
   exact ⟨(k 0).trans h1.1, (k 1).trans h1.2.1, (k 2).trans h1.2.2.1, (k 3).trans h1.2.2.2⟩
def VarsOwn (w : World) (base : Nat) (v : Value) (l : List VarV) : Prop := w.ownsRow base 177 4 v l.length (varsC l)
theorem VarsOwn.vars {w : World} {base : Nat} {v : Value} {l : List VarV} (h : VarsOwn w base v l) (hl : l.length ≤ 140737488355328) : VarsAt w v l := by
 rcases h.2 with ⟨rfl, h0⟩ | ⟨g, cap, cur, rfl, hbg, hg, hnc, hcm, hcur, htake⟩
 ·
  have e := List.eq_nil_of_length_eq_zero h0
  subst e
  exact ⟨none, 0, rfl, Nat.le_refl _, hl, fun i x hx => by simp at hx⟩
 ·
  refine ⟨some ⟨g, 0, none⟩, cap, rfl, hnc, hl, fun i x hx => ⟨g, 0, rfl, ?_⟩⟩
  have k : ∀ (j : Nat) (u : Value), (varsC l)[j]? = some u → w.cell? ⟨g, 0 + j, none⟩ = some u := by
   intro j u hu
   rw [Nat.zero_add, cell_of hg j]
   rw [← htake, List.getElem?_take] at hu
   split at hu
   ·
    simpa using hu
   ·
    cases hu
  obtain ⟨a0, a1, a2, a3⟩ := varsC_at l i x hx
  have a0 := k _ _ a0
  have a1 := k _ _ a1
  have a2 := k _ _ a2
  have a3 := k _ _ a3
  simp only [← Nat.add_assoc] at a1 a2 a3
  exact ⟨a0, a1, a2, a3⟩
def varsL : Nat → RdV → List VarV → Option (List VarV) × RdV
 | 0, r, l => (some l, r)
 | n + 1, r, l => if (takeV (textR 32 r).2).1.2 = true then varsL n (takeV (textR 32 r).2).2 (l ++ [⟨(textR 32 r).1, (takeV (textR 32 r).2).1.1⟩]) else (none, (takeV (textR 32 r).2).2)
def takeVars (r : RdV) : Option (List VarV) × RdV :=
 if 16 < (uintR r).1 then (none, (uintR r).2)
 else match varsL (uintR r).1 (uintR r).2 [] with
  | (some l, r') => if r'.e = 0 ∧ rightV l = true then (some l, r') else (none, r')
  | (none, r') => (none, r')
theorem takeP_size (r : RdV) : (takeP r).2.s.size ≤ r.s.size := by
 have h1 : (byteR r).2.s.size ≤ r.s.size := takeR_size _ _ _
 unfold takeP
 split
 ·
  exact Nat.le_trans (takeR_size _ _ _) h1
 ·
  exact Nat.le_trans (takeR_size _ _ _) h1
theorem takeV_size (r : RdV) : (takeV r).2.s.size ≤ r.s.size := by
 unfold takeV
 split <;> exact takeP_size r
theorem info_var : (Tryz.prog.info? 177).map (fun i => (i.zero, i.size, i.bytes)) = some (some (.agg #[.string ⟨#[]⟩, .int .i64 0, .int .i64 0, .string ⟨#[]⟩]), 4, 48) := by kernel_rfl
theorem own_rb {w w' : World} {rb base e size n : Nat} {v : Value} {vs : List Value} (h : w.ownsRow base e size v n vs) (hb : Rb rb w w') (hr : rb < base) : w'.ownsRow base e size v n vs :=
 own_at h hb (fun k hk he => by have := (h.lt k hk).1; omega)
theorem own_below {w w' : World} {base e size n : Nat} {v : Value} {vs : List Value} (h : w.ownsRow base e size v n vs) (hb : Below w.heap.size w w') : w'.ownsRow base e size v n vs :=
 own_at (F := fun _ => False) h (But.of hb) (fun _ _ => id)
theorem textR_size (most : Int) (hm : 0 ≤ most) (r : RdV) : ((textR most r).1.size : Int) ≤ most := by
 have hf : ((textF most r.s).1.size : Int) ≤ most := by
  unfold textF
  split
  ·
   exact hm
  ·
   split
   ·
    exact hm
   ·
    split
    ·
     exact hm
    ·
     show ((r.s.extract (numS r.s).2.1 ((numS r.s).2.1 + (numS r.s).1)).size : Int) ≤ most
     rw [extract_size]; omega
 unfold textR takeR
 split
 ·
  split
  ·
   exact hf
  ·
   exact hm
 ·
  exact hm
theorem takeV_ok (r : RdV) (h : (takeV r).1.2 = true) : (takeV r).2.e = 0 ∧ mayV (takeV r).1.1 = true ∧ VOk (takeV r).1.1 := by
 unfold takeV at h ⊢
 by_cases hc : (takeP r).2.e = 0 ∧ mayV (takeP r).1 = true
 ·
  rw [if_pos hc]
  refine ⟨hc.1, hc.2, ?_⟩
  show VOk (takeP r).1
  have hb := byteR_lt r
  unfold takeP
  split
  ·
   have := textR_size 1024 (by omega) (byteR r).2
   exact ⟨by show (-9223372036854775808 : Int) ≤ 0; omega, by show (0 : Int) ≤ 9223372036854775807; omega, by show (textR 1024 (byteR r).2).1.size ≤ 2097152; omega⟩
  ·
   have := sgn_in (uintR_lt (byteR r).2)
   exact ⟨this.1, this.2, by show (0 : Nat) ≤ 2097152; omega⟩
 ·
  rw [if_neg hc] at h; cases h
theorem varsL_ok : ∀ (n : Nat) (r : RdV) (l : List VarV) (l' : List VarV) (r' : RdV), (∀ x ∈ l, VarOk x) → varsL n r l = (some l', r') → (∀ x ∈ l', VarOk x) ∧ (r.e = 0 → r'.e = 0) ∧ l'.length = l.length + n
 | 0, r, l, l', r', hl, h => by
  simp only [varsL, Prod.mk.injEq, Option.some.injEq] at h
  obtain ⟨rfl, rfl⟩ := h
  exact ⟨hl, id, rfl⟩
 | n + 1, r, l, l', r', hl, h => by
  simp only [varsL] at h
  split at h
  ·
   rename_i hok
   obtain ⟨h1, h2, h3⟩ := takeV_ok _ hok
   have hn := textR_size 32 (by omega) r
   obtain ⟨g1, g2, g3⟩ := varsL_ok n _ _ l' r' (by
    intro x hx
    rcases List.mem_append.1 hx with hx | hx
    ·
     exact hl x hx
    ·
     rw [List.mem_singleton] at hx
     subst hx
     exact ⟨by show (textR 32 r).1.size ≤ 2097152; omega, h3⟩) h
   exact ⟨g1, fun _ => g2 h1, by rw [g3]; simp; omega⟩
  ·
   cases h
theorem takeVars_any (rb : Nat) (r : RdV) (w : World) (h : IsR 168 w rb r) (hs : r.s.size ≤ 140737488355328) :
  Calls Tryz.prog 132 #[.pointer (some ⟨rb, 0, none⟩)] w fun e' w' => ∃ v, e' = .returned (.tuple #[v, .bool (takeVars r).1.isSome]) ∧ VarsOwn w' w.heap.size v ((takeVars r).1.getD []) ∧ IsR 168 w' rb (takeVars r).2 ∧ Rb rb w w' := by
 have hrb : rb < w.heap.size := heap_lt h
 have hu := uintR_lt r
 have hT : takeVars r = if 16 < (uintR r).1 then (none, (uintR r).2) else match varsL (uintR r).1 (uintR r).2 [] with
  | (some l, r') => if r'.e = 0 ∧ rightV l = true then (some l, r') else (none, r')
  | (none, r') => (none, r') := rfl
 have hs1 : (uintR r).2.s.size ≤ 140737488355328 := Nat.le_trans (takeR_size _ _ _) hs
 have Hc := rdUint_any rb r w h hs
 revert hT hs1 Hc hu
 generalize uintR r = x
 obtain ⟨n, r1⟩ := x
 intro hu hT hs1 Hc
 dsimp only at hu hT hs1 Hc
 replace Hc := hid Hc
 replace hT := hid hT
 clear h hs
 go_enter Tryz.func132, Tryz.ntmps132
 go_wp2_with fail
 refine Hc.out.mono ?_
 rintro e1 w1 ⟨rfl, h1, b1⟩
 have H1 := hid h1
 have B1 := hid b1
 clear h1 b1 Hc
 by_cases hn : 16 < n
 ·
  have hn' : decide (16 < (n : Int)) = true := by simp; omega
  have e := hid (hT.out.trans (if_pos hn))
  go_wp2
  go_ret2
  exact ⟨.slice none 0 0, by rw [e.out]; rfl, by rw [e.out]; exact ⟨rfl, .inl ⟨rfl, rfl⟩⟩, by rw [e.out]; exact H1.out, B1.out⟩
 have hn' : decide (16 < (n : Int)) = false := by simp; omega
 replace hT := hid (hT.out.trans (if_neg hn))
 go_wp2
 go_loopw [5, 14] (fun vo vi wr => ∃ (i : Nat) (r' : RdV) (l : List VarV), i ≤ n ∧ vi = .int .u64 i ∧ r'.s.size ≤ 140737488355328 ∧
  Hid (l.length = i ∧ wr.ownsRow w.heap.size 177 4 vo i (varsC l) ∧ IsR 168 wr rb r' ∧ Rb rb w wr ∧ varsL (n - i) r' l = varsL n r1 [])) (fun _ vi _ => n - (intOf vi).toNat)
 case atStart => exact ⟨0, r1, [], Nat.zero_le _, rfl, hs1, rfl, ⟨rfl, .inl ⟨rfl, rfl⟩⟩, H1.out, B1.out, rfl⟩
 case round =>
  obtain ⟨i, r', l, hi, rfl, hs', hR⟩ := hrel
  obtain ⟨ao, co, rfl⟩ := own_slice hR.out.2.1
  by_cases hlt : i < n
  ·
   have hlt' : decide (i < n) = true := by simpa using hlt
   have hV := hid (show varsL (n - i) r' l = varsL (n - (i + 1) + 1) r' l by congr 1; omega)
   go_wp2_with fail
   refine (rdText_any rb r' _ hR.out.2.2.1 hs' 32 (by omega) (by omega)).mono ?_
   rintro e1 w2 ⟨rfl, h2, b2⟩
   have H2 := hid h2
   have B2 := hid (hR.out.2.2.2.1.trans b2)
   have O2 := hid (own_rb hR.out.2.1 b2 hrb)
   have hs2 : (textR 32 r').2.s.size ≤ 140737488355328 := Nat.le_trans (takeR_size _ _ _) hs'
   clear h2 b2
   go_wp2_with fail
   refine (takeV_any rb _ w2 H2.out hs2).mono ?_
   rintro e1 w3 ⟨rfl, h3, b3⟩
   have H3 := hid h3
   have B3 := hid (B2.out.trans b3)
   have O3 := hid (own_rb O2.out b3 hrb)
   have hs3 : (takeV (textR 32 r').2).2.s.size ≤ 140737488355328 := Nat.le_trans (takeV_size _) hs2
   clear h3 b3
   have hV2 := hid (hV.out.trans (show varsL (n - (i + 1) + 1) r' l = (if (takeV (textR 32 r').2).1.2 = true then varsL (n - (i + 1)) (takeV (textR 32 r').2).2 (l ++ [⟨(textR 32 r').1, (takeV (textR 32 r').2).1.1⟩]) else (none, (takeV (textR 32 r').2).2)) from rfl))
   clear hV hs2 H2 B2 O2
   revert hV2 H3 hs3
   generalize takeV (textR 32 r').2 = y
   obtain ⟨⟨⟨vk, vn, vs⟩, ok⟩, r3⟩ := y
   generalize (textR 32 r').1 = nm
   intro H3 hs3 hV2
   dsimp only at hV2 H3 hs3 ⊢
   unfold ValV.enc
   dsimp only
   cases ok with
   | false =>
    have hV3 := hid ((hT.out).trans (show _ = (none, r3) by rw [← hR.out.2.2.2.2, hV2.out]; rfl))
    clear hV2
    go_wp2
    go_ret2
    exact ⟨.slice none 0 0, by rw [hV3.out]; rfl, by rw [hV3.out]; exact ⟨rfl, .inl ⟨rfl, rfl⟩⟩, by rw [hV3.out]; exact IsR.grow H3.out ((Below.refl _ _).alloc (Nat.le_refl _) _), B3.out.alloc _⟩
   | true =>
    go_wp2_with (at_builtin; go_loud (refine app1k 101 177 Tryz.underlying101 info_var rfl (by decide) (O3.out.alloc _) (by have := B3.out.size; simp; omega) (by unfold maxLen; omega) (by omega) rfl rfl rfl rfl (by simp) rfl (by simp [Value.oneCell']) ?_); intro v' w5 hown5 hb5 hg5)
    have hob : ∀ k, ownB (.slice ao i co) k → w.heap.size ≤ k := fun k hk => (O3.out.lt k hk).1
    have H5 : IsR 168 w5 rb r3 := (hb5.block rb (by have := heap_lt H3.out; simp; omega) (fun hk => by have := hob rb hk; omega)).trans ((alloc_old _ (heap_lt H3.out)).trans H3.out)
    have B5 : Rb rb w w5 := (B3.out.alloc _).trans' hb5 (fun k hk ho => by have := hob k ho; omega)
    refine ⟨⟨i + 1, r3, l ++ [⟨nm, ⟨vk, vn, vs⟩⟩], by omega, by go_num, hs3, ?_⟩, by simp [intOf]; omega⟩
    refine ⟨by simp [hR.out.1], by rw [varsC_snoc]; exact hown5, H5, B5, ?_⟩
    rw [← hR.out.2.2.2.2, hV2.out, if_pos rfl]
  ·
   have hin : i = n := by omega
   subst hin
   have hfi : decide (i < i) = false := by simp
   have hV := hid (show takeVars r = if r'.e = 0 ∧ rightV l = true then (some l, r') else (none, r') by
    rw [hT.out, ← hR.out.2.2.2.2, Nat.sub_self]; rfl)
   go_wp2_with fail
   refine (rdErr_any rb r' _ hR.out.2.2.1).mono ?_
   rintro e1 w2 ⟨rfl, rfl⟩
   have hv := VarsOwn.vars (l := l) (by unfold VarsOwn; rw [hR.out.1]; exact hR.out.2.1) (by rw [hR.out.1]; omega)
   have Hv := hid hv
   clear hv
   by_cases g : r'.e = 0
   ·
    have g' : (r'.e != 0) = false := by simpa using g
    have G := hid g
    clear g
    go_wp2_with fail
    refine (right_any _ l _ Hv.out).mono ?_
    rintro e1 w3 ⟨rfl, b3⟩
    replace b3 := hid b3
    cases hr : rightV l with
    | true =>
     replace hV := hid (hV.out.trans (if_pos ⟨G.out, hr⟩))
     clear hr
     go_wp2
     go_ret2
     exact ⟨_, by rw [hV.out]; rfl, by rw [hV.out]; show VarsOwn _ _ _ l; unfold VarsOwn; rw [hR.out.1]; exact own_below hR.out.2.1 b3.out, by rw [hV.out]; exact IsR.grow hR.out.2.2.1 b3.out, hR.out.2.2.2.1.trans (But.of b3.out)⟩
    | false =>
     replace hV := hid (hV.out.trans (if_neg (fun h => by have := h.2; rw [hr] at this; cases this)))
     clear hr
     go_wp2
     go_ret2
     exact ⟨.slice none 0 0, by rw [hV.out]; rfl, by rw [hV.out]; exact ⟨rfl, .inl ⟨rfl, rfl⟩⟩, by rw [hV.out]; exact IsR.grow hR.out.2.2.1 b3.out, hR.out.2.2.2.1.trans (But.of b3.out)⟩
   ·
    have g' : (r'.e != 0) = true := by simpa using g
    replace hV := hid (hV.out.trans (if_neg (fun h => g h.1)))
    clear g
    go_wp2
    go_ret2
    exact ⟨.slice none 0 0, by rw [hV.out]; rfl, by rw [hV.out]; exact ⟨rfl, .inl ⟨rfl, rfl⟩⟩, by rw [hV.out]; exact hR.out.2.2.1, hR.out.2.2.2.1⟩
end Go.Proofs.YthikijlbclckdaaGreat
namespace Go.Proofs.YthikijlbclckdaaGreat
set_option maxRecDepth 100000
set_option maxHeartbeats 40000000
set_option linter.unusedSimpArgs false
set_option linter.unusedVariables false
open Go.RowKit
theorem uintR_zero (r : RdV) (h : (uintR r).2.e ≠ 0) : (uintR r).1 = 0 := by
 unfold uintR takeR at *
 by_cases h1 : r.e = 0
 ·
  rw [if_pos h1] at h ⊢
  by_cases h2 : (numS r.s).2.2 = 0
  ·
   rw [if_pos h2] at h; exact absurd rfl h
  ·
   rw [if_neg h2]
 ·
  rw [if_neg h1]
theorem rtakeVars_any (rb : Nat) (r : RdV) (w : World) (h : IsR 92 w rb r) (hs : r.s.size ≤ 140737488355328) :
  Calls Tryz.prog 133 #[.pointer (some ⟨rb, 0, none⟩)] w fun e' w' => ∃ v, e' = .returned (.tuple #[v, .bool (takeVars r).1.isSome]) ∧ VarsOwn w' w.heap.size v ((takeVars r).1.getD []) ∧ IsR 92 w' rb (takeVars r).2 ∧ Rb rb w w' := by
 have hrb : rb < w.heap.size := heap_lt h
 have hu := uintR_lt r
 have hT : takeVars r = if 16 < (uintR r).1 then (none, (uintR r).2) else match varsL (uintR r).1 (uintR r).2 [] with
  | (some l, r') => if r'.e = 0 ∧ rightV l = true then (some l, r') else (none, r')
  | (none, r') => (none, r') := rfl
 have hs1 : (uintR r).2.s.size ≤ 140737488355328 := Nat.le_trans (takeR_size _ _ _) hs
 have Hc := rrUint_any rb r w h hs
 have hz : (uintR r).2.e ≠ 0 → (uintR r).1 = 0 := uintR_zero r
 revert hT hs1 Hc hu hz
 generalize uintR r = x
 obtain ⟨n, r1⟩ := x
 intro hu hT hs1 Hc hz
 dsimp only at hu hT hs1 Hc hz
 replace hz := hid hz
 replace Hc := hid Hc
 replace hT := hid hT
 clear h hs
 go_enter Tryz.func133, Tryz.ntmps133
 go_wp2_with fail
 refine Hc.out.mono ?_
 rintro e1 w1 ⟨rfl, h1, b1⟩
 have H1 := hid h1
 have B1 := hid b1
 clear h1 b1 Hc
 by_cases hn : 16 < n
 ·
  have hn' : decide (16 < (n : Int)) = true := by simp; omega
  have e := hid (hT.out.trans (if_pos hn))
  go_wp2
  go_ret2
  exact ⟨.slice none 0 0, by rw [e.out]; rfl, by rw [e.out]; exact ⟨rfl, .inl ⟨rfl, rfl⟩⟩, by rw [e.out]; exact H1.out, B1.out⟩
 have hn' : decide (16 < (n : Int)) = false := by simp; omega
 replace hT := hid (hT.out.trans (if_neg hn))
 have q1 := IsR.c1 H1.out
 by_cases g : r1.e = 0
 case neg =>
  have g' : (r1.e != 0) = true := by simpa using g
  have hn0 : n = 0 := hz.out g
  subst hn0
  have hV := hid (show takeVars r = (none, r1) by
   rw [hT.out]; show (if r1.e = 0 ∧ rightV [] = true then (some ([] : List VarV), r1) else (none, r1)) = _
   rw [if_neg (fun h => g h.1)])
  clear g
  go_wp2
  go_ret2
  exact ⟨.slice none 0 0, by rw [hV.out]; rfl, by rw [hV.out]; exact ⟨rfl, .inl ⟨rfl, rfl⟩⟩, by rw [hV.out]; exact H1.out, B1.out⟩
 have g' : (r1.e != 0) = false := by simpa using g
 have G := hid g
 clear g
 go_wp2
 clear q1
 go_loopw [5, 6] (fun vo vi wr => ∃ (i : Nat) (r' : RdV) (l : List VarV), i ≤ n ∧ vi = .int .u64 i ∧ r'.s.size ≤ 140737488355328 ∧
  Hid (l.length = i ∧ wr.ownsRow w.heap.size 177 4 vo i (varsC l) ∧ IsR 92 wr rb r' ∧ Rb rb w wr ∧ varsL (n - i) r' l = varsL n r1 [])) (fun _ vi _ => n - (intOf vi).toNat)
 case atStart => exact ⟨0, r1, [], Nat.zero_le _, rfl, hs1, rfl, ⟨rfl, .inl ⟨rfl, rfl⟩⟩, H1.out, B1.out, rfl⟩
 case round =>
  obtain ⟨i, r', l, hi, rfl, hs', hR⟩ := hrel
  obtain ⟨ao, co, rfl⟩ := own_slice hR.out.2.1
  by_cases hlt : i < n
  ·
   have hlt' : decide (i < n) = true := by simpa using hlt
   have hV := hid (show varsL (n - i) r' l = varsL (n - (i + 1) + 1) r' l by congr 1; omega)
   go_wp2_with fail
   refine (rrText_any rb r' _ hR.out.2.2.1 hs' 32 (by omega) (by omega)).mono ?_
   rintro e1 w2 ⟨rfl, h2, b2⟩
   have H2 := hid h2
   have B2 := hid (hR.out.2.2.2.1.trans b2)
   have O2 := hid (own_rb hR.out.2.1 b2 hrb)
   have hs2 : (textR 32 r').2.s.size ≤ 140737488355328 := Nat.le_trans (takeR_size _ _ _) hs'
   clear h2 b2
   go_wp2_with fail
   refine (rtakeV_any rb _ w2 H2.out hs2).mono ?_
   rintro e1 w3 ⟨rfl, h3, b3⟩
   have H3 := hid h3
   have B3 := hid (B2.out.trans b3)
   have O3 := hid (own_rb O2.out b3 hrb)
   have hs3 : (takeV (textR 32 r').2).2.s.size ≤ 140737488355328 := Nat.le_trans (takeV_size _) hs2
   clear h3 b3
   have hV2 := hid (hV.out.trans (show varsL (n - (i + 1) + 1) r' l = (if (takeV (textR 32 r').2).1.2 = true then varsL (n - (i + 1)) (takeV (textR 32 r').2).2 (l ++ [⟨(textR 32 r').1, (takeV (textR 32 r').2).1.1⟩]) else (none, (takeV (textR 32 r').2).2)) from rfl))
   clear hV hs2 H2 B2 O2
   revert hV2 H3 hs3
   generalize takeV (textR 32 r').2 = y
   obtain ⟨⟨⟨vk, vn, vs⟩, ok⟩, r3⟩ := y
   generalize (textR 32 r').1 = nm
   intro H3 hs3 hV2
   dsimp only at hV2 H3 hs3 ⊢
   unfold ValV.enc
   dsimp only
   cases ok with
   | false =>
    have hV3 := hid ((hT.out).trans (show _ = (none, r3) by rw [← hR.out.2.2.2.2, hV2.out]; rfl))
    clear hV2
    go_wp2
    go_ret2
    exact ⟨.slice none 0 0, by rw [hV3.out]; rfl, by rw [hV3.out]; exact ⟨rfl, .inl ⟨rfl, rfl⟩⟩, by rw [hV3.out]; exact IsR.grow H3.out ((Below.refl _ _).alloc (Nat.le_refl _) _), B3.out.alloc _⟩
   | true =>
    go_wp2_with (at_builtin; go_loud (refine app1k 101 177 Tryz.underlying101 info_var rfl (by decide) (O3.out.alloc _) (by have := B3.out.size; simp; omega) (by unfold maxLen; omega) (by omega) rfl rfl rfl rfl (by simp) rfl (by simp [Value.oneCell']) ?_); intro v' w5 hown5 hb5 hg5)
    have hob : ∀ k, ownB (.slice ao i co) k → w.heap.size ≤ k := fun k hk => (O3.out.lt k hk).1
    have H5 : IsR 92 w5 rb r3 := (hb5.block rb (by have := heap_lt H3.out; simp; omega) (fun hk => by have := hob rb hk; omega)).trans ((alloc_old _ (heap_lt H3.out)).trans H3.out)
    have B5 : Rb rb w w5 := (B3.out.alloc _).trans' hb5 (fun k hk ho => by have := hob k ho; omega)
    refine ⟨⟨i + 1, r3, l ++ [⟨nm, ⟨vk, vn, vs⟩⟩], by omega, by go_num, hs3, ?_⟩, by simp [intOf]; omega⟩
    refine ⟨by simp [hR.out.1], by rw [varsC_snoc]; exact hown5, H5, B5, ?_⟩
    rw [← hR.out.2.2.2.2, hV2.out, if_pos rfl]
  ·
   have hin : i = n := by omega
   subst hin
   have hfi : decide (i < i) = false := by simp
   have hV := hid (show takeVars r = if r'.e = 0 ∧ rightV l = true then (some l, r') else (none, r') by
    rw [hT.out, ← hR.out.2.2.2.2, Nat.sub_self]; rfl)
   obtain ⟨hvo, hre, -⟩ := varsL_ok i r1 [] l r' (fun x hx => by cases hx) (by rw [← hR.out.2.2.2.2, Nat.sub_self]; rfl)
   have Hvo := hid hvo
   have hre := hid (hre G.out)
   clear hvo
   have Hv := hid (VarsOwn.vars (l := l) (by unfold VarsOwn; rw [hR.out.1]; exact hR.out.2.1) (by rw [hR.out.1]; omega))
   go_wp2_with fail
   refine (rright_any _ l _ Hvo.out Hv.out).mono ?_
   rintro e1 w3 ⟨rfl, b3⟩
   replace b3 := hid b3
   cases hr : rightV l with
   | true =>
    replace hV := hid (hV.out.trans (if_pos ⟨hre.out, hr⟩))
    clear hr
    go_wp2
    go_ret2
    exact ⟨_, by rw [hV.out]; rfl, by rw [hV.out]; show VarsOwn _ _ _ l; unfold VarsOwn; rw [hR.out.1]; exact own_below hR.out.2.1 b3.out, by rw [hV.out]; exact IsR.grow hR.out.2.2.1 b3.out, hR.out.2.2.2.1.trans (But.of b3.out)⟩
   | false =>
    replace hV := hid (hV.out.trans (if_neg (fun h => by have := h.2; rw [hr] at this; cases this)))
    clear hr
    go_wp2
    go_ret2
    exact ⟨.slice none 0 0, by rw [hV.out]; rfl, by rw [hV.out]; exact ⟨rfl, .inl ⟨rfl, rfl⟩⟩, by rw [hV.out]; exact IsR.grow hR.out.2.2.1 b3.out, hR.out.2.2.2.1.trans (But.of b3.out)⟩
end Go.Proofs.YthikijlbclckdaaGreat
namespace Go.Proofs.YthikijlbclckdaaGreat
set_option maxRecDepth 100000
set_option maxHeartbeats 40000000
set_option linter.unusedSimpArgs false
set_option linter.unusedVariables false
open Go.RowKit
abbrev IsB (B b : Nat) (s : ByteArray) (w : World) : Prop := Lib.IsBuilderF 186 5 B b (Lib.strCells s) w
theorem strCells_add (s t : ByteArray) : Lib.strCells (s ++ t) = Lib.strCells s ++ Lib.strCells t := by
 simp [Lib.strCells]
theorem info_builder : (Tryz.prog.info? 186).map (·.size) = some 2 := by kernel_rfl
theorem info_byte : (Tryz.prog.info? 5).map (fun i => (i.zero, i.size, i.bytes)) = some (some (.int .u8 0), 1, 1) := by kernel_rfl
theorem copyCheck_any (B b : Nat) (bs : List Value) (w : World) (h : Lib.IsBuilderF 186 5 B b bs w) :
  Calls Tryz.prog 137 #[.pointer (some ⟨b, 0, none⟩)] w fun e w' => e = .returned (.tuple #[]) ∧ Lib.BuilderAtF 186 5 B b (.pointer (some ⟨b, 0, none⟩)) bs w' ∧ Below B w w' := by
 obtain ⟨j, hj, hjs⟩ := Option.map_eq_some_iff.1 info_builder
 have Hj := hid hj
 have Hjs := hid hjs
 clear hj hjs
 rcases h with h | h
 ·
  have hc := h.cell0
  have hf := h.frozen0
  have Hs := hid h.shape
  have hu := hid (h.used (.pointer (some ⟨b, 0, none⟩)))
  have hB := h.1
  clear h
  go_enter Tryz.func137, Tryz.ntmps137
  go_wp2
  rw [Lib.run_to_unsafe w ⟨b, 0, none⟩ Tryz.underlying183 Tryz.underlying223 Hj.out (by rw [Hjs.out]; decide) Hs.out (Nat.zero_lt_succ 1)]
  simp only [Result.andThen]
  rw [Oper.upon_value]
  go_wp2
  rw [run_callFunc_extern Tryz.func154 (by kernel_rfl) (by kernel_rfl) (by kernel_rfl) (e := Extern.AbiNoEscape.same) (by kernel_rfl)]
  rw [Lib.run_noEscape]
  simp only [Result.andThen]
  rw [Oper.upon_value]
  go_wp2
  rw [Lib.run_from_unsafe w ⟨b, 0, none⟩ Tryz.underlying223 Tryz.underlying183 Hj.out Hs.out (by kernel_rfl)]
  simp only [Result.andThen]
  rw [Oper.upon_value]
  go_wp2
  go_end0
  exact ⟨rfl, hu.out, (Below.refl B w).setCell (p := ⟨b, 0, none⟩) hB _⟩
 ·
  have hc := h.cell0
  have H := hid h
  clear h
  go_enter Tryz.func137, Tryz.ntmps137
  go_wp2
  rw [Lib.run_neq_ptr_same w _ Tryz.underlying183 Hj.out]
  go_wp2
  go_end0
  exact ⟨rfl, H.out, Below.refl B w⟩
theorem wstr_any (B b : Nat) (t s : ByteArray) (w : World) (h : IsB B b t w) (hlen : t.size + s.size ≤ 140737488355328) (hBw : B ≤ w.heap.size) :
  Calls Tryz.prog 116 #[.pointer (some ⟨b, 0, none⟩), .string s] w fun e w' => e = .returned (.tuple #[.int .i64 s.size, .nilIface]) ∧ IsB B b (t ++ s) w' ∧ Below B w w' := by
 obtain ⟨i0, hi, hz0, hz1, hz2⟩ := info_parts info_byte
 have H := hid h
 clear h
 go_enter Tryz.func116, Tryz.ntmps116
 go_wp2_with (go_at_call 137; refine (copyCheck_any B b _ w H.out).mono ?_)
 rintro e w1 ⟨rfl, ⟨hB, v, hbk, hown, hne⟩, hb1⟩
 have c0 : w1.cell? ⟨b, 0, none⟩ = some (.pointer (some ⟨b, 0, none⟩)) := by rw [Lib.cell_of_heap hbk]; rfl
 have c1 : w1.cell? ⟨b, 1, none⟩ = some v := by rw [Lib.cell_of_heap hbk]; rfl
 have hz := hb1.size
 go_wp2_with (at_builtin; refine Lib.wpList_append_own_stringF _ rfl _ _ 184 9 rfl B 5 i0 Tryz.underlying184 Tryz.underlying9 hi hz0 hz1 hz2 _ _ _ rfl hown s rfl ?c3 ?c4 ?c5 ?_)
 case c3 => unfold maxLen; simp only [Lib.strCells_length]; omega
 case c4 => simp only [Lib.strCells_length]; omega
 case c5 => omega
 intro v' w2 hown' hgrow _
 have hlt := heap_lt hbk
 have hb2 : w2.heap[b]? = some (.cells #[.pointer (some ⟨b, 0, none⟩), v] 186 (0, 0)) := by
  rw [hgrow.block b hlt (fun e => hne e.symm)]
  exact hbk
 have d0 : w2.cell? ⟨b, 0, none⟩ = some (.pointer (some ⟨b, 0, none⟩)) := by rw [Lib.cell_of_heap hb2]; rfl
 have d1 : w2.cell? ⟨b, 1, none⟩ = some v := by rw [Lib.cell_of_heap hb2]; rfl
 have f1 : w2.frozen? ⟨b, 1, none⟩ = false := Lib.frozen_of_heap hb2 1
 obtain ⟨ao, n', cap, rfl⟩ : ∃ ao n' cap, v' = .slice ao n' cap := by
  rcases hown'.2 with ⟨hv, _⟩ | ⟨g, cap, cur, fz, hv, _⟩
  ·
   exact ⟨_, _, _, hv⟩
  ·
   exact ⟨_, _, _, hv⟩
 have hnew : Hid (IsB B b (t ++ s) (w2.setCell ⟨b, 1, none⟩ (.slice ao n' cap))) := .inr (by
  rw [strCells_add]
  exact Lib.BuilderAtF.put (T := 186) (e := 5) hB hb2 (bs' := Lib.strCells t ++ Lib.strCells s) (by simpa [Lib.strCells_length] using hown') (by decide))
 have hbel : Hid (Below B w (w2.setCell ⟨b, 1, none⟩ (.slice ao n' cap))) := (hb1.grown hgrow (by omega) (fun k hk => (hown.lt k hk).1)).setCell (p := ⟨b, 1, none⟩) hB _
 go_wp2
 go_ret2
 exact ⟨rfl, hnew.out, hbel.out⟩
theorem Lib_at_grow {T e : TypeId} {B b : Nat} {p : Value} {bs : List Value} {w w' : World} (h : Lib.BuilderAtF T e B b p bs w) (hb : Below w.heap.size w w') : Lib.BuilderAtF T e B b p bs w' := by
 obtain ⟨hB, v, hh, hown, hne⟩ := h
 refine ⟨hB, v, (hb.block b (heap_lt hh)).trans hh, ⟨hown.1, ?_⟩, hne⟩
 rcases hown.2 with hn | ⟨g, cap, cur, fz, hv, hg, hh2, r⟩
 ·
  exact .inl hn
 ·
  exact .inr ⟨g, cap, cur, fz, hv, hg, (hb.block g (heap_lt hh2)).trans hh2, r⟩
theorem IsB.grow {B b : Nat} {s : ByteArray} {w w' : World} (h : IsB B b s w) (hb : Below w.heap.size w w') : IsB B b s w' :=
 h.elim (fun x => .inl (Lib_at_grow x hb)) (fun x => .inr (Lib_at_grow x hb))
end Go.Proofs.YthikijlbclckdaaGreat
namespace Go.Proofs
set_option maxRecDepth 100000
set_option maxHeartbeats 40000000
set_option linter.unusedSimpArgs false
set_option linter.unusedVariables false
open Go.Shelf
def Tryz.lays169_ren : Go.Shelf.Ren := ⟨fun | 169 => 118 | n => n, fun | 70 => 183 | 9 => 9 | 0 => 0 | 72 => 186 | 37 => 184 | 127 => 203 | 3 => 3 | 5 => 5 | n => n, fun | n => n⟩
theorem Tryz.lays169 : Go.Proofs.Lays.n169 Tryz.prog Tryz.lays169_ren := {
  mixed := by kernel_rfl
  f169 := Tryz.func118.trans (congrArg some (by kernel_rfl))
  t0 := Tryz.underlying0
  a0 := Tryz.isAgg0
  z0 := Tryz.sizeOf0
  v0 := Tryz.zeroValue0
  t3 := Tryz.underlying3
  a3 := Tryz.isAgg3
  z3 := Tryz.sizeOf3
  v3 := Tryz.zeroValue3
  t9 := Tryz.underlying9
  a9 := Tryz.isAgg9
  z9 := Tryz.sizeOf9
  v9 := Tryz.zeroValue9
  t37 := Tryz.underlying184
  a37 := Tryz.isAgg184
  z37 := Tryz.sizeOf184
  v37 := Tryz.zeroValue184
  t70 := Tryz.underlying183
  a70 := Tryz.isAgg183
  z70 := Tryz.sizeOf183
  v70 := Tryz.zeroValue183
  t72 := Tryz.underlying186
  a72 := Tryz.isAgg186
  z72 := Tryz.sizeOf186
  v72 := Tryz.zeroValue186
  t127 := Tryz.underlying203
  a127 := Tryz.isAgg203
  z127 := Tryz.sizeOf203
  v127 := Tryz.zeroValue203 }
theorem Tryz.Builder_Extra_169 : Builder.Extra Tryz.prog Tryz.lays169_ren := {
  sizeBuilder := by kernel_rfl
  liesBuilder := by kernel_rfl
  t5 := Tryz.underlying5
  a5 := Tryz.isAgg5
  z5 := Tryz.sizeOf5
  v5 := Tryz.zeroValue5
  infoByte := by kernel_rfl
  cellsByte := by kernel_rfl
  sizeByte := by kernel_rfl
  neB5 := by decide }
open Go.RowKit in
theorem Tryz.Builder_String_any_k (B b : Nat) (l : List UInt8) (w : World) (h : Lib.IsBuilderF 186 5 B b (Lib.byteCells l) w) (hBw : B ≤ w.heap.size) :
    Calls Tryz.prog 118 #[.pointer (some ⟨b, 0, none⟩)] w fun e w' => e = .returned (.string ⟨l.toArray⟩) ∧ (Lib.IsBuilderF 186 5 B b (Lib.byteCells l) w' ∧ Below B w w' ∧ Lib.OthersKept 5 (some b) w w') := Any.Builder_String_any_k Tryz.lays169 Tryz.Builder_Extra_169 B b l w h hBw
end Go.Proofs
