/- Keep: contracts (Fl Ap). -/
import Derived.Test.YtjkbfoeakeoeiaaGreatV1
import Derived.Test.YtjkbfoeakeoeiaaGreatV2
import Derived.Deep.Upon
import Derived.ArgAppend
namespace Go.Proofs.YtjkbfoeakeoeiaaGreat
set_option maxRecDepth 100000
set_option maxHeartbeats 40000000
set_option linter.unusedSimpArgs false
set_option linter.unusedVariables false
open Go.RowKit
def FlatAt (size : Nat) (w : World) (v : Value) (n : Nat) (cs : List Value) : Prop :=
  ∃ a cap, v = .slice a n cap ∧ n ≤ cap ∧ n ≤ maxLen ∧ cs.length = n * size ∧ ∀ j u, cs[j]? = some u → ∃ b off, a = some ⟨b, off, none⟩ ∧ w.cell? ⟨b, off + j, none⟩ = some u
theorem FlatAt.grow {size n : Nat} {w w' : World} {v : Value} {cs : List Value} (h : FlatAt size w v n cs) (hb : Below w.heap.size w w') : FlatAt size w' v n cs := by
  obtain ⟨a, cap, hv, h1, h2, h3, h4⟩ := h
  refine ⟨a, cap, hv, h1, h2, h3, fun j u hu => ?_⟩
  obtain ⟨b, off, ha, hc⟩ := h4 j u hu
  exact ⟨b, off, ha, (hb.cell (p := ⟨b, off + j, none⟩) (World.block_lt_of_cell? w _ hc)).trans hc⟩
theorem FlatAt.but {size n : Nat} {O : Nat → Prop} {w w' : World} {v : Value} {cs : List Value} (h : FlatAt size w v n cs) (hb : But O w w') (hO : ∀ a m cap, v = .slice (some a) m cap → ¬ O a.block) : FlatAt size w' v n cs := by
  obtain ⟨a, cap, hv, h1, h2, h3, h4⟩ := h
  refine ⟨a, cap, hv, h1, h2, h3, fun j u hu => ?_⟩
  obtain ⟨b, off, ha, hc⟩ := h4 j u hu
  subst ha
  exact ⟨b, off, rfl, hb.cell hc (show ¬ O b from hO ⟨b, off, none⟩ _ _ hv)⟩
theorem FlatAt.of_own {size n base e : Nat} {w : World} {v : Value} {cs : List Value} (h : w.ownsRow base e size v n cs) : FlatAt size w v n cs := by
  rcases h.2 with ⟨rfl, rfl⟩ | ⟨g, cap, cur, rfl, hg, hh, hnc, hcm, hs, ht⟩
  · refine ⟨none, 0, rfl, Nat.le_refl _, by simp [maxLen], h.1, fun j u hu => ?_⟩
    have := h.1
    simp at this
    subst this
    simp at hu
  · refine ⟨_, cap, rfl, hnc, by omega, h.1, fun j u hu => ⟨g, 0, rfl, ?_⟩⟩
    have := h.cells (g := g) rfl j u hu
    have ha : (⟨g, 0, none⟩ : Addr).add j = ⟨g, 0 + j, none⟩ := by unfold Addr.add; split <;> simp_all
    rwa [ha] at this
theorem FlatAt.nil (size : Nat) (w : World) : FlatAt size w (.slice none 0 0) 0 [] := ⟨none, 0, rfl, Nat.le_refl _, by simp [maxLen], by simp, by simp⟩
theorem FlatAt.made {size n : Nat} (w : World) (cs : List Value) (T : TypeId) (hl : cs.length = n * size) (hn : n ≤ maxLen) : FlatAt size (w.alloc (.cells cs.toArray T)) (.slice (some ⟨w.heap.size, 0, none⟩) n n) n cs := by
  refine ⟨_, n, rfl, Nat.le_refl _, hn, hl, fun j u hu => ⟨w.heap.size, 0, rfl, ?_⟩⟩
  rw [cell_of (alloc_new w _)]
  simpa using hu
theorem ownsRow_base {w : World} {B B' e size n : Nat} {v : Value} {xs : List Value} (h : w.ownsRow B e size v n xs) (hB : B' ≤ B) : w.ownsRow B' e size v n xs := by
  refine ⟨h.1, ?_⟩
  rcases h.2 with hn | ⟨g, cap, cur, hv, hg, r⟩
  · exact .inl hn
  · exact .inr ⟨g, cap, cur, hv, by omega, r⟩
theorem run_app_flat {P : Program} {W : World} (t e : TypeId) {z : Value} {size bytes : Nat} (ty : TypeId) (ht : P.underlying t = some (.slice e))
    (hinfo : (P.info? e).map (fun i => (i.zero, i.size, i.bytes)) = some (some z, size, bytes)) (hzs : z.cells.size = size) (hsz : 0 < size)
    {base n m : Nat} {v x : Value} {xs cs : List Value} (hown : W.ownsRow base e size v n xs) (hbase : base ≤ W.heap.size) (hx : FlatAt size W x m cs) (hn : n + m ≤ maxLen) (hby : (n + m) * bytes ≤ 140737488355328)
    (h1 : ∀ u ∈ cs, u.oneCell' = true) :
    ∃ v' w', (Builtin.append_ #[t, t] ty #[v, x]).run P W = .ok v' w' ∧ w'.ownsRow base e size v' (n + m) (xs ++ cs) ∧ Below base W w' := by
  obtain ⟨i0, hi, hzz⟩ := Option.map_eq_some_iff.1 hinfo
  simp only [Prod.mk.injEq] at hzz
  obtain ⟨hz0, hz1, hz2⟩ := hzz
  obtain ⟨a, cap, rfl, hc1, hc2, hl, hcs⟩ := hx
  by_cases hm : m = 0
  · subst hm
    have hnil : cs = [] := List.eq_nil_of_length_eq_zero (by simpa using hl)
    subst hnil
    refine ⟨v, W, ?_, by simpa using hown, Below.refl _ _⟩
    obtain ⟨ao, sc, rfl, hle⟩ : ∃ ao sc, v = .slice ao n sc ∧ n ≤ sc := by
      rcases hown.2 with ⟨rfl, rfl⟩ | ⟨g, cap2, cur, rfl, _, _, hnc, _⟩
      · exact ⟨none, 0, rfl, Nat.le_refl _⟩
      · exact ⟨_, _, rfl, hnc⟩
    cases a <;> cases ao <;> simp [Builtin.append_, run_underlying ht, sizeOf, typeInfo, hi, Builtin.lenOf, Builtin.firstCells, hle, Result.andThen, storeCells, go_sem]
  · obtain ⟨u0, hu0⟩ : ∃ u, cs[0]? = some u := ⟨_, List.getElem?_eq_getElem (by rw [hl]; exact Nat.mul_pos (by omega) hsz)⟩
    obtain ⟨b, off, rfl, -⟩ := hcs 0 u0 hu0
    obtain ⟨v', w', hr, h2, h3, -⟩ := run_append_own (P := P) (w := W) base t ty e i0 z size bytes ht hi hz0 hz1 hz2 hzs hsz v n xs hown ⟨b, off, none⟩ m cap cs hl (fun j u hu => by
      obtain ⟨b2, off2, he, hc⟩ := hcs j u hu
      cases he
      have ha : (⟨b, off, none⟩ : Addr).add j = ⟨b, off + j, none⟩ := by unfold Addr.add; split <;> simp_all
      rw [ha]; exact hc) h1 hn hby hbase
    exact ⟨v', w', hr, h2, (Below.refl base W).grown h3 hbase (fun k hk => (hown.lt k hk).1)⟩
theorem app_flat {P : Program} {ops : Array Oper} {rest : List Oper} {o : Oper} {a : Act} {Q : Exit → Act → World → Prop} {W : World} (t e : TypeId) {z : Value} {size bytes : Nat} (ht : P.underlying t = some (.slice e))
    (hinfo : (P.info? e).map (fun i => (i.zero, i.size, i.bytes)) = some (some z, size, bytes)) (hzs : z.cells.size = size) (hsz : 0 < size)
    {base n m : Nat} {v x : Value} {xs cs : List Value} (hown : W.ownsRow base e size v n xs) (hbase : base ≤ W.heap.size) (hx : FlatAt size W x m cs) (hn : n + m ≤ maxLen) (hby : (n + m) * bytes ≤ 140737488355328)
    (h1 : ∀ u ∈ cs, u.oneCell' = true)
    {s x' : Operand} (hgd : o.guard = none) (ho : o.op = .call { callee := .builtin .append, args := #[s, x'], argTypes := #[t, t] }) (hs : a.eval s = v) (hx' : a.eval x' = x)
    (h : ∀ v' w', w'.ownsRow base e size v' (n + m) (xs ++ cs) → Below base W w' → wpList P ops Q rest (a.put o.dst v') w') :
    wpList P ops Q (o :: rest) a W := by
  refine wpList_plain hgd fun K hK => ?_
  obtain ⟨v', w', hr, h2, h3⟩ := run_app_flat (P := P) t e o.type ht hinfo hzs hsz hown hbase hx hn hby h1
  unfold Oper.wp execOp
  simp only [ho, resolve, invoke, builtin, Sem.run_bind, Sem.run_pure, Result.andThen_ok, List.map_toArray, List.map_cons, List.map_nil, hs, hx', hr]
  exact hK _ _ (h v' w' h2 h3)
def rowF (size n : Nat) (vs : List Value) : Value → World → Prop := fun u w => FlatAt size w u n vs
section
variable {P : Program} {ops : Array Oper} {Q : Exit → Act → World → Prop} {O : Nat → Prop} {W0 : World} {tl : List Oper} {i : Nat} {o : Oper} {L : List Sp} {Φ : List (Nat × (World → Prop))} {R : World → Prop} {a : Act} {a' : Value → Act}
theorem par_row {size n m : Nat} {T : TypeId} {vs cs : List Value} {r : World → Result Next} (ho : ops.toList[i]? = some o) (hw : Region.wanted o (yielded ops a.tmps) = true)
    (h : ∀ w, But (fun _ => False) W0 w → Need ops i Φ w → (execOp a.eval o).run P w = r w) (hrr : ∀ w, r w = .ok (.value (.slice (some ⟨w.heap.size, 0, none⟩) m m)) (w.alloc (.cells cs.toArray T)))
    (hn : n = m) (hvs : vs = cs) (hl : cs.length = m * size) (hm : m ≤ maxLen) (ha : ∀ u, a.put o.dst u = a' u)
    (hr : ∀ u, ParOk P ops Q (fun _ => False) W0 tl (number (i + 1) L) ((i, rowF size n vs u) :: Φ) R (a' u)) : ParOk P ops Q (fun _ => False) W0 tl (number i (.new (rowF size n vs) :: L)) Φ R a := by
  subst hn hvs
  refine par_new ho (fun u w w' hf hb => FlatAt.grow hf hb.grow) (fun w hb hn K hK => ?_) ha hr
  rw [if_pos hw]
  unfold Oper.wp
  rw [h w hb hn, hrr w]
  exact hK _ _ (FlatAt.made w _ T hl hm) ((Below.refl _ w).alloc (Nat.le_refl _) _)
theorem FlatAt.slr {w : World} {v : Value} {n : Nat} {cs : List Value} (h : FlatAt 1 w v n cs) : SlR w v cs := by
  obtain ⟨a, cap, rfl, h1, h2, h3, h4⟩ := h
  simp only [Nat.mul_one] at h3
  subst h3
  exact ⟨a, cap, rfl, h2, h1, h4⟩
theorem need_head {x : Nat × (World → Prop)} {Φ : List (Nat × (World → Prop))} {w : World} (hn : Need ops i (x :: Φ) w) (he : edge ops i x.1 = true) : x.2 w := hn x List.mem_cons_self he
theorem par_callF {F : Value → World → Prop} {f : FuncId} {args : Array Value} (ho : ops.toList[i]? = some o) (hw : Region.wanted o (yielded ops a.tmps) = true)
    (he : ∀ w, (execOp a.eval o).run P w = .ok (.enter f args) w) (hs : ∀ u w w', F u w → Below w.heap.size w w' → F u w')
    (h : ∀ w, But (fun _ => False) W0 w → Need ops i Φ w → Calls P f args w fun e w' => ∃ u, e = .returned u ∧ F u w' ∧ Below w.heap.size w w') (ha : ∀ u, a.put o.dst u = a' u)
    (hr : ∀ u, ParOk P ops Q (fun _ => False) W0 tl (number (i + 1) L) ((i, F u) :: Φ) R (a' u)) : ParOk P ops Q (fun _ => False) W0 tl (number i (.new F :: L)) Φ R a := by
  refine par_new ho (fun u w w' hf hb => hs u w w' hf hb.grow) (fun w hb hn K hK => ?_) ha hr
  rw [if_pos hw]
  unfold Oper.wp
  rw [he w, Oper.upon_enter]
  refine (h w hb hn).mono ?_
  rintro e w' ⟨u, rfl, hf, hb'⟩
  exact hK u w' hf hb'
end
end Go.Proofs.YtjkbfoeakeoeiaaGreat
namespace Go.Proofs.YtjkbfoeakeoeiaaGreat
set_option maxRecDepth 100000
set_option maxHeartbeats 40000000
set_option linter.unusedSimpArgs false
set_option linter.unusedVariables false
open Go.RowKit
def ownB (v : Value) : Nat → Prop := fun k => v.ownBlock = some k
theorem But.grownBy {w w' : World} {v : Value} (h : w.grownBy w' v.ownBlock) : But (ownB v) w w' := ⟨h.os, h.tape, h.output, h.size, fun k hk hn => h.block k hk (fun e => hn e.symm)⟩
theorem But.grownNone {w w' : World} {F : Nat → Prop} (h : w.grownBy w' none) : But F w w' := ⟨h.os, h.tape, h.output, h.size, fun k hk _ => h.block k hk (fun e => by cases e)⟩
theorem run_app_k {P : Program} {W : World} (t e : TypeId) {z : Value} {size bytes : Nat} (ty : TypeId) (ht : P.underlying t = some (.slice e))
    (hinfo : (P.info? e).map (fun i => (i.zero, i.size, i.bytes)) = some (some z, size, bytes)) (hzs : z.cells.size = size) (hsz : 0 < size)
    {base n m : Nat} {v x : Value} {xs cs : List Value} (hown : W.ownsRow base e size v n xs) (hbase : base ≤ W.heap.size) (hx : FlatAt size W x m cs) (hn : n + m ≤ maxLen) (hby : (n + m) * bytes ≤ 140737488355328)
    (h1 : ∀ u ∈ cs, u.oneCell' = true) :
    ∃ v' w', (Builtin.append_ #[t, t] ty #[v, x]).run P W = .ok v' w' ∧ w'.ownsRow base e size v' (n + m) (xs ++ cs) ∧ But (ownB v) W w' ∧ (∀ g, v'.ownBlock = some g → v.ownBlock = some g ∨ W.heap.size ≤ g) := by
  obtain ⟨i0, hi, hzz⟩ := Option.map_eq_some_iff.1 hinfo
  simp only [Prod.mk.injEq] at hzz
  obtain ⟨hz0, hz1, hz2⟩ := hzz
  obtain ⟨a, cap, rfl, hc1, hc2, hl, hcs⟩ := hx
  by_cases hm : m = 0
  · subst hm
    have hnil : cs = [] := List.eq_nil_of_length_eq_zero (by simpa using hl)
    subst hnil
    refine ⟨v, W, ?_, by simpa using hown, But.refl _ _, fun g hg => .inl hg⟩
    obtain ⟨ao, sc, rfl, hle⟩ : ∃ ao sc, v = .slice ao n sc ∧ n ≤ sc := by
      rcases hown.2 with ⟨rfl, rfl⟩ | ⟨g, cap2, cur, rfl, _, _, hnc, _⟩
      · exact ⟨none, 0, rfl, Nat.le_refl _⟩
      · exact ⟨_, _, rfl, hnc⟩
    cases a <;> cases ao <;> simp [Builtin.append_, run_underlying ht, sizeOf, typeInfo, hi, Builtin.lenOf, Builtin.firstCells, hle, Result.andThen, storeCells, go_sem]
  · obtain ⟨u0, hu0⟩ : ∃ u, cs[0]? = some u := ⟨_, List.getElem?_eq_getElem (by rw [hl]; exact Nat.mul_pos (by omega) hsz)⟩
    obtain ⟨b, off, rfl, -⟩ := hcs 0 u0 hu0
    have hnews : ∀ (j : Nat) (u : Value), cs[j]? = some u → W.cell? ((⟨b, off, none⟩ : Addr).add j) = some u := fun j u hu => by
      obtain ⟨b2, off2, he, hc⟩ := hcs j u hu
      cases he
      have ha : (⟨b, off, none⟩ : Addr).add j = ⟨b, off + j, none⟩ := by unfold Addr.add; split <;> simp_all
      rw [ha]; exact hc
    rcases hown.2 with ⟨rfl, rfl⟩ | ⟨g, cap2, cur, rfl, hbg, hg, hnc, hcm, hcur, htake⟩
    · obtain ⟨v', w', hr, h2, h3, -⟩ := run_append_own (P := P) (w := W) W.heap.size t ty e i0 z size bytes ht hi hz0 hz1 hz2 hzs hsz (.slice none 0 0) 0 xs ⟨hown.1, .inl ⟨rfl, rfl⟩⟩ ⟨b, off, none⟩ m cap cs hl hnews h1 hn hby (Nat.le_refl _)
      exact ⟨v', w', hr, ownsRow_base h2 hbase, But.grownBy h3, fun g hg => .inr (h2.lt g hg).1⟩
    · by_cases hroom : n + m ≤ cap2
      · obtain ⟨v', w', hr, h2, h3, -⟩ := run_append_own (P := P) (w := W) base t ty e i0 z size bytes ht hi hz0 hz1 hz2 hzs hsz _ n xs hown ⟨b, off, none⟩ m cap cs hl hnews h1 hn hby hbase
        have hfit : n * i0.size + cs.length ≤ cur.size := by rw [hl, hcur, hz1, ← Nat.add_mul]; exact Nat.mul_le_mul_right _ hroom
        have hr2 := run_append_room (P := P) W t ty e i0 ht hi g n cap2 cur hg ⟨b, off, none⟩ m cap cs (by rw [hz1]; exact hl) hnews h1 hroom hfit
        rw [hr2] at hr
        injection hr with e1 e2
        subst e1
        exact ⟨_, w', by rw [hr2, e2], h2, But.grownBy h3, fun g' hg' => .inl hg'⟩
      · have holds : ∀ j u, xs[j]? = some u → W.cell? ((⟨g, 0, none⟩ : Addr).add j) = some u := hown.cells (g := g) rfl
        obtain ⟨v', w', hr, h2, h3⟩ := run_append_arg_grows (P := P) W t ty e i0 z size bytes ht hi hz0 hz1 hz2 hzs hsz ⟨g, 0, none⟩ n cap2 xs hown.1 holds ⟨b, off, none⟩ m cap cs hl hnews (by omega) hn hby
        exact ⟨v', w', hr, ownsRow_base h2 hbase, But.grownNone h3, fun g' hg' => .inr (h2.lt g' hg').1⟩
theorem own_at {F : Nat → Prop} {w w' : World} {base e size n : Nat} {v : Value} {vs : List Value} (h : w.ownsRow base e size v n vs) (hb : But F w w') (hF : ∀ k, v.ownBlock = some k → ¬ F k) : w'.ownsRow base e size v n vs := by
  refine ⟨h.1, ?_⟩
  rcases h.2 with hn | ⟨g, cap, cur, rfl, hbg, hg, r⟩
  · exact .inl hn
  · exact .inr ⟨g, cap, cur, rfl, hbg, (hb.block g (heap_lt hg) (hF g rfl)).trans hg, r⟩
end Go.Proofs.YtjkbfoeakeoeiaaGreat
