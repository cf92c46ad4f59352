/- Keep: contracts (Pt Pi Pq Wi Kb J Kc Kd Ke). -/
import Derived.Test.YtjkbfoeakeoeiaaGreatV1
import Derived.Test.YtjkbfoeakeoeiaaGreatV4
import Derived.OrdersIn
import Derived.CallsIn
import Derived.TacticsIn
import Derived.Test.YtjkbfoeakeoeiaaGreatProg
import Derived.KernelRfl
import Derived.WalkLawsBesides
import Derived.Lib.Hide
import Derived.Lib.Varint
import Derived.Laws.Bits64
import Derived.Lib.UnsafeStr
import Derived.Laws.IdiomStrings
import Derived.Laws.MakeOwn
import Derived.Deep.QuietTactic
import Derived.BigQuiet
import Derived.Deep.RegionWith
namespace Go.Proofs.YtjkbfoeakeoeiaaGreat.Ps
set_option maxRecDepth 100000
set_option maxHeartbeats 40000000
set_option linter.unusedSimpArgs false
set_option linter.unusedVariables false
open Go.RowKit
def rowN (size n : Nat) (vs : List Value) (B : Nat) : Value → World → Prop := fun u w => FlatAt size w u n vs ∧ ∀ a m c, u = .slice (some a) m c → B ≤ a.block
section
variable {P : Program} {ops : Array Oper} {Q : Exit → Act → World → Prop} {F0 : Nat → Prop} {S : Nat → Nat → Prop} {W0 : World} {tl : List Oper} {i : Nat} {o : Oper} {L : List Sp} {Φ : List (Nat × (World → Prop))} {R : World → Prop} {a : Act} {a' : Value → Act}
theorem par_row {size n m : Nat} {T : TypeId} {vs cs : List Value} {r : World → Result Next} (hF : ∀ b, F0 b → b < W0.heap.size) (ho : ops.toList[i]? = some o) (hw : Region.wanted o (yielded ops a.tmps) = true)
    (h : ∀ w, (relC F0 S).G W0 w → Need ops i Φ w → (execOp a.eval o).run P w = r w) (hrr : ∀ w, r w = .ok (.value (.slice (some ⟨w.heap.size, 0, none⟩) m m)) (w.alloc (.cells cs.toArray T)))
    (hn : n = m) (hvs : vs = cs) (hl : cs.length = m * size) (hm : m ≤ maxLen) (ha : ∀ u, a.put o.dst u = a' u)
    (hr : ∀ u, ParOk P ops Q (relC F0 S) W0 tl (number (i + 1) L) ((i, rowN size n vs W0.heap.size u) :: Φ) R (a' u)) : ParOk P ops Q (relC F0 S) W0 tl (number i (.new (rowN size n vs W0.heap.size) :: L)) Φ R a := by
  subst hn hvs
  refine par_new ho (fun u w w' hf hb => ⟨FlatAt.but hf.1 hb.1 (fun a m c he hh => by have := hf.2 a m c he; have := hF _ hh; omega), hf.2⟩) (fun w hb hn K hK => ?_) ha hr
  rw [if_pos hw]
  unfold Oper.wp
  rw [h w hb hn, hrr w]
  refine hK _ _ ⟨FlatAt.made w _ T hl hm, fun a m c he => ?_⟩ ((Below.refl _ w).alloc (Nat.le_refl _) _)
  cases he
  exact hb.1.size
theorem need_head {x : Nat × (World → Prop)} {Φ : List (Nat × (World → Prop))} {w : World} (hn : Need ops i (x :: Φ) w) (he : edge ops i x.1 = true) : x.2 w := hn x List.mem_cons_self he
def boxN (cs : Array Value) (T : TypeId) (B : Nat) : Value → World → Prop := fun u w => ∃ g, u = .pointer (some ⟨g, 0, none⟩) ∧ B ≤ g ∧ w.heap[g]? = some (.cells cs T (0, 0))
theorem par_box {cs : Array Value} {T : TypeId} {r : World → Result Next} (hF : ∀ b, F0 b → b < W0.heap.size) (ho : ops.toList[i]? = some o) (hw : Region.wanted o (yielded ops a.tmps) = true)
    (h : ∀ w, (relC F0 S).G W0 w → Need ops i Φ w → (execOp a.eval o).run P w = r w) (hrr : ∀ w, r w = .ok (.value (.pointer (some ⟨w.heap.size, 0, none⟩))) (w.alloc (.cells cs T))) (ha : ∀ u, a.put o.dst u = a' u)
    (hr : ∀ u, ParOk P ops Q (relC F0 S) W0 tl (number (i + 1) L) ((i, boxN cs T W0.heap.size u) :: Φ) R (a' u)) : ParOk P ops Q (relC F0 S) W0 tl (number i (.new (boxN cs T W0.heap.size) :: L)) Φ R a := by
  refine par_new ho (fun u w w' hf hb => ?_) (fun w hb hn K hK => ?_) ha hr
  · obtain ⟨g, h1, h2, h3⟩ := hf
    exact ⟨g, h1, h2, (hb.1.block g (heap_lt h3) (fun hh => by have := hF _ hh; omega)).trans h3⟩
  · rw [if_pos hw]
    unfold Oper.wp
    rw [h w hb hn, hrr w]
    exact hK _ _ ⟨w.heap.size, rfl, hb.1.size, alloc_new _ _⟩ ((Below.refl _ w).alloc (Nat.le_refl _) _)
theorem par_app {A : World → Prop} (t e : TypeId) {z : Value} {size bytes : Nat} (ht : P.underlying t = some (.slice e))
    (hinfo : (P.info? e).map (fun i => (i.zero, i.size, i.bytes)) = some (some z, size, bytes)) (hzs : z.cells.size = size) (hsz : 0 < size)
    {base n m : Nat} {v x : Value} {xs cs : List Value} (hbase : base ≤ W0.heap.size) (hn : n + m ≤ maxLen) (hby : (n + m) * bytes ≤ 140737488355328) (h1 : ∀ u ∈ cs, u.oneCell' = true)
    (hA1 : ∀ w w', A w → w.ownsRow base e size v n xs → But (ownB v) w w' → A w') (hA2 : ∀ w w', A w → Below w.heap.size w w' → A w') (hFv : ∀ b, ownB v b → F0 b) (hSv : ∀ b i, S b i → ¬ ownB v b)
    (ho : ops.toList[i]? = some o) {s x' : Operand} (hgd : o.guard = none) (hop : o.op = .call { callee := .builtin .append, args := #[s, x'], argTypes := #[t, t] }) (hs : a.eval s = v) (hx' : a.eval x' = x)
    (hx : ∀ w, (relC F0 S).G W0 w → Need ops i Φ w → FlatAt size w x m cs) (ha : ∀ u, a.put o.dst u = a' u)
    (hr : ∀ u, shOk (some (n + m)) u → ParOk P ops Q (relC F0 S) W0 tl (number (i + 1) L) ((i, fun _ => True) :: Φ) (fun w => A w ∧ w.ownsRow base e size u (n + m) (xs ++ cs)) (a' u)) :
    ParOk P ops Q (relC F0 S) W0 tl (number i (.st (some (n + m)) (fun _ _ => True) (fun u w => A w ∧ w.ownsRow base e size u (n + m) (xs ++ cs)) :: L)) Φ (fun w => A w ∧ w.ownsRow base e size v n xs) a := by
  refine par_str ho (by simp [Region.wanted, hgd]) (fun _ _ _ _ _ => trivial) (fun u w w' h hb => ⟨hA2 w w' h.1 hb, own_at (F := fun _ => False) h.2 (But.of hb) (fun _ _ => id)⟩) (fun w hb hnd hR => ?_) ha hr
  obtain ⟨hA, hown⟩ := hR
  obtain ⟨v', w', hrun, h2, h3, -⟩ := run_app_k (P := P) t e o.type ht hinfo hzs hsz hown (Nat.le_trans hbase hb.1.size) (hx w hb hnd) hn hby h1
  refine ⟨v', w', ?_, own_slice h2, trivial, ⟨h3.mono (fun b _ h => hFv b h), fun b i u hs hc => But.cell h3 hc (hSv b i hs)⟩, hA1 _ _ hA hown h3, h2⟩
  unfold execOp
  simp only [hop, resolve, invoke, builtin, Sem.run_bind, Sem.run_pure, Result.andThen_ok, List.map_toArray, List.map_cons, List.map_nil, hs, hx', hrun]
theorem par_val {F : Value → World → Prop} (ho : ops.toList[i]? = some o) (hw : Region.wanted o (yielded ops a.tmps) = true) (hs : ∀ u w w', F u w → (relC F0 S).G w w' → F u w')
    (h : ∀ w, (relC F0 S).G W0 w → Need ops i Φ w → ∃ u w', (execOp a.eval o).run P w = .ok (.value u) w' ∧ F u w' ∧ Below w.heap.size w w') (ha : ∀ u, a.put o.dst u = a' u)
    (hr : ∀ u, ParOk P ops Q (relC F0 S) W0 tl (number (i + 1) L) ((i, F u) :: Φ) R (a' u)) : ParOk P ops Q (relC F0 S) W0 tl (number i (.new F :: L)) Φ R a := by
  refine par_new ho hs (fun w hb hn K hK => ?_) ha hr
  rw [if_pos hw]
  unfold Oper.wp
  obtain ⟨u, w', he, hf, hb'⟩ := h w hb hn
  rw [he]
  exact hK u w' hf hb'
theorem par_appE {A : World → Prop} {Pc : List Value → World → Prop} (t e : TypeId) {z : Value} {size bytes : Nat} (ht : P.underlying t = some (.slice e))
    (hinfo : (P.info? e).map (fun i => (i.zero, i.size, i.bytes)) = some (some z, size, bytes)) (hzs : z.cells.size = size) (hsz : 0 < size)
    {base n m : Nat} {v x : Value} {xs : List Value} (hbase : base ≤ W0.heap.size) (hn : n + m ≤ maxLen) (hby : (n + m) * bytes ≤ 140737488355328)
    (hA1 : ∀ w w', A w → w.ownsRow base e size v n xs → But (ownB v) w w' → A w') (hA2 : ∀ w w', A w → Below w.heap.size w w' → A w') (hP1 : ∀ cs w w', (relC F0 S).G W0 w → Pc cs w → w.ownsRow base e size v n xs → But (ownB v) w w' → Pc cs w') (hP2 : ∀ cs w w', Pc cs w → Below w.heap.size w w' → Pc cs w')
    (hFv : ∀ b, ownB v b → F0 b) (hSv : ∀ b i, S b i → ¬ ownB v b)
    (ho : ops.toList[i]? = some o) {s x' : Operand} (hgd : o.guard = none) (hop : o.op = .call { callee := .builtin .append, args := #[s, x'], argTypes := #[t, t] }) (hs : a.eval s = v) (hx' : a.eval x' = x)
    (hx : ∀ w, (relC F0 S).G W0 w → Need ops i Φ w → ∃ cs, Pc cs w ∧ FlatAt size w x m cs ∧ ∀ u ∈ cs, u.oneCell' = true) (ha : ∀ u, a.put o.dst u = a' u)
    (hr : ∀ u, shOk (some (n + m)) u → ParOk P ops Q (relC F0 S) W0 tl (number (i + 1) L) ((i, fun _ => True) :: Φ) (fun w => A w ∧ ∃ cs, Pc cs w ∧ w.ownsRow base e size u (n + m) (xs ++ cs)) (a' u)) :
    ParOk P ops Q (relC F0 S) W0 tl (number i (.st (some (n + m)) (fun _ _ => True) (fun u w => A w ∧ ∃ cs, Pc cs w ∧ w.ownsRow base e size u (n + m) (xs ++ cs)) :: L)) Φ (fun w => A w ∧ w.ownsRow base e size v n xs) a := by
  refine par_str ho (by simp [Region.wanted, hgd]) (fun _ _ _ _ _ => trivial) (fun u w w' h hb => ⟨hA2 w w' h.1 hb, by obtain ⟨cs, hp, ho⟩ := h.2; exact ⟨cs, hP2 cs w w' hp hb, own_at (F := fun _ => False) ho (But.of hb) (fun _ _ => id)⟩⟩) (fun w hb hnd hR => ?_) ha hr
  obtain ⟨hA, hown⟩ := hR
  obtain ⟨cs, hp, hfl, h1⟩ := hx w hb hnd
  obtain ⟨v', w', hrun, h2, h3, -⟩ := run_app_k (P := P) t e o.type ht hinfo hzs hsz hown (Nat.le_trans hbase hb.1.size) hfl hn hby h1
  refine ⟨v', w', ?_, own_slice h2, trivial, ⟨h3.mono (fun b _ h => hFv b h), fun b i u hs hc => But.cell h3 hc (hSv b i hs)⟩, hA1 _ _ hA hown h3, cs, hP1 cs w w' hb hp hown h3, h2⟩
  unfold execOp
  simp only [hop, resolve, invoke, builtin, Sem.run_bind, Sem.run_pure, Result.andThen_ok, List.map_toArray, List.map_cons, List.map_nil, hs, hx', hrun]
end
end Go.Proofs.YtjkbfoeakeoeiaaGreat.Ps
namespace Go.Proofs.YtjkbfoeakeoeiaaGreat.Ps
set_option maxRecDepth 100000
set_option maxHeartbeats 40000000
set_option linter.unusedSimpArgs false
set_option linter.unusedVariables false
open Go.RowKit
section
variable {P : Program} {ops : Array Oper} {Q : Exit → Act → World → Prop}
def noDefer (ops : Array Oper) : Bool := ops.all fun o => match o.op with
  | .defer _ => false
  | _ => true
theorem noDefer_at (hd : noDefer ops = true) {i : Nat} {o : Oper} (ho : ops[i]? = some o) : ∀ c, o.op ≠ .defer c := by
  intro c hc
  have := Array.all_eq_true'.1 hd o (Array.mem_of_getElem? ho)
  rw [hc] at this
  cases this
theorem par_sfr {O : Rel} {W0 : World} {tl : List Oper} {i : Nat} {o : Oper} {L : List Sp} {Φ : List (Nat × (World → Prop))} {R R' : World → Prop} {a a' : Act} {v : Value} (ho : ops.toList[i]? = some o) (hw : Region.wanted o (yielded ops a.tmps) = true) (hRs : ∀ w w', R' w → O.N w w' → R' w')
    (h : ∀ w, O.G W0 w → Need ops i Φ w → R w → ∃ w', (execOp a.eval o).run P w = .ok (.value v) w' ∧ O.G w w' ∧ R' w') (ha : a.put o.dst v = a')
    (hr : ParOk P ops Q O W0 tl (number (i + 1) L) Φ R' a') : ParOk P ops Q O W0 tl (number i (.sf v R' :: L)) Φ R a := by
  have ho := of_list ho
  refine ⟨⟨fun _ _ _ _ _ => trivial, fun _ _ _ => hRs⟩, fun w hb hn hR => ?_, ?_⟩
  · rw [dst_of ho]
    refine wpOp_step ho fun K hK => ?_
    rw [if_pos hw]
    unfold Oper.wp
    obtain ⟨w', he, hb', hr'⟩ := h w hb hn (hR rfl)
    rw [he]
    exact hK _ _ ⟨v, rfl, rfl, trivial, hb', hr'⟩
  · rintro u rfl
    rw [dst_of ho, ha]
    exact ParOk.more (fun p hp => List.mem_cons_of_mem _ hp) hr
theorem par_sfs {O : Rel} {W0 : World} {tl : List Oper} {i : Nat} {o : Oper} {L : List Sp} {Φ : List (Nat × (World → Prop))} {R R' : World → Prop} {a a' : Act} (ho : ops.toList[i]? = some o) (hw : Region.wanted o (yielded ops a.tmps) = true) (hRs : ∀ w w', R' w → O.N w w' → R' w')
    (h : ∀ w, O.G W0 w → Need ops i Φ w → R w → ∃ w', (execOp a.eval o).run P w = .ok .skip w' ∧ O.G w w' ∧ R' w') (hd : o.dst = none) (ha : a = a')
    (hr : ParOk P ops Q O W0 tl (number (i + 1) L) Φ R' a') : ParOk P ops Q O W0 tl (number i (.sf undef R' :: L)) Φ R a := by
  have ho := of_list ho
  refine ⟨⟨fun _ _ _ _ _ => trivial, fun _ _ _ => hRs⟩, fun w hb hn hR => ?_, ?_⟩
  · rw [dst_of ho]
    refine wpOp_step ho fun K hK => ?_
    rw [if_pos hw]
    unfold Oper.wp
    obtain ⟨w', he, hb', hr'⟩ := h w hb hn (hR rfl)
    rw [he]
    exact hK _ _ ⟨undef, by rw [hd], rfl, trivial, hb', hr'⟩
  · rintro u rfl
    rw [dst_of ho, hd]
    subst ha
    exact ParOk.more (fun p hp => List.mem_cons_of_mem _ hp) hr
end
end Go.Proofs.YtjkbfoeakeoeiaaGreat.Ps
namespace Go.Proofs.YtjkbfoeakeoeiaaGreat.Ps
set_option maxRecDepth 100000
set_option maxHeartbeats 40000000
set_option linter.unusedSimpArgs false
set_option linter.unusedVariables false
open Go.RowKit
section
variable {P : Program} {ops : Array Oper} {Q : Exit → Act → World → Prop}
def QT (n : Nat) (P : Program) (ops : Array Oper) (Q : Exit → Act → World → Prop) (tl : List Oper) : Exit → Act → World → Prop
  | .normal, a, w => wpListIn Fence.wide n P ops Q tl a w
  | .panic c, a, w => Q (.panic c) a w
  | _, _, _ => False
theorem wpOper_wide {n : Nat} {tl : List Oper} {o : Oper} (hd : ∀ c, o.op ≠ .defer c) {a : Act} {w : World} {K : Act → World → Prop} (h : o.wp P a w K (QT n P ops Q tl)) : o.wpIn Fence.wide n P a w K Q := by
  refine ⟨fun _ _ => trivial, ?_⟩
  rw [Oper.semAt_eq _ _ _ hd]
  unfold Oper.wp at h
  generalize (execOp a.eval o).run P w = r at h
  cases r with
  | ok x w' =>
    cases x <;> simp only [Oper.upon] at h <;> simp only [Oper.uponIn] <;>
      first
        | exact h
        | exact ⟨fun hx => absurd hx (by simp [Fence.wide]), callsIn_wide.2 (h.mono fun e w'' he => by cases e <;> first | exact he | exact he.elim fun _ h => h.elim fun _ h => h.elim)⟩
        | exact ⟨fun hx => absurd hx (by simp [Fence.wide]), fun c cs _ => let ⟨v, w', r, s⟩ := h c cs; ⟨v, w', r, stepsIn_wide.2 s⟩⟩
        | exact h.elim
  | halt x w' => cases x <;> simp only [Oper.upon] at h <;> simp only [Oper.uponIn] <;> first | exact h | exact h.elim
theorem wpOp_wide {n i : Nat} {tl : List Oper} (hd : noDefer ops = true) {a : Act} {w : World} {K : Act → World → Prop} (h : wpOp P ops (QT n P ops Q tl) i K a w) : wpOpIn Fence.wide n P ops Q i K a w := by
  unfold wpOp at h
  unfold wpOpIn
  cases ho : ops[i]? with
  | none => rw [ho] at h; simpa using h
  | some o =>
    rw [ho] at h
    simp only at h ⊢
    split at h
    · rename_i hw
      rw [if_pos hw]
      rcases h with h | ⟨_, a', w', hq⟩
      · exact wpOper_wide (noDefer_at hd ho) h
      · exact hq.elim
    · rename_i hw
      rw [if_neg hw]
      exact ⟨fun _ _ => trivial, h⟩
theorem tail_wide {n₀ : Nat} (hedges : ∀ j oj, ops[j]? = some oj → ∀ e ∈ oj.after, Region.binds .any e = true → e.on < j) {m0 : Nat} (hah : ∀ t, m0 ≤ t → t < ops.size → ∀ j, j < t → j ∈ ahead ops t [t]) :
    ∀ (n m : Nat) (listed : Array Bool) (a : Act) (w : World), m0 ≤ m → m + n = ops.size → listed.size = ops.size → Closed ops listed → (∀ i, i < ops.size → (listed.getD i true = false ↔ m ≤ i)) →
    wpOpsIn Fence.wide n₀ P ops Q (List.range' m n) a w → wpAnyIn Fence.wide n₀ P .any ops Q n listed a w := by
  intro n
  induction n with
  | zero =>
    intro m listed a w hm0 hmn hs hc hl h
    refine ⟨?_, h⟩
    rw [List.eq_nil_iff_forall_not_mem]
    intro j hj
    obtain ⟨h1, h2, _⟩ := ready_spec hj
    have := (hl j h2).1 h1
    omega
  | succ n ih =>
    intro m listed a w hm0 hmn hs hc hl h
    constructor
    · intro hnone
      exfalso
      have : m ∈ Region.ready .any ops listed := by
        rw [mem_ready]
        have hml : m < ops.size := by omega
        refine ⟨(hl m hml).2 (Nat.le_refl _), ops[m], by simp [hml], fun e he hb => ?_⟩
        have hlt := hedges m _ (by simp [hml]) e he hb
        exact listed_of (by omega) (fun hf => by have := (hl e.on (by omega)).1 hf; omega)
      rw [hnone] at this
      cases this
    · intro j hj
      obtain ⟨h1, h2, oj, hoj, hed⟩ := ready_spec hj
      have hjm := (hl j h2).1 h1
      have : j = m := by
        rcases Nat.lt_or_ge m j with hlt | hge
        · exfalso
          have hx := ahead_listed hc hed j [j] (by simp) m (hah j (by omega) h2 m hlt)
          rcases hx with hx | hx
          · omega
          · exact listed_not (by omega) ((hl m (by omega)).2 (Nat.le_refl _)) hx
        · omega
      subst this
      rw [List.range'_succ, wpOpsIn_cons] at h
      refine wpOpIn_mono (fun a' w' h' => ?_) h
      refine ih (j + 1) _ a' w' (by omega) (by omega) (by simpa using hs) (hc.next hj) ?_ h'
      intro i hi
      by_cases hij : j = i
      · subst hij
        have : j < listed.size := by omega
        simp [this]
      · rw [getD_set_ne true hij, hl i hi]
        omega
variable {O : Rel} {W0 : World}
theorem par_wide {n₀ : Nat} {tl : List Oper} (hd : noDefer ops = true) (hQ : ∀ c d v a w, QT n₀ P ops Q tl (.panic c) (a.put d v) w ↔ QT n₀ P ops Q tl (.panic c) a w) {ch : List Bool} (hck : parCheck ops ch = true) (htl : ops.toList.drop ch.length = tl) :
    ∀ (n : Nat) (L : List (Nat × Sp)) (listed : Array Bool) (Φ : List (Nat × (World → Prop))) (R : World → Prop) (a : Act) (w : World),
    L.length + (ops.size - ch.length) = n → listed.size = ops.size → (∀ i, i ∈ L.map Prod.fst ↔ (i < ch.length ∧ listed.getD i true = false)) → (∀ i, ch.length ≤ i → i < ops.size → listed.getD i true = false) → Closed ops listed → L.Pairwise (fun x y => x.1 < y.1) →
    (∀ x ∈ L, ch.getD x.1 false = x.2.chain) → (∀ p ∈ Φ, ∀ w w', p.2 w → O.G w w' → p.2 w') → (∀ w w', R w → O.N w w' → R w') →
    O.G W0 w → (∀ p ∈ Φ, p.2 w) → R w → ParOk P ops (QT n₀ P ops Q tl) O W0 [] L Φ R a → wpAnyIn Fence.wide n₀ P .any ops Q n listed a w := by
  unfold parCheck at hck
  simp only [Bool.and_eq_true, List.all_eq_true, List.mem_range, decide_eq_true_eq] at hck
  obtain ⟨⟨⟨⟨hlen, hsel⟩, hck1⟩, hck2⟩, hck3⟩ := hck
  have hedges : ∀ j oj, ops[j]? = some oj → ∀ e ∈ oj.after, Region.binds .any e = true → e.on < j := by
    intro j oj hj e he hb
    have := hck1 j (Array.getElem?_eq_some_iff.1 hj).1
    simp only [hj, Option.any_some] at this
    have := Array.all_eq_true_iff_forall_mem.1 this e he
    simpa [hb] using this
  have hah : ∀ t, ch.length ≤ t → t < ops.size → ∀ j, j < t → j ∈ ahead ops t [t] := by
    intro t h1 h2 j hj
    have := hck3 (t - ch.length) (by omega) j (by omega)
    rw [show ch.length + (t - ch.length) = t by omega] at this
    simpa using this
  have hpair : ∀ j oj i oi, j < ch.length → ops[j]? = some oj → ops[i]? = some oi → i < j → (ahead ops j [j]).contains i = false → oi.apart ops oj = true ∧ (ch.getD i false && ch.getD j false) = false := by
    intro j oj i oi hjl hj hi hlt he
    have := hck2 j hjl
    simp only [hj, Option.any_some, List.all_eq_true, List.mem_range] at this
    have := this i hlt
    simp only [hi, Option.any_some, he, Bool.false_or, Bool.and_eq_true, Bool.not_eq_true'] at this
    exact this
  have hend : ∀ (n : Nat) (listed : Array Bool) (Φ : List (Nat × (World → Prop))) (R : World → Prop) (a : Act) (w : World), ops.size - ch.length = n → listed.size = ops.size → (∀ i, ¬ (i < ch.length ∧ listed.getD i true = false)) → (∀ i, ch.length ≤ i → i < ops.size → listed.getD i true = false) → Closed ops listed →
      O.G W0 w → (∀ p ∈ Φ, p.2 w) → R w → ParOk P ops (QT n₀ P ops Q tl) O W0 [] [] Φ R a → wpAnyIn Fence.wide n₀ P .any ops Q n listed a w := by
    intro n listed Φ R a w hn hs hL hT hcl hb hf hr hp
    have hp : wpListIn Fence.wide n₀ P ops Q tl a w := hp w hb hf hr
    refine tail_wide hedges hah n ch.length listed a w (Nat.le_refl _) (by omega) hs hcl ?_ ?_
    · intro i hi
      constructor
      · intro h
        rcases Nat.lt_or_ge i ch.length with h' | h'
        · exact absurd ⟨h', h⟩ (hL i)
        · exact h'
      · exact fun h => hT i h hi
    · have hq := wpOpsIn_eq_wpListIn (F := Fence.wide) (n := n₀) (P := P) (ops := ops) (Q := Q) (ops.toList.drop ch.length) ch.length (fun j => by simp [List.getElem?_drop])
      rw [show (ops.toList.drop ch.length).length = n by simp; omega] at hq
      rw [hq, htl]
      exact hp
  intro n
  induction n with
  | zero =>
    intro L listed Φ R a w hn hs hL hT hcl hso hch hΦ hRs hb hf hr hp
    have : L = [] := List.eq_nil_of_length_eq_zero (by omega)
    subst this
    exact hend 0 listed Φ R a w (by simp at hn; omega) hs (fun i hi => by have := (hL i).2 hi; simp at this) hT hcl hb hf hr hp
  | succ n ih =>
    intro L listed Φ R a w hn hs hL hT hcl hso hch hΦ hRs hb hf hr hp
    cases hLn : L with
    | nil =>
      subst hLn
      exact hend (n + 1) listed Φ R a w (by simp at hn; omega) hs (fun i hi => by have := (hL i).2 hi; simp at this) hT hcl hb hf hr hp
    | cons x0 L0 =>
    have hx0 := (hL x0.1).1 (by rw [hLn]; simp)
    constructor
    · intro hnone
      exfalso
      have : x0.1 ∈ Region.ready .any ops listed := by
        rw [mem_ready]
        have hlt0 : x0.1 < ops.size := by omega
        refine ⟨hx0.2, ops[x0.1], by simp [hlt0], fun e he hbn => ?_⟩
        have hlt := hedges x0.1 _ (by simp [hlt0]) e he hbn
        refine listed_of (by omega) (fun hv => ?_)
        have := (hL e.on).2 ⟨by omega, hv⟩
        rw [hLn] at this
        simp only [List.map_cons, List.mem_cons] at this
        rcases this with h | h
        · omega
        · obtain ⟨y, hy, hye⟩ := List.mem_map.1 h
          rw [hLn] at hso
          have := (List.pairwise_cons.1 hso).1 y hy
          omega
      rw [hnone] at this
      cases this
    · intro j hm
      obtain ⟨h1, hjlt, oj, hj, hed⟩ := ready_spec hm
      have hjc : j < ch.length := by
        rcases Nat.lt_or_ge j ch.length with h' | h'
        · exact h'
        · exfalso
          have hx := ahead_listed hcl hed j [j] (by simp) x0.1 (hah j h' hjlt x0.1 (by omega))
          rcases hx with hx | hx
          · omega
          · exact listed_not (by omega) hx0.2 hx
      obtain ⟨⟨j', s⟩, hjm, hje⟩ := List.mem_map.1 ((hL j).2 ⟨hjc, h1⟩)
      dsimp only at hje
      subst hje
      obtain ⟨pre, post, hLp⟩ := List.append_of_mem hjm
      clear hLn
      subst hLp
      have hso' := List.pairwise_append.1 hso
      have hpre : ∀ x ∈ pre, ∃ oi, ops[x.1]? = some oi ∧ oi.apart ops oj = true ∧ edge ops j' x.1 = false ∧ (x.2.chain && s.chain) = false := by
        intro x hx
        have hlt : x.1 < j' := hso'.2.2 x hx (j', s) List.mem_cons_self
        have hxl := (hL x.1).1 (by simp only [List.map_append, List.mem_append, List.mem_map]; exact .inl ⟨x, hx, rfl⟩)
        have he : edge ops j' x.1 = false := by
          cases hv : edge ops j' x.1 with
          | false => rfl
          | true => exact absurd (hed x.1 hv) (listed_not (by omega) hxl.2)
        have hxs : x.1 < ops.size := by omega
        have hi : ops[x.1]? = some ops[x.1] := by simp [hxs]
        have hna : (ahead ops j' [j']).contains x.1 = false := by
          cases hv : (ahead ops j' [j']).contains x.1 with
          | false => rfl
          | true =>
            exfalso
            rcases ahead_listed hcl hed j' [j'] (by simp) x.1 (List.contains_iff_mem.1 hv) with h | h
            · omega
            · exact listed_not (by omega) hxl.2 h
        obtain ⟨k1, k2⟩ := hpair j' oj x.1 _ hjc hj hi hlt hna
        refine ⟨_, hi, k1, he, ?_⟩
        rw [hch x (List.mem_append_left _ hx), hch (j', s) hjm] at k2
        exact k2
      obtain ⟨hst, hstep, hnext⟩ := pull hQ hsel hj pre Φ R a hpre hp
      refine wpOpIn_mono ?_ (wpOp_wide hd (hstep w hb (fun p hm _ => hf p hm) (fun _ => hr)))
      rintro a' w' ⟨u, rfl, hok, hfact, hgo⟩
      rw [dst_of hj]
      have hbut : O.G w w' := by
        cases s with
        | fix v => exact O.of _ _ hgo
        | new F => exact O.of _ _ hgo
        | st sh F R' => exact hgo.1
        | sf v R' => exact hgo.1
      refine ih (pre ++ post) (listed.setIfInBounds j' true) ((j', s.fact u) :: Φ) (s.nextR u R) (a.put oj.dst u) w' ?_ (by simpa using hs) ?_ ?_ (hcl.next hm) ?_ ?_ ?_ ?_ (O.trans _ _ _ hb hbut) ?_ ?_ (hnext u hok)
      · simp only [List.length_append, List.length_cons] at hn ⊢; omega
      · intro i
        have := hL i
        simp only [List.map_append, List.map_cons, List.mem_append, List.mem_cons] at this ⊢
        by_cases hij : j' = i
        · subst hij
          have hlt : j' < listed.size := by omega
          constructor
          · intro h
            exfalso
            rcases h with h | h
            · obtain ⟨y, hy, hye⟩ := List.mem_map.1 h
              have := hso'.2.2 y hy (j', s) List.mem_cons_self
              omega
            · obtain ⟨y, hy, hye⟩ := List.mem_map.1 h
              have := (List.pairwise_cons.1 hso'.2.1).1 y hy
              omega
          · rintro ⟨-, h⟩
            simp [hlt] at h
        · rw [getD_set_ne true hij, ← this]
          constructor
          · rintro (h | h)
            · exact .inl h
            · exact .inr (.inr h)
          · rintro (h | h | h)
            · exact .inl h
            · exact absurd h.symm hij
            · exact .inr h
      · intro i h5 h6
        rw [getD_set_ne true (by omega)]
        exact hT i h5 h6
      · exact List.pairwise_append.2 ⟨hso'.1, (List.pairwise_cons.1 hso'.2.1).2, fun x hx y hy => hso'.2.2 x hx y (List.mem_cons_of_mem _ hy)⟩
      · intro x hx
        rcases List.mem_append.1 hx with h | h
        · exact hch x (List.mem_append_left _ h)
        · exact hch x (List.mem_append_right _ (List.mem_cons_of_mem _ h))
      · intro p hm
        rcases List.mem_cons.1 hm with rfl | hm
        · exact fun w w' => hst.1 u w w'
        · exact hΦ p hm
      · exact hst.2 R hRs u
      · intro p hm
        rcases List.mem_cons.1 hm with rfl | hm
        · exact hfact
        · exact hΦ p hm w w' (hf p hm) hbut
      · cases s with
        | fix v => exact hRs _ _ hr hgo
        | new F => exact hRs _ _ hr hgo
        | st sh F R' => exact hgo.2
        | sf v R' => exact hgo.2
theorem wpIn_parW {id n : Nat} {a : Act} {w : World} (O : Rel) (R : World → Prop) (ch : List Bool) (tl : List Oper) (L : List Sp) (hm : P.follows .mixedOrders = true) (hck : parCheck ops ch = true) (htl : ops.toList.drop ch.length = tl) (hch : L.map Sp.chain = ch)
    (hQ' : ∀ c t v a w, Q (.panic c) (a.put (some t) v) w ↔ Q (.panic c) a w) (hRs : ∀ w w', R w → O.N w w' → R w') (hR : R w) (hd : noDefer ops = true)
    (h : ParOk P ops (QT n P ops Q tl) O w [] (number 0 L) [] R a) : (Code.region id ops true).wpIn Fence.wide n P Q a w := by
  subst hch
  have hQ : ∀ c d v a w, QT n P ops Q tl (.panic c) (a.put d v) w ↔ QT n P ops Q tl (.panic c) a w := fun c d v a w => by
    cases d with
    | none => exact Iff.rfl
    | some t => exact hQ' c t v a w
  have hl : L.length ≤ ops.size := by
    have := hck
    unfold parCheck at this
    simp only [Bool.and_eq_true, decide_eq_true_eq, List.length_map] at this
    exact this.1.1.1.1
  have hdr := O.draw w
  refine wpIn_region_any hm (par_wide hd hQ hck htl ops.size (number 0 L) _ [] R a _ ?_ (by simp) ?_ ?_ ?_ (number_sorted L 0) ?_ (by simp) hRs (O.of _ _ hdr) (by simp) (hRs _ _ hR hdr) h)
  · rw [number_length, List.length_map]; omega
  · intro i
    rw [number_mem, List.length_map]
    constructor
    · rintro ⟨-, h⟩
      have h2 : i < ops.size := by omega
      exact ⟨by omega, by simp [h2]⟩
    · rintro ⟨h, -⟩
      omega
  · intro i _ h2
    simp [h2]
  · intro k hk
    by_cases hlt : k < ops.size <;> simp [hlt] at hk
  · intro x hx
    simpa using number_chain L 0 x hx
theorem par_endW {n i : Nat} {tl : List Oper} {Φ : List (Nat × (World → Prop))} {R : World → Prop} {a : Act} (h : ∀ w, O.G W0 w → (∀ p ∈ Φ, p.2 w) → R w → wpListIn Fence.wide n P ops Q tl a w) : ParOk P ops (QT n P ops Q tl) O W0 [] (number i []) Φ R a := h
end
end Go.Proofs.YtjkbfoeakeoeiaaGreat.Ps
namespace Go.Proofs.YtjkbfoeakeoeiaaGreat
set_option maxRecDepth 100000
set_option maxHeartbeats 40000000
set_option linter.unusedSimpArgs false
set_option linter.unusedVariables false
open Go.RowKit
def uvS (x : Nat) : ByteArray := ⟨(Lib.uvarint x).toArray⟩
theorem uvS_size (x : Nat) : (uvS x).size = (Lib.uvarint x).length := by simp [uvS, ByteArray.size]
theorem info_u8 : (Tryz.prog.info? 5).map (fun i => (i.zero, i.size, i.bytes)) = some (some (.int .u8 0), 1, 1) := by kernel_rfl
theorem bytes_row {w : World} {base e n : Nat} {v : Value} {l : List UInt8} (h : w.ownsRow base e 1 v n (Lib.byteCells l)) (hl : 0 < l.length) :
    ∃ g cap, v = .slice (some ⟨g, 0, none⟩) l.length cap ∧ ∀ j (hj : j < l.length), w.cell? ((⟨g, 0, none⟩ : Addr).add j) = some (.int .u8 (l[j].toNat : Int)) := by
  have hn : l.length = n := by have := h.1; rw [Lib.byteCells_length] at this; omega
  rcases h.2 with ⟨rfl, rfl⟩ | ⟨g, cap, cur, rfl, _, hh, hnc, hcm, hsz, htk⟩
  · omega
  · refine ⟨g, cap, by rw [hn], fun j hj => ?_⟩
    have e : (⟨g, 0, none⟩ : Addr).add j = ⟨g, j, none⟩ := by
      by_cases hj0 : j = 0 <;> simp [Addr.add, hj0]
    rw [e, cell_of hh]
    have h1 : (Lib.byteCells l)[j]? = some (.int .u8 (l[j].toNat : Int)) := by simp [Lib.byteCells, hj]
    rw [← htk, List.getElem?_take] at h1
    split at h1
    · simpa using h1
    · cases h1
theorem byteCells_snoc (pre : List UInt8) {n : Nat} (hn : n < 256) : Lib.byteCells (pre ++ [n.toUInt8]) = Lib.byteCells pre ++ [.int .u8 (n : Int)] := by
  have h : n.toUInt8.toNat = n := by simp [Nat.toUInt8, UInt8.toNat_ofNat']; omega
  simp [Lib.byteCells, h]
theorem wuint_any (x : Nat) (hx : x < 18446744073709551616) (w : World) :
    Calls Tryz.prog 62 #[.int .u64 x] w fun e w' => e = .returned (.string (uvS x)) ∧ Below w.heap.size w w' := by
  have hlen := Lib.uvarint_length64 hx
  go_enter Tryz.func62, Tryz.ntmps62
  go_wp2
  go_loopw [0, 3] (fun vx vb wr => ∃ (y : Nat) (pre : List UInt8), vx = .int .u64 y ∧ Hid (y ≤ x ∧ Lib.uvarint x = pre ++ Lib.uvarint y ∧ wr.ownsRow w.heap.size 5 1 vb pre.length (Lib.byteCells pre) ∧ Below w.heap.size w wr))
    (fun vx _ _ => (intOf vx).toNat)
  case atStart => exact ⟨x, [], rfl, Nat.le_refl _, rfl, World.ownsRow_nil _ _ _ _, Below.refl _ _⟩
  case round =>
    obtain ⟨y, pre, rfl, hR⟩ := hrel
    have hy := hR.out.1
    have hws := hR.out.2.2.2.size
    have hpl : pre.length + (Lib.uvarint y).length ≤ 10 := by
      have h2 := congrArg List.length hR.out.2.1
      rw [List.length_append] at h2
      omega
    have hyp := Lib.uvarint_pos y
    by_cases h128 : 128 ≤ y
    · have hor : bits .or .u8 ((y : Int) % 256) 128 = ((y % 128 + 128 : Nat) : Int) := by
        rw [Lib.u8_or128_any _ (by omega) (by omega)]
        omega
      go_wp2_with (at_builtin; refine app1 133 5 Tryz.underlying133 info_u8 rfl (by decide) hR.out.2.2.1 hws (by unfold maxLen; omega) (by omega) rfl rfl rfl rfl rfl (by simp [Value.oneCell']) ?_; intro v' w4 hown4 hb4)
      refine ⟨⟨y / 128, pre ++ [(y % 128 + 128).toUInt8], by go_num, by omega, by rw [hR.out.2.1, Lib.uvarint_big h128]; simp, ?_, hR.out.2.2.2.trans hb4⟩, by simp [intOf]; omega⟩
      rw [byteCells_snoc pre (by omega), List.length_append, List.length_singleton]
      exact hown4
    · have hsm : Lib.uvarint y = [y.toUInt8] := Lib.uvarint_small (by omega)
      go_wp2_with (at_builtin; refine app1 133 5 Tryz.underlying133 info_u8 rfl (by decide) hR.out.2.2.1 hws (by unfold maxLen; omega) (by omega) rfl rfl rfl rfl rfl (by simp [Value.oneCell']) ?_; intro v' w4 hown4 hb4)
      have hfin : w4.ownsRow w.heap.size 5 1 v' (pre.length + 1) (Lib.byteCells (Lib.uvarint x)) := by
        rw [hR.out.2.1, hsm, byteCells_snoc pre (by omega)]
        exact hown4
      obtain ⟨g, cap, rfl, hc⟩ := bytes_row hfin (by have := Lib.uvarint_pos x; omega)
      rw [run_convert_bytes_back w4 _ _ 5 ⟨g, 0, none⟩ cap (Lib.uvarint x) Tryz.underlying133 Tryz.underlying5 Tryz.underlying9 hc]
      simp only [Result.andThen]
      rw [Oper.upon_value]
      go_wp2
      go_ret
      exact ⟨rfl, hR.out.2.2.2.trans hb4⟩
def zig (x : Int) : Nat := if 0 ≤ x then (2 * x).toNat else (-2 * x - 1).toNat
theorem xor_ones (a : Nat) (ha : a < 18446744073709551616) : a ^^^ 18446744073709551615 = 18446744073709551615 - a := by
  have h := congrArg BitVec.toNat (BitVec.xor_allOnes (x := BitVec.ofNat 64 a))
  simp only [BitVec.toNat_xor, BitVec.toNat_ofNat, BitVec.toNat_allOnes, BitVec.toNat_not, Nat.reducePow, Nat.reduceSub, Nat.mod_eq_of_lt ha] at h
  exact h
theorem zig_pos (n : Nat) (hn : n ≤ 9223372036854775807) : bits .xor .u64 ((n : Int) * 2) ((n : Int) / 9223372036854775808) = ((zig n : Nat) : Int) := by
  have e1 : ((n : Int) * 2) = ((n * 2 : Nat) : Int) := by omega
  have e2 : ((n : Int) / 9223372036854775808) = ((0 : Nat) : Int) := by omega
  rw [e1, e2, bits_xor_u64_nat _ _ (by omega) (by omega), Nat.xor_zero]
  unfold zig
  rw [if_pos (by omega)]
  omega
theorem zig_neg (x : Int) (h0 : x < 0) (h1 : -9223372036854775808 ≤ x) : bits .xor .u64 (IntKind.u64.wrap (IntKind.u64.wrap x * 2)) (IntKind.u64.wrap (x / 9223372036854775808)) = ((zig x : Nat) : Int) := by
  rw [IntKind.wrap_u64, IntKind.wrap_u64, IntKind.wrap_u64]
  have e1 : (x % 18446744073709551616 * 2 % 18446744073709551616) = ((18446744073709551616 + 2 * x).toNat : Int) := by omega
  have e2 : (x / 9223372036854775808 % 18446744073709551616) = ((18446744073709551615 : Nat) : Int) := by omega
  rw [e1, e2, bits_xor_u64_nat _ _ (by omega) (by omega), xor_ones _ (by omega)]
  unfold zig
  rw [if_neg (by omega)]
  omega
theorem zig_lt (x : Int) (h1 : -9223372036854775808 ≤ x) (h2 : x ≤ 9223372036854775807) : zig x < 18446744073709551616 := by
  unfold zig
  split <;> omega
theorem wint_any (x : Int) (h1 : -9223372036854775808 ≤ x) (h2 : x ≤ 9223372036854775807) (w : World) :
    Calls Tryz.prog 76 #[.int .i64 x] w fun e w' => e = .returned (.string (uvS (zig x))) ∧ Below w.heap.size w w' := by
  have hz := zig_lt x h1 h2
  by_cases h0 : 0 ≤ x
  · obtain ⟨n, rfl⟩ := Int.eq_ofNat_of_zero_le h0
    have hq := hid (zig_pos n (by omega))
    go_enter Tryz.func76, Tryz.ntmps76
    go_wp2_with fail
    rw [hq.out]
    refine (wuint_any (zig n) hz w).mono ?_
    rintro e w1 ⟨rfl, b1⟩
    go_wp2
    go_ret
    exact ⟨rfl, b1⟩
  · have hq := hid (zig_neg x (by omega) h1)
    go_enter Tryz.func76, Tryz.ntmps76
    go_wp2_with fail
    rw [hq.out]
    refine (wuint_any (zig x) hz w).mono ?_
    rintro e w1 ⟨rfl, b1⟩
    go_wp2
    go_ret
    exact ⟨rfl, b1⟩
def txS (s : ByteArray) : ByteArray := uvS s.size ++ s
theorem wtext_any (s : ByteArray) (hs : s.size ≤ 140737488355328) (w : World) :
    Calls Tryz.prog 63 #[.string s] w fun e w' => e = .returned (.string (txS s)) ∧ Below w.heap.size w w' := by
  have hz := uvS_size s.size
  have hl := Lib.uvarint_length64 (show s.size < 18446744073709551616 by omega)
  go_enter Tryz.func63, Tryz.ntmps63
  go_wp2_with fail
  refine (wuint_any s.size (by omega) w).mono ?_
  rintro e w1 ⟨rfl, b1⟩
  go_wp2
  go_ret
  exact ⟨rfl, b1⟩
end Go.Proofs.YtjkbfoeakeoeiaaGreat
namespace Go.Proofs.YtjkbfoeakeoeiaaGreat
set_option maxRecDepth 100000
set_option maxHeartbeats 40000000
set_option linter.unusedSimpArgs false
set_option linter.unusedVariables false
open Go.RowKit
theorem SlR.below {w W : World} {v : Value} {vs : List Value} (h : SlR w v vs) (hb : Below w.heap.size w W) : SlR W v vs := by
  obtain ⟨a, cap, hv, h1, h2, h3⟩ := h
  refine ⟨a, cap, hv, h1, h2, fun i u hu => ?_⟩
  obtain ⟨b, off, ha, hc⟩ := h3 i u hu
  exact ⟨b, off, ha, (hb.cell (p := ⟨b, off + i, none⟩) (World.block_lt_of_cell? w _ hc)).trans hc⟩
theorem app_snoc {α : Type} (f : α → ByteArray) (l : List α) (i : Nat) (x : α) (h : l[i]? = some x) (s : ByteArray) : (l.take (i + 1)).foldl (fun s x => s ++ f x) s = (l.take i).foldl (fun s x => s ++ f x) s ++ f x := by
  rw [show l.take (i + 1) = l.take i ++ [x] by simp [List.take_add_one, h], List.foldl_append]
  rfl
def u64 (n : Int) : Nat := (n % 18446744073709551616).toNat
def inS (x : Int) : ByteArray := uvS (zig x)
theorem wint_in (x : Int) (h1 : -9223372036854775808 ≤ x) (h2 : x ≤ 9223372036854775807) (w : World) :
    Calls Tryz.prog 76 #[.int .i64 x] w fun e w' => e = .returned (.string (inS x)) ∧ Below w.heap.size w w' := wint_any x h1 h2 w
end Go.Proofs.YtjkbfoeakeoeiaaGreat
namespace Go.Proofs.YtjkbfoeakeoeiaaGreat
set_option maxRecDepth 100000
set_option maxHeartbeats 40000000
set_option linter.unusedSimpArgs false
set_option linter.unusedVariables false
open Go.RowKit
def ltS (a b : ByteArray) : Bool := Op.bytesLess a.data.toList b.data.toList
theorem drop_at (a : ByteArray) (i : Nat) (h : i < a.size) : a.data.toList.drop i = a[i] :: a.data.toList.drop (i + 1) := by
  rw [List.drop_eq_getElem_cons (by simpa using h)]; rfl
end Go.Proofs.YtjkbfoeakeoeiaaGreat
namespace Go.Proofs.YtjkbfoeakeoeiaaGreat
set_option maxRecDepth 100000
set_option maxHeartbeats 40000000
set_option linter.unusedSimpArgs false
set_option linter.unusedVariables false
open Go.RowKit
def ltr (c : UInt8) : Bool := decide (97 ≤ c.toNat) && decide (c.toNat ≤ 122)
def okc (c : UInt8) : Bool := ltr c || (decide (48 ≤ c.toNat) && decide (c.toNat ≤ 57)) || decide (c.toNat = 95)
def words : List ByteArray := [⟨#[97, 110, 100]⟩, ⟨#[111, 114]⟩, ⟨#[110, 111, 116]⟩, ⟨#[116, 114, 117, 101]⟩, ⟨#[102, 97, 108, 115, 101]⟩, ⟨#[108, 101, 110]⟩]
def inL (s : ByteArray) (l : List ByteArray) : Bool := l.any fun x => decide (s = x)
theorem inL_yes {s : ByteArray} {l : List ByteArray} {i : Nat} (h : l[i]? = some s) : inL s l = true := List.any_eq_true.2 ⟨s, List.mem_of_getElem? h, decide_eq_true rfl⟩
theorem inL_snoc (s x : ByteArray) (l : List ByteArray) : inL s (l ++ [x]) = (inL s l || decide (s = x)) := by simp [inL]
theorem bytes_eq2 (x y : ByteArray) : (x.toList == y.toList) = decide (x = y) := by
  by_cases h : x = y
  · subst h; simp
  · simp only [h, decide_false]
    rw [beq_eq_false_iff_ne]
    intro he
    rw [ByteArray.toList_eq, ByteArray.toList_eq] at he
    exact h (ByteArray.ext (Array.toList_inj.1 he))
def named (s : ByteArray) : Bool := decide (1 ≤ s.size) && decide (s.size ≤ 32) && ltr (s.data.toList.headD 0) && s.data.toList.all okc && !inL s words
theorem named_short {s : ByteArray} (h : s.size < 1 ∨ 32 < s.size) : named s = false := by
  unfold named
  rcases h with h | h
  · rw [decide_eq_false (by omega : ¬ 1 ≤ s.size)]; rfl
  · rw [decide_eq_false (by omega : ¬ s.size ≤ 32)]; simp
theorem head_at {s : ByteArray} (h : 0 < s.size) : s.data.toList.headD 0 = s[0] := by
  have e := drop_at s 0 h
  rw [List.drop_zero] at e
  rw [e]
  rfl
theorem named_head {s : ByteArray} (h : 0 < s.size) (hl : ltr s[0] = false) : named s = false := by
  unfold named
  rw [head_at h, hl]; simp
theorem named_bad {s : ByteArray} {i : Nat} (h : i < s.size) (hc : okc s[i] = false) : named s = false := by
  unfold named
  have : s.data.toList.all okc = false := by
    rw [Bool.eq_false_iff]
    intro ha
    rw [List.all_eq_true] at ha
    have := ha s[i] (by simp [ByteArray.getElem_eq_getElem_data])
    rw [hc] at this
    cases this
  rw [this]; simp
theorem named_end {s : ByteArray} (h1 : 1 ≤ s.size) (h2 : s.size ≤ 32) (hl : ltr s[0] = true) (ha : ∀ j (h : j < s.size), okc s[j] = true) : named s = !inL s words := by
  unfold named
  have : s.data.toList.all okc = true := by
    rw [List.all_eq_true]
    intro c hc
    obtain ⟨j, hj, rfl⟩ := List.mem_iff_getElem.1 hc
    have := ha j (by simpa using hj)
    simpa [ByteArray.getElem_eq_getElem_data] using this
  rw [head_at (by omega), hl, this, decide_eq_true h1, decide_eq_true h2]; rfl
theorem okc_iff (c : UInt8) : okc c = true ↔ (97 ≤ c.toNat ∧ c.toNat ≤ 122) ∨ (48 ≤ c.toNat ∧ c.toNat ≤ 57) ∨ c.toNat = 95 := by
  simp [okc, ltr, or_assoc]
theorem ltr_iff (c : UInt8) : ltr c = true ↔ (97 ≤ c.toNat ∧ c.toNat ≤ 122) := by simp [ltr]
theorem index_any (v : Value) (xs : List ByteArray) (s : ByteArray) (w : World) (h : SlR w v (xs.map Value.string)) (hl : xs.length ≤ 1000) :
    Calls Tryz.prog 74 #[v, .string s] w fun e w' => ∃ n : Int, e = .returned (.int .i64 n) ∧ decide (n ≥ 0) = inL s xs ∧ w = w' := by
  have hxl : (xs.map Value.string).length = xs.length := by simp
  have H := hid h
  obtain ⟨a, cap, rfl, h1, h2, -⟩ := h
  rw [hxl] at h1 h2
  unfold maxLen at h1
  rw [hxl]
  go_enter Tryz.func74, Tryz.ntmps74
  go_wp2
  go_loop [8] (fun vi => ∃ i : Nat, i ≤ xs.length ∧ vi = .int .i64 i ∧ Hid (inL s (xs.take i) = false)) (fun vi => xs.length - (intOf vi).toNat)
  case atStart => exact ⟨0, Nat.zero_le _, rfl, rfl⟩
  case round =>
    obtain ⟨i, hi, rfl, hR⟩ := hrel
    by_cases hlt : i < xs.length
    · have hxi : xs[i]? = some xs[i] := List.getElem?_eq_getElem hlt
      generalize hx : xs[i] = x at hxi
      obtain ⟨a', cap', hv, -, -, hcell⟩ := H.out
      cases hv
      obtain ⟨b, off, rfl, hc⟩ := hcell i (.string x) (by simp [hxi])
      have HX := hid hxi
      clear hcell hxi hx
      by_cases he : s = x
      · subst he
        go_wp2
        go_ret
        exact ⟨i, rfl, by rw [decide_eq_true (by omega), inL_yes HX.out], rfl⟩
      · have he2 : (s.toList == x.toList) = false := by rw [bytes_eq2, decide_eq_false he]
        go_wp2
        refine ⟨⟨i + 1, by omega, by go_num, ?_⟩, by simp [intOf]; omega⟩
        show inL s (xs.take (i + 1)) = false
        rw [show xs.take (i + 1) = xs.take i ++ [x] by simp [List.take_add_one, HX.out], inL_snoc, hR.out, decide_eq_false he]
        rfl
    · have : i = xs.length := by omega
      subst this
      have hno := hR.out
      rw [List.take_length] at hno
      have HNo := hid hno
      clear hno
      go_wp2
      go_ret
      exact ⟨-1, rfl, by rw [decide_eq_false (by omega), HNo.out], rfl⟩
theorem contains_any (v : Value) (xs : List ByteArray) (s : ByteArray) (w : World) (h : SlR w v (xs.map Value.string)) (hl : xs.length ≤ 1000) :
    Calls Tryz.prog 59 #[v, .string s] w fun e w' => e = .returned (.bool (inL s xs)) ∧ w = w' := by
  go_enter Tryz.func59, Tryz.ntmps59
  go_wp2_with fail
  refine (index_any v xs s w h hl).mono ?_
  rintro e w1 ⟨n, rfl, hn, rfl⟩
  have HN := hid hn
  clear hn
  go_wp2
  go_ret
  rw [← HN.out]
  exact ⟨by simp, rfl⟩
theorem cls (n : Nat) : (97 ≤ n ∧ n ≤ 122) ∨ (48 ≤ n ∧ n ≤ 57) ∨ n = 95 ∨ n < 48 ∨ (57 < n ∧ n < 95) ∨ n = 96 ∨ 122 < n := by omega
theorem named_any (s : ByteArray) (w : World) : Calls Tryz.prog 26 #[.string s] w fun e w' => e = .returned (.bool (named s)) ∧ Below w.heap.size w w' := by
  by_cases h1 : s.size < 1
  · have E := hid (named_short (.inl h1))
    go_enter Tryz.func26, Tryz.ntmps26
    go_wp2
    go_ret
    rw [E.out]
    exact ⟨rfl, Below.refl _ _⟩
  by_cases h2 : 32 < s.size
  · have E := hid (named_short (.inr h2))
    go_enter Tryz.func26, Tryz.ntmps26
    go_wp2
    go_ret
    rw [E.out]
    exact ⟨rfl, Below.refl _ _⟩
  have h0 : 0 < s.size := by omega
  by_cases hl : ltr s[0] = true
  · have hl2 := (ltr_iff _).1 hl
    obtain ⟨hl3, hl4⟩ := hl2
    have HL := hid hl
    clear hl
    go_enter Tryz.func26, Tryz.ntmps26
    go_wp2
    go_loop [25] (fun vi => ∃ i : Nat, i ≤ s.size ∧ vi = .int .i64 i ∧ Hid (∀ j (h : j < s.size), j < i → okc s[j] = true)) (fun vi => s.size - (intOf vi).toNat)
    case atStart => exact ⟨0, Nat.zero_le _, rfl, fun j _ hj => by omega⟩
    case round =>
      obtain ⟨i, hi, rfl, hR⟩ := hrel
      by_cases hlt : i < s.size
      · by_cases hok : okc s[i] = true
        · have hstep : Hid (∀ j (h : j < s.size), j < i + 1 → okc s[j] = true) := by
            intro j hj hji
            by_cases he : j = i
            · subst he; exact hok
            · exact hR.out j hj (by omega)
          have hok2 := (okc_iff _).1 hok
          clear hok
          rcases hok2 with ⟨k1, k2⟩ | ⟨k1, k2⟩ | k1
          all_goals
            go_wp2
            exact ⟨⟨i + 1, by omega, by go_num, hstep.out⟩, by simp [intOf]; omega⟩
        · have E := hid (named_bad hlt (by simpa using hok))
          have hno := mt (okc_iff s[i]).2 hok
          clear hok
          rcases cls s[i].toNat with ⟨k1, k2⟩ | ⟨k1, k2⟩ | k1 | k1 | ⟨k1, k2⟩ | k1 | k1
          · omega
          · omega
          · omega
          all_goals
            have hq : ((s[i].toNat : Int) != 95) = true := by rw [bne_iff_ne]; omega
            clear hno
            go_wp2
            go_ret
            rw [E.out]
            exact ⟨rfl, Below.refl _ _⟩
      · have hin : i = s.size := by omega
        subst hin
        have E := hid (named_end (by omega) (by omega) HL.out (fun j hj => hR.out j hj hj))
        go_wp2_with fail
        refine (contains_any _ words s _ (by exact SlR.boxes _ _ (But.refl (fun _ => False) _) (fun h => h) (by simp [maxLen])) (by decide)).mono ?_
        rintro e w1 ⟨rfl, rfl⟩
        go_wp2
        go_ret
        rw [E.out]
        exact ⟨rfl, (Below.refl _ _).alloc (Nat.le_refl _) _⟩
  · have E := hid (named_head h0 (by simpa using hl))
    have hl2 : s[0].toNat < 97 ∨ 122 < s[0].toNat := by
      have := mt (ltr_iff s[0]).2 hl
      omega
    clear hl
    rcases hl2 with k1 | k1
    all_goals
      go_enter Tryz.func26, Tryz.ntmps26
      go_wp2
      go_ret
      rw [E.out]
      exact ⟨rfl, Below.refl _ _⟩
end Go.Proofs.YtjkbfoeakeoeiaaGreat
namespace Go.Proofs.YtjkbfoeakeoeiaaGreat
set_option maxRecDepth 100000
set_option maxHeartbeats 40000000
set_option linter.unusedSimpArgs false
set_option linter.unusedVariables false
open Go.RowKit
structure ValV where
  k : Int
  n : Int
  s : ByteArray
def ValV.enc (v : ValV) : Value := .agg #[.int .i64 v.k, .int .i64 v.n, .string v.s]
def eS (s : ByteArray) : Bool := s.toList == []
def mayV (v : ValV) : Bool := if v.k = 3 then v.n == 0 && decide (v.s.size ≤ 1024) else if v.k = 1 then eS v.s else if v.k = 2 then (v.n == 0 || v.n == 1) && eS v.s else false
theorem may_any (v : ValV) (w : World) : Calls Tryz.prog 60 #[v.enc] w fun e w' => e = .returned (.bool (mayV v)) ∧ Below w.heap.size w w' := by
  obtain ⟨k, n, s⟩ := v
  have hb : Hid (∀ o, Below w.heap.size w (w.alloc o)) := fun o => (Below.refl _ w).alloc (Nat.le_refl _) o
  show Calls Tryz.prog 60 #[.agg #[.int .i64 k, .int .i64 n, .string s]] w _
  by_cases h2 : k = 2
  · subst h2
    by_cases h0 : n = 0
    · subst h0
      have E : Hid (mayV ⟨2, 0, s⟩ = (s.toList == [])) := by show _ = _; simp [mayV, eS]
      go_enter Tryz.func60, Tryz.ntmps60
      go_wp2
      go_ret
      rw [E.out]
      exact ⟨by first | rfl | (simp; done), hb.out _⟩
    · have hq0 : (n != 0) = true := by rw [bne_iff_ne]; exact h0
      by_cases h1 : n = 1
      · subst h1
        have E : Hid (mayV ⟨2, 1, s⟩ = (s.toList == [])) := by show _ = _; simp [mayV, eS]
        clear h0
        go_enter Tryz.func60, Tryz.ntmps60
        go_wp2
        go_ret
        rw [E.out]
        exact ⟨by first | rfl | (simp; done), hb.out _⟩
      · have hq1 : (n != 1) = true := by rw [bne_iff_ne]; exact h1
        have E : Hid (mayV ⟨2, n, s⟩ = false) := by show _ = _; simp [mayV, h0, h1]
        clear h0 h1
        go_enter Tryz.func60, Tryz.ntmps60
        go_wp2
        go_ret
        rw [E.out]
        exact ⟨by first | rfl | (simp; done), hb.out _⟩
  have q2 : (k == 2) = false := beq_eq_false_iff_ne.2 h2
  by_cases h1 : k = 1
  · subst h1
    have E : Hid (mayV ⟨1, n, s⟩ = (s.toList == [])) := by show _ = _; simp [mayV, eS]
    clear h2
    go_enter Tryz.func60, Tryz.ntmps60
    go_wp2
    go_ret
    rw [E.out]
    exact ⟨by first | rfl | (simp; done), hb.out _⟩
  have q1 : (k == 1) = false := beq_eq_false_iff_ne.2 h1
  by_cases h3 : k = 3
  · subst h3
    have E : Hid (mayV ⟨3, n, s⟩ = (n == 0 && decide (s.size ≤ 1024))) := by show _ = _; simp [mayV]
    clear h1 h2
    by_cases h0 : n = 0
    · subst h0
      go_enter Tryz.func60, Tryz.ntmps60
      go_wp2
      all_goals
        go_ret
        rw [E.out]
        refine ⟨?_, hb.out _⟩
        simp [*]
        try omega
    · have hq0 : (n == 0) = false := beq_eq_false_iff_ne.2 h0
      go_enter Tryz.func60, Tryz.ntmps60
      go_wp2
      go_ret
      rw [E.out, hq0]
      exact ⟨by first | rfl | (simp; done), hb.out _⟩
  have q3 : (k == 3) = false := beq_eq_false_iff_ne.2 h3
  have E : Hid (mayV ⟨k, n, s⟩ = false) := by show _ = _; simp [mayV, h1, h2, h3]
  clear h1 h2 h3
  go_enter Tryz.func60, Tryz.ntmps60
  go_wp2
  go_ret
  rw [E.out]
  exact ⟨by first | rfl | (simp; done), hb.out _⟩
end Go.Proofs.YtjkbfoeakeoeiaaGreat
namespace Go.Proofs.YtjkbfoeakeoeiaaGreat
set_option maxRecDepth 100000
set_option maxHeartbeats 40000000
set_option linter.unusedSimpArgs false
set_option linter.unusedVariables false
open Go.RowKit
def kS (k : Int) : ByteArray := ⟨#[(k % 256).toNat.toUInt8]⟩
def valS (v : ValV) : ByteArray := if mayV v then (if v.k = 3 then kS 3 ++ txS v.s else kS v.k ++ inS v.n) else ⟨#[]⟩
structure VOk (v : ValV) : Prop where
  n0 : -9223372036854775808 ≤ v.n
  n1 : v.n ≤ 9223372036854775807
  s : v.s.size ≤ 2097152
theorem kS_size (k : Int) : (kS k).size = 1 := rfl
theorem txS_size {s : ByteArray} (hs : s.size ≤ 2097152) : (txS s).size ≤ s.size + 10 := by
  unfold txS
  rw [ByteArray.size_append]
  have := uvS_size s.size
  have := Lib.uvarint_length64 (show s.size < 18446744073709551616 by omega)
  omega
theorem inS_size {n : Int} (h0 : -9223372036854775808 ≤ n) (h1 : n ≤ 9223372036854775807) : (inS n).size ≤ 10 := by
  have h1 := uvS_size (zig n)
  have h2 := Lib.uvarint_length64 (zig_lt n h0 (by assumption))
  show (uvS (zig n)).size ≤ 10
  omega
theorem one_at (W : World) (g n : Nat) (z : Int) (c : ByteArray) (hn : n < 256) (hz : z = n) (hc : c = ⟨#[n.toUInt8]⟩) (hg : W.cell? ⟨g, 0, none⟩ = some (.int .u8 z)) :
    (convert 133 9 (.slice (some ⟨g, 0, none⟩) 1 1)).run Tryz.prog W = .ok (.string c) W := by
  have h : n.toUInt8.toNat = n := by simp [Nat.toUInt8, UInt8.toNat_ofNat']; omega
  subst hz hc
  refine run_convert_bytes_back _ _ _ 5 ⟨g, 0, none⟩ 1 [n.toUInt8] Tryz.underlying133 Tryz.underlying5 Tryz.underlying9 ?_
  intro j hj
  have : j = 0 := by simp at hj; exact hj
  subst this
  simpa [h, Addr.add] using hg
theorem vbytes_any (v : ValV) (hv : VOk v) (w : World) : Calls Tryz.prog 64 #[v.enc] w fun e w' => e = .returned (.string (valS v)) ∧ Below w.heap.size w w' := by
  obtain ⟨k, n, s⟩ := v
  obtain ⟨hn0, hn1, hs⟩ := hv
  dsimp only at hn0 hn1 hs
  obtain ⟨c, hc⟩ : ∃ c : ByteArray, c = kS k := ⟨_, rfl⟩
  have hcs : c.size = 1 := by rw [hc]; rfl
  have Hc := hid hc
  clear hc
  have htx := txS_size hs
  have hin := inS_size hn0 hn1
  show Calls Tryz.prog 64 #[.agg #[.int .i64 k, .int .i64 n, .string s]] w _
  go_enter Tryz.func64, Tryz.ntmps64
  go_wp2_with fail
  let W := (w.alloc (.cells #[.int .i64 k, .int .i64 n, .string s] 78)).alloc (.cells #[.int .u8 (k % 256)] 5)
  have hW : Hid (Below w.heap.size w W) := ((Below.refl _ w).alloc (Nat.le_refl _) _).alloc (by simp) _
  have hb0 : W.heap[w.heap.size]? = some (.cells #[.int .i64 k, .int .i64 n, .string s] 78) := (alloc_old _ (by simp)).trans (alloc_new _ _)
  have k0 := cell_of hb0 0
  have k1 := cell_of hb0 1
  have k2 := cell_of hb0 2
  have hg : W.cell? ⟨w.heap.size + 1, 0, none⟩ = some (.int .u8 (k % 256)) := by
    have h := alloc_new (w.alloc (.cells #[.int .i64 k, .int .i64 n, .string s] 78)) (.cells #[.int .u8 (k % 256)] 5)
    rw [show (w.alloc (.cells #[.int .i64 k, .int .i64 n, .string s] 78)).heap.size = w.heap.size + 1 by simp] at h
    exact cell_of h 0
  rw [one_at W (w.heap.size + 1) (k % 256).toNat (k % 256) c (by omega) (by omega) Hc.out hg]
  have hlt : w.heap.size < W.heap.size := by simp [W]; omega
  clear hg hb0
  clear_value W
  simp only [Result.andThen]
  rw [Oper.upon_value]
  go_wp2_with fail
  refine (may_any ⟨k, n, s⟩ W).mono ?_
  rintro e w1 ⟨rfl, b1⟩
  have j0 := (b1.cell (p := ⟨w.heap.size, 0, none⟩) hlt).trans k0
  have j1 := (b1.cell (p := ⟨w.heap.size, 1, none⟩) hlt).trans k1
  have j2 := (b1.cell (p := ⟨w.heap.size, 2, none⟩) hlt).trans k2
  have B1 := hid (hW.out.trans (b1.mono hW.out.size))
  have hz1 := b1.size
  clear b1 k0 k1 k2
  cases hm : mayV ⟨k, n, s⟩ with
  | false =>
    have E : Hid (valS ⟨k, n, s⟩ = ⟨#[]⟩) := by show _ = _; unfold valS; rw [hm]; rfl
    clear hm
    go_wp2
    go_ret
    rw [E.out]
    exact ⟨rfl, B1.out⟩
  | true =>
    by_cases h3 : k = 3
    · have E : Hid (valS ⟨k, n, s⟩ = c ++ txS s) := by show _ = _; unfold valS; rw [hm, if_pos rfl, if_pos h3, Hc.out, h3]
      have q3 : (k == 3) = true := beq_iff_eq.2 h3
      clear hm h3
      go_wp2_with fail
      refine (wtext_any s (by omega) w1).mono ?_
      rintro e w2 ⟨rfl, b2⟩
      go_wp2
      go_ret
      rw [E.out]
      exact ⟨rfl, B1.out.trans (b2.mono B1.out.size)⟩
    · have E : Hid (valS ⟨k, n, s⟩ = c ++ inS n) := by show _ = _; unfold valS; rw [hm, if_pos rfl, if_neg h3, Hc.out]
      have q3 : (k == 3) = false := beq_eq_false_iff_ne.2 h3
      clear hm h3
      go_wp2_with fail
      refine (wint_in n hn0 hn1 w1).mono ?_
      rintro e w2 ⟨rfl, b2⟩
      go_wp2
      go_ret
      rw [E.out]
      exact ⟨rfl, B1.out.trans (b2.mono B1.out.size)⟩
end Go.Proofs.YtjkbfoeakeoeiaaGreat
