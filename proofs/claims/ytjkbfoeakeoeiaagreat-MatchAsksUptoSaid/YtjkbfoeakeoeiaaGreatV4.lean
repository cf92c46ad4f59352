/- Keep: contracts (Ps). -/
import Derived.Test.YtjkbfoeakeoeiaaGreatV3
namespace Go.Proofs.YtjkbfoeakeoeiaaGreat.Ps
set_option maxRecDepth 100000
set_option maxHeartbeats 40000000
set_option linter.unusedSimpArgs false
set_option linter.unusedVariables false
open Go.RowKit
structure Rel where
  G : World → World → Prop
  N : World → World → Prop
  of : ∀ w w', N w w' → G w w'
  trans : ∀ a b c, G a b → G b c → G a c
  refl : ∀ w, N w w
  draw : ∀ w : World, N w { w with drawn := w.drawn + 1 }
def relC (F : Nat → Prop) (S : Nat → Nat → Prop) : Rel where
  G w w' := But F w w' ∧ ∀ b i v, S b i → w.cell? ⟨b, i, none⟩ = some v → w'.cell? ⟨b, i, none⟩ = some v
  N w w' := Below w.heap.size w w'
  of w w' h := ⟨But.of h, fun b i v _ hc => (h.cell (p := ⟨b, i, none⟩) (World.block_lt_of_cell? w _ hc)).trans hc⟩
  trans a b c h k := ⟨h.1.trans k.1, fun p i v hs hc => k.2 p i v hs (h.2 p i v hs hc)⟩
  refl w := Below.refl _ w
  draw w := ⟨rfl, rfl, rfl, Nat.le_refl _, fun _ _ => rfl⟩
inductive Sp where
  | sf (v : Value) (R : World → Prop)
  | fix (v : Value)
  | new (F : Value → World → Prop)
  | st (sh : Option Nat) (F : Value → World → Prop) (R : Value → World → Prop)
def shOk : Option Nat → Value → Prop
  | none, _ => True
  | some n, u => ∃ a c, u = .slice a n c
def Sp.ok : Sp → Value → Prop
  | .st sh _ _, u => shOk sh u
  | .fix v, u => u = v
  | .sf v _, u => u = v
  | _, _ => True
def Sp.fact : Sp → Value → World → Prop
  | .fix _, _, _ => True
  | .sf _ _, _, _ => True
  | .new F, u, w => F u w
  | .st _ F _, u, w => F u w
def Sp.chain : Sp → Bool
  | .st .. => true
  | .sf .. => true
  | _ => false
def Sp.nextR (s : Sp) (u : Value) (R : World → Prop) : World → Prop :=
  match s with
  | .st _ _ R' => R' u
  | .sf _ R' => R'
  | _ => R
def Sp.goes (O : Rel) : Sp → Value → World → World → Prop
  | .st _ _ R', u, w, w' => O.G w w' ∧ R' u w'
  | .sf _ R', _, w, w' => O.G w w' ∧ R' w'
  | _, _, w, w' => O.N w w'
def Sp.stable (O : Rel) (s : Sp) : Prop :=
  (∀ u w w', s.fact u w → O.G w w' → s.fact u w') ∧ (∀ R, (∀ w w', R w → O.N w w' → R w') → ∀ u w w', s.nextR u R w → O.N w w' → s.nextR u R w')
theorem Sp.ok_some (s : Sp) : ∃ u, s.ok u := by
  cases s with
  | fix v => exact ⟨v, rfl⟩
  | new F => exact ⟨undef, trivial⟩
  | st sh F R => cases sh with
    | none => exact ⟨undef, trivial⟩
    | some n => exact ⟨.slice none n 0, none, 0, rfl⟩
  | sf v R => exact ⟨v, rfl⟩
section
variable {P : Program} {ops : Array Oper} {Q : Exit → Act → World → Prop} {O : Rel} {W0 : World} {tl : List Oper}
def edge (ops : Array Oper) (j i : Nat) : Bool := ((ops[j]?).map fun o => o.after.any fun e => Region.binds .any e && e.on == i).getD false
def dstOf (ops : Array Oper) (i : Nat) : Option Tmp := (ops[i]?).bind (·.dst)
def ahead (ops : Array Oper) : Nat → List Nat → List Nat
  | 0, S => S
  | d + 1, S => if S.any (fun k => edge ops k d) then ahead ops d (d :: S) else ahead ops d S
def parCheck (ops : Array Oper) (ch : List Bool) : Bool :=
  decide (ch.length ≤ ops.size) && Region.noSelect ops &&
  ((List.range ops.size).all fun j => (ops[j]?).any fun oj => oj.after.all fun e => !Region.binds .any e || decide (e.on < j)) &&
  ((List.range ch.length).all fun j => (ops[j]?).any fun oj =>
    (List.range j).all fun i => (ops[i]?).any fun oi => (ahead ops j [j]).contains i || (oi.apart ops oj && !(ch.getD i false && ch.getD j false))) &&
  (List.range (ops.size - ch.length)).all fun k => (List.range (ch.length + k)).all fun j => (ahead ops (ch.length + k) [ch.length + k]).contains j
def StepOf (P : Program) (ops : Array Oper) (Q : Exit → Act → World → Prop) (O : Rel) (W0 : World) (i : Nat) (s : Sp) (Φ : List (Nat × (World → Prop))) (R : World → Prop) (a : Act) : Prop :=
  ∀ w, O.G W0 w → (∀ p ∈ Φ, edge ops i p.1 = true → p.2 w) → (s.chain = true → R w) →
    wpOp P ops Q i (fun a' w' => ∃ u, a' = a.put (dstOf ops i) u ∧ s.ok u ∧ s.fact u w' ∧ s.goes O u w w') a w
def ParOk (P : Program) (ops : Array Oper) (Q : Exit → Act → World → Prop) (O : Rel) (W0 : World) (tl : List Oper) : List (Nat × Sp) → List (Nat × (World → Prop)) → (World → Prop) → Act → Prop
  | [], Φ, R, a => ∀ w, O.G W0 w → (∀ p ∈ Φ, p.2 w) → R w → wpList P ops Q tl a w
  | (i, s) :: L, Φ, R, a => s.stable O ∧ StepOf P ops Q O W0 i s Φ R a ∧ ∀ u, s.ok u → ParOk P ops Q O W0 tl L ((i, s.fact u) :: Φ) (s.nextR u R) (a.put (dstOf ops i) u)
theorem put_same {a : Act} {x y : Option Tmp} {v u u' : Value} (h : ∀ d, x = some d → y ≠ some d) (he : (a.put x v).put y u = (a.put x v).put y u') : a.put y u = a.put y u' := by
  cases y with
  | none => rfl
  | some e =>
    cases x with
    | none => exact he
    | some d =>
      have hne : d ≠ e := fun e' => h d rfl (by rw [e'])
      simp only [Act.put, Act.mk.injEq, and_true] at he ⊢
      by_cases hs : e < a.tmps.size
      · have h1 := congrArg (fun t : Array Value => t[e]?) he
        simp [hs] at h1
        rw [h1]
      · have hle : a.tmps.size ≤ e := Nat.le_of_not_lt hs
        rw [Array.setIfInBounds_eq_of_size_le hle, Array.setIfInBounds_eq_of_size_le hle]
theorem put_other {a : Act} {x y : Option Tmp} {v u u' : Value} (h : ∀ d, x = some d → y ≠ some d) (he : a.put y u = a.put y u') : (a.put x v).put y u = (a.put x v).put y u' := by
  rw [Act.put_comm a v u h, Act.put_comm a v u' h, he]
theorem apart_sym {x y : Oper} (h : x.apart ops y = true) : y.apart ops x = true := by
  obtain ⟨h1, h2, h3⟩ := Oper.apart_spec h
  unfold Oper.apart
  rw [Bool.and_eq_true]
  constructor
  · cases hd : y.dst with
    | none => rfl
    | some d =>
      simp only [Bool.and_eq_true, Bool.not_eq_true', bne_iff_ne]
      refine ⟨?_, fun hx => h2 d hx hd⟩
      have := h3 d hd
      simpa using this
  · cases hd : x.dst with
    | none => rfl
    | some d =>
      have := h1 d hd
      simpa using this
theorem wpOp_at {j : Nat} {oi oj : Oper} {v : Value} (hj : ops[j]? = some oj) (hap : oi.apart ops oj = true)
    (hsj : ∀ cs b, oj.op ≠ .select cs b) (hQ : ∀ c d v a w, Q (.panic c) (a.put d v) w ↔ Q (.panic c) a w) {N : Value → World → Prop} {a : Act} {w : World} :
    wpOp P ops Q j (fun a' w' => ∃ u, a' = (a.put oi.dst v).put oj.dst u ∧ N u w') (a.put oi.dst v) w ↔ wpOp P ops Q j (fun a' w' => ∃ u, a' = a.put oj.dst u ∧ N u w') a w := by
  obtain ⟨h1, h2, h3⟩ := Oper.apart_spec hap
  have k : ∀ (u : Value) (w' : World), (∃ u', (a.put oi.dst v).put oj.dst u = (a.put oi.dst v).put oj.dst u' ∧ N u' w') ↔ (∃ u', a.put oj.dst u = a.put oj.dst u' ∧ N u' w') := fun u w' =>
    ⟨fun ⟨u', he, hn⟩ => ⟨u', put_same h2 he, hn⟩, fun ⟨u', he, hn⟩ => ⟨u', put_other h2 he, hn⟩⟩
  have kd : ∀ (d : Deferred) (x : Option Tmp) (u' u : Value) (a : Act), ({ a with defers := d :: a.defers } : Act).put x u' ≠ a.put x u := by
    intro d x u' u a he
    have := congrArg (fun t : Act => t.defers.length) he
    cases x <;> simp [Act.put] at this
  have hw := wanted_put oj a oi.dst v h1
  have he := execOp_put (ops := ops) oj hsj a oi.dst v h1
  unfold wpOp Oper.wp Oper.asks
  simp only [hj, hw, he]
  by_cases hwa : Region.wanted oj (yielded ops a.tmps) = true
  case neg =>
    simp only [hwa, Bool.false_eq_true, if_false]
    exact k undef w
  simp only [hwa, if_true]
  refine or_congr ?_ Iff.rfl
  generalize (execOp a.eval oj).run P w = r
  cases r with
  | ok n w' =>
    cases n <;> simp only [Oper.upon]
    case value u => exact k u w'
    case skip => exact k undef w'
    case defer d =>
      refine ⟨fun ⟨u, hu, _⟩ => absurd hu (kd d _ _ _ _), fun ⟨u, hu, _⟩ => absurd hu (kd d _ _ _ _)⟩
    case enter f args =>
      constructor <;> refine fun h => Calls.mono h fun e w'' he => ?_
      all_goals
        cases e with
        | returned u => first | exact (k u w'').1 he | exact (k u w'').2 he
        | panicked c => first | exact (hQ _ _ _ _ _).1 he | exact (hQ _ _ _ _ _).2 he
        | outgrown => exact he
    case row row args =>
      constructor <;> refine fun h => Rows.mono h fun u w'' he => ?_
      · exact (k u w'').1 he
      · exact (k u w'').2 he
  | halt x w' =>
    cases x <;> simp only [Oper.upon]
    case panic u => exact hQ _ _ _ _ _
theorem ParOk.more {L : List (Nat × Sp)} : ∀ {Φ Φ' : List (Nat × (World → Prop))} {R : World → Prop} {a : Act}, (∀ p ∈ Φ, p ∈ Φ') → ParOk P ops Q O W0 tl L Φ R a → ParOk P ops Q O W0 tl L Φ' R a := by
  induction L with
  | nil => intro Φ Φ' R a h hp w hb hf hr; exact hp w hb (fun p hm => hf p (h p hm)) hr
  | cons x L ih =>
    obtain ⟨i, s⟩ := x
    intro Φ Φ' R a h hp
    refine ⟨hp.1, fun w hb hf hr => hp.2.1 w hb (fun p hm => hf p (h p hm)) hr, fun u hu => ih ?_ (hp.2.2 u hu)⟩
    intro p hm
    rcases List.mem_cons.1 hm with rfl | hm
    · exact List.mem_cons_self
    · exact List.mem_cons_of_mem _ (h p hm)
theorem dst_of {i : Nat} {o : Oper} (h : ops[i]? = some o) : dstOf ops i = o.dst := by simp [dstOf, h]
theorem pull (hQ : ∀ c d v a w, Q (.panic c) (a.put d v) w ↔ Q (.panic c) a w) (hsel : Region.noSelect ops = true) {j : Nat} {oj : Oper} {s : Sp} {post : List (Nat × Sp)} (hj : ops[j]? = some oj) :
    ∀ (pre : List (Nat × Sp)) (Φ : List (Nat × (World → Prop))) (R : World → Prop) (a : Act),
    (∀ x ∈ pre, ∃ oi, ops[x.1]? = some oi ∧ oi.apart ops oj = true ∧ edge ops j x.1 = false ∧ (x.2.chain && s.chain) = false) →
    ParOk P ops Q O W0 tl (pre ++ (j, s) :: post) Φ R a →
    s.stable O ∧ StepOf P ops Q O W0 j s Φ R a ∧ ∀ u, s.ok u → ParOk P ops Q O W0 tl (pre ++ post) ((j, s.fact u) :: Φ) (s.nextR u R) (a.put oj.dst u) := by
  intro pre
  induction pre with
  | nil =>
    intro Φ R a _ h
    obtain ⟨h1, h2, h3⟩ := h
    rw [dst_of hj] at h3
    exact ⟨h1, h2, h3⟩
  | cons x pre ih =>
    obtain ⟨i, s'⟩ := x
    intro Φ R a hpre h
    obtain ⟨oi, hi, hap, hed, hch⟩ := hpre (i, s') List.mem_cons_self
    dsimp only at hi hed hch
    obtain ⟨h1, h2, h3⟩ := h
    have hdi := dst_of hi
    have hdj := dst_of hj
    have hIH := fun u hu => ih _ _ _ (fun x hx => hpre x (List.mem_cons_of_mem _ hx)) (h3 u hu)
    obtain ⟨u0, hu0⟩ := s'.ok_some
    obtain ⟨hst, hstep, _⟩ := hIH u0 hu0
    have hR : ∀ u', s.chain = true → s'.nextR u' R = R := by
      intro u' hc
      rw [hc, Bool.and_true] at hch
      cases s' <;> first | rfl | cases hch
    have hR' : ∀ u, s'.chain = true → s.nextR u R = R := by
      intro u hc
      rw [hc, Bool.true_and] at hch
      cases s <;> first | rfl | cases hch
    have hRR : ∀ u u', s.nextR u (s'.nextR u' R) = s'.nextR u' (s.nextR u R) := by
      intro u u'
      cases s <;> cases s' <;> first | rfl | cases hch
    refine ⟨hst, ?_, ?_⟩
    · intro w hb hf hr
      have := hstep w hb ?_ (fun hc => by rw [hR _ hc]; exact hr hc)
      · rw [hdi, hdj] at this
        rw [hdj]
        exact (wpOp_at (N := fun u w' => s.ok u ∧ s.fact u w' ∧ s.goes O u w w') hj hap (fun cs b => Region.noSelect_spec hsel j oj cs b hj) hQ).1 this
      · intro p hm he
        rcases List.mem_cons.1 hm with rfl | hm
        · rw [hed] at he; cases he
        · exact hf p hm he
    · intro u hu
      refine ⟨h1, ?_, ?_⟩
      · intro w hb hf hr
        have := h2 w hb (fun p hm he => hf p (List.mem_cons_of_mem _ hm) he) (fun hc => by have := hr hc; rwa [hR' _ hc] at this)
        rw [hdi] at this ⊢
        exact (wpOp_at (N := fun u w' => s'.ok u ∧ s'.fact u w' ∧ s'.goes O u w w') hi (apart_sym hap) (fun cs b => Region.noSelect_spec hsel i oi cs b hi) hQ).2 this
      · intro u' hu'
        have := (hIH u' hu').2.2 u hu
        rw [hdi] at this ⊢
        rw [hRR u u'] at this
        have hc : (a.put oi.dst u').put oj.dst u = (a.put oj.dst u).put oi.dst u' := Act.put_comm a u' u (Oper.apart_spec hap).2.1
        rw [hc] at this
        refine ParOk.more ?_ this
        intro p hm
        simp only [List.mem_cons] at hm ⊢
        rcases hm with h | h | h
        · exact .inr (.inl h)
        · exact .inl h
        · exact .inr (.inr h)
def Closed (ops : Array Oper) (listed : Array Bool) : Prop := ∀ k, listed.getD k false = true → ∀ i, edge ops k i = true → listed.getD i false = true
theorem ahead_listed {listed : Array Bool} {t : Nat} (hc : Closed ops listed) (ht : ∀ i, edge ops t i = true → listed.getD i false = true) :
    ∀ (d : Nat) (S : List Nat), (∀ x ∈ S, x = t ∨ listed.getD x false = true) → ∀ x ∈ ahead ops d S, x = t ∨ listed.getD x false = true := by
  intro d
  induction d with
  | zero => exact fun S h => h
  | succ d ih =>
    intro S h
    unfold ahead
    split
    · rename_i ha
      refine ih _ fun x hx => ?_
      rcases List.mem_cons.1 hx with rfl | hx
      · obtain ⟨k, hk, he⟩ := List.any_eq_true.1 ha
        rcases h k hk with rfl | hl
        · exact .inr (ht _ he)
        · exact .inr (hc k hl _ he)
      · exact h x hx
    · exact ih _ h
theorem ready_spec {j : Nat} {listed : Array Bool} (hm : j ∈ Region.ready .any ops listed) : listed.getD j true = false ∧ j < ops.size ∧ ∃ oj, ops[j]? = some oj ∧ ∀ i, edge ops j i = true → listed.getD i false = true := by
  obtain ⟨h1, oj, hj, h2⟩ := mem_ready.1 hm
  refine ⟨h1, (Array.getElem?_eq_some_iff.1 hj).1, oj, hj, fun i he => ?_⟩
  unfold edge at he
  simp only [hj, Option.map_some, Option.getD_some] at he
  obtain ⟨e, hem, hb⟩ := Array.any_eq_true'.1 he
  simp only [Bool.and_eq_true, beq_iff_eq] at hb
  have := h2 e hem hb.1
  rwa [hb.2] at this
theorem Closed.next {listed : Array Bool} {j : Nat} (h : Closed ops listed) (hm : j ∈ Region.ready .any ops listed) : Closed ops (listed.setIfInBounds j true) := by
  intro k hk i he
  by_cases hjk : j = k
  · subst hjk
    obtain ⟨_, _, oj, hj, hed⟩ := ready_spec hm
    exact getD_set_true (hed i he)
  · rw [getD_set_ne false hjk] at hk
    exact getD_set_true (h k hk i he)
theorem listed_of {listed : Array Bool} {i : Nat} (hs : i < listed.size) (h : listed.getD i true ≠ false) : listed.getD i false = true := by
  simp [hs] at h ⊢
  exact h
theorem listed_not {listed : Array Bool} {i : Nat} (hs : i < listed.size) (h : listed.getD i true = false) : listed.getD i false ≠ true := by
  simp [hs] at h ⊢
  exact h
theorem tail_any (hedges : ∀ j oj, ops[j]? = some oj → ∀ e ∈ oj.after, Region.binds .any e = true → e.on < j) {m0 : Nat} (hah : ∀ t, m0 ≤ t → t < ops.size → ∀ j, j < t → j ∈ ahead ops t [t]) :
    ∀ (n m : Nat) (listed : Array Bool) (a : Act) (w : World), m0 ≤ m → m + n = ops.size → listed.size = ops.size → Closed ops listed → (∀ i, i < ops.size → (listed.getD i true = false ↔ m ≤ i)) →
    wpOps P ops Q (List.range' m n) a w → wpAny P .any ops Q n listed a w := by
  intro n
  induction n with
  | zero =>
    intro m listed a w hm0 hmn hs hc hl h
    refine ⟨?_, h⟩
    rw [List.eq_nil_iff_forall_not_mem]
    intro j hj
    obtain ⟨h1, h2, _⟩ := ready_spec hj
    have := (hl j h2).1 h1
    omega
  | succ n ih =>
    intro m listed a w hm0 hmn hs hc hl h
    constructor
    · intro hnone
      exfalso
      have : m ∈ Region.ready .any ops listed := by
        rw [mem_ready]
        have hml : m < ops.size := by omega
        refine ⟨(hl m hml).2 (Nat.le_refl _), ops[m], by simp [hml], fun e he hb => ?_⟩
        have hlt := hedges m _ (by simp [hml]) e he hb
        exact listed_of (by omega) (fun hf => by have := (hl e.on (by omega)).1 hf; omega)
      rw [hnone] at this
      cases this
    · intro j hj
      obtain ⟨h1, h2, oj, hoj, hed⟩ := ready_spec hj
      have hjm := (hl j h2).1 h1
      have : j = m := by
        rcases Nat.lt_or_ge m j with hlt | hge
        · exfalso
          have hx := ahead_listed hc hed j [j] (by simp) m (hah j (by omega) h2 m hlt)
          rcases hx with hx | hx
          · omega
          · exact listed_not (by omega) ((hl m (by omega)).2 (Nat.le_refl _)) hx
        · omega
      subst this
      rw [List.range'_succ, wpOps_cons] at h
      refine wpOp_mono (fun a' w' h' => ?_) h
      refine ih (j + 1) _ a' w' (by omega) (by omega) (by simpa using hs) (hc.next hj) ?_ h'
      intro i hi
      by_cases hij : j = i
      · subst hij
        have : j < listed.size := by omega
        simp [this]
      · rw [getD_set_ne true hij, hl i hi]
        omega
theorem par_any (hQ : ∀ c d v a w, Q (.panic c) (a.put d v) w ↔ Q (.panic c) a w) {ch : List Bool} (hck : parCheck ops ch = true) (htl : ops.toList.drop ch.length = tl) :
    ∀ (n : Nat) (L : List (Nat × Sp)) (listed : Array Bool) (Φ : List (Nat × (World → Prop))) (R : World → Prop) (a : Act) (w : World),
    L.length + (ops.size - ch.length) = n → listed.size = ops.size → (∀ i, i ∈ L.map Prod.fst ↔ (i < ch.length ∧ listed.getD i true = false)) → (∀ i, ch.length ≤ i → i < ops.size → listed.getD i true = false) → Closed ops listed → L.Pairwise (fun x y => x.1 < y.1) →
    (∀ x ∈ L, ch.getD x.1 false = x.2.chain) → (∀ p ∈ Φ, ∀ w w', p.2 w → O.G w w' → p.2 w') → (∀ w w', R w → O.N w w' → R w') →
    O.G W0 w → (∀ p ∈ Φ, p.2 w) → R w → ParOk P ops Q O W0 tl L Φ R a → wpAny P .any ops Q n listed a w := by
  unfold parCheck at hck
  simp only [Bool.and_eq_true, List.all_eq_true, List.mem_range, decide_eq_true_eq] at hck
  obtain ⟨⟨⟨⟨hlen, hsel⟩, hck1⟩, hck2⟩, hck3⟩ := hck
  have hedges : ∀ j oj, ops[j]? = some oj → ∀ e ∈ oj.after, Region.binds .any e = true → e.on < j := by
    intro j oj hj e he hb
    have := hck1 j (Array.getElem?_eq_some_iff.1 hj).1
    simp only [hj, Option.any_some] at this
    have := Array.all_eq_true_iff_forall_mem.1 this e he
    simpa [hb] using this
  have hah : ∀ t, ch.length ≤ t → t < ops.size → ∀ j, j < t → j ∈ ahead ops t [t] := by
    intro t h1 h2 j hj
    have := hck3 (t - ch.length) (by omega) j (by omega)
    rw [show ch.length + (t - ch.length) = t by omega] at this
    simpa using this
  have hpair : ∀ j oj i oi, j < ch.length → ops[j]? = some oj → ops[i]? = some oi → i < j → (ahead ops j [j]).contains i = false → oi.apart ops oj = true ∧ (ch.getD i false && ch.getD j false) = false := by
    intro j oj i oi hjl hj hi hlt he
    have := hck2 j hjl
    simp only [hj, Option.any_some, List.all_eq_true, List.mem_range] at this
    have := this i hlt
    simp only [hi, Option.any_some, he, Bool.false_or, Bool.and_eq_true, Bool.not_eq_true'] at this
    exact this
  intro n
  induction n with
  | zero =>
    intro L listed Φ R a w hn hs hL hT hcl hso hch hΦ hRs hb hf hr hp
    have : L = [] := List.eq_nil_of_length_eq_zero (by omega)
    subst this
    have hp := hp w hb hf hr
    rw [← htl] at hp
    refine tail_any hedges hah 0 ch.length listed a w (Nat.le_refl _) (by simp at hn; omega) hs hcl ?_ ?_
    · intro i hi
      have := hL i
      simp at hn
      simp only [List.map_nil, List.not_mem_nil, false_iff, not_and] at this
      constructor
      · intro h
        rcases Nat.lt_or_ge i ch.length with h' | h'
        · exact absurd h (this h')
        · exact h'
      · intro h
        omega
    · have : ops.toList.drop ch.length = [] := List.drop_of_length_le (by simp at hn; simp; omega)
      rw [this] at hp
      exact hp
  | succ n ih =>
    intro L listed Φ R a w hn hs hL hT hcl hso hch hΦ hRs hb hf hr hp
    cases hLn : L with
    | nil =>
      subst hLn
      have hp := hp w hb hf hr
      rw [← htl] at hp
      simp only [List.length_nil, Nat.zero_add] at hn
      refine tail_any hedges hah (n + 1) ch.length listed a w (Nat.le_refl _) (by omega) hs hcl ?_ ?_
      · intro i hi
        have := hL i
        simp only [List.map_nil, List.not_mem_nil, false_iff, not_and] at this
        constructor
        · intro h
          rcases Nat.lt_or_ge i ch.length with h' | h'
          · exact absurd h (this h')
          · exact h'
        · exact fun h => hT i h hi
      · have hq := wpOps_eq_wpList (P := P) (ops := ops) (Q := Q) (ops.toList.drop ch.length) ch.length (fun j => by simp [List.getElem?_drop])
        rw [show (ops.toList.drop ch.length).length = n + 1 by simp; omega] at hq
        rw [hq]
        exact hp
    | cons x0 L0 =>
    have hx0 := (hL x0.1).1 (by rw [hLn]; simp)
    constructor
    · intro hnone
      exfalso
      have : x0.1 ∈ Region.ready .any ops listed := by
        rw [mem_ready]
        have hlt0 : x0.1 < ops.size := by omega
        refine ⟨hx0.2, ops[x0.1], by simp [hlt0], fun e he hbn => ?_⟩
        have hlt := hedges x0.1 _ (by simp [hlt0]) e he hbn
        refine listed_of (by omega) (fun hv => ?_)
        have := (hL e.on).2 ⟨by omega, hv⟩
        rw [hLn] at this
        simp only [List.map_cons, List.mem_cons] at this
        rcases this with h | h
        · omega
        · obtain ⟨y, hy, hye⟩ := List.mem_map.1 h
          rw [hLn] at hso
          have := (List.pairwise_cons.1 hso).1 y hy
          omega
      rw [hnone] at this
      cases this
    · intro j hm
      obtain ⟨h1, hjlt, oj, hj, hed⟩ := ready_spec hm
      have hjc : j < ch.length := by
        rcases Nat.lt_or_ge j ch.length with h' | h'
        · exact h'
        · exfalso
          have hx := ahead_listed hcl hed j [j] (by simp) x0.1 (hah j h' hjlt x0.1 (by omega))
          rcases hx with hx | hx
          · omega
          · exact listed_not (by omega) hx0.2 hx
      obtain ⟨⟨j', s⟩, hjm, hje⟩ := List.mem_map.1 ((hL j).2 ⟨hjc, h1⟩)
      dsimp only at hje
      subst hje
      obtain ⟨pre, post, hLp⟩ := List.append_of_mem hjm
      clear hLn
      subst hLp
      have hso' := List.pairwise_append.1 hso
      have hpre : ∀ x ∈ pre, ∃ oi, ops[x.1]? = some oi ∧ oi.apart ops oj = true ∧ edge ops j' x.1 = false ∧ (x.2.chain && s.chain) = false := by
        intro x hx
        have hlt : x.1 < j' := hso'.2.2 x hx (j', s) List.mem_cons_self
        have hxl := (hL x.1).1 (by simp only [List.map_append, List.mem_append, List.mem_map]; exact .inl ⟨x, hx, rfl⟩)
        have he : edge ops j' x.1 = false := by
          cases hv : edge ops j' x.1 with
          | false => rfl
          | true => exact absurd (hed x.1 hv) (listed_not (by omega) hxl.2)
        have hxs : x.1 < ops.size := by omega
        have hi : ops[x.1]? = some ops[x.1] := by simp [hxs]
        have hna : (ahead ops j' [j']).contains x.1 = false := by
          cases hv : (ahead ops j' [j']).contains x.1 with
          | false => rfl
          | true =>
            exfalso
            rcases ahead_listed hcl hed j' [j'] (by simp) x.1 (List.contains_iff_mem.1 hv) with h | h
            · omega
            · exact listed_not (by omega) hxl.2 h
        obtain ⟨k1, k2⟩ := hpair j' oj x.1 _ hjc hj hi hlt hna
        refine ⟨_, hi, k1, he, ?_⟩
        rw [hch x (List.mem_append_left _ hx), hch (j', s) hjm] at k2
        exact k2
      obtain ⟨hst, hstep, hnext⟩ := pull hQ hsel hj pre Φ R a hpre hp
      refine wpOp_mono ?_ (hstep w hb (fun p hm _ => hf p hm) (fun _ => hr))
      rintro a' w' ⟨u, rfl, hok, hfact, hgo⟩
      rw [dst_of hj]
      have hbut : O.G w w' := by
        cases s with
        | fix v => exact O.of _ _ hgo
        | new F => exact O.of _ _ hgo
        | st sh F R' => exact hgo.1
        | sf v R' => exact hgo.1
      refine ih (pre ++ post) (listed.setIfInBounds j' true) ((j', s.fact u) :: Φ) (s.nextR u R) (a.put oj.dst u) w' ?_ (by simpa using hs) ?_ ?_ (hcl.next hm) ?_ ?_ ?_ ?_ (O.trans _ _ _ hb hbut) ?_ ?_ (hnext u hok)
      · simp only [List.length_append, List.length_cons] at hn ⊢; omega
      · intro i
        have := hL i
        simp only [List.map_append, List.map_cons, List.mem_append, List.mem_cons] at this ⊢
        by_cases hij : j' = i
        · subst hij
          have hlt : j' < listed.size := by omega
          constructor
          · intro h
            exfalso
            rcases h with h | h
            · obtain ⟨y, hy, hye⟩ := List.mem_map.1 h
              have := hso'.2.2 y hy (j', s) List.mem_cons_self
              omega
            · obtain ⟨y, hy, hye⟩ := List.mem_map.1 h
              have := (List.pairwise_cons.1 hso'.2.1).1 y hy
              omega
          · rintro ⟨-, h⟩
            simp [hlt] at h
        · rw [getD_set_ne true hij, ← this]
          constructor
          · rintro (h | h)
            · exact .inl h
            · exact .inr (.inr h)
          · rintro (h | h | h)
            · exact .inl h
            · exact absurd h.symm hij
            · exact .inr h
      · intro i h5 h6
        rw [getD_set_ne true (by omega)]
        exact hT i h5 h6
      · exact List.pairwise_append.2 ⟨hso'.1, (List.pairwise_cons.1 hso'.2.1).2, fun x hx y hy => hso'.2.2 x hx y (List.mem_cons_of_mem _ hy)⟩
      · intro x hx
        rcases List.mem_append.1 hx with h | h
        · exact hch x (List.mem_append_left _ h)
        · exact hch x (List.mem_append_right _ (List.mem_cons_of_mem _ h))
      · intro p hm
        rcases List.mem_cons.1 hm with rfl | hm
        · exact fun w w' => hst.1 u w w'
        · exact hΦ p hm
      · exact hst.2 R hRs u
      · intro p hm
        rcases List.mem_cons.1 hm with rfl | hm
        · exact hfact
        · exact hΦ p hm w w' (hf p hm) hbut
      · cases s with
        | fix v => exact hRs _ _ hr hgo
        | new F => exact hRs _ _ hr hgo
        | st sh F R' => exact hgo.2
        | sf v R' => exact hgo.2
def number : Nat → List Sp → List (Nat × Sp)
  | _, [] => []
  | i, s :: l => (i, s) :: number (i + 1) l
theorem number_length (l : List Sp) : ∀ i, (number i l).length = l.length := by
  induction l with
  | nil => intro i; rfl
  | cons s l ih => intro i; simp [number, ih]
theorem number_mem (l : List Sp) : ∀ i j, j ∈ (number i l).map Prod.fst ↔ (i ≤ j ∧ j < i + l.length) := by
  induction l with
  | nil =>
    intro i j
    simp only [number, List.map_nil, List.not_mem_nil, List.length_nil, Nat.add_zero, false_iff]
    omega
  | cons s l ih =>
    intro i j
    simp only [number, List.map_cons, List.mem_cons, ih, List.length_cons]
    omega
theorem number_sorted (l : List Sp) : ∀ i, (number i l).Pairwise (fun x y => x.1 < y.1) := by
  induction l with
  | nil => intro i; exact List.Pairwise.nil
  | cons s l ih =>
    intro i
    refine List.pairwise_cons.2 ⟨fun y hy => ?_, ih _⟩
    have := (number_mem l (i + 1) y.1).1 (List.mem_map.2 ⟨y, hy, rfl⟩)
    omega
theorem number_chain (l : List Sp) : ∀ i, ∀ x ∈ number i l, (l.map Sp.chain).getD (x.1 - i) false = x.2.chain := by
  induction l with
  | nil => intro i x hx; cases hx
  | cons s l ih =>
    intro i x hx
    rcases List.mem_cons.1 hx with rfl | hx
    · simp
    · have := (number_mem l (i + 1) x.1).1 (List.mem_map.2 ⟨x, hx, rfl⟩)
      have h2 := ih (i + 1) x hx
      rw [show x.1 - i = (x.1 - (i + 1)) + 1 by omega]
      simpa using h2
theorem wp_par {id : Nat} {a : Act} {w : World} (O : Rel) (R : World → Prop) (ch : List Bool) (tl : List Oper) (L : List Sp) (hm : P.follows .mixedOrders = true) (hck : parCheck ops ch = true) (htl : ops.toList.drop ch.length = tl) (hch : L.map Sp.chain = ch)
    (hQ' : ∀ c t v a w, Q (.panic c) (a.put (some t) v) w ↔ Q (.panic c) a w) (hRs : ∀ w w', R w → O.N w w' → R w') (hR : R w)
    (h : ParOk P ops Q O w tl (number 0 L) [] R a) : (Code.region id ops true).wp P Q a w := by
  subst hch
  have hQ : ∀ c d v a w, Q (.panic c) (a.put d v) w ↔ Q (.panic c) a w := fun c d v a w => by
    cases d with
    | none => exact Iff.rfl
    | some t => exact hQ' c t v a w
  refine wp_region_any hm ?_
  have hl : L.length ≤ ops.size := by
    have := hck
    unfold parCheck at this
    simp only [Bool.and_eq_true, decide_eq_true_eq, List.length_map] at this
    exact this.1.1.1.1
  have hd := O.draw w
  refine par_any hQ hck htl ops.size (number 0 L) _ [] R a _ ?_ (by simp) ?_ ?_ ?_ (number_sorted L 0) ?_ (by simp) hRs (O.of _ _ hd) (by simp) (hRs _ _ hR hd) h
  · rw [number_length, List.length_map]; omega
  · intro i
    rw [number_mem, List.length_map]
    constructor
    · rintro ⟨-, h⟩
      have h2 : i < ops.size := by omega
      exact ⟨by omega, by simp [h2]⟩
    · rintro ⟨h, -⟩
      omega
  · intro i _ h2
    simp [h2]
  · intro k hk
    by_cases hlt : k < ops.size <;> simp [hlt] at hk
  · intro x hx
    simpa using number_chain L 0 x hx
variable {i : Nat} {o : Oper} {L : List Sp} {Φ : List (Nat × (World → Prop))} {R : World → Prop} {a a' : Act}
def Need (ops : Array Oper) (i : Nat) (Φ : List (Nat × (World → Prop))) (w : World) : Prop := ∀ p ∈ Φ, edge ops i p.1 = true → p.2 w
theorem fix_stable (v : Value) : (Sp.fix v).stable O := ⟨fun _ _ _ _ _ => trivial, fun _ h _ => h⟩
theorem of_list (ho : ops.toList[i]? = some o) : ops[i]? = some o := by simpa using ho
theorem par_fix_any {v : Value} (ho : ops.toList[i]? = some o) (ha : a.put o.dst v = a')
    (h : ∀ w, O.G W0 w → Need ops i Φ w → ∀ K : Act → World → Prop, (∀ w', O.N w w' → K (a.put o.dst v) w') → if Region.wanted o (yielded ops a.tmps) = true then Oper.wp P o a w K Q else K (a.put o.dst undef) w)
    (hr : ParOk P ops Q O W0 tl (number (i + 1) L) Φ R a') : ParOk P ops Q O W0 tl (number i (.fix v :: L)) Φ R a := by
  have ho := of_list ho
  refine ⟨fix_stable v, fun w hb hn _ => ?_, ?_⟩
  · rw [dst_of ho]
    refine wpOp_step ho fun K hK => ?_
    exact h w hb hn K (fun w' hb' => hK _ _ ⟨v, rfl, rfl, trivial, hb'⟩)
  · rintro u rfl
    rw [dst_of ho, ha]
    exact ParOk.more (fun p hp => List.mem_cons_of_mem _ hp) hr
theorem par_run {v : Value} (ho : ops.toList[i]? = some o) (hw : Region.wanted o (yielded ops a.tmps) = true)
    (h : ∀ w, O.G W0 w → Need ops i Φ w → (execOp a.eval o).run P w = .ok (.value v) w) (ha : a.put o.dst v = a')
    (hr : ParOk P ops Q O W0 tl (number (i + 1) L) Φ R a') : ParOk P ops Q O W0 tl (number i (.fix v :: L)) Φ R a := by
  refine par_fix_any ho ha (fun w hb hn K hK => ?_) hr
  rw [if_pos hw]
  unfold Oper.wp
  rw [h w hb hn]
  exact hK w (O.refl _)
theorem par_skip {v : Value} (ho : ops.toList[i]? = some o) (hw : Region.wanted o (yielded ops a.tmps) = false) (hv : v = undef) (ha : a.put o.dst v = a')
    (hr : ParOk P ops Q O W0 tl (number (i + 1) L) Φ R a') : ParOk P ops Q O W0 tl (number i (.fix v :: L)) Φ R a := by
  subst hv
  refine par_fix_any ho ha (fun w hb hn K hK => ?_) hr
  rw [if_neg (by rw [hw]; decide)]
  exact hK w (O.refl _)
theorem par_call {v : Value} {f : FuncId} {args : Array Value} (ho : ops.toList[i]? = some o) (hw : Region.wanted o (yielded ops a.tmps) = true)
    (he : ∀ w, (execOp a.eval o).run P w = .ok (.enter f args) w)
    (h : ∀ w, O.G W0 w → Need ops i Φ w → Calls P f args w fun e w' => e = .returned v ∧ Below w.heap.size w w') (ha : a.put o.dst v = a')
    (hr : ParOk P ops Q O W0 tl (number (i + 1) L) Φ R a') (hN : ∀ w w', Below w.heap.size w w' → O.N w w' := by exact fun _ _ h => h) : ParOk P ops Q O W0 tl (number i (.fix v :: L)) Φ R a := by
  refine par_fix_any ho ha (fun w hb hn K hK => ?_) hr
  rw [if_pos hw]
  unfold Oper.wp
  rw [he w, Oper.upon_enter]
  refine (h w hb hn).mono ?_
  rintro e w' ⟨rfl, hb'⟩
  exact hK w' (hN _ _ hb')
theorem par_new {F : Value → World → Prop} {a' : Value → Act} (ho : ops.toList[i]? = some o) (hs : ∀ u w w', F u w → O.G w w' → F u w')
    (h : ∀ w, O.G W0 w → Need ops i Φ w → ∀ K : Act → World → Prop, (∀ u w', F u w' → O.N w w' → K (a.put o.dst u) w') → if Region.wanted o (yielded ops a.tmps) = true then Oper.wp P o a w K Q else K (a.put o.dst undef) w)
    (ha : ∀ u, a.put o.dst u = a' u)
    (hr : ∀ u, ParOk P ops Q O W0 tl (number (i + 1) L) ((i, F u) :: Φ) R (a' u)) : ParOk P ops Q O W0 tl (number i (.new F :: L)) Φ R a := by
  have ho := of_list ho
  refine ⟨⟨hs, fun _ h _ => h⟩, fun w hb hn _ => ?_, ?_⟩
  · rw [dst_of ho]
    refine wpOp_step ho fun K hK => ?_
    exact h w hb hn K (fun u w' hf hb' => hK _ _ ⟨u, rfl, trivial, hf, hb'⟩)
  · rintro u -
    rw [dst_of ho, ha]
    exact hr u
theorem par_st {sh : Option Nat} {F : Value → World → Prop} {R' : Value → World → Prop} {a' : Value → Act} (ho : ops.toList[i]? = some o) (hs : ∀ u w w', F u w → O.G w w' → F u w') (hRs : ∀ u w w', R' u w → O.N w w' → R' u w')
    (h : ∀ w, O.G W0 w → Need ops i Φ w → R w → ∀ K : Act → World → Prop, (∀ u w', shOk sh u → F u w' → O.G w w' → R' u w' → K (a.put o.dst u) w') → if Region.wanted o (yielded ops a.tmps) = true then Oper.wp P o a w K Q else K (a.put o.dst undef) w)
    (ha : ∀ u, a.put o.dst u = a' u)
    (hr : ∀ u, shOk sh u → ParOk P ops Q O W0 tl (number (i + 1) L) ((i, F u) :: Φ) (R' u) (a' u)) : ParOk P ops Q O W0 tl (number i (.st sh F R' :: L)) Φ R a := by
  have ho := of_list ho
  refine ⟨⟨hs, fun _ _ => hRs⟩, fun w hb hn hR => ?_, ?_⟩
  · rw [dst_of ho]
    refine wpOp_step ho fun K hK => ?_
    exact h w hb hn (hR rfl) K (fun u w' hu hf hb' hR' => hK _ _ ⟨u, rfl, hu, hf, hb', hR'⟩)
  · rintro u hu
    rw [dst_of ho, ha]
    exact hr u hu
theorem par_sf {R' : World → Prop} {a' : Act} {v : Value} {f : FuncId} {args : Array Value} (ho : ops.toList[i]? = some o) (hw : Region.wanted o (yielded ops a.tmps) = true)
    (he : ∀ w, (execOp a.eval o).run P w = .ok (.enter f args) w) (hRs : ∀ w w', R' w → O.N w w' → R' w')
    (h : ∀ w, O.G W0 w → Need ops i Φ w → R w → Calls P f args w fun e w' => e = .returned v ∧ O.G w w' ∧ R' w') (ha : a.put o.dst v = a')
    (hr : ParOk P ops Q O W0 tl (number (i + 1) L) Φ R' a') : ParOk P ops Q O W0 tl (number i (.sf v R' :: L)) Φ R a := by
  have ho := of_list ho
  refine ⟨⟨fun _ _ _ _ _ => trivial, fun _ _ _ => hRs⟩, fun w hb hn hR => ?_, ?_⟩
  · rw [dst_of ho]
    refine wpOp_step ho fun K hK => ?_
    rw [if_pos hw]
    unfold Oper.wp
    rw [he w, Oper.upon_enter]
    refine (h w hb hn (hR rfl)).mono ?_
    rintro e w' ⟨rfl, hb', hr'⟩
    exact hK _ _ ⟨v, rfl, rfl, trivial, hb', hr'⟩
  · rintro u rfl
    rw [dst_of ho, ha]
    exact ParOk.more (fun p hp => List.mem_cons_of_mem _ hp) hr
theorem par_stc {sh : Option Nat} {F : Value → World → Prop} {R' : Value → World → Prop} {a' : Value → Act} {f : FuncId} {args : Array Value} (ho : ops.toList[i]? = some o) (hw : Region.wanted o (yielded ops a.tmps) = true)
    (he : ∀ w, (execOp a.eval o).run P w = .ok (.enter f args) w) (hs : ∀ u w w', F u w → O.G w w' → F u w') (hRs : ∀ u w w', R' u w → O.N w w' → R' u w')
    (h : ∀ w, O.G W0 w → Need ops i Φ w → R w → Calls P f args w fun e w' => ∃ u, e = .returned u ∧ shOk sh u ∧ F u w' ∧ O.G w w' ∧ R' u w')
    (ha : ∀ u, a.put o.dst u = a' u)
    (hr : ∀ u, shOk sh u → ParOk P ops Q O W0 tl (number (i + 1) L) ((i, F u) :: Φ) (R' u) (a' u)) : ParOk P ops Q O W0 tl (number i (.st sh F R' :: L)) Φ R a := by
  refine par_st ho hs hRs (fun w hb hn hR K hK => ?_) ha hr
  rw [if_pos hw]
  unfold Oper.wp
  rw [he w, Oper.upon_enter]
  refine (h w hb hn hR).mono ?_
  rintro e w' ⟨u, rfl, hu, hf, hb', hr'⟩
  exact hK u w' hu hf hb' hr'
theorem par_str {sh : Option Nat} {F : Value → World → Prop} {R' : Value → World → Prop} {a' : Value → Act} (ho : ops.toList[i]? = some o) (hw : Region.wanted o (yielded ops a.tmps) = true)
    (hs : ∀ u w w', F u w → O.G w w' → F u w') (hRs : ∀ u w w', R' u w → O.N w w' → R' u w')
    (h : ∀ w, O.G W0 w → Need ops i Φ w → R w → ∃ u w', (execOp a.eval o).run P w = .ok (.value u) w' ∧ shOk sh u ∧ F u w' ∧ O.G w w' ∧ R' u w')
    (ha : ∀ u, a.put o.dst u = a' u)
    (hr : ∀ u, shOk sh u → ParOk P ops Q O W0 tl (number (i + 1) L) ((i, F u) :: Φ) (R' u) (a' u)) : ParOk P ops Q O W0 tl (number i (.st sh F R' :: L)) Φ R a := by
  refine par_st ho hs hRs (fun w hb hn hR K hK => ?_) ha hr
  rw [if_pos hw]
  unfold Oper.wp
  obtain ⟨u, w', he, hu, hf, hb', hr'⟩ := h w hb hn hR
  rw [he]
  exact hK u w' hu hf hb' hr'
theorem wpList_none {a : Act} {w : World} (h : Q .normal a w) : wpList P ops Q [] a w := h
theorem par_end (h : ∀ w, O.G W0 w → (∀ p ∈ Φ, p.2 w) → R w → wpList P ops Q tl a w) : ParOk P ops Q O W0 tl (number i []) Φ R a := h
end
end Go.Proofs.YtjkbfoeakeoeiaaGreat.Ps
