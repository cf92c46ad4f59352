/- Keep: contracts (Pt Pi Wr Wq Wx Wy Wz). -/
import Derived.Test.YthikijlbclckdaaGreatT2
import Derived.Test.YthikijlbclckdaaGreatT3
import Derived.Test.YthikijlbclckdaaGreatT15
import Derived.OrdersIn
import Derived.CallsIn
import Derived.Laws.Bits64b
import Derived.WalkSpells
namespace Go.Proofs.YthikijlbclckdaaGreat.Ps
set_option maxRecDepth 100000
set_option maxHeartbeats 40000000
set_option linter.unusedSimpArgs false
set_option linter.unusedVariables false
open Go.RowKit
def rowN (size n : Nat) (vs : List Value) (B : Nat) : Value → World → Prop := fun u w => FlatAt size w u n vs ∧ ∀ a m c, u = .slice (some a) m c → B ≤ a.block
section
variable {P : Program} {ops : Array Oper} {Q : Exit → Act → World → Prop} {F0 : Nat → Prop} {S : Nat → Nat → Prop} {W0 : World} {tl : List Oper} {i : Nat} {o : Oper} {L : List Sp} {Φ : List (Nat × (World → Prop))} {R : World → Prop} {a : Act} {a' : Value → Act}
theorem par_row {size n m : Nat} {T : TypeId} {vs cs : List Value} {r : World → Result Next} (hF : ∀ b, F0 b → b < W0.heap.size) (ho : ops.toList[i]? = some o) (hw : Region.wanted o (yielded ops a.tmps) = true)
  (h : ∀ w, (relC F0 S).G W0 w → Need ops i Φ w → (execOp a.eval o).run P w = r w) (hrr : ∀ w, r w = .ok (.value (.slice (some ⟨w.heap.size, 0, none⟩) m m)) (w.alloc (.cells cs.toArray T)))
  (hn : n = m) (hvs : vs = cs) (hl : cs.length = m * size) (hm : m ≤ maxLen) (ha : ∀ u, a.put o.dst u = a' u)
  (hr : ∀ u, ParOk P ops Q (relC F0 S) W0 tl (number (i + 1) L) ((i, rowN size n vs W0.heap.size u) :: Φ) R (a' u)) : ParOk P ops Q (relC F0 S) W0 tl (number i (.new (rowN size n vs W0.heap.size) :: L)) Φ R a := by
 subst hn hvs
 refine par_new ho (fun u w w' hf hb => ⟨FlatAt.but hf.1 hb.1 (fun a m c he hh => by have := hf.2 a m c he; have := hF _ hh; omega), hf.2⟩) (fun w hb hn K hK => ?_) ha hr
 rw [if_pos hw]
 unfold Oper.wp
 rw [h w hb hn, hrr w]
 refine hK _ _ ⟨FlatAt.made w _ T hl hm, fun a m c he => ?_⟩ ((Below.refl _ w).alloc (Nat.le_refl _) _)
 cases he
 exact hb.1.size
theorem need_head {x : Nat × (World → Prop)} {Φ : List (Nat × (World → Prop))} {w : World} (hn : Need ops i (x :: Φ) w) (he : edge ops i x.1 = true) : x.2 w := hn x List.mem_cons_self he
def boxN (cs : Array Value) (T : TypeId) (B : Nat) : Value → World → Prop := fun u w => ∃ g, u = .pointer (some ⟨g, 0, none⟩) ∧ B ≤ g ∧ w.heap[g]? = some (.cells cs T (0, 0))
theorem par_box {cs : Array Value} {T : TypeId} {r : World → Result Next} (hF : ∀ b, F0 b → b < W0.heap.size) (ho : ops.toList[i]? = some o) (hw : Region.wanted o (yielded ops a.tmps) = true)
  (h : ∀ w, (relC F0 S).G W0 w → Need ops i Φ w → (execOp a.eval o).run P w = r w) (hrr : ∀ w, r w = .ok (.value (.pointer (some ⟨w.heap.size, 0, none⟩))) (w.alloc (.cells cs T))) (ha : ∀ u, a.put o.dst u = a' u)
  (hr : ∀ u, ParOk P ops Q (relC F0 S) W0 tl (number (i + 1) L) ((i, boxN cs T W0.heap.size u) :: Φ) R (a' u)) : ParOk P ops Q (relC F0 S) W0 tl (number i (.new (boxN cs T W0.heap.size) :: L)) Φ R a := by
 refine par_new ho (fun u w w' hf hb => ?_) (fun w hb hn K hK => ?_) ha hr
 ·
  obtain ⟨g, h1, h2, h3⟩ := hf
  exact ⟨g, h1, h2, (hb.1.block g (heap_lt h3) (fun hh => by have := hF _ hh; omega)).trans h3⟩
 ·
  rw [if_pos hw]
  unfold Oper.wp
  rw [h w hb hn, hrr w]
  exact hK _ _ ⟨w.heap.size, rfl, hb.1.size, alloc_new _ _⟩ ((Below.refl _ w).alloc (Nat.le_refl _) _)
theorem par_app {A : World → Prop} (t e : TypeId) {z : Value} {size bytes : Nat} (ht : P.underlying t = some (.slice e))
  (hinfo : (P.info? e).map (fun i => (i.zero, i.size, i.bytes)) = some (some z, size, bytes)) (hzs : z.cells.size = size) (hsz : 0 < size)
  {base n m : Nat} {v x : Value} {xs cs : List Value} (hbase : base ≤ W0.heap.size) (hn : n + m ≤ maxLen) (hby : (n + m) * bytes ≤ 140737488355328) (h1 : ∀ u ∈ cs, u.oneCell' = true)
  (hA1 : ∀ w w', A w → w.ownsRow base e size v n xs → But (ownB v) w w' → A w') (hA2 : ∀ w w', A w → Below w.heap.size w w' → A w') (hFv : ∀ b, ownB v b → F0 b) (hSv : ∀ b i, S b i → ¬ ownB v b)
  (ho : ops.toList[i]? = some o) {s x' : Operand} (hgd : o.guard = none) (hop : o.op = .call { callee := .builtin .append, args := #[s, x'], argTypes := #[t, t] }) (hs : a.eval s = v) (hx' : a.eval x' = x)
  (hx : ∀ w, (relC F0 S).G W0 w → Need ops i Φ w → FlatAt size w x m cs) (ha : ∀ u, a.put o.dst u = a' u)
  (hr : ∀ u, shOk (some (n + m)) u → ParOk P ops Q (relC F0 S) W0 tl (number (i + 1) L) ((i, fun _ => True) :: Φ) (fun w => A w ∧ w.ownsRow base e size u (n + m) (xs ++ cs)) (a' u)) :
  ParOk P ops Q (relC F0 S) W0 tl (number i (.st (some (n + m)) (fun _ _ => True) (fun u w => A w ∧ w.ownsRow base e size u (n + m) (xs ++ cs)) :: L)) Φ (fun w => A w ∧ w.ownsRow base e size v n xs) a := by
 refine par_str ho (by simp [Region.wanted, hgd]) (fun _ _ _ _ _ => trivial) (fun u w w' h hb => ⟨hA2 w w' h.1 hb, own_at (F := fun _ => False) h.2 (But.of hb) (fun _ _ => id)⟩) (fun w hb hnd hR => ?_) ha hr
 obtain ⟨hA, hown⟩ := hR
 obtain ⟨v', w', hrun, h2, h3, -⟩ := run_app_k (P := P) t e o.type ht hinfo hzs hsz hown (Nat.le_trans hbase hb.1.size) (hx w hb hnd) hn hby h1
 refine ⟨v', w', ?_, own_slice h2, trivial, ⟨h3.mono (fun b _ h => hFv b h), fun b i u hs hc => But.cell h3 hc (hSv b i hs)⟩, hA1 _ _ hA hown h3, h2⟩
 unfold execOp
 simp only [hop, resolve, invoke, builtin, Sem.run_bind, Sem.run_pure, Result.andThen_ok, List.map_toArray, List.map_cons, List.map_nil, hs, hx', hrun]
theorem par_val {F : Value → World → Prop} (ho : ops.toList[i]? = some o) (hw : Region.wanted o (yielded ops a.tmps) = true) (hs : ∀ u w w', F u w → (relC F0 S).G w w' → F u w')
  (h : ∀ w, (relC F0 S).G W0 w → Need ops i Φ w → ∃ u w', (execOp a.eval o).run P w = .ok (.value u) w' ∧ F u w' ∧ Below w.heap.size w w') (ha : ∀ u, a.put o.dst u = a' u)
  (hr : ∀ u, ParOk P ops Q (relC F0 S) W0 tl (number (i + 1) L) ((i, F u) :: Φ) R (a' u)) : ParOk P ops Q (relC F0 S) W0 tl (number i (.new F :: L)) Φ R a := by
 refine par_new ho hs (fun w hb hn K hK => ?_) ha hr
 rw [if_pos hw]
 unfold Oper.wp
 obtain ⟨u, w', he, hf, hb'⟩ := h w hb hn
 rw [he]
 exact hK u w' hf hb'
theorem par_appE {A : World → Prop} {Pc : List Value → World → Prop} (t e : TypeId) {z : Value} {size bytes : Nat} (ht : P.underlying t = some (.slice e))
  (hinfo : (P.info? e).map (fun i => (i.zero, i.size, i.bytes)) = some (some z, size, bytes)) (hzs : z.cells.size = size) (hsz : 0 < size)
  {base n m : Nat} {v x : Value} {xs : List Value} (hbase : base ≤ W0.heap.size) (hn : n + m ≤ maxLen) (hby : (n + m) * bytes ≤ 140737488355328)
  (hA1 : ∀ w w', A w → w.ownsRow base e size v n xs → But (ownB v) w w' → A w') (hA2 : ∀ w w', A w → Below w.heap.size w w' → A w') (hP1 : ∀ cs w w', (relC F0 S).G W0 w → Pc cs w → w.ownsRow base e size v n xs → But (ownB v) w w' → Pc cs w') (hP2 : ∀ cs w w', Pc cs w → Below w.heap.size w w' → Pc cs w')
  (hFv : ∀ b, ownB v b → F0 b) (hSv : ∀ b i, S b i → ¬ ownB v b)
  (ho : ops.toList[i]? = some o) {s x' : Operand} (hgd : o.guard = none) (hop : o.op = .call { callee := .builtin .append, args := #[s, x'], argTypes := #[t, t] }) (hs : a.eval s = v) (hx' : a.eval x' = x)
  (hx : ∀ w, (relC F0 S).G W0 w → Need ops i Φ w → ∃ cs, Pc cs w ∧ FlatAt size w x m cs ∧ ∀ u ∈ cs, u.oneCell' = true) (ha : ∀ u, a.put o.dst u = a' u)
  (hr : ∀ u, shOk (some (n + m)) u → ParOk P ops Q (relC F0 S) W0 tl (number (i + 1) L) ((i, fun _ => True) :: Φ) (fun w => A w ∧ ∃ cs, Pc cs w ∧ w.ownsRow base e size u (n + m) (xs ++ cs)) (a' u)) :
  ParOk P ops Q (relC F0 S) W0 tl (number i (.st (some (n + m)) (fun _ _ => True) (fun u w => A w ∧ ∃ cs, Pc cs w ∧ w.ownsRow base e size u (n + m) (xs ++ cs)) :: L)) Φ (fun w => A w ∧ w.ownsRow base e size v n xs) a := by
 refine par_str ho (by simp [Region.wanted, hgd]) (fun _ _ _ _ _ => trivial) (fun u w w' h hb => ⟨hA2 w w' h.1 hb, by obtain ⟨cs, hp, ho⟩ := h.2; exact ⟨cs, hP2 cs w w' hp hb, own_at (F := fun _ => False) ho (But.of hb) (fun _ _ => id)⟩⟩) (fun w hb hnd hR => ?_) ha hr
 obtain ⟨hA, hown⟩ := hR
 obtain ⟨cs, hp, hfl, h1⟩ := hx w hb hnd
 obtain ⟨v', w', hrun, h2, h3, -⟩ := run_app_k (P := P) t e o.type ht hinfo hzs hsz hown (Nat.le_trans hbase hb.1.size) hfl hn hby h1
 refine ⟨v', w', ?_, own_slice h2, trivial, ⟨h3.mono (fun b _ h => hFv b h), fun b i u hs hc => But.cell h3 hc (hSv b i hs)⟩, hA1 _ _ hA hown h3, cs, hP1 cs w w' hb hp hown h3, h2⟩
 unfold execOp
 simp only [hop, resolve, invoke, builtin, Sem.run_bind, Sem.run_pure, Result.andThen_ok, List.map_toArray, List.map_cons, List.map_nil, hs, hx', hrun]
end
end Go.Proofs.YthikijlbclckdaaGreat.Ps
namespace Go.Proofs.YthikijlbclckdaaGreat.Ps
set_option maxRecDepth 100000
set_option maxHeartbeats 40000000
set_option linter.unusedSimpArgs false
set_option linter.unusedVariables false
open Go.RowKit
section
variable {P : Program} {ops : Array Oper} {Q : Exit → Act → World → Prop}
theorem calls_round {l n : Nat} {f : FuncId} {args : Array Value} {w : World} {R : Ending → World → Prop} (h : Calls P f args w R) : CallsIn (Fence.wide.inRound l) n P f args w R := callsIn_wide (n := n).2 h
def noDefer (ops : Array Oper) : Bool := ops.all fun o => match o.op with
 | .defer _ => false
 | _ => true
theorem noDefer_at (hd : noDefer ops = true) {i : Nat} {o : Oper} (ho : ops[i]? = some o) : ∀ c, o.op ≠ .defer c := by
 intro c hc
 have := Array.all_eq_true'.1 hd o (Array.mem_of_getElem? ho)
 rw [hc] at this
 cases this
theorem wpOper_in {l n : Nat} {o : Oper} (hd : ∀ c, o.op ≠ .defer c) {a : Act} {w : World} {K : Act → World → Prop} (h : o.wp P a w K Q) : o.wpIn (Fence.wide.inRound l) n P a w K Q := by
 refine ⟨fun _ _ => trivial, ?_⟩
 rw [Oper.semAt_eq _ _ _ hd]
 unfold Oper.wp at h
 generalize (execOp a.eval o).run P w = r at h
 cases r with
 | ok x w' =>
  cases x <;> simp only [Oper.upon] at h <;> simp only [Oper.uponIn] <;>
   first
    | exact h
    | exact ⟨fun hx => absurd hx (by simp [Fence.inRound, Fence.wide]), calls_round h⟩
    | exact ⟨fun hx => absurd hx (by simp [Fence.inRound, Fence.wide]), fun c cs _ => let ⟨v, w', r, s⟩ := h c cs; ⟨v, w', r, stepsIn_wide.2 s⟩⟩
    | exact h.elim
 | halt x w' => cases x <;> simp only [Oper.upon] at h <;> simp only [Oper.uponIn] <;> exact h
theorem wpOp_in {l n i : Nat} (hd : noDefer ops = true) (hout : ∀ a w, ¬ Q .outgrown a w) {a : Act} {w : World} {K : Act → World → Prop} (h : wpOp P ops Q i K a w) : wpOpIn (Fence.wide.inRound l) n P ops Q i K a w := by
 unfold wpOp at h
 unfold wpOpIn
 cases ho : ops[i]? with
 | none => rw [ho] at h; simpa using h
 | some o =>
  rw [ho] at h
  simp only at h ⊢
  split at h
  ·
   rename_i hw
   rw [if_pos hw]
   rcases h with h | ⟨_, a', w', hq⟩
   ·
    exact wpOper_in (noDefer_at hd ho) h
   ·
    exact (hout _ _ hq).elim
  ·
   rename_i hw
   rw [if_neg hw]
   exact ⟨fun _ _ => trivial, h⟩
theorem wpAny_in {l n : Nat} (hd : noDefer ops = true) (hout : ∀ a w, ¬ Q .outgrown a w) {md : Region.Mode} : ∀ (fuel : Nat) (listed : Array Bool) (a : Act) (w : World), wpAny P md ops Q fuel listed a w → wpAnyIn (Fence.wide.inRound l) n P md ops Q fuel listed a w := by
 intro fuel
 induction fuel with
 | zero => exact fun listed a w h => h
 | succ fuel ih =>
  intro listed a w h
  exact ⟨h.1, fun i hi => wpOpIn_mono (fun a w => ih _ a w) (wpOp_in hd hout (h.2 i hi))⟩
theorem wpIn_par {id l n : Nat} {a : Act} {w : World} (O : Rel) (R : World → Prop) (ch : List Bool) (tl : List Oper) (L : List Sp) (hm : P.follows .mixedOrders = true) (hck : parCheck ops ch = true) (htl : ops.toList.drop ch.length = tl) (hch : L.map Sp.chain = ch)
  (hQ' : ∀ c t v a w, Q (.panic c) (a.put (some t) v) w ↔ Q (.panic c) a w) (hRs : ∀ w w', R w → O.N w w' → R w') (hR : R w) (hd : noDefer ops = true) (hout : ∀ a w, ¬ Q .outgrown a w)
  (h : ParOk P ops Q O w tl (number 0 L) [] R a) : (Code.region id ops true).wpIn (Fence.wide.inRound l) n P Q a w := by
 refine wpIn_region_any hm (wpAny_in hd hout _ _ _ _ ?_)
 subst hch
 have hQ : ∀ c d v a w, Q (.panic c) (a.put d v) w ↔ Q (.panic c) a w := fun c d v a w => by
  cases d with
  | none => exact Iff.rfl
  | some t => exact hQ' c t v a w
 have hl : L.length ≤ ops.size := by
  have := hck
  unfold parCheck at this
  simp only [Bool.and_eq_true, decide_eq_true_eq, List.length_map] at this
  exact this.1.1.1.1
 have hdr := O.draw w
 refine par_any hQ hck htl ops.size (number 0 L) _ [] R a _ ?_ (by simp) ?_ ?_ ?_ (number_sorted L 0) ?_ (by simp) hRs (O.of _ _ hdr) (by simp) (hRs _ _ hR hdr) h
 ·
  rw [number_length, List.length_map]; omega
 ·
  intro i
  rw [number_mem, List.length_map]
  constructor
  ·
   rintro ⟨-, h⟩
   have h2 : i < ops.size := by omega
   exact ⟨by omega, by simp [h2]⟩
  ·
   rintro ⟨h, -⟩
   omega
 ·
  intro i _ h2
  simp [h2]
 ·
  intro k hk
  by_cases hlt : k < ops.size <;> simp [hlt] at hk
 ·
  intro x hx
  simpa using number_chain L 0 x hx
theorem par_sfr {O : Rel} {W0 : World} {tl : List Oper} {i : Nat} {o : Oper} {L : List Sp} {Φ : List (Nat × (World → Prop))} {R R' : World → Prop} {a a' : Act} {v : Value} (ho : ops.toList[i]? = some o) (hw : Region.wanted o (yielded ops a.tmps) = true) (hRs : ∀ w w', R' w → O.N w w' → R' w')
  (h : ∀ w, O.G W0 w → Need ops i Φ w → R w → ∃ w', (execOp a.eval o).run P w = .ok (.value v) w' ∧ O.G w w' ∧ R' w') (ha : a.put o.dst v = a')
  (hr : ParOk P ops Q O W0 tl (number (i + 1) L) Φ R' a') : ParOk P ops Q O W0 tl (number i (.sf v R' :: L)) Φ R a := by
 have ho := of_list ho
 refine ⟨⟨fun _ _ _ _ _ => trivial, fun _ _ _ => hRs⟩, fun w hb hn hR => ?_, ?_⟩
 ·
  rw [dst_of ho]
  refine wpOp_step ho fun K hK => ?_
  rw [if_pos hw]
  unfold Oper.wp
  obtain ⟨w', he, hb', hr'⟩ := h w hb hn (hR rfl)
  rw [he]
  exact hK _ _ ⟨v, rfl, rfl, trivial, hb', hr'⟩
 ·
  rintro u rfl
  rw [dst_of ho, ha]
  exact ParOk.more (fun p hp => List.mem_cons_of_mem _ hp) hr
theorem par_sfs {O : Rel} {W0 : World} {tl : List Oper} {i : Nat} {o : Oper} {L : List Sp} {Φ : List (Nat × (World → Prop))} {R R' : World → Prop} {a a' : Act} (ho : ops.toList[i]? = some o) (hw : Region.wanted o (yielded ops a.tmps) = true) (hRs : ∀ w w', R' w → O.N w w' → R' w')
  (h : ∀ w, O.G W0 w → Need ops i Φ w → R w → ∃ w', (execOp a.eval o).run P w = .ok .skip w' ∧ O.G w w' ∧ R' w') (hd : o.dst = none) (ha : a = a')
  (hr : ParOk P ops Q O W0 tl (number (i + 1) L) Φ R' a') : ParOk P ops Q O W0 tl (number i (.sf undef R' :: L)) Φ R a := by
 have ho := of_list ho
 refine ⟨⟨fun _ _ _ _ _ => trivial, fun _ _ _ => hRs⟩, fun w hb hn hR => ?_, ?_⟩
 ·
  rw [dst_of ho]
  refine wpOp_step ho fun K hK => ?_
  rw [if_pos hw]
  unfold Oper.wp
  obtain ⟨w', he, hb', hr'⟩ := h w hb hn (hR rfl)
  rw [he]
  exact hK _ _ ⟨undef, by rw [hd], rfl, trivial, hb', hr'⟩
 ·
  rintro u rfl
  rw [dst_of ho, hd]
  subst ha
  exact ParOk.more (fun p hp => List.mem_cons_of_mem _ hp) hr
end
end Go.Proofs.YthikijlbclckdaaGreat.Ps
namespace Go.Proofs.YthikijlbclckdaaGreat
set_option maxRecDepth 100000
set_option maxHeartbeats 40000000
set_option linter.unusedSimpArgs false
set_option linter.unusedVariables false
open Go.RowKit
def numL : List UInt8 → Nat → Nat → Nat × Nat × Int
 | [], _, _ => (0, 0, 2)
 | b :: l, i, v =>
  if (i = 9 ∧ 1 < b.toNat) ∨ (0 < i ∧ b.toNat = 0) then (0, 0, 3)
  else if b.toNat < 128 then (v + b.toNat * 128 ^ i, i + 1, 0) else numL l (i + 1) (v + b.toNat % 128 * 128 ^ i)
def numS (s : ByteArray) : Nat × Nat × Int := numL s.data.toList 0 0
structure RdV where
 s : ByteArray
 e : Int
def takeR {α : Type} (z : α) (f : ByteArray → α × Nat × Int) (r : RdV) : α × RdV :=
 if r.e = 0 then (if (f r.s).2.2 = 0 then ((f r.s).1, ⟨r.s.extract (f r.s).2.1 r.s.size, 0⟩) else (z, ⟨r.s, (f r.s).2.2⟩)) else (z, r)
def uintR (r : RdV) : Nat × RdV := takeR 0 numS r
def sgn (v : Nat) : Int := if v % 2 = 0 then ((v / 2 : Nat) : Int) else -((v / 2 : Nat) : Int) - 1
def intR (r : RdV) : Int × RdV := (sgn (uintR r).1, (uintR r).2)
def byteF (s : ByteArray) : Nat × Nat × Int := if s.size = 0 then (0, 0, 2) else ((s.data.toList.headD 0).toNat, 1, 0)
def byteR (r : RdV) : Nat × RdV := takeR 0 byteF r
def textF (most : Int) (s : ByteArray) : ByteArray × Nat × Int :=
 if (numS s).2.2 ≠ 0 then (⟨#[]⟩, 0, (numS s).2.2)
 else if most < (numS s).1 then (⟨#[]⟩, 0, 13)
 else if s.size - (numS s).2.1 < (numS s).1 then (⟨#[]⟩, 0, 2)
 else (s.extract (numS s).2.1 ((numS s).2.1 + (numS s).1), (numS s).2.1 + (numS s).1, 0)
def textR (most : Int) (r : RdV) : ByteArray × RdV := takeR ⟨#[]⟩ (textF most) r
def endR (r : RdV) : Int := if r.e = 0 ∧ r.s.size ≠ 0 then 3 else r.e
structure NumOk (l : List UInt8) (i : Nat) (x : Nat × Nat × Int) : Prop where
 val : x.1 < 18446744073709551616
 len : x.2.1 ≤ i + l.length
 pos : x.2.2 = 0 → i < x.2.1 ∧ x.2.1 ≤ 10
 err : x.2.2 = 0 ∨ x.2.2 = 2 ∨ x.2.2 = 3
theorem numL_ok : ∀ (l : List UInt8) (i v : Nat), i ≤ 9 → v < 128 ^ i → NumOk l i (numL l i v)
 | [], i, v, _, _ => ⟨by simp [numL], by simp [numL], by simp [numL], by simp [numL]⟩
 | b :: l, i, v, hi, hv => by
  have hb := b.toNat_lt
  have h128 : 128 ^ i ≤ 128 ^ 9 := Nat.pow_le_pow_right (by omega) hi
  have hm : b.toNat % 128 * 128 ^ i ≤ 127 * 128 ^ i := Nat.mul_le_mul_right _ (by omega)
  simp only [numL]
  split
  ·
   exact ⟨by simp, by simp, by simp, by simp⟩
  ·
   rename_i h1
   split
   ·
    rename_i h2
    refine ⟨?_, by simp only [List.length_cons]; omega, fun _ => ⟨by simp, by simp; omega⟩, by simp⟩
    show v + b.toNat * 128 ^ i < 18446744073709551616
    rcases Nat.lt_or_ge i 9 with h9 | h9
    ·
     have h8 : 128 ^ i ≤ 128 ^ 8 := Nat.pow_le_pow_right (by omega) (by omega)
     have h3 : b.toNat * 128 ^ i ≤ 127 * 128 ^ i := Nat.mul_le_mul_right _ (by omega)
     omega
    ·
     have : i = 9 := by omega
     subst this
     have h3 : b.toNat * 128 ^ 9 ≤ 1 * 128 ^ 9 := Nat.mul_le_mul_right _ (by omega)
     omega
   ·
    rename_i h2
    have hi9 : i ≠ 9 := by omega
    have hs : v + b.toNat % 128 * 128 ^ i < 128 ^ (i + 1) := by rw [Nat.pow_succ]; omega
    have ih := numL_ok l (i + 1) _ (by omega) hs
    exact ⟨ih.val, by have := ih.len; simp only [List.length_cons]; omega, fun h => ⟨by have := (ih.pos h).1; omega, (ih.pos h).2⟩, ih.err⟩
theorem numS_ok (s : ByteArray) : NumOk s.data.toList 0 (numS s) := numL_ok _ 0 0 (by omega) (by simp)
theorem numS_val (s : ByteArray) : (numS s).1 < 18446744073709551616 := (numS_ok s).val
theorem numS_len (s : ByteArray) : (numS s).2.1 ≤ s.size := by have := (numS_ok s).len; simpa using this
theorem sgn_in {v : Nat} (h : v < 18446744073709551616) : -9223372036854775808 ≤ sgn v ∧ sgn v ≤ 9223372036854775807 := by
 unfold sgn; split <;> omega
theorem extract_size (s : ByteArray) (k n : Nat) : (s.extract k n).size = min n s.size - k := by simp [ByteArray.size_extract]
theorem takeR_size {α : Type} (z : α) (f : ByteArray → α × Nat × Int) (r : RdV) : (takeR z f r).2.s.size ≤ r.s.size := by
 unfold takeR
 split
 ·
  split
  ·
   show (r.s.extract _ r.s.size).size ≤ _
   rw [extract_size]; omega
  ·
   exact Nat.le_refl _
 ·
  exact Nat.le_refl _
theorem and127_nat : ∀ a : Fin 256, (a.val &&& 127) = a.val % 128 := by decide
theorem and127 (b : Nat) (h : b < 256) : bits .and .u8 (b : Int) 127 = ((b % 128 : Nat) : Int) := by
 have h1 : (BitVec.ofInt 8 (b : Int)).toNat = b := by
  rw [BitVec.ofInt_natCast, BitVec.toNat_ofNat]; exact Nat.mod_eq_of_lt (by omega)
 have h2 : (BitVec.ofInt 8 (127 : Int)).toNat = 127 := by decide
 show IntKind.u8.wrap ((BitVec.ofInt 8 (b : Int) &&& BitVec.ofInt 8 (127 : Int)).toNat : Int) = _
 rw [BitVec.toNat_and, h1, h2, and127_nat ⟨b, h⟩]
 show (((b % 128 : Nat) : Int) % 256) = _
 omega
theorem num_or (n b k : Nat) (hb : b < 256) (hn : n < 128 ^ k) (hk : k ≤ 9) (h9 : k = 9 → b ≤ 1) :
  bits .or .u64 (n : Int) (IntKind.u64.wrap (IntKind.u64.wrap (bits .and .u8 (b : Int) 127) * 2 ^ (7 * k))) = ((n + b % 128 * 128 ^ k : Nat) : Int) := by
 have e : (2 : Nat) ^ (7 * k) = 128 ^ k := by rw [Nat.pow_mul]
 have hp : 128 ^ k ≤ 128 ^ 9 := Nat.pow_le_pow_right (by omega) hk
 have hm : b % 128 * 128 ^ k < 18446744073709551616 := by
  rcases Nat.lt_or_ge k 9 with h | h
  ·
   have h8 : 128 ^ k ≤ 128 ^ 8 := Nat.pow_le_pow_right (by omega) (by omega)
   have h3 : b % 128 * 128 ^ k ≤ 127 * 128 ^ k := Nat.mul_le_mul_right _ (by omega)
   omega
  ·
   have : k = 9 := by omega
   subst this
   have := h9 rfl
   have h3 : b % 128 * 128 ^ 9 ≤ 1 * 128 ^ 9 := Nat.mul_le_mul_right _ (by omega)
   omega
 have e2 : ((b % 128 : Nat) : Int) * 2 ^ (7 * k) = ((b % 128 * 128 ^ k : Nat) : Int) := by
  rw [← e]; push_cast; rfl
 have e1 : IntKind.u64.wrap ((b % 128 : Nat) : Int) = ((b % 128 : Nat) : Int) := by rw [IntKind.wrap_u64]; omega
 have e3 : IntKind.u64.wrap ((b % 128 * 128 ^ k : Nat) : Int) = ((b % 128 * 128 ^ k : Nat) : Int) := by rw [IntKind.wrap_u64]; omega
 rw [and127 b hb, e1, e2, e3, bits_or_u64_nat _ _ (by omega) hm]
 congr 1
 have h1 := Nat.shiftLeft_add_eq_or_of_lt (a := b % 128) (b := n) (i := 7 * k) (by rw [e]; exact hn)
 rw [Nat.shiftLeft_eq, e] at h1
 rw [Nat.or_comm, ← h1]
 omega
theorem xor_ones64 (a : Nat) (ha : a ≤ 9223372036854775807) : bits .xor .i64 (a : Int) (-1) = -(a : Int) - 1 := by
 have h1 : (BitVec.ofInt 64 (a : Int)).toNat = a := by
  rw [BitVec.ofInt_natCast, BitVec.toNat_ofNat]; exact Nat.mod_eq_of_lt (by omega)
 have h2 : (BitVec.ofInt 64 (-1 : Int)).toNat = 18446744073709551615 := by decide
 show IntKind.i64.wrap ((BitVec.ofInt 64 (a : Int) ^^^ BitVec.ofInt 64 (-1 : Int)).toNat : Int) = _
 rw [BitVec.toNat_xor, h1, h2, xor_ones a (by omega)]
 rw [IntKind.wrap_i64]
 omega
theorem xor_zero64 (a : Nat) (ha : a ≤ 9223372036854775807) : bits .xor .i64 (a : Int) 0 = (a : Int) := by
 have h1 : (BitVec.ofInt 64 (a : Int)).toNat = a := by
  rw [BitVec.ofInt_natCast, BitVec.toNat_ofNat]; exact Nat.mod_eq_of_lt (by omega)
 have h2 : (BitVec.ofInt 64 (0 : Int)).toNat = 0 := by decide
 show IntKind.i64.wrap ((BitVec.ofInt 64 (a : Int) ^^^ BitVec.ofInt 64 (0 : Int)).toNat : Int) = _
 rw [BitVec.toNat_xor, h1, h2, Nat.xor_zero]
 rw [IntKind.wrap_i64]
 omega
theorem sgn_bits (v : Nat) (hv : v < 18446744073709551616) : bits .xor .i64 ((v : Int) / 2) (wrap64 (-wrap64 (bits .and .u64 (v : Int) 1))) = sgn v := by
 have e1 : bits .and .u64 (v : Int) 1 = ((v % 2 : Nat) : Int) := by
  have h := bits_and_u64_nat v 1 hv (by omega)
  rw [Nat.and_one_is_mod] at h
  exact h
 rw [e1]
 have e2 : (v : Int) / 2 = ((v / 2 : Nat) : Int) := by omega
 rw [e2]
 unfold sgn
 rcases Nat.mod_two_eq_zero_or_one v with h | h
 ·
  rw [h, if_pos rfl, show wrap64 (-wrap64 ((0 : Nat) : Int)) = 0 by unfold wrap64; omega]
  exact xor_zero64 (v / 2) (by omega)
 ·
  rw [h, if_neg (by omega), show wrap64 (-wrap64 ((1 : Nat) : Int)) = -1 by unfold wrap64; omega]
  exact xor_ones64 (v / 2) (by omega)
theorem bytes_len (s : ByteArray) : s.toList.length = s.size := by rw [ByteArray.toList_eq, Array.length_toList]; rfl
theorem bytes_nil {s : ByteArray} (h : s.size = 0) : s.toList = [] := List.length_eq_zero_iff.1 ((bytes_len s).trans h)
theorem bytes_some {s : ByteArray} (h : s.size ≠ 0) : s.toList.isEmpty = false := by
 cases e : s.toList with
 | nil => exfalso; apply h; rw [← bytes_len s, e]; rfl
 | cons a l => rfl
def sgnF (s : ByteArray) : Int × Nat × Int := (sgn (numS s).1, (numS s).2)
theorem byteF_len (s : ByteArray) : (byteF s).2.1 ≤ s.size := by unfold byteF; split <;> simp; omega
theorem sgn0 : sgn 0 = 0 := by simp [sgn]
theorem take_sgn (r : RdV) : takeR 0 sgnF r = intR r := by
 unfold intR uintR takeR sgnF
 by_cases h : r.e = 0
 ·
  rw [if_pos h, if_pos h]
  by_cases h2 : (numS r.s).2.2 = 0
  ·
   rw [if_pos h2, if_pos h2]
  ·
   rw [if_neg h2, if_neg h2]; simp only [sgn0]
 ·
  rw [if_neg h, if_neg h]; simp only [sgn0]
theorem textF_len (most : Int) (s : ByteArray) : (textF most s).2.1 ≤ s.size := by
 have := numS_len s
 unfold textF
 split
 ·
  exact Nat.zero_le _
 ·
  split
  ·
   exact Nat.zero_le _
  ·
   split
   ·
    exact Nat.zero_le _
   ·
    show (numS s).2.1 + (numS s).1 ≤ s.size
    omega
end Go.Proofs.YthikijlbclckdaaGreat
namespace Go.Proofs.YthikijlbclckdaaGreat
set_option maxRecDepth 100000
set_option maxHeartbeats 40000000
set_option linter.unusedSimpArgs false
set_option linter.unusedVariables false
open Go.RowKit
def IsR (T : TypeId) (w : World) (rb : Nat) (r : RdV) : Prop := w.heap[rb]? = some (.cells #[.string r.s, .int .i64 r.e] T (0, 0))
abbrev Rb (rb : Nat) : World → World → Prop := But (fun k => k = rb)
theorem number_any (rb : Nat) (s : ByteArray) (e : Int) (w : World) (h : IsR 168 w rb ⟨s, e⟩) (hs : s.size ≤ 140737488355328) :
  Calls Tryz.prog 128 #[.pointer (some ⟨rb, 0, none⟩)] w fun e' w' => e' = .returned (.tuple #[.int .u64 (numS s).1, .int .i64 (numS s).2.1, .int .i64 (numS s).2.2]) ∧ w' = w := by
 have hc := cell_of h 0
 have hc : w.cell? ⟨rb, 0, none⟩ = some (.string s) := hc
 go_enter Tryz.func128, Tryz.ntmps128
 go_wp2
 go_loop [5, 13] (fun v i => ∃ k n : Nat, k ≤ s.size ∧ k ≤ 9 ∧ i = .int .i64 k ∧ v = .int .u64 n ∧ Hid (numL (s.data.toList.drop k) k n = numS s ∧ n < 128 ^ k)) (fun _ i => s.size - (intOf i).toNat)
 case atStart => exact ⟨0, 0, Nat.zero_le _, by omega, rfl, rfl, rfl, by simp⟩
 case round =>
  obtain ⟨k, n, hk, hk9, rfl, rfl, hR⟩ := hrel
  by_cases hlt : k < s.size
  ·
   have hby := s[k].toNat_lt
   have hb := hid (show numS s = numL (s[k] :: s.data.toList.drop (k + 1)) k n by rw [← drop_at s k hlt]; exact hR.out.1.symm)
   have hor : Hid ((k = 9 → s[k].toNat ≤ 1) → bits .or .u64 (n : Int) (IntKind.u64.wrap (IntKind.u64.wrap (bits .and .u8 (s[k].toNat : Int) 127) * 2 ^ (7 * k))) = ((n + s[k].toNat % 128 * 128 ^ k : Nat) : Int)) := fun h9 => num_or n _ k hby hR.out.2 hk9 h9
   by_cases hbad : (k = 9 ∧ 1 < s[k].toNat) ∨ (0 < k ∧ s[k].toNat = 0)
   ·
    have e := hid (show numS s = (0, 0, 3) by rw [hb.out, numL, if_pos hbad])
    clear hb hor
    by_cases h9 : k = 9 ∧ 1 < s[k].toNat
    ·
     have b1 : decide (1 < (s[k].toNat : Int)) = true := by simp; omega
     obtain ⟨rfl, -⟩ := h9
     go_wp2
     go_ret3
     rw [e.out]
     exact ⟨rfl, rfl⟩
    ·
     have h0 : 0 < k := by omega
     have b0 : ((s[k].toNat : Int) == 0) = true := by simp; omega
     have b1 : decide (1 < (s[k].toNat : Int)) = false := by simp; omega
     go_wp2
     all_goals (go_ret3; rw [e.out]; exact ⟨rfl, rfl⟩)
   ·
    by_cases hsm : s[k].toNat < 128
    ·
     have e := hid (show numS s = (n + s[k].toNat * 128 ^ k, k + 1, 0) by rw [hb.out, numL, if_neg hbad, if_pos hsm])
     have hor' := hid (hor.out (fun h9 => by omega))
     have b0 : 0 < k → ((s[k].toNat : Int) == 0) = false := by intro h0; simp; omega
     by_cases h9 : k = 9
     ·
      subst h9
      have b1 : decide (1 < (s[9].toNat : Int)) = false := by simp; omega
      go_wp2
      all_goals (go_ret3; rw [e.out])
      all_goals exact ⟨by have h := hor'.out; rw [Nat.mod_eq_of_lt hsm] at h; rw [← h]; rfl, rfl⟩
     ·
      go_wp2
      all_goals (go_ret3; rw [e.out])
      all_goals exact ⟨by have h := hor'.out; rw [Nat.mod_eq_of_lt hsm] at h; rw [← h]; rfl, rfl⟩
    ·
     have h9 : k ≠ 9 := by omega
     have e := hid (show numL (s.data.toList.drop (k + 1)) (k + 1) (n + s[k].toNat % 128 * 128 ^ k) = numS s by rw [hb.out, numL, if_neg hbad, if_neg hsm])
     have hor' := hid (hor.out (fun h9 => by omega))
     have hlt2 : Hid (n + s[k].toNat % 128 * 128 ^ k < 128 ^ (k + 1)) := by
      have hm : s[k].toNat % 128 * 128 ^ k ≤ 127 * 128 ^ k := Nat.mul_le_mul_right _ (by omega)
      have := hR.out.2
      show _ < _
      rw [Nat.pow_succ]; omega
     clear hb hor
     have b0 : 0 < k → ((s[k].toNat : Int) == 0) = false := by intro h0; simp; omega
     go_wp2
     all_goals
      go_round
      case rel => exact ⟨k + 1, _, by omega, by omega, by go_num, by rw [hor'.out], e.out, hlt2.out⟩
      case measure => simp [intOf]; omega
  ·
   have hin : k = s.size := by omega
   subst hin
   have e := hid (show numS s = (0, 0, 2) by rw [← hR.out.1, List.drop_eq_nil_of_le (by simp)]; rfl)
   go_wp2
   go_ret3
   rw [e.out]
   exact ⟨rfl, rfl⟩
theorem IsR.c0 {T : TypeId} {w : World} {rb : Nat} {r : RdV} (h : IsR T w rb r) : w.cell? ⟨rb, 0, none⟩ = some (.string r.s) := cell_of h 0
theorem IsR.c1 {T : TypeId} {w : World} {rb : Nat} {r : RdV} (h : IsR T w rb r) : w.cell? ⟨rb, 1, none⟩ = some (.int .i64 r.e) := cell_of h 1
theorem IsR.f (i : Nat) {T : TypeId} {w : World} {rb : Nat} {r : RdV} (h : IsR T w rb r) : w.frozen? ⟨rb, i, none⟩ = false := free_of h i
theorem IsR.set0 {T : TypeId} {w : World} {rb : Nat} {r : RdV} (h : IsR T w rb r) (s : ByteArray) : IsR T (w.setCell ⟨rb, 0, none⟩ (.string s)) rb ⟨s, r.e⟩ := setCell_at h 0 _
theorem IsR.set1 {T : TypeId} {w : World} {rb : Nat} {r : RdV} (h : IsR T w rb r) (e : Int) : IsR T (w.setCell ⟨rb, 1, none⟩ (.int .i64 e)) rb ⟨r.s, e⟩ := setCell_at h 1 _
theorem IsR.grow {T : TypeId} {w w' : World} {rb : Nat} {r : RdV} (h : IsR T w rb r) (hb : Below w.heap.size w w') : IsR T w' rb r := (hb.block rb (heap_lt h)).trans h
theorem Rb.set {w : World} (rb i : Nat) (v : Value) : Rb rb w (w.setCell ⟨rb, i, none⟩ v) := But.setCell (F := fun k => k = rb) (But.refl _ w) (p := ⟨rb, i, none⟩) (fun _ => rfl) v
theorem signed_any (rb : Nat) (s : ByteArray) (e : Int) (w : World) (h : IsR 168 w rb ⟨s, e⟩) (hs : s.size ≤ 140737488355328) :
  Calls Tryz.prog 131 #[.pointer (some ⟨rb, 0, none⟩)] w fun e' w' => e' = .returned (.tuple #[.int .i64 (sgnF s).1, .int .i64 (sgnF s).2.1, .int .i64 (sgnF s).2.2]) ∧ w' = w := by
 have hv := numS_val s
 go_enter Tryz.func131, Tryz.ntmps131
 go_wp2_with fail
 refine (number_any rb s e w h hs).mono ?_
 rintro e1 w1 ⟨rfl, rfl⟩
 go_wp2
 go_ret3
 rw [sgn_bits _ hv]
 exact ⟨rfl, rfl⟩
theorem byte_any (rb : Nat) (s : ByteArray) (e : Int) (w : World) (h : IsR 168 w rb ⟨s, e⟩) (hs : s.size ≤ 140737488355328) :
  Calls Tryz.prog 165 #[.pointer (some ⟨rb, 0, none⟩)] w fun e' w' => e' = .returned (.tuple #[.int .u8 (byteF s).1, .int .i64 (byteF s).2.1, .int .i64 (byteF s).2.2]) ∧ w' = w := by
 have hc := h.c0
 dsimp only at hc
 by_cases h0 : s.size = 0
 ·
  have e : byteF s = (0, 0, 2) := if_pos h0
  rw [e]
  have hl := bytes_nil h0
  go_enter Tryz.func165, Tryz.ntmps165
  go_wp2
  go_ret3
  exact ⟨rfl, rfl⟩
 ·
  have e : byteF s = ((s[0]'(by omega)).toNat, 1, 0) := by unfold byteF; rw [if_neg h0, head_at (by omega)]
  rw [e]
  have hl := bytes_some h0
  have hl2 : 0 < s.size := by omega
  clear e
  go_enter Tryz.func165, Tryz.ntmps165
  go_wp2
  go_ret3
  exact ⟨rfl, rfl⟩
theorem take_uint (rb : Nat) (r : RdV) (w : World) (h : IsR 168 w rb r) (hs : r.s.size ≤ 140737488355328) :
  Calls Tryz.prog 127 #[.pointer (some ⟨rb, 0, none⟩), .func (.func 128) #[.pointer (some ⟨rb, 0, none⟩)] #[]] w
   fun e' w' => e' = .returned (.int .u64 ↑ (takeR 0 numS r).1) ∧ IsR 168 w' rb (takeR 0 numS r).2 ∧ Rb rb w w' := by
 obtain ⟨s, e⟩ := r
 have H := hid h
 have c0 := h.c0
 have c1 := h.c1
 have f0 := IsR.f 0 h
 have f1 := IsR.f 1 h
 dsimp only at c0 c1 hs
 have hn := numS_len s
 have Hc := hid (number_any rb s e w h hs)
 clear h
 by_cases he : e = 0
 ·
  subst he
  have ht : takeR 0 numS ⟨s, 0⟩ = if (numS s).2.2 = 0 then ((numS s).1, ⟨s.extract (numS s).2.1 s.size, 0⟩) else (0, ⟨s, (numS s).2.2⟩) := rfl
  rw [ht]
  clear ht
  revert Hc hn
  generalize numS s = x
  obtain ⟨v, n, er⟩ := x
  intro hn Hc
  dsimp only at Hc hn ⊢
  by_cases hr : er = 0
  ·
   subst hr
   rw [if_pos rfl]
   go_enter Tryz.func127, Tryz.ntmps127
   go_wp2_with fail
   refine Hc.out.mono ?_
   rintro e1 w1 ⟨rfl, rfl⟩
   go_wp2
   go_ret
   exact ⟨rfl, H.out.set0 _, Rb.set rb 0 _⟩
  ·
   rw [if_neg hr]
   have hr1 : (er != 0) = true := by simpa using hr
   go_enter Tryz.func127, Tryz.ntmps127
   go_wp2_with fail
   refine Hc.out.mono ?_
   rintro e1 w1 ⟨rfl, rfl⟩
   go_wp2
   go_ret
   exact ⟨rfl, H.out.set1 er, Rb.set rb 1 _⟩
 ·
  have ht : takeR 0 numS ⟨s, e⟩ = (0, ⟨s, e⟩) := if_neg he
  rw [ht]
  have he1 : (e != 0) = true := by simpa using he
  go_enter Tryz.func127, Tryz.ntmps127
  go_wp2
  go_ret
  exact ⟨rfl, H.out, But.refl _ _⟩
theorem take_int (rb : Nat) (r : RdV) (w : World) (h : IsR 168 w rb r) (hs : r.s.size ≤ 140737488355328) :
  Calls Tryz.prog 130 #[.pointer (some ⟨rb, 0, none⟩), .func (.func 131) #[.pointer (some ⟨rb, 0, none⟩)] #[]] w
   fun e' w' => e' = .returned (.int .i64  (takeR 0 sgnF r).1) ∧ IsR 168 w' rb (takeR 0 sgnF r).2 ∧ Rb rb w w' := by
 obtain ⟨s, e⟩ := r
 have H := hid h
 have c0 := h.c0
 have c1 := h.c1
 have f0 := IsR.f 0 h
 have f1 := IsR.f 1 h
 dsimp only at c0 c1 hs
 have hn : (sgnF s).2.1 ≤ s.size := numS_len s
 have Hc := hid (signed_any rb s e w h hs)
 clear h
 by_cases he : e = 0
 ·
  subst he
  have ht : takeR 0 sgnF ⟨s, 0⟩ = if (sgnF s).2.2 = 0 then ((sgnF s).1, ⟨s.extract (sgnF s).2.1 s.size, 0⟩) else (0, ⟨s, (sgnF s).2.2⟩) := rfl
  rw [ht]
  clear ht
  revert Hc hn
  generalize sgnF s = x
  obtain ⟨v, n, er⟩ := x
  intro hn Hc
  dsimp only at Hc hn ⊢
  by_cases hr : er = 0
  ·
   subst hr
   rw [if_pos rfl]
   go_enter Tryz.func130, Tryz.ntmps130
   go_wp2_with fail
   refine Hc.out.mono ?_
   rintro e1 w1 ⟨rfl, rfl⟩
   go_wp2
   go_ret
   exact ⟨rfl, H.out.set0 _, Rb.set rb 0 _⟩
  ·
   rw [if_neg hr]
   have hr1 : (er != 0) = true := by simpa using hr
   go_enter Tryz.func130, Tryz.ntmps130
   go_wp2_with fail
   refine Hc.out.mono ?_
   rintro e1 w1 ⟨rfl, rfl⟩
   go_wp2
   go_ret
   exact ⟨rfl, H.out.set1 er, Rb.set rb 1 _⟩
 ·
  have ht : takeR 0 sgnF ⟨s, e⟩ = (0, ⟨s, e⟩) := if_neg he
  rw [ht]
  have he1 : (e != 0) = true := by simpa using he
  go_enter Tryz.func130, Tryz.ntmps130
  go_wp2
  go_ret
  exact ⟨rfl, H.out, But.refl _ _⟩
theorem take_byte (rb : Nat) (r : RdV) (w : World) (h : IsR 168 w rb r) (hs : r.s.size ≤ 140737488355328) :
  Calls Tryz.prog 164 #[.pointer (some ⟨rb, 0, none⟩), .func (.func 165) #[.pointer (some ⟨rb, 0, none⟩)] #[]] w
   fun e' w' => e' = .returned (.int .u8 ↑ (takeR 0 byteF r).1) ∧ IsR 168 w' rb (takeR 0 byteF r).2 ∧ Rb rb w w' := by
 obtain ⟨s, e⟩ := r
 have H := hid h
 have c0 := h.c0
 have c1 := h.c1
 have f0 := IsR.f 0 h
 have f1 := IsR.f 1 h
 dsimp only at c0 c1 hs
 have hn := byteF_len s
 have Hc := hid (byte_any rb s e w h hs)
 clear h
 by_cases he : e = 0
 ·
  subst he
  have ht : takeR 0 byteF ⟨s, 0⟩ = if (byteF s).2.2 = 0 then ((byteF s).1, ⟨s.extract (byteF s).2.1 s.size, 0⟩) else (0, ⟨s, (byteF s).2.2⟩) := rfl
  rw [ht]
  clear ht
  revert Hc hn
  generalize byteF s = x
  obtain ⟨v, n, er⟩ := x
  intro hn Hc
  dsimp only at Hc hn ⊢
  by_cases hr : er = 0
  ·
   subst hr
   rw [if_pos rfl]
   go_enter Tryz.func164, Tryz.ntmps164
   go_wp2_with fail
   refine Hc.out.mono ?_
   rintro e1 w1 ⟨rfl, rfl⟩
   go_wp2
   go_ret
   exact ⟨rfl, H.out.set0 _, Rb.set rb 0 _⟩
  ·
   rw [if_neg hr]
   have hr1 : (er != 0) = true := by simpa using hr
   go_enter Tryz.func164, Tryz.ntmps164
   go_wp2_with fail
   refine Hc.out.mono ?_
   rintro e1 w1 ⟨rfl, rfl⟩
   go_wp2
   go_ret
   exact ⟨rfl, H.out.set1 er, Rb.set rb 1 _⟩
 ·
  have ht : takeR 0 byteF ⟨s, e⟩ = (0, ⟨s, e⟩) := if_neg he
  rw [ht]
  have he1 : (e != 0) = true := by simpa using he
  go_enter Tryz.func164, Tryz.ntmps164
  go_wp2
  go_ret
  exact ⟨rfl, H.out, But.refl _ _⟩
theorem rdUint_any (rb : Nat) (r : RdV) (w : World) (h : IsR 168 w rb r) (hs : r.s.size ≤ 140737488355328) :
  Calls Tryz.prog 87 #[.pointer (some ⟨rb, 0, none⟩)] w fun e' w' => e' = .returned (.int .u64 (uintR r).1) ∧ IsR 168 w' rb (uintR r).2 ∧ Rb rb w w' := by
 have Hc := hid (take_uint rb r w h hs)
 have H := hid h
 clear h
 go_enter Tryz.func87, Tryz.ntmps87
 go_wp2_with fail
 refine Hc.out.mono ?_
 rintro e1 w1 ⟨rfl, h1, b1⟩
 have H1 := hid h1
 have B1 := hid b1
 clear h1 b1
 go_wp2
 go_ret
 exact ⟨rfl, H1.out, B1.out⟩
theorem rdInt_any (rb : Nat) (r : RdV) (w : World) (h : IsR 168 w rb r) (hs : r.s.size ≤ 140737488355328) :
  Calls Tryz.prog 90 #[.pointer (some ⟨rb, 0, none⟩)] w fun e' w' => e' = .returned (.int .i64 (intR r).1) ∧ IsR 168 w' rb (intR r).2 ∧ Rb rb w w' := by
 have Hc := take_int rb r w h hs
 rw [take_sgn] at Hc
 have Hc := hid Hc
 have H := hid h
 clear h
 go_enter Tryz.func90, Tryz.ntmps90
 go_wp2_with fail
 refine Hc.out.mono ?_
 rintro e1 w1 ⟨rfl, h1, b1⟩
 have H1 := hid h1
 have B1 := hid b1
 clear h1 b1
 go_wp2
 go_ret
 exact ⟨rfl, H1.out, B1.out⟩
theorem rdByte_any (rb : Nat) (r : RdV) (w : World) (h : IsR 168 w rb r) (hs : r.s.size ≤ 140737488355328) :
  Calls Tryz.prog 156 #[.pointer (some ⟨rb, 0, none⟩)] w fun e' w' => e' = .returned (.int .u8 (byteR r).1) ∧ IsR 168 w' rb (byteR r).2 ∧ Rb rb w w' := by
 have Hc := hid (take_byte rb r w h hs)
 have H := hid h
 clear h
 go_enter Tryz.func156, Tryz.ntmps156
 go_wp2_with fail
 refine Hc.out.mono ?_
 rintro e1 w1 ⟨rfl, h1, b1⟩
 have H1 := hid h1
 have B1 := hid b1
 clear h1 b1
 go_wp2
 go_ret
 exact ⟨rfl, H1.out, B1.out⟩
theorem rdErr_any (rb : Nat) (r : RdV) (w : World) (h : IsR 168 w rb r) :
  Calls Tryz.prog 101 #[.pointer (some ⟨rb, 0, none⟩)] w fun e' w' => e' = .returned (.int .i64 r.e) ∧ w = w' := by
 have c1 := h.c1
 clear h
 go_enter Tryz.func101, Tryz.ntmps101
 go_wp2
 go_ret
 exact ⟨rfl, rfl⟩
theorem rdEnd_any (rb : Nat) (r : RdV) (w : World) (h : IsR 168 w rb r) :
  Calls Tryz.prog 35 #[.pointer (some ⟨rb, 0, none⟩)] w fun e' w' => e' = .returned (.int .i64 (endR r)) ∧ w = w' := by
 have c0 := h.c0
 have Hc := hid (rdErr_any rb r w h)
 clear h
 by_cases he : r.e = 0
 ·
  by_cases hz : r.s.size = 0
  ·
   have hl := bytes_nil hz
   have e : endR r = r.e := if_neg (by omega)
   rw [e]
   have he1 : (r.e == 0) = true := by simpa using he
   clear e he
   go_enter Tryz.func35, Tryz.ntmps35
   go_wp2_with fail
   refine Hc.out.mono ?_
   rintro e1 w1 ⟨rfl, rfl⟩
   go_wp2
   go_ret
   exact ⟨rfl, rfl⟩
  ·
   have hl := bytes_some hz
   have e : endR r = 3 := if_pos ⟨he, hz⟩
   rw [e]
   have he1 : (r.e == 0) = true := by simpa using he
   clear e he
   go_enter Tryz.func35, Tryz.ntmps35
   go_wp2_with fail
   refine Hc.out.mono ?_
   rintro e1 w1 ⟨rfl, rfl⟩
   go_wp2
   go_ret
   exact ⟨rfl, rfl⟩
 ·
  have e : endR r = r.e := if_neg (fun h => he h.1)
  rw [e]
  have he1 : (r.e == 0) = false := by simpa using he
  go_enter Tryz.func35, Tryz.ntmps35
  go_wp2_with fail
  refine Hc.out.mono ?_
  rintro e1 w1 ⟨rfl, rfl⟩
  go_wp2
  go_ret
  exact ⟨rfl, rfl⟩
end Go.Proofs.YthikijlbclckdaaGreat
namespace Go.Proofs.YthikijlbclckdaaGreat
set_option maxRecDepth 100000
set_option maxHeartbeats 40000000
set_option linter.unusedSimpArgs false
set_option linter.unusedVariables false
open Go.RowKit
theorem textc_any (rb : Nat) (s : ByteArray) (e : Int) (w : World) (h : IsR 168 w rb ⟨s, e⟩) (hs : s.size ≤ 140737488355328) (most : Int) (hm0 : 0 ≤ most) (hm1 : most ≤ 1000000) (pb mb : Nat)
  (hp : w.cell? ⟨pb, 0, none⟩ = some (.pointer (some ⟨rb, 0, none⟩))) (hmb : w.cell? ⟨mb, 0, none⟩ = some (.int .i64 most)) :
  Calls Tryz.prog 140 #[.pointer (some ⟨pb, 0, none⟩), .pointer (some ⟨mb, 0, none⟩)] w
   fun e' w' => e' = .returned (.tuple #[.string (textF most s).1, .int .i64 (textF most s).2.1, .int .i64 (textF most s).2.2]) ∧ w' = w := by
 have c0 := h.c0
 dsimp only at c0
 have hl := numS_len s
 have hv := numS_val s
 have Hc := hid (number_any rb s e w h hs)
 have ht : textF most s = (if (numS s).2.2 ≠ 0 then (⟨#[]⟩, 0, (numS s).2.2) else if most < (numS s).1 then (⟨#[]⟩, 0, 13) else if s.size - (numS s).2.1 < (numS s).1 then (⟨#[]⟩, 0, 2)
  else (s.extract (numS s).2.1 ((numS s).2.1 + (numS s).1), (numS s).2.1 + (numS s).1, 0)) := rfl
 rw [ht]
 clear ht h
 revert hl hv Hc
 generalize numS s = x
 obtain ⟨n, k, er⟩ := x
 intro hl hv Hc
 dsimp only at hl hv Hc ⊢
 by_cases hr : er = 0
 case neg =>
  rw [if_pos hr]
  have hr1 : (er != 0) = true := by simpa using hr
  go_enter Tryz.func140, Tryz.ntmps140
  go_wp2_with fail
  refine Hc.out.mono ?_
  rintro e1 w1 ⟨rfl, rfl⟩
  go_wp2
  go_ret3
  exact ⟨rfl, rfl⟩
 subst hr
 rw [if_neg (by simp)]
 have hmn : decide (most < 0) = false := by simp; omega
 by_cases h1 : most < (n : Int)
 ·
  rw [if_pos h1]
  have h1' : decide (most < (n : Int)) = true := by simpa using h1
  go_enter Tryz.func140, Tryz.ntmps140
  go_wp2_with fail
  refine Hc.out.mono ?_
  rintro e1 w1 ⟨rfl, rfl⟩
  go_wp2
  go_ret3
  exact ⟨rfl, rfl⟩
 ·
  rw [if_neg h1]
  have h1' : decide (most < (n : Int)) = false := by simp; omega
  by_cases h2 : s.size - k < n
  ·
   rw [if_pos h2]
   have h2' : decide ((s.size : Int) - (k : Int) < (n : Int)) = true := by simp; omega
   go_enter Tryz.func140, Tryz.ntmps140
   go_wp2_with fail
   refine Hc.out.mono ?_
   rintro e1 w1 ⟨rfl, rfl⟩
   go_wp2
   go_ret3
   exact ⟨rfl, rfl⟩
  ·
   rw [if_neg h2]
   have h2' : decide ((s.size : Int) - (k : Int) < (n : Int)) = false := by simp; omega
   have h3 : n + k ≤ s.size := by omega
   have h4 : (k : Int) + (n : Int) ≤ (s.size : Int) := by omega
   have h5 : (k : Int) ≤ (k : Int) + (n : Int) := by omega
   go_enter Tryz.func140, Tryz.ntmps140
   go_wp2_with fail
   refine Hc.out.mono ?_
   rintro e1 w1 ⟨rfl, rfl⟩
   go_wp2
   go_ret3
   exact ⟨by push_cast; rfl, rfl⟩
theorem take_text (rb : Nat) (r : RdV) (w : World) (h : IsR 168 w rb r) (hs : r.s.size ≤ 140737488355328) (most : Int) (hm0 : 0 ≤ most) (hm1 : most ≤ 1000000) (pb mb : Nat)
  (hp : w.cell? ⟨pb, 0, none⟩ = some (.pointer (some ⟨rb, 0, none⟩))) (hmb : w.cell? ⟨mb, 0, none⟩ = some (.int .i64 most)) :
  Calls Tryz.prog 139 #[.pointer (some ⟨rb, 0, none⟩), .func (.func 140) #[] #[.pointer (some ⟨pb, 0, none⟩), .pointer (some ⟨mb, 0, none⟩)]] w
   fun e' w' => e' = .returned (.string (takeR ⟨#[]⟩ (textF most) r).1) ∧ IsR 168 w' rb (takeR ⟨#[]⟩ (textF most) r).2 ∧ Rb rb w w' := by
 obtain ⟨s, e⟩ := r
 have H := hid h
 have c0 := h.c0
 have c1 := h.c1
 have f0 := IsR.f 0 h
 have f1 := IsR.f 1 h
 dsimp only at c0 c1 hs
 have hn := textF_len most s
 have Hc := hid (textc_any rb s e w h hs most hm0 hm1 pb mb hp hmb)
 clear h
 by_cases he : e = 0
 ·
  subst he
  have ht : takeR ⟨#[]⟩ (textF most) ⟨s, 0⟩ = if (textF most s).2.2 = 0 then ((textF most s).1, ⟨s.extract (textF most s).2.1 s.size, 0⟩) else (⟨#[]⟩, ⟨s, (textF most s).2.2⟩) := rfl
  rw [ht]
  clear ht
  revert Hc hn
  generalize textF most s = x
  obtain ⟨v, n, er⟩ := x
  intro hn Hc
  dsimp only at Hc hn ⊢
  by_cases hr : er = 0
  ·
   subst hr
   rw [if_pos rfl]
   go_enter Tryz.func139, Tryz.ntmps139
   go_wp2_with fail
   refine Hc.out.mono ?_
   rintro e1 w1 ⟨rfl, rfl⟩
   go_wp2
   go_ret
   exact ⟨rfl, H.out.set0 _, Rb.set rb 0 _⟩
  ·
   rw [if_neg hr]
   have hr1 : (er != 0) = true := by simpa using hr
   go_enter Tryz.func139, Tryz.ntmps139
   go_wp2_with fail
   refine Hc.out.mono ?_
   rintro e1 w1 ⟨rfl, rfl⟩
   go_wp2
   go_ret
   exact ⟨rfl, H.out.set1 er, Rb.set rb 1 _⟩
 ·
  have ht : takeR ⟨#[]⟩ (textF most) ⟨s, e⟩ = (⟨#[]⟩, ⟨s, e⟩) := if_neg he
  rw [ht]
  have he1 : (e != 0) = true := by simpa using he
  go_enter Tryz.func139, Tryz.ntmps139
  go_wp2
  go_ret
  exact ⟨rfl, H.out, But.refl _ _⟩
theorem rdText_any (rb : Nat) (r : RdV) (w : World) (h : IsR 168 w rb r) (hs : r.s.size ≤ 140737488355328) (most : Int) (hm0 : 0 ≤ most) (hm1 : most ≤ 1000000) :
  Calls Tryz.prog 129 #[.pointer (some ⟨rb, 0, none⟩), .int .i64 most] w fun e' w' => e' = .returned (.string (textR most r).1) ∧ IsR 168 w' rb (textR most r).2 ∧ Rb rb w w' := by
 go_enter Tryz.func129, Tryz.ntmps129
 go_wp2_with fail
 have hb : Below w.heap.size w ((w.alloc (.cells #[.pointer (some ⟨rb, 0, none⟩)] 78)).alloc (.cells #[.int .i64 most] 3)) := ((Below.refl _ w).alloc (Nat.le_refl _) _).alloc (by simp) _
 have hp0 := alloc_new w (.cells #[.pointer (some ⟨rb, 0, none⟩)] 78)
 have hp := cell_of ((alloc_old (.cells #[.int .i64 most] 3) (heap_lt hp0)).trans hp0) 0
 have hm := cell_of (alloc_new2 w (.cells #[.pointer (some ⟨rb, 0, none⟩)] 78) (.cells #[.int .i64 most] 3)) 0
 clear hp0
 have H := hid (h.grow hb)
 clear h
 generalize (w.alloc (.cells #[.pointer (some ⟨rb, 0, none⟩)] 78)).alloc (.cells #[.int .i64 most] 3) = w1 at hb hp hm H ⊢
 refine (take_text rb r w1 H.out hs most hm0 hm1 w.heap.size (w.heap.size + 1) hp hm).mono ?_
 rintro e1 w2 ⟨rfl, h2, b2⟩
 have H2 := hid h2
 have B2 := hid ((But.of hb).trans (F := fun k => k = rb) b2)
 clear hb h2 b2
 go_wp2
 go_ret
 exact ⟨rfl, H2.out, B2.out⟩
end Go.Proofs.YthikijlbclckdaaGreat
namespace Go.Proofs.YthikijlbclckdaaGreat
set_option maxRecDepth 100000
set_option maxHeartbeats 40000000
set_option linter.unusedSimpArgs false
set_option linter.unusedVariables false
open Go.RowKit
theorem uintR_lt (r : RdV) : (uintR r).1 < 18446744073709551616 := by
 have := numS_val r.s
 unfold uintR takeR
 split
 ·
  split
  ·
   exact this
  ·
   show 0 < _; omega
 ·
  show 0 < _; omega
end Go.Proofs.YthikijlbclckdaaGreat
namespace Go.Proofs.YthikijlbclckdaaGreat
set_option maxRecDepth 100000
set_option maxHeartbeats 40000000
set_option linter.unusedSimpArgs false
set_option linter.unusedVariables false
open Go.RowKit
theorem uintR_e (r : RdV) : (uintR r).2.e = 0 → (r.e = 0 ∧ (numS r.s).2.2 = 0 ∧ uintR r = ((numS r.s).1, ⟨r.s.extract (numS r.s).2.1 r.s.size, 0⟩)) := by
 intro h
 unfold uintR takeR at h ⊢
 by_cases h1 : r.e = 0
 ·
  rw [if_pos h1] at h ⊢
  by_cases h2 : (numS r.s).2.2 = 0
  ·
   rw [if_pos h2] at h ⊢; exact ⟨h1, h2, rfl⟩
  ·
   rw [if_neg h2] at h; exact absurd h h2
 ·
  rw [if_neg h1] at h; exact absurd h h1
end Go.Proofs.YthikijlbclckdaaGreat
