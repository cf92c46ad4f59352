/- KeepReads: contracts (So Pt La Lb Lc Rn). -/
import Derived.Test.YthikijlbclckdaaGreatQ3
import Derived.Test.YthikijlbclckdaaGreatQ7
import Derived.Test.YthikijlbclckdaaGreatQ8
import Derived.Test.YthikijlbclckdaaGreatQ9
namespace Go.Proofs.YthikijlbclckdaaGreat
set_option maxRecDepth 100000
set_option maxHeartbeats 40000000
set_option linter.unusedSimpArgs false
set_option linter.unusedVariables false
open Go.RowKit
def TyF (base : Nat) (ts : List TypeId) (w : World) : Nat → Prop := fun b => ∃ cs t fr, w.heap[b]? = some (.cells cs t fr) ∧ t ∈ ts ∧ base ≤ b
abbrev TyBut (base : Nat) (ts : List TypeId) (w w' : World) : Prop := But (TyF base ts w) w w'
theorem TyBut.refl (base : Nat) (ts : List TypeId) (w : World) : TyBut base ts w w := But.refl _ w
theorem TyBut.trans {base : Nat} {ts : List TypeId} {a b c : World} (h : TyBut base ts a b) (k : TyBut base ts b c) : TyBut base ts a c :=
 h.trans' k (fun i hi hf => Classical.byContradiction fun hn => hn (by
  obtain ⟨cs, t, fr, h1, h2⟩ := hf
  exact ⟨cs, t, fr, by rw [← h.block i hi hn]; exact h1, h2⟩))
theorem TyBut.of {base : Nat} {ts : List TypeId} {w w' : World} (h : Below w.heap.size w w') : TyBut base ts w w' := But.of h
theorem TyBut.weak {base : Nat} {ts us : List TypeId} {w w' : World} (h : TyBut base ts w w') (hs : ∀ t ∈ ts, t ∈ us) : TyBut base us w w' :=
 h.mono (fun i _ ⟨cs, t, fr, h1, h2, h3⟩ => ⟨cs, t, fr, h1, hs t h2, h3⟩)
theorem TyBut.set {base : Nat} {ts : List TypeId} {w : World} {b : Nat} {cs : Array Value} {t : TypeId} {fr : Nat × Nat} (h : w.heap[b]? = some (.cells cs t fr)) (ht : t ∈ ts) (hb : base ≤ b) (i : Nat) (v : Value) : TyBut base ts w (w.setCell ⟨b, i, none⟩ v) :=
 But.setCell (F := TyF base ts w) (But.refl _ w) (p := ⟨b, i, none⟩) (fun _ => ⟨cs, t, fr, h, ht, hb⟩) v
theorem TyBut.rb {base : Nat} {ts : List TypeId} {w w' : World} {rb : Nat} {cs : Array Value} {t : TypeId} {fr : Nat × Nat} (h : w.heap[rb]? = some (.cells cs t fr)) (ht : t ∈ ts) (hbr : base ≤ rb) (hb : Rb rb w w') : TyBut base ts w w' :=
 hb.mono (fun i _ hi => by subst hi; exact ⟨cs, t, fr, h, ht, hbr⟩)
theorem TyBut.below {base : Nat} {ts : List TypeId} {w w' : World} (h : TyBut base ts w w') (hb : base ≤ w.heap.size) : Below base w w' :=
 ⟨h.os, h.tape, h.output, h.size, fun b hlt => h.block b (by omega) (fun ⟨_, _, _, _, _, h⟩ => by omega)⟩
theorem TyBut.at {base : Nat} {ts : List TypeId} {w w' : World} (h : TyBut base ts w w') {b : Nat} {cs : Array Value} {t : TypeId} {fr : Nat × Nat} (hb : w.heap[b]? = some (.cells cs t fr)) (ht : t ∉ ts) : w'.heap[b]? = some (.cells cs t fr) :=
 (h.block b (heap_lt hb) (fun ⟨cs2, t2, fr2, h1, h2, _⟩ => by rw [hb] at h1; cases h1; exact ht h2)).trans hb
theorem TyBut.atMap {base : Nat} {ts : List TypeId} {w w' : World} (h : TyBut base ts w w') {b : Nat} {o : Obj} (hb : w.heap[b]? = some o) (ho : ∀ cs t fr, o ≠ .cells cs t fr) : w'.heap[b]? = some o :=
 (h.block b (heap_lt hb) (fun ⟨cs2, t2, fr2, h1, h2, _⟩ => by rw [hb] at h1; cases h1; exact ho _ _ _ rfl)).trans hb
def CellsKept (ts : List TypeId) (w w' : World) : Prop := ∀ (b : Nat) (cs : Array Value) (t : TypeId) (fr : Nat × Nat), t ∉ ts → w.heap[b]? = some (.cells cs t fr) → w'.heap[b]? = some (.cells cs t fr)
theorem TyBut.kept {base : Nat} {ts : List TypeId} {w w' : World} (h : TyBut base ts w w') : CellsKept ts w w' := fun _ _ _ _ ht hb => h.at hb ht
theorem CellsKept.own' {ts : List TypeId} {w w' : World} {base e size n : Nat} {v : Value} {vs : List Value} (hb : CellsKept ts w w') (h : w.ownsRow base e size v n vs) (ht : e ∉ ts) : w'.ownsRow base e size v n vs := by
 refine ⟨h.1, ?_⟩
 rcases h.2 with hn | ⟨g, cap, cur, rfl, hbg, hg, r⟩
 ·
  exact .inl hn
 ·
  exact .inr ⟨g, cap, cur, rfl, hbg, hb _ _ _ _ ht hg, r⟩
def LOwn {α : Type} (R : World → Nat → List Value → α → Prop) (e : TypeId) (size : Nat) (w : World) (base : Nat) (v : Value) (l : List α) : Prop :=
 ∃ css : List (List Value), css.length = l.length ∧ (∀ cs ∈ css, cs.length = size ∧ ∀ u ∈ cs, u.oneCell' = true) ∧ (∀ (i : Nat) cs x, css[i]? = some cs → l[i]? = some x → R w base cs x) ∧ w.ownsRow base e size v l.length css.flatten
def RSt {α : Type} (R : World → Nat → List Value → α → Prop) : Prop := ∀ ts w w' base cs x, 177 ∉ ts → 22 ∉ ts → R w base cs x → CellsKept ts w w' → R w' base cs x
theorem LOwn.kept {α : Type} {R : World → Nat → List Value → α → Prop} {e : TypeId} {size : Nat} {ts : List TypeId} {w w' : World} {base : Nat} {v : Value} {l : List α} (hR : RSt R) (h : LOwn R e size w base v l) (hb : CellsKept ts w w') (h1 : 177 ∉ ts) (h2 : 22 ∉ ts) (h3 : e ∉ ts) : LOwn R e size w' base v l := by
 obtain ⟨css, a1, a2, a3, a4⟩ := h
 exact ⟨css, a1, a2, fun i cs x hc hx => hR _ _ _ _ _ _ h1 h2 (a3 i cs x hc hx) hb, hb.own' a4 h3⟩
theorem LOwn.keep {α : Type} {R : World → Nat → List Value → α → Prop} {e : TypeId} {size : Nat} {b0 : Nat} {ts : List TypeId} {w w' : World} {base : Nat} {v : Value} {l : List α} (hR : RSt R) (h : LOwn R e size w base v l) (hb : TyBut b0 ts w w') (h1 : 177 ∉ ts) (h2 : 22 ∉ ts) (h3 : e ∉ ts) : LOwn R e size w' base v l :=
 h.kept hR hb.kept h1 h2 h3
theorem LOwn.nil {α : Type} (R : World → Nat → List Value → α → Prop) (e : TypeId) (size : Nat) (w : World) (base : Nat) : LOwn R e size w base (.slice none 0 0) [] :=
 ⟨[], rfl, fun cs h => by simp at h, fun i cs x h => by simp at h, ⟨by simp, .inl ⟨rfl, rfl⟩⟩⟩
theorem LOwn.snoc {α : Type} {R : World → Nat → List Value → α → Prop} {e : TypeId} {size : Nat} {w' : World} {base : Nat} {v' : Value} {l : List α} {css : List (List Value)} {cs : List Value} {x : α}
  (a1 : css.length = l.length) (a2 : ∀ cs ∈ css, cs.length = size ∧ ∀ u ∈ cs, u.oneCell' = true) (a3 : ∀ (i : Nat) cs x, css[i]? = some cs → l[i]? = some x → R w' base cs x)
  (hcs : cs.length = size ∧ ∀ u ∈ cs, u.oneCell' = true) (hx : R w' base cs x) (ho : w'.ownsRow base e size v' (l.length + 1) (css.flatten ++ cs)) : LOwn R e size w' base v' (l ++ [x]) := by
 refine ⟨css ++ [cs], by simp [a1], ?_, ?_, by simpa using ho⟩
 ·
  intro c hc
  rcases List.mem_append.1 hc with h | h
  ·
   exact a2 c h
  ·
   rw [List.mem_singleton] at h; subst h; exact hcs
 ·
  intro i c y hc hy
  rcases Nat.lt_or_ge i l.length with h | h
  ·
   rw [List.getElem?_append_left (by omega)] at hc hy
   exact a3 i c y hc hy
  ·
   rw [List.getElem?_append_right (by omega)] at hc hy
   have : i - l.length = 0 := by
    have := (List.getElem?_eq_some_iff.1 hy).1
    simp at this; omega
   rw [this] at hy
   rw [a1, this] at hc
   simp at hc hy
   subst hc hy
   exact hx
def DepV.ow (_ : World) (_ : Nat) (cs : List Value) (x : DepV) : Prop := cs = [.string x.id, .string x.bytes]
def InstV.ow (w : World) (base : Nat) (cs : List Value) (x : InstV) : Prop := ∃ v, cs = [U x.key, .string x.id, v] ∧ VarsOwn w base v x.vars
def TokV.ow (_ : World) (_ : Nat) (cs : List Value) (x : TokV) : Prop := cs = [U x.key, U x.inst, U x.scope, I x.node, I x.by_, .string x.stuck]
def JobV.ow (_ : World) (_ : Nat) (cs : List Value) (x : JobV) : Prop := cs = [U x.key, U x.token, .string x.type, I x.retries, .string x.worker, I x.till]
def TimV.ow (_ : World) (_ : Nat) (cs : List Value) (x : TimV) : Prop := cs = [U x.token, I x.node, I x.when_]
def SubV.ow (_ : World) (_ : Nat) (cs : List Value) (x : SubV) : Prop := cs = [U x.token, U x.inst, I x.node, .string x.name, .string x.key, .bool x.is]
def KeptV.ow (_ : World) (_ : Nat) (cs : List Value) (x : KeptV) : Prop := cs = [U x.token, U x.msg, I x.node]
def LisV.ow (w : World) (base : Nat) (cs : List Value) (x : LisV) : Prop := ∃ v, cs = [U x.token, U x.inst, I x.node, .string x.name, .string x.key, U x.msg, v] ∧ VarsOwn w base v x.vars
def NatsOwn (w : World) (base : Nat) (v : Value) (l : List Nat) : Prop := w.ownsRow base 22 1 v l.length (natsV l)
def MsgV.ow (w : World) (base : Nat) (cs : List Value) (x : MsgV) : Prop := ∃ v u, cs = [U x.key, .string x.name, .string x.for_, .string x.id, I x.till, v, u] ∧ VarsOwn w base v x.vars ∧ NatsOwn w base u x.insts
theorem DepV.ost : RSt DepV.ow := fun _ _ _ _ _ _ _ _ h _ => h
theorem TokV.ost : RSt TokV.ow := fun _ _ _ _ _ _ _ _ h _ => h
theorem JobV.ost : RSt JobV.ow := fun _ _ _ _ _ _ _ _ h _ => h
theorem TimV.ost : RSt TimV.ow := fun _ _ _ _ _ _ _ _ h _ => h
theorem SubV.ost : RSt SubV.ow := fun _ _ _ _ _ _ _ _ h _ => h
theorem KeptV.ost : RSt KeptV.ow := fun _ _ _ _ _ _ _ _ h _ => h
theorem InstV.ost : RSt InstV.ow := fun _ _ _ _ _ _ h1 _ h hb => by obtain ⟨v, a, b⟩ := h; exact ⟨v, a, hb.own' b h1⟩
theorem LisV.ost : RSt LisV.ow := fun _ _ _ _ _ _ h1 _ h hb => by obtain ⟨v, a, b⟩ := h; exact ⟨v, a, hb.own' b h1⟩
theorem MsgV.ost : RSt MsgV.ow := fun _ _ _ _ _ _ h1 h2 h hb => by obtain ⟨v, u, a, b, c⟩ := h; exact ⟨v, u, a, hb.own' b h1, hb.own' c h2⟩
structure ListsOwn (w : World) (base : Nat) (s : StateV) (vp vi vt vj vr vs vk vl vm : Value) : Prop where
 procs : LOwn DepV.ow 95 2 w base vp s.procs
 insts : LOwn InstV.ow 103 3 w base vi s.insts
 tokens : LOwn TokV.ow 105 6 w base vt s.tokens
 jobs : LOwn JobV.ow 107 6 w base vj s.jobs
 timers : LOwn TimV.ow 109 3 w base vr s.timers
 subs : LOwn SubV.ow 111 6 w base vs s.subs
 kept : LOwn KeptV.ow 113 3 w base vk s.kept
 listed : LOwn LisV.ow 115 7 w base vl s.listed
 msgs : LOwn MsgV.ow 118 7 w base vm s.msgs
def listTs : List TypeId := [95, 103, 105, 107, 109, 111, 113, 115, 118]
theorem ListsOwn.keepC {ts : List TypeId} {w w' : World} {base : Nat} {s : StateV} {vp vi vt vj vr vs vk vl vm : Value} (h : ListsOwn w base s vp vi vt vj vr vs vk vl vm) (hb : CellsKept ts w w') (h1 : 177 ∉ ts) (h2 : 22 ∉ ts) (h3 : ∀ e ∈ listTs, e ∉ ts) : ListsOwn w' base s vp vi vt vj vr vs vk vl vm :=
 ⟨h.procs.kept DepV.ost hb h1 h2 (h3 _ (by simp [listTs])), h.insts.kept InstV.ost hb h1 h2 (h3 _ (by simp [listTs])), h.tokens.kept TokV.ost hb h1 h2 (h3 _ (by simp [listTs])), h.jobs.kept JobV.ost hb h1 h2 (h3 _ (by simp [listTs])), h.timers.kept TimV.ost hb h1 h2 (h3 _ (by simp [listTs])), h.subs.kept SubV.ost hb h1 h2 (h3 _ (by simp [listTs])), h.kept.kept KeptV.ost hb h1 h2 (h3 _ (by simp [listTs])), h.listed.kept LisV.ost hb h1 h2 (h3 _ (by simp [listTs])), h.msgs.kept MsgV.ost hb h1 h2 (h3 _ (by simp [listTs]))⟩
theorem ListsOwn.keep {b0 : Nat} {ts : List TypeId} {w w' : World} {base : Nat} {s : StateV} {vp vi vt vj vr vs vk vl vm : Value} (h : ListsOwn w base s vp vi vt vj vr vs vk vl vm) (hb : TyBut b0 ts w w') (h1 : 177 ∉ ts) (h2 : 22 ∉ ts) (h3 : ∀ e ∈ listTs, e ∉ ts) : ListsOwn w' base s vp vi vt vj vr vs vk vl vm :=
 h.keepC hb.kept h1 h2 h3
theorem flat_at {size : Nat} : ∀ (css : List (List Value)), (∀ cs ∈ css, cs.length = size) → ∀ (i : Nat) (cs : List Value), css[i]? = some cs → ∀ (j : Nat) (u : Value), cs[j]? = some u → css.flatten[i * size + j]? = some u
 | [], _, i, cs, h => by simp at h
 | c :: css, hs, i, cs, h => by
  intro j u hu
  have hj : j < cs.length := (List.getElem?_eq_some_iff.1 hu).1
  cases i with
  | zero =>
   simp at h; subst h
   simp only [List.flatten_cons, Nat.zero_mul, Nat.zero_add]
   rw [List.getElem?_append_left hj]; exact hu
  | succ i =>
   have hc := hs c List.mem_cons_self
   have h1 := flat_at css (fun d hd => hs d (List.mem_cons_of_mem _ hd)) i cs (by simpa using h) j u hu
   simp only [List.flatten_cons]
   rw [List.getElem?_append_right (by rw [hc, Nat.add_mul]; omega), hc]
   rw [show (i + 1) * size + j - size = i * size + j by rw [Nat.add_mul]; omega]
   exact h1
theorem LOwn.list {α : Type} {R : World → Nat → List Value → α → Prop} {R' : World → List Value → α → Prop} {e : TypeId} {size : Nat} {w : World} {base : Nat} {v : Value} {l : List α} (hR : ∀ cs x, x ∈ l → R w base cs x → R' w cs x) (h : LOwn R e size w base v l) : ListAt R' size w v l := by
 obtain ⟨css, a1, a2, a3, a4⟩ := h
 rcases a4.2 with ⟨rfl, h0⟩ | ⟨g, cap, cur, rfl, hbg, hg, hnc, hcm, hcur, htake⟩
 ·
  have e := List.eq_nil_of_length_eq_zero h0
  subst e
  exact ⟨none, 0, rfl, Nat.le_refl _, by simp [maxLen], fun i x hx => by simp at hx⟩
 ·
  refine ⟨some ⟨g, 0, none⟩, cap, rfl, hnc, by omega, fun i x hx => ?_⟩
  have hi : i < l.length := (List.getElem?_eq_some_iff.1 hx).1
  have hc : css[i]? = some css[i] := List.getElem?_eq_getElem _
  refine ⟨g, 0, css[i], rfl, (a2 _ (List.getElem_mem _)).1, hR _ _ (List.mem_of_getElem? hx) (a3 i _ x hc hx), fun j u hu => ?_⟩
  have hf := flat_at css (fun c h => (a2 c h).1) i _ hc j u hu
  rw [Nat.zero_add, cell_of hg]
  rw [← htake, List.getElem?_take] at hf
  split at hf
  ·
   simpa using hf
  ·
   cases hf
theorem NatsOwn.slr {w : World} {base : Nat} {v : Value} {l : List Nat} (h : NatsOwn w base v l) : SlR w v (natsV l) := SlR.of_own h
theorem ListsOwn.at {w : World} {base : Nat} {s : StateV} {vp vi vt vj vr vs vk vl vm : Value} (h : ListsOwn w base s vp vi vt vj vr vs vk vl vm) (hv : ∀ x ∈ s.insts, x.vars.length ≤ 16) (hv2 : ∀ x ∈ s.listed, x.vars.length ≤ 16) (hv3 : ∀ x ∈ s.msgs, x.vars.length ≤ 16) :
  StateAt w [U s.pos, U s.done, U s.made, vp, vi, vt, vj, vr, vs, vk, vl, vm] s vp vi vt vj vr vs vk vl vm := by
 have big : ∀ {n : Nat}, n ≤ 16 → n ≤ 140737488355328 := fun h => by omega
 exact ⟨rfl, h.procs.list (fun _ _ _ h => h), h.insts.list (fun _ x hx h => by obtain ⟨v, a, b⟩ := h; exact ⟨v, a, b.vars (big (hv x hx))⟩), h.tokens.list (fun _ _ _ h => h), h.jobs.list (fun _ _ _ h => h), h.timers.list (fun _ _ _ h => h), h.subs.list (fun _ _ _ h => h), h.kept.list (fun _ _ _ h => h),
  h.listed.list (fun _ x hx h => by obtain ⟨v, a, b⟩ := h; exact ⟨v, a, b.vars (big (hv2 x hx))⟩), h.msgs.list (fun _ x hx h => by obtain ⟨v, u, a, b, c⟩ := h; exact ⟨v, u, a, b.vars (big (hv3 x hx)), c.slr⟩)⟩
end Go.Proofs.YthikijlbclckdaaGreat
namespace Go.Proofs.YthikijlbclckdaaGreat.Ps
set_option maxRecDepth 100000
set_option maxHeartbeats 40000000
set_option linter.unusedSimpArgs false
set_option linter.unusedVariables false
open Go.RowKit
def rowN (size n : Nat) (vs : List Value) (B : Nat) : Value → World → Prop := fun u w => FlatAt size w u n vs ∧ ∀ a m c, u = .slice (some a) m c → B ≤ a.block
section
variable {P : Program} {ops : Array Oper} {Q : Exit → Act → World → Prop} {F0 : Nat → Prop} {S : Nat → Nat → Prop} {W0 : World} {tl : List Oper} {i : Nat} {o : Oper} {L : List Sp} {Φ : List (Nat × (World → Prop))} {R : World → Prop} {a : Act} {a' : Value → Act}
theorem par_row {size n m : Nat} {T : TypeId} {vs cs : List Value} {r : World → Result Next} (hF : ∀ b, F0 b → b < W0.heap.size) (ho : ops.toList[i]? = some o) (hw : Region.wanted o (yielded ops a.tmps) = true)
  (h : ∀ w, (relC F0 S).G W0 w → Need ops i Φ w → (execOp a.eval o).run P w = r w) (hrr : ∀ w, r w = .ok (.value (.slice (some ⟨w.heap.size, 0, none⟩) m m)) (w.alloc (.cells cs.toArray T)))
  (hn : n = m) (hvs : vs = cs) (hl : cs.length = m * size) (hm : m ≤ maxLen) (ha : ∀ u, a.put o.dst u = a' u)
  (hr : ∀ u, ParOk P ops Q (relC F0 S) W0 tl (number (i + 1) L) ((i, rowN size n vs W0.heap.size u) :: Φ) R (a' u)) : ParOk P ops Q (relC F0 S) W0 tl (number i (.new (rowN size n vs W0.heap.size) :: L)) Φ R a := by
 subst hn hvs
 refine par_new ho (fun u w w' hf hb => ⟨FlatAt.but hf.1 hb.1 (fun a m c he hh => by have := hf.2 a m c he; have := hF _ hh; omega), hf.2⟩) (fun w hb hn K hK => ?_) ha hr
 rw [if_pos hw]
 unfold Oper.wp
 rw [h w hb hn, hrr w]
 refine hK _ _ ⟨FlatAt.made w _ T hl hm, fun a m c he => ?_⟩ ((Below.refl _ w).alloc (Nat.le_refl _) _)
 cases he
 exact hb.1.size
theorem need_head {x : Nat × (World → Prop)} {Φ : List (Nat × (World → Prop))} {w : World} (hn : Need ops i (x :: Φ) w) (he : edge ops i x.1 = true) : x.2 w := hn x List.mem_cons_self he
def boxN (cs : Array Value) (T : TypeId) (B : Nat) : Value → World → Prop := fun u w => ∃ g, u = .pointer (some ⟨g, 0, none⟩) ∧ B ≤ g ∧ w.heap[g]? = some (.cells cs T (0, 0))
theorem par_box {cs : Array Value} {T : TypeId} {r : World → Result Next} (hF : ∀ b, F0 b → b < W0.heap.size) (ho : ops.toList[i]? = some o) (hw : Region.wanted o (yielded ops a.tmps) = true)
  (h : ∀ w, (relC F0 S).G W0 w → Need ops i Φ w → (execOp a.eval o).run P w = r w) (hrr : ∀ w, r w = .ok (.value (.pointer (some ⟨w.heap.size, 0, none⟩))) (w.alloc (.cells cs T))) (ha : ∀ u, a.put o.dst u = a' u)
  (hr : ∀ u, ParOk P ops Q (relC F0 S) W0 tl (number (i + 1) L) ((i, boxN cs T W0.heap.size u) :: Φ) R (a' u)) : ParOk P ops Q (relC F0 S) W0 tl (number i (.new (boxN cs T W0.heap.size) :: L)) Φ R a := by
 refine par_new ho (fun u w w' hf hb => ?_) (fun w hb hn K hK => ?_) ha hr
 ·
  obtain ⟨g, h1, h2, h3⟩ := hf
  exact ⟨g, h1, h2, (hb.1.block g (heap_lt h3) (fun hh => by have := hF _ hh; omega)).trans h3⟩
 ·
  rw [if_pos hw]
  unfold Oper.wp
  rw [h w hb hn, hrr w]
  exact hK _ _ ⟨w.heap.size, rfl, hb.1.size, alloc_new _ _⟩ ((Below.refl _ w).alloc (Nat.le_refl _) _)
theorem par_app {A : World → Prop} (t e : TypeId) {z : Value} {size bytes : Nat} (ht : P.underlying t = some (.slice e))
  (hinfo : (P.info? e).map (fun i => (i.zero, i.size, i.bytes)) = some (some z, size, bytes)) (hzs : z.cells.size = size) (hsz : 0 < size)
  {base n m : Nat} {v x : Value} {xs cs : List Value} (hbase : base ≤ W0.heap.size) (hn : n + m ≤ maxLen) (hby : (n + m) * bytes ≤ 140737488355328) (h1 : ∀ u ∈ cs, u.oneCell' = true)
  (hA1 : ∀ w w', A w → w.ownsRow base e size v n xs → But (ownB v) w w' → A w') (hA2 : ∀ w w', A w → Below w.heap.size w w' → A w') (hFv : ∀ b, ownB v b → F0 b) (hSv : ∀ b i, S b i → ¬ ownB v b)
  (ho : ops.toList[i]? = some o) {s x' : Operand} (hgd : o.guard = none) (hop : o.op = .call { callee := .builtin .append, args := #[s, x'], argTypes := #[t, t] }) (hs : a.eval s = v) (hx' : a.eval x' = x)
  (hx : ∀ w, (relC F0 S).G W0 w → Need ops i Φ w → FlatAt size w x m cs) (ha : ∀ u, a.put o.dst u = a' u)
  (hr : ∀ u, shOk (some (n + m)) u → ParOk P ops Q (relC F0 S) W0 tl (number (i + 1) L) ((i, fun _ => True) :: Φ) (fun w => A w ∧ w.ownsRow base e size u (n + m) (xs ++ cs)) (a' u)) :
  ParOk P ops Q (relC F0 S) W0 tl (number i (.st (some (n + m)) (fun _ _ => True) (fun u w => A w ∧ w.ownsRow base e size u (n + m) (xs ++ cs)) :: L)) Φ (fun w => A w ∧ w.ownsRow base e size v n xs) a := by
 refine par_str ho (by simp [Region.wanted, hgd]) (fun _ _ _ _ _ => trivial) (fun u w w' h hb => ⟨hA2 w w' h.1 hb, own_at (F := fun _ => False) h.2 (But.of hb) (fun _ _ => id)⟩) (fun w hb hnd hR => ?_) ha hr
 obtain ⟨hA, hown⟩ := hR
 obtain ⟨v', w', hrun, h2, h3, -⟩ := run_app_k (P := P) t e o.type ht hinfo hzs hsz hown (Nat.le_trans hbase hb.1.size) (hx w hb hnd) hn hby h1
 refine ⟨v', w', ?_, own_slice h2, trivial, ⟨h3.mono (fun b _ h => hFv b h), fun b i u hs hc => But.cell h3 hc (hSv b i hs)⟩, hA1 _ _ hA hown h3, h2⟩
 unfold execOp
 simp only [hop, resolve, invoke, builtin, Sem.run_bind, Sem.run_pure, Result.andThen_ok, List.map_toArray, List.map_cons, List.map_nil, hs, hx', hrun]
theorem par_val {F : Value → World → Prop} (ho : ops.toList[i]? = some o) (hw : Region.wanted o (yielded ops a.tmps) = true) (hs : ∀ u w w', F u w → (relC F0 S).G w w' → F u w')
  (h : ∀ w, (relC F0 S).G W0 w → Need ops i Φ w → ∃ u w', (execOp a.eval o).run P w = .ok (.value u) w' ∧ F u w' ∧ Below w.heap.size w w') (ha : ∀ u, a.put o.dst u = a' u)
  (hr : ∀ u, ParOk P ops Q (relC F0 S) W0 tl (number (i + 1) L) ((i, F u) :: Φ) R (a' u)) : ParOk P ops Q (relC F0 S) W0 tl (number i (.new F :: L)) Φ R a := by
 refine par_new ho hs (fun w hb hn K hK => ?_) ha hr
 rw [if_pos hw]
 unfold Oper.wp
 obtain ⟨u, w', he, hf, hb'⟩ := h w hb hn
 rw [he]
 exact hK u w' hf hb'
theorem par_appE {A : World → Prop} {Pc : List Value → World → Prop} (t e : TypeId) {z : Value} {size bytes : Nat} (ht : P.underlying t = some (.slice e))
  (hinfo : (P.info? e).map (fun i => (i.zero, i.size, i.bytes)) = some (some z, size, bytes)) (hzs : z.cells.size = size) (hsz : 0 < size)
  {base n m : Nat} {v x : Value} {xs : List Value} (hbase : base ≤ W0.heap.size) (hn : n + m ≤ maxLen) (hby : (n + m) * bytes ≤ 140737488355328)
  (hA1 : ∀ w w', A w → w.ownsRow base e size v n xs → But (ownB v) w w' → A w') (hA2 : ∀ w w', A w → Below w.heap.size w w' → A w') (hP1 : ∀ cs w w', (relC F0 S).G W0 w → Pc cs w → w.ownsRow base e size v n xs → But (ownB v) w w' → Pc cs w') (hP2 : ∀ cs w w', Pc cs w → Below w.heap.size w w' → Pc cs w')
  (hFv : ∀ b, ownB v b → F0 b) (hSv : ∀ b i, S b i → ¬ ownB v b)
  (ho : ops.toList[i]? = some o) {s x' : Operand} (hgd : o.guard = none) (hop : o.op = .call { callee := .builtin .append, args := #[s, x'], argTypes := #[t, t] }) (hs : a.eval s = v) (hx' : a.eval x' = x)
  (hx : ∀ w, (relC F0 S).G W0 w → Need ops i Φ w → ∃ cs, Pc cs w ∧ FlatAt size w x m cs ∧ ∀ u ∈ cs, u.oneCell' = true) (ha : ∀ u, a.put o.dst u = a' u)
  (hr : ∀ u, shOk (some (n + m)) u → ParOk P ops Q (relC F0 S) W0 tl (number (i + 1) L) ((i, fun _ => True) :: Φ) (fun w => A w ∧ ∃ cs, Pc cs w ∧ w.ownsRow base e size u (n + m) (xs ++ cs)) (a' u)) :
  ParOk P ops Q (relC F0 S) W0 tl (number i (.st (some (n + m)) (fun _ _ => True) (fun u w => A w ∧ ∃ cs, Pc cs w ∧ w.ownsRow base e size u (n + m) (xs ++ cs)) :: L)) Φ (fun w => A w ∧ w.ownsRow base e size v n xs) a := by
 refine par_str ho (by simp [Region.wanted, hgd]) (fun _ _ _ _ _ => trivial) (fun u w w' h hb => ⟨hA2 w w' h.1 hb, by obtain ⟨cs, hp, ho⟩ := h.2; exact ⟨cs, hP2 cs w w' hp hb, own_at (F := fun _ => False) ho (But.of hb) (fun _ _ => id)⟩⟩) (fun w hb hnd hR => ?_) ha hr
 obtain ⟨hA, hown⟩ := hR
 obtain ⟨cs, hp, hfl, h1⟩ := hx w hb hnd
 obtain ⟨v', w', hrun, h2, h3, -⟩ := run_app_k (P := P) t e o.type ht hinfo hzs hsz hown (Nat.le_trans hbase hb.1.size) hfl hn hby h1
 refine ⟨v', w', ?_, own_slice h2, trivial, ⟨h3.mono (fun b _ h => hFv b h), fun b i u hs hc => But.cell h3 hc (hSv b i hs)⟩, hA1 _ _ hA hown h3, cs, hP1 cs w w' hb hp hown h3, h2⟩
 unfold execOp
 simp only [hop, resolve, invoke, builtin, Sem.run_bind, Sem.run_pure, Result.andThen_ok, List.map_toArray, List.map_cons, List.map_nil, hs, hx', hrun]
end
end Go.Proofs.YthikijlbclckdaaGreat.Ps
namespace Go.Proofs.YthikijlbclckdaaGreat
set_option maxRecDepth 100000
set_option maxHeartbeats 40000000
set_option linter.unusedSimpArgs false
set_option linter.unusedVariables false
open Go.RowKit
def TakAt (w : World) (xb sb rb : Nat) (k : Nat) (node : Int) (id : ByteArray) (odd : Bool) : Prop :=
 w.heap[xb]? = some (.cells #[.pointer (some ⟨sb, 0, none⟩), .int .u64 k, .int .i64 node, .string id, .pointer (some ⟨rb, 0, none⟩), .bool odd] 81 (0, 0))
def StB (w : World) (base sb : Nat) (s : StateV) : Prop :=
 ∃ vp vi vt vj vr vs vk vl vm, w.heap[sb]? = some (.cells #[U s.pos, U s.done, U s.made, vp, vi, vt, vj, vr, vs, vk, vl, vm] 33 (0, 0)) ∧ ListsOwn w base s vp vi vt vj vr vs vk vl vm
def letTs : List TypeId := 33 :: 168 :: 81 :: listTs
theorem ty_ne {w : World} {a b : Nat} {cs ds : Array Value} {s t : TypeId} {fr fs : Nat × Nat} (h : w.heap[a]? = some (.cells cs s fr)) (k : w.heap[b]? = some (.cells ds t fs)) (hn : s ≠ t) : a ≠ b := by
 rintro rfl
 rw [h] at k
 cases k
 exact hn rfl
theorem own_ne {w : World} {base e size n b : Nat} {v : Value} {vs : List Value} {cs : Array Value} {t : TypeId} {fr : Nat × Nat} (h : w.ownsRow base e size v n vs) (k : w.heap[b]? = some (.cells cs t fr)) (hn : e ≠ t) : ¬ ownB v b := by
 rcases h.2 with ⟨rfl, -⟩ | ⟨g, cap, cur, rfl, -, hg, -⟩
 ·
  intro h; cases h
 ·
  intro hb
  simp only [ownB, Value.ownBlock, Option.some.injEq] at hb
  exact ty_ne hg k hn hb
theorem own_ty {w : World} {base e size n i : Nat} {v : Value} {vs : List Value} {ts : List TypeId} (h : w.ownsRow base e size v n vs) (ht : e ∈ ts) (hi : ownB v i) : TyF base ts w i := by
 rcases h.2 with ⟨rfl, -⟩ | ⟨g, cap, cur, rfl, hbg, hg, -⟩
 ·
  cases hi
 ·
  simp only [ownB, Value.ownBlock, Option.some.injEq] at hi
  subst hi
  exact ⟨_, _, _, hg, ht, hbg⟩
theorem own_lt {w : World} {base e size n : Nat} {v : Value} {vs : List Value} (h : w.ownsRow base e size v n vs) : ∀ b, ownB v b → b < w.heap.size := fun b hb => (h.lt b hb).2
end Go.Proofs.YthikijlbclckdaaGreat
namespace Go.Proofs.YthikijlbclckdaaGreat
set_option maxRecDepth 100000
set_option maxHeartbeats 40000000
set_option linter.unusedSimpArgs false
set_option linter.unusedVariables false
open Go.RowKit
structure Stp where
 s : StateV
 r : RdV
 bad : Bool
def instsL : Nat → RdV → List Nat → List Nat × RdV
 | 0, r, l => (l, r)
 | n + 1, r, l => if r.e = 0 then instsL n (uintR r).2 (l ++ [(uintR r).1]) else (l, r)
def takeInsts (r : RdV) : List Nat × RdV := instsL (uintR r).1 (uintR r).2 []
def varsOf (r : RdV) : List VarV := (takeVars r).1.getD []
def varsBad (r : RdV) : Bool := !(takeVars r).1.isSome
def stepA (s : StateV) (r : RdV) : Stp := ⟨{ s with pos := (uintR r).1, done := (uintR (uintR r).2).1, made := (uintR (uintR (uintR r).2).2).1 }, (uintR (uintR (uintR r).2).2).2, false⟩
def stepG (k : Nat) (s : StateV) (r : RdV) : Stp :=
 let a := textR 16384 r
 let b := textR 16384 a.2
 let c := textR 16384 b.2
 let d := intR c.2
 let e := takeInsts (takeVars d.2).2
 ⟨{ s with msgs := s.msgs ++ [⟨k, a.1, b.1, c.1, d.1, varsOf d.2, e.1⟩] }, e.2, varsBad d.2⟩
def stepI (k : Nat) (s : StateV) (r : RdV) : Stp :=
 let a := textR 16384 r
 ⟨{ s with insts := s.insts ++ [⟨k, a.1, varsOf a.2⟩] }, (takeVars a.2).2, varsBad a.2⟩
def stepJ (k : Nat) (s : StateV) (r : RdV) : Stp :=
 let a := uintR r
 let b := textR 16384 a.2
 let c := intR b.2
 let d := textR 16384 c.2
 let e := intR d.2
 ⟨{ s with jobs := s.jobs ++ [⟨k, a.1, b.1, c.1, d.1, e.1⟩] }, e.2, false⟩
def stepK (k : Nat) (node : Int) (s : StateV) (r : RdV) : Stp :=
 let a := uintR r
 ⟨{ s with kept := s.kept ++ [⟨k, a.1, node⟩] }, a.2, false⟩
def stepL (k : Nat) (node : Int) (s : StateV) (r : RdV) : Stp :=
 let a := uintR r
 let b := textR 16384 a.2
 let c := textR 16384 b.2
 let d := uintR c.2
 ⟨{ s with listed := s.listed ++ [⟨k, a.1, node, b.1, c.1, d.1, varsOf d.2⟩] }, (takeVars d.2).2, varsBad d.2⟩
def stepP (id : ByteArray) (s : StateV) (r : RdV) : Stp :=
 let a := textR 16384 r
 ⟨{ s with procs := s.procs ++ [⟨id, a.1⟩] }, a.2, false⟩
def stepR (k : Nat) (node : Int) (s : StateV) (r : RdV) : Stp :=
 let a := intR r
 ⟨{ s with timers := s.timers ++ [⟨k, node, a.1⟩] }, a.2, false⟩
def stepS (k : Nat) (node : Int) (s : StateV) (r : RdV) : Stp :=
 let a := uintR r
 let b := textR 16384 a.2
 let c := textR 16384 b.2
 let d := intR c.2
 ⟨{ s with subs := s.subs ++ [⟨k, a.1, node, b.1, c.1, d.1 == 1⟩] }, d.2, d.1 != 0 && d.1 != 1⟩
def stepT (k : Nat) (s : StateV) (r : RdV) : Stp :=
 let a := uintR r
 let b := uintR a.2
 let c := intR b.2
 let d := intR c.2
 let e := textR 16384 d.2
 ⟨{ s with tokens := s.tokens ++ [⟨k, a.1, b.1, c.1, d.1, e.1⟩] }, e.2, false⟩
theorem intR_in (r : RdV) : -9223372036854775808 ≤ (intR r).1 ∧ (intR r).1 ≤ 9223372036854775807 := sgn_in (uintR_lt r)
theorem uintR_size (r : RdV) : (uintR r).2.s.size ≤ r.s.size := takeR_size _ _ _
theorem intR_size (r : RdV) : (intR r).2.s.size ≤ r.s.size := takeR_size _ _ _
theorem textR_sz (m : Int) (r : RdV) : (textR m r).2.s.size ≤ r.s.size := takeR_size _ _ _
theorem varsL_size : ∀ (n : Nat) (r : RdV) (l : List VarV), (varsL n r l).2.s.size ≤ r.s.size
 | 0, r, l => Nat.le_refl _
 | n + 1, r, l => by
  have h1 : (takeV (textR 32 r).2).2.s.size ≤ r.s.size := Nat.le_trans (takeV_size _) (textR_sz 32 r)
  simp only [varsL]
  split
  ·
   exact Nat.le_trans (varsL_size n _ _) h1
  ·
   exact h1
theorem takeVars_size (r : RdV) : (takeVars r).2.s.size ≤ r.s.size := by
 have h1 := uintR_size r
 have h2 := varsL_size (uintR r).1 (uintR r).2 []
 unfold takeVars
 split
 ·
  exact h1
 ·
  split
  ·
   rename_i h
   rw [h] at h2
   split <;> exact Nat.le_trans h2 h1
  ·
   rename_i h
   rw [h] at h2
   exact Nat.le_trans h2 h1
theorem TakAt.c {w : World} {xb sb rb k : Nat} {node : Int} {id : ByteArray} {odd : Bool} (h : TakAt w xb sb rb k node id odd) : w.cell? ⟨xb, 4, none⟩ = some (.pointer (some ⟨rb, 0, none⟩)) := cell_of h 4
theorem takText_any (xb sb rb k : Nat) (node : Int) (id : ByteArray) (odd : Bool) (r : RdV) (w : World) (hx : TakAt w xb sb rb k node id odd) (hr : IsR 168 w rb r) (hsz : r.s.size ≤ 140737488355328) :
  Calls Tryz.prog 89 #[.pointer (some ⟨xb, 0, none⟩)] w fun e w' => e = .returned (.string (textR 16384 r).1) ∧ IsR 168 w' rb (textR 16384 r).2 ∧ Rb rb w w' := by
 have Hc := hid (rdText_any rb r w hr hsz 16384 (by omega) (by omega))
 have q := hx.c
 clear hx hr
 go_enter Tryz.func89, Tryz.ntmps89
 go_wp2_with fail
 refine Hc.out.mono ?_
 rintro e1 w1 ⟨rfl, h1, b1⟩
 have H1 := hid h1
 have B1 := hid b1
 clear h1 b1
 go_wp2
 go_ret
 exact ⟨rfl, H1.out, B1.out⟩
theorem takVars_any (xb sb rb k : Nat) (node : Int) (id : ByteArray) (odd : Bool) (r : RdV) (w : World) (hx : TakAt w xb sb rb k node id odd) (hr : IsR 168 w rb r) (hsz : r.s.size ≤ 140737488355328) :
  Calls Tryz.prog 91 #[.pointer (some ⟨xb, 0, none⟩)] w fun e w' => ∃ v, e = .returned v ∧ VarsOwn w' w.heap.size v (varsOf r) ∧ TakAt w' xb sb rb k node id (odd || varsBad r) ∧ IsR 168 w' rb (takeVars r).2 ∧ But (fun b => b = rb ∨ b = xb) w w' ∧ ∀ i v, i < 5 → w.cell? ⟨xb, i, none⟩ = some v → w'.cell? ⟨xb, i, none⟩ = some v := by
 have Hc := hid (takeVars_any rb r w hr hsz)
 have q := hx.c
 have n1 : xb ≠ rb := ty_ne hx hr (by decide)
 have l1 := heap_lt hx
 have Hx := hid hx
 clear hx hr
 go_enter Tryz.func91, Tryz.ntmps91
 go_wp2_with fail
 refine Hc.out.mono ?_
 rintro e1 w1 ⟨v, rfl, hv, h1, b1⟩
 obtain ⟨av, cv, rfl⟩ := own_slice hv
 have Hv := hid hv
 have H1 := hid h1
 have B1 := hid b1
 have Hx1 := hid (b1.at Hx.out n1)
 clear hv h1 b1 q
 have q5 := cell_of Hx1.out 5
 have f5 := free_of Hx1.out 5
 have hx2 := setCell_at Hx1.out 5 (.bool (odd || varsBad r))
 have hb2 := Rb.set (w := w1) xb 5 (.bool (odd || varsBad r))
 have Hend : Hid (VarsOwn (w1.setCell ⟨xb, 5, none⟩ (.bool (odd || varsBad r))) w.heap.size (.slice av (varsOf r).length cv) (varsOf r) ∧ TakAt (w1.setCell ⟨xb, 5, none⟩ (.bool (odd || varsBad r))) xb sb rb k node id (odd || varsBad r) ∧ IsR 168 (w1.setCell ⟨xb, 5, none⟩ (.bool (odd || varsBad r))) rb (takeVars r).2 ∧ But (fun b => b = rb ∨ b = xb) w (w1.setCell ⟨xb, 5, none⟩ (.bool (odd || varsBad r))) ∧ ∀ i v, i < 5 → w.cell? ⟨xb, i, none⟩ = some v → (w1.setCell ⟨xb, 5, none⟩ (.bool (odd || varsBad r))).cell? ⟨xb, i, none⟩ = some v) :=
  ⟨own_rb Hv.out hb2 l1, hx2, hb2.at H1.out (Ne.symm n1), (B1.out.mono (fun _ _ h => .inl h)).trans (hb2.mono (fun _ _ h => .inr h)), fun i v hi hc => by
   rw [cell_of hx2 i]
   rw [cell_of Hx.out i] at hc
   rw [Array.getElem?_setIfInBounds_ne (by omega)]
   rw [← hc]⟩
 clear hx2 hb2
 cases odd with
 | true =>
  go_wp2
  go_ret
  exact ⟨_, rfl, Hend.out⟩
 | false =>
  unfold varsBad at Hend
  cases hb : (takeVars r).1.isSome with
  | true =>
   rw [hb] at Hend
   go_wp2
   go_ret
   exact ⟨_, rfl, by unfold varsBad; rw [hb]; exact Hend.out⟩
  | false =>
   rw [hb] at Hend
   go_wp2
   go_ret
   exact ⟨_, rfl, by unfold varsBad; rw [hb]; exact Hend.out⟩
end Go.Proofs.YthikijlbclckdaaGreat
namespace Go.Proofs.YthikijlbclckdaaGreat
set_option maxRecDepth 100000
set_option maxHeartbeats 40000000
set_option linter.unusedSimpArgs false
set_option linter.unusedVariables false
open Go.RowKit
theorem uintR_less (r : RdV) (h : (uintR r).2.e = 0) : (uintR r).2.s.size + 1 ≤ r.s.size := by
 obtain ⟨h1, h2, h3⟩ := uintR_e r h
 have := (numS_ok r.s).pos h2
 have := numS_len r.s
 rw [h3]
 show (r.s.extract (numS r.s).2.1 r.s.size).size + 1 ≤ _
 rw [extract_size]
 omega
theorem info_u64 : (Tryz.prog.info? 22).map (fun i => (i.zero, i.size, i.bytes)) = some (some (.int .u64 0), 1, 8) := by kernel_rfl
theorem natsV_snoc (l : List Nat) (n : Nat) : natsV (l ++ [n]) = natsV l ++ [U n] := by simp [natsV]
theorem takInsts_any (xb sb rb k : Nat) (node : Int) (id : ByteArray) (odd : Bool) (r : RdV) (w : World) (hx : TakAt w xb sb rb k node id odd) (hr : IsR 168 w rb r) (hsz : r.s.size ≤ 1099511627776) :
  Calls Tryz.prog 92 #[.pointer (some ⟨xb, 0, none⟩)] w fun e w' => ∃ v, e = .returned v ∧ NatsOwn w' w.heap.size v (takeInsts r).1 ∧ IsR 168 w' rb (takeInsts r).2 ∧ Rb rb w w' := by
 have n1 : xb ≠ rb := ty_ne hx hr (by decide)
 have l1 : rb < w.heap.size := heap_lt hr
 have Hx := hid hx
 have hc := rdUint_any rb r w hr (by omega)
 have hz1 := uintR_size r
 have hT : takeInsts r = instsL (uintR r).1 (uintR r).2 [] := rfl
 have hv := uintR_lt r
 have q := hx.c
 rw [hT]
 clear hT
 revert hc hz1 hv
 generalize uintR r = p
 obtain ⟨n, r1⟩ := p
 intro hc hz1 hv
 dsimp only at hc hz1 hv ⊢
 have Hc := hid hc
 clear hx hr hc
 go_enter Tryz.func92, Tryz.ntmps92
 go_wp2_with fail
 refine Hc.out.mono ?_
 rintro e1 w1 ⟨rfl, h1, b1⟩
 have H1 := hid h1
 have B1 := hid b1
 clear h1 b1 Hc q
 go_wp2
 go_loopw [3, 4] (fun vo vi wr => ∃ (m : Nat) (r' : RdV) (l : List Nat), vi = .int .u64 m ∧ m < 18446744073709551616 ∧ r'.s.size ≤ 1099511627776 ∧
  Hid ((r'.e = 0 → l.length + r'.s.size ≤ 1099511627776) ∧ wr.ownsRow w.heap.size 22 1 vo l.length (natsV l) ∧ IsR 168 wr rb r' ∧ Rb rb w wr ∧ instsL m r' l = instsL n r1 [])) (fun _ vi _ => (intOf vi).toNat)
 case atStart => exact ⟨n, r1, [], rfl, hv, by omega, fun _ => by simp; omega, ⟨rfl, .inl ⟨rfl, rfl⟩⟩, H1.out, B1.out, rfl⟩
 case round =>
  obtain ⟨m, r', l, rfl, hm, hs', hR⟩ := hrel
  obtain ⟨ao, co, rfl⟩ := own_slice hR.out.2.1
  have Hx' := hid (hR.out.2.2.2.1.at Hx.out n1)
  have q := TakAt.c Hx'.out
  by_cases h0 : m = 0
  ·
   subst h0
   have hE := hid (show (l, r') = instsL n r1 [] from hR.out.2.2.2.2)
   go_wp2
   go_ret
   exact ⟨_, rfl, by rw [← hE.out]; exact hR.out.2.1, by rw [← hE.out]; exact hR.out.2.2.1, hR.out.2.2.2.1⟩
  ·
   have h0' : decide (0 < (m : Int)) = true := by simp; omega
   obtain ⟨m', rfl⟩ : ∃ m', m = m' + 1 := ⟨m - 1, by omega⟩
   by_cases he : r'.e = 0
   ·
    have he' : (r'.e == 0) = true := by simpa using he
    have hl := hR.out.1 he
    have hE := hid ((if_pos he : instsL (m' + 1) r' l = instsL m' (uintR r').2 (l ++ [(uintR r').1])).symm.trans hR.out.2.2.2.2)
    have hless := hid (uintR_less r')
    have hz2 := uintR_size r'
    have hv2 := uintR_lt r'
    have Hc2 := hid (fun W h => rdUint_any rb r' W h (by omega))
    clear he
    go_wp2_with fail
    refine (rdErr_any rb r' _ hR.out.2.2.1).mono ?_
    rintro e1 w2 ⟨rfl, rfl⟩
    go_wp2_with fail
    refine (Hc2.out _ hR.out.2.2.1).mono ?_
    revert hE hless hz2 hv2
    generalize uintR r' = p
    obtain ⟨u, r2⟩ := p
    intro hE hless hz2 hv2
    dsimp only at hE hless hz2 hv2 ⊢
    rintro e1 w3 ⟨rfl, h3, b3⟩
    have H3 := hid h3
    have B3 := hid (hR.out.2.2.2.1.trans b3)
    have O3 := hid (own_rb hR.out.2.1 b3 l1)
    clear h3 b3
    go_wp2_with (at_builtin; refine app1k 116 22 Tryz.underlying116 info_u64 rfl (by decide) O3.out (by have := B3.out.size; omega) (by unfold maxLen; omega) (by omega) rfl rfl rfl rfl (by simp) rfl (by simp [Value.oneCell']) ?_; intro v' w5 hown5 hb5 hg5)
    have hob : ∀ k, ownB (.slice ao l.length co) k → w.heap.size ≤ k := fun k hk => (O3.out.lt k hk).1
    have H5 : IsR 168 w5 rb r2 := (hb5.block rb (heap_lt H3.out) (fun hk => by have := hob rb hk; omega)).trans H3.out
    have B5 : Rb rb w w5 := B3.out.trans' hb5 (fun k hk ho => by have := hob k ho; omega)
    exact ⟨⟨m', r2, l ++ [u], rfl, by omega, by omega, fun he => by have := hless.out he; simp; omega, by simpa [natsV_snoc] using hown5, H5, B5, hE.out⟩, by simp [intOf]⟩
   ·
    have he' : (r'.e == 0) = false := by simpa using he
    have hE := hid ((if_neg he : instsL (m' + 1) r' l = (l, r')).symm.trans hR.out.2.2.2.2)
    clear he
    go_wp2_with fail
    refine (rdErr_any rb r' _ hR.out.2.2.1).mono ?_
    rintro e1 w2 ⟨rfl, rfl⟩
    go_wp2
    go_ret
    exact ⟨_, rfl, by rw [← hE.out]; exact hR.out.2.1, by rw [← hE.out]; exact hR.out.2.2.1, hR.out.2.2.2.1⟩
end Go.Proofs.YthikijlbclckdaaGreat
namespace Go.Proofs.YthikijlbclckdaaGreat
set_option maxRecDepth 100000
set_option maxHeartbeats 40000000
set_option linter.unusedSimpArgs false
set_option linter.unusedVariables false
open Go.RowKit
def RnC (w : World) (xb : Nat) (c0 c1 c2 c3 c4 c5 c6 c7 c8 c9 c10 c11 : Value) (rb : Nat) (odd : Bool) : Prop :=
 w.heap[xb]? = some (.cells #[c0, c1, c2, c3, c4, c5, c6, c7, c8, c9, c10, c11, .pointer (some ⟨rb, 0, none⟩), .bool odd] 89 (0, 0))
def RnB (w : World) (base xb rb : Nat) (s : StateV) (odd : Bool) : Prop :=
 ∃ vp vi vt vj vr vs vk vl vm, RnC w xb (U s.pos) (U s.done) (U s.made) vp vi vt vj vr vs vk vl vm rb odd ∧ ListsOwn w base s vp vi vt vj vr vs vk vl vm
def refTs : List TypeId := 89 :: 92 :: listTs
theorem refText_any (xb rb : Nat) (r : RdV) (w : World) (q : w.cell? ⟨xb, 12, none⟩ = some (.pointer (some ⟨rb, 0, none⟩))) (hr : IsR 92 w rb r) (hsz : r.s.size ≤ 140737488355328) :
  Calls Tryz.prog 38 #[.pointer (some ⟨xb, 0, none⟩)] w fun e w' => e = .returned (.string (textR 16384 r).1) ∧ IsR 92 w' rb (textR 16384 r).2 ∧ Rb rb w w' := by
 have Hc := hid (rrText_any rb r w hr hsz 16384 (by omega) (by omega))
 clear hr
 go_enter Tryz.func38, Tryz.ntmps38
 go_wp2_with fail
 refine Hc.out.mono ?_
 rintro e1 w1 ⟨rfl, h1, b1⟩
 have H1 := hid h1
 have B1 := hid b1
 clear h1 b1
 go_wp2
 go_ret
 exact ⟨rfl, H1.out, B1.out⟩
theorem refVars_any (xb : Nat) (c0 c1 c2 c3 c4 c5 c6 c7 c8 c9 c10 c11 : Value) (rb : Nat) (odd : Bool) (r : RdV) (w : World) (hx : RnC w xb c0 c1 c2 c3 c4 c5 c6 c7 c8 c9 c10 c11 rb odd) (hr : IsR 92 w rb r) (hsz : r.s.size ≤ 140737488355328) :
  Calls Tryz.prog 107 #[.pointer (some ⟨xb, 0, none⟩)] w fun e w' => ∃ v, e = .returned v ∧ VarsOwn w' w.heap.size v (varsOf r) ∧ RnC w' xb c0 c1 c2 c3 c4 c5 c6 c7 c8 c9 c10 c11 rb (odd || varsBad r) ∧ IsR 92 w' rb (takeVars r).2 ∧ But (fun b => b = rb ∨ b = xb) w w' := by
 have Hc := hid (rtakeVars_any rb r w hr hsz)
 have q := cell_of hx 12
 have n1 : xb ≠ rb := ty_ne hx hr (by decide)
 have l1 := heap_lt hx
 have Hx := hid hx
 clear hx hr
 go_enter Tryz.func107, Tryz.ntmps107
 go_wp2_with fail
 refine Hc.out.mono ?_
 rintro e1 w1 ⟨v, rfl, hv, h1, b1⟩
 obtain ⟨av, cv, rfl⟩ := own_slice hv
 have Hv := hid hv
 have H1 := hid h1
 have B1 := hid b1
 have Hx1 := hid (b1.at Hx.out n1)
 clear hv h1 b1 q
 have q5 := cell_of Hx1.out 13
 have f5 := free_of Hx1.out 13
 have hx2 := setCell_at Hx1.out 13 (.bool (odd || varsBad r))
 have hb2 := Rb.set (w := w1) xb 13 (.bool (odd || varsBad r))
 have Hend : Hid (VarsOwn (w1.setCell ⟨xb, 13, none⟩ (.bool (odd || varsBad r))) w.heap.size (.slice av (varsOf r).length cv) (varsOf r) ∧ RnC (w1.setCell ⟨xb, 13, none⟩ (.bool (odd || varsBad r))) xb c0 c1 c2 c3 c4 c5 c6 c7 c8 c9 c10 c11 rb (odd || varsBad r) ∧ IsR 92 (w1.setCell ⟨xb, 13, none⟩ (.bool (odd || varsBad r))) rb (takeVars r).2 ∧ But (fun b => b = rb ∨ b = xb) w (w1.setCell ⟨xb, 13, none⟩ (.bool (odd || varsBad r)))) :=
  ⟨own_rb Hv.out hb2 l1, hx2, hb2.at H1.out (Ne.symm n1), (B1.out.mono (fun _ _ h => .inl h)).trans (hb2.mono (fun _ _ h => .inr h))⟩
 clear hx2 hb2
 cases odd with
 | true =>
  go_wp2
  go_ret
  exact ⟨_, rfl, Hend.out⟩
 | false =>
  unfold varsBad at Hend
  cases hb : (takeVars r).1.isSome with
  | true =>
   rw [hb] at Hend
   go_wp2
   go_ret
   exact ⟨_, rfl, by unfold varsBad; rw [hb]; exact Hend.out⟩
  | false =>
   rw [hb] at Hend
   go_wp2
   go_ret
   exact ⟨_, rfl, by unfold varsBad; rw [hb]; exact Hend.out⟩
end Go.Proofs.YthikijlbclckdaaGreat
