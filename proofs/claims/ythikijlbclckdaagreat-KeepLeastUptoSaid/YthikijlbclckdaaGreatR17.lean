/- Keep: contracts (So La Ov Rp Ku). -/
import Derived.Test.YthikijlbclckdaaGreatR5
import Derived.Test.YthikijlbclckdaaGreatR13
import Derived.Test.YthikijlbclckdaaGreatR14
import Derived.Test.YthikijlbclckdaaGreatR15
import Derived.Test.YthikijlbclckdaaGreatR16
import Derived.WalkSpells
import Derived.WalkLawsBesides
namespace Go.Proofs.YthikijlbclckdaaGreat
set_option maxRecDepth 100000
set_option maxHeartbeats 40000000
set_option linter.unusedSimpArgs false
set_option linter.unusedVariables false
open Go.RowKit
def TyF (base : Nat) (ts : List TypeId) (w : World) : Nat → Prop := fun b => ∃ cs t fr, w.heap[b]? = some (.cells cs t fr) ∧ t ∈ ts ∧ base ≤ b
abbrev TyBut (base : Nat) (ts : List TypeId) (w w' : World) : Prop := But (TyF base ts w) w w'
theorem TyBut.refl (base : Nat) (ts : List TypeId) (w : World) : TyBut base ts w w := But.refl _ w
theorem TyBut.trans {base : Nat} {ts : List TypeId} {a b c : World} (h : TyBut base ts a b) (k : TyBut base ts b c) : TyBut base ts a c :=
  h.trans' k (fun i hi hf => Classical.byContradiction fun hn => hn (by
    obtain ⟨cs, t, fr, h1, h2⟩ := hf
    exact ⟨cs, t, fr, by rw [← h.block i hi hn]; exact h1, h2⟩))
theorem TyBut.of {base : Nat} {ts : List TypeId} {w w' : World} (h : Below w.heap.size w w') : TyBut base ts w w' := But.of h
theorem TyBut.weak {base : Nat} {ts us : List TypeId} {w w' : World} (h : TyBut base ts w w') (hs : ∀ t ∈ ts, t ∈ us) : TyBut base us w w' :=
  h.mono (fun i _ ⟨cs, t, fr, h1, h2, h3⟩ => ⟨cs, t, fr, h1, hs t h2, h3⟩)
theorem TyBut.set {base : Nat} {ts : List TypeId} {w : World} {b : Nat} {cs : Array Value} {t : TypeId} {fr : Nat × Nat} (h : w.heap[b]? = some (.cells cs t fr)) (ht : t ∈ ts) (hb : base ≤ b) (i : Nat) (v : Value) : TyBut base ts w (w.setCell ⟨b, i, none⟩ v) :=
  But.setCell (F := TyF base ts w) (But.refl _ w) (p := ⟨b, i, none⟩) (fun _ => ⟨cs, t, fr, h, ht, hb⟩) v
theorem TyBut.rb {base : Nat} {ts : List TypeId} {w w' : World} {rb : Nat} {cs : Array Value} {t : TypeId} {fr : Nat × Nat} (h : w.heap[rb]? = some (.cells cs t fr)) (ht : t ∈ ts) (hbr : base ≤ rb) (hb : Rb rb w w') : TyBut base ts w w' :=
  hb.mono (fun i _ hi => by subst hi; exact ⟨cs, t, fr, h, ht, hbr⟩)
theorem TyBut.below {base : Nat} {ts : List TypeId} {w w' : World} (h : TyBut base ts w w') (hb : base ≤ w.heap.size) : Below base w w' :=
  ⟨h.os, h.tape, h.output, h.size, fun b hlt => h.block b (by omega) (fun ⟨_, _, _, _, _, h⟩ => by omega)⟩
theorem TyBut.at {base : Nat} {ts : List TypeId} {w w' : World} (h : TyBut base ts w w') {b : Nat} {cs : Array Value} {t : TypeId} {fr : Nat × Nat} (hb : w.heap[b]? = some (.cells cs t fr)) (ht : t ∉ ts) : w'.heap[b]? = some (.cells cs t fr) :=
  (h.block b (heap_lt hb) (fun ⟨cs2, t2, fr2, h1, h2, _⟩ => by rw [hb] at h1; cases h1; exact ht h2)).trans hb
theorem TyBut.atMap {base : Nat} {ts : List TypeId} {w w' : World} (h : TyBut base ts w w') {b : Nat} {o : Obj} (hb : w.heap[b]? = some o) (ho : ∀ cs t fr, o ≠ .cells cs t fr) : w'.heap[b]? = some o :=
  (h.block b (heap_lt hb) (fun ⟨cs2, t2, fr2, h1, h2, _⟩ => by rw [hb] at h1; cases h1; exact ho _ _ _ rfl)).trans hb
def CellsKept (ts : List TypeId) (w w' : World) : Prop := ∀ (b : Nat) (cs : Array Value) (t : TypeId) (fr : Nat × Nat), t ∉ ts → w.heap[b]? = some (.cells cs t fr) → w'.heap[b]? = some (.cells cs t fr)
theorem TyBut.kept {base : Nat} {ts : List TypeId} {w w' : World} (h : TyBut base ts w w') : CellsKept ts w w' := fun _ _ _ _ ht hb => h.at hb ht
theorem CellsKept.own' {ts : List TypeId} {w w' : World} {base e size n : Nat} {v : Value} {vs : List Value} (hb : CellsKept ts w w') (h : w.ownsRow base e size v n vs) (ht : e ∉ ts) : w'.ownsRow base e size v n vs := by
  refine ⟨h.1, ?_⟩
  rcases h.2 with hn | ⟨g, cap, cur, rfl, hbg, hg, r⟩
  · exact .inl hn
  · exact .inr ⟨g, cap, cur, rfl, hbg, hb _ _ _ _ ht hg, r⟩
def LOwn {α : Type} (R : World → Nat → List Value → α → Prop) (e : TypeId) (size : Nat) (w : World) (base : Nat) (v : Value) (l : List α) : Prop :=
  ∃ css : List (List Value), css.length = l.length ∧ (∀ cs ∈ css, cs.length = size ∧ ∀ u ∈ cs, u.oneCell' = true) ∧ (∀ (i : Nat) cs x, css[i]? = some cs → l[i]? = some x → R w base cs x) ∧ w.ownsRow base e size v l.length css.flatten
def RSt {α : Type} (R : World → Nat → List Value → α → Prop) : Prop := ∀ ts w w' base cs x, 177 ∉ ts → 22 ∉ ts → R w base cs x → CellsKept ts w w' → R w' base cs x
theorem LOwn.kept {α : Type} {R : World → Nat → List Value → α → Prop} {e : TypeId} {size : Nat} {ts : List TypeId} {w w' : World} {base : Nat} {v : Value} {l : List α} (hR : RSt R) (h : LOwn R e size w base v l) (hb : CellsKept ts w w') (h1 : 177 ∉ ts) (h2 : 22 ∉ ts) (h3 : e ∉ ts) : LOwn R e size w' base v l := by
  obtain ⟨css, a1, a2, a3, a4⟩ := h
  exact ⟨css, a1, a2, fun i cs x hc hx => hR _ _ _ _ _ _ h1 h2 (a3 i cs x hc hx) hb, hb.own' a4 h3⟩
theorem LOwn.keep {α : Type} {R : World → Nat → List Value → α → Prop} {e : TypeId} {size : Nat} {b0 : Nat} {ts : List TypeId} {w w' : World} {base : Nat} {v : Value} {l : List α} (hR : RSt R) (h : LOwn R e size w base v l) (hb : TyBut b0 ts w w') (h1 : 177 ∉ ts) (h2 : 22 ∉ ts) (h3 : e ∉ ts) : LOwn R e size w' base v l :=
  h.kept hR hb.kept h1 h2 h3
theorem LOwn.nil {α : Type} (R : World → Nat → List Value → α → Prop) (e : TypeId) (size : Nat) (w : World) (base : Nat) : LOwn R e size w base (.slice none 0 0) [] :=
  ⟨[], rfl, fun cs h => by simp at h, fun i cs x h => by simp at h, ⟨by simp, .inl ⟨rfl, rfl⟩⟩⟩
theorem LOwn.snoc {α : Type} {R : World → Nat → List Value → α → Prop} {e : TypeId} {size : Nat} {w' : World} {base : Nat} {v' : Value} {l : List α} {css : List (List Value)} {cs : List Value} {x : α}
    (a1 : css.length = l.length) (a2 : ∀ cs ∈ css, cs.length = size ∧ ∀ u ∈ cs, u.oneCell' = true) (a3 : ∀ (i : Nat) cs x, css[i]? = some cs → l[i]? = some x → R w' base cs x)
    (hcs : cs.length = size ∧ ∀ u ∈ cs, u.oneCell' = true) (hx : R w' base cs x) (ho : w'.ownsRow base e size v' (l.length + 1) (css.flatten ++ cs)) : LOwn R e size w' base v' (l ++ [x]) := by
  refine ⟨css ++ [cs], by simp [a1], ?_, ?_, by simpa using ho⟩
  · intro c hc
    rcases List.mem_append.1 hc with h | h
    · exact a2 c h
    · rw [List.mem_singleton] at h; subst h; exact hcs
  · intro i c y hc hy
    rcases Nat.lt_or_ge i l.length with h | h
    · rw [List.getElem?_append_left (by omega)] at hc hy
      exact a3 i c y hc hy
    · rw [List.getElem?_append_right (by omega)] at hc hy
      have : i - l.length = 0 := by
        have := (List.getElem?_eq_some_iff.1 hy).1
        simp at this; omega
      rw [this] at hy
      rw [a1, this] at hc
      simp at hc hy
      subst hc hy
      exact hx
def DepV.ow (_ : World) (_ : Nat) (cs : List Value) (x : DepV) : Prop := cs = [.string x.id, .string x.bytes]
def InstV.ow (w : World) (base : Nat) (cs : List Value) (x : InstV) : Prop := ∃ v, cs = [U x.key, .string x.id, v] ∧ VarsOwn w base v x.vars
def TokV.ow (_ : World) (_ : Nat) (cs : List Value) (x : TokV) : Prop := cs = [U x.key, U x.inst, U x.scope, I x.node, I x.by_, .string x.stuck]
def JobV.ow (_ : World) (_ : Nat) (cs : List Value) (x : JobV) : Prop := cs = [U x.key, U x.token, .string x.type, I x.retries, .string x.worker, I x.till]
def TimV.ow (_ : World) (_ : Nat) (cs : List Value) (x : TimV) : Prop := cs = [U x.token, I x.node, I x.when_]
def SubV.ow (_ : World) (_ : Nat) (cs : List Value) (x : SubV) : Prop := cs = [U x.token, U x.inst, I x.node, .string x.name, .string x.key, .bool x.is]
def KeptV.ow (_ : World) (_ : Nat) (cs : List Value) (x : KeptV) : Prop := cs = [U x.token, U x.msg, I x.node]
def LisV.ow (w : World) (base : Nat) (cs : List Value) (x : LisV) : Prop := ∃ v, cs = [U x.token, U x.inst, I x.node, .string x.name, .string x.key, U x.msg, v] ∧ VarsOwn w base v x.vars
def NatsOwn (w : World) (base : Nat) (v : Value) (l : List Nat) : Prop := w.ownsRow base 22 1 v l.length (natsV l)
def MsgV.ow (w : World) (base : Nat) (cs : List Value) (x : MsgV) : Prop := ∃ v u, cs = [U x.key, .string x.name, .string x.for_, .string x.id, I x.till, v, u] ∧ VarsOwn w base v x.vars ∧ NatsOwn w base u x.insts
theorem DepV.ost : RSt DepV.ow := fun _ _ _ _ _ _ _ _ h _ => h
theorem TokV.ost : RSt TokV.ow := fun _ _ _ _ _ _ _ _ h _ => h
theorem JobV.ost : RSt JobV.ow := fun _ _ _ _ _ _ _ _ h _ => h
theorem TimV.ost : RSt TimV.ow := fun _ _ _ _ _ _ _ _ h _ => h
theorem SubV.ost : RSt SubV.ow := fun _ _ _ _ _ _ _ _ h _ => h
theorem KeptV.ost : RSt KeptV.ow := fun _ _ _ _ _ _ _ _ h _ => h
theorem InstV.ost : RSt InstV.ow := fun _ _ _ _ _ _ h1 _ h hb => by obtain ⟨v, a, b⟩ := h; exact ⟨v, a, hb.own' b h1⟩
theorem LisV.ost : RSt LisV.ow := fun _ _ _ _ _ _ h1 _ h hb => by obtain ⟨v, a, b⟩ := h; exact ⟨v, a, hb.own' b h1⟩
theorem MsgV.ost : RSt MsgV.ow := fun _ _ _ _ _ _ h1 h2 h hb => by obtain ⟨v, u, a, b, c⟩ := h; exact ⟨v, u, a, hb.own' b h1, hb.own' c h2⟩
structure ListsOwn (w : World) (base : Nat) (s : StateV) (vp vi vt vj vr vs vk vl vm : Value) : Prop where
  procs : LOwn DepV.ow 95 2 w base vp s.procs
  insts : LOwn InstV.ow 103 3 w base vi s.insts
  tokens : LOwn TokV.ow 105 6 w base vt s.tokens
  jobs : LOwn JobV.ow 107 6 w base vj s.jobs
  timers : LOwn TimV.ow 109 3 w base vr s.timers
  subs : LOwn SubV.ow 111 6 w base vs s.subs
  kept : LOwn KeptV.ow 113 3 w base vk s.kept
  listed : LOwn LisV.ow 115 7 w base vl s.listed
  msgs : LOwn MsgV.ow 118 7 w base vm s.msgs
def listTs : List TypeId := [95, 103, 105, 107, 109, 111, 113, 115, 118]
theorem ListsOwn.keepC {ts : List TypeId} {w w' : World} {base : Nat} {s : StateV} {vp vi vt vj vr vs vk vl vm : Value} (h : ListsOwn w base s vp vi vt vj vr vs vk vl vm) (hb : CellsKept ts w w') (h1 : 177 ∉ ts) (h2 : 22 ∉ ts) (h3 : ∀ e ∈ listTs, e ∉ ts) : ListsOwn w' base s vp vi vt vj vr vs vk vl vm :=
  ⟨h.procs.kept DepV.ost hb h1 h2 (h3 _ (by simp [listTs])), h.insts.kept InstV.ost hb h1 h2 (h3 _ (by simp [listTs])), h.tokens.kept TokV.ost hb h1 h2 (h3 _ (by simp [listTs])), h.jobs.kept JobV.ost hb h1 h2 (h3 _ (by simp [listTs])), h.timers.kept TimV.ost hb h1 h2 (h3 _ (by simp [listTs])), h.subs.kept SubV.ost hb h1 h2 (h3 _ (by simp [listTs])), h.kept.kept KeptV.ost hb h1 h2 (h3 _ (by simp [listTs])), h.listed.kept LisV.ost hb h1 h2 (h3 _ (by simp [listTs])), h.msgs.kept MsgV.ost hb h1 h2 (h3 _ (by simp [listTs]))⟩
theorem ListsOwn.keep {b0 : Nat} {ts : List TypeId} {w w' : World} {base : Nat} {s : StateV} {vp vi vt vj vr vs vk vl vm : Value} (h : ListsOwn w base s vp vi vt vj vr vs vk vl vm) (hb : TyBut b0 ts w w') (h1 : 177 ∉ ts) (h2 : 22 ∉ ts) (h3 : ∀ e ∈ listTs, e ∉ ts) : ListsOwn w' base s vp vi vt vj vr vs vk vl vm :=
  h.keepC hb.kept h1 h2 h3
theorem flat_at {size : Nat} : ∀ (css : List (List Value)), (∀ cs ∈ css, cs.length = size) → ∀ (i : Nat) (cs : List Value), css[i]? = some cs → ∀ (j : Nat) (u : Value), cs[j]? = some u → css.flatten[i * size + j]? = some u
  | [], _, i, cs, h => by simp at h
  | c :: css, hs, i, cs, h => by
    intro j u hu
    have hj : j < cs.length := (List.getElem?_eq_some_iff.1 hu).1
    cases i with
    | zero =>
      simp at h; subst h
      simp only [List.flatten_cons, Nat.zero_mul, Nat.zero_add]
      rw [List.getElem?_append_left hj]; exact hu
    | succ i =>
      have hc := hs c List.mem_cons_self
      have h1 := flat_at css (fun d hd => hs d (List.mem_cons_of_mem _ hd)) i cs (by simpa using h) j u hu
      simp only [List.flatten_cons]
      rw [List.getElem?_append_right (by rw [hc, Nat.add_mul]; omega), hc]
      rw [show (i + 1) * size + j - size = i * size + j by rw [Nat.add_mul]; omega]
      exact h1
theorem LOwn.list {α : Type} {R : World → Nat → List Value → α → Prop} {R' : World → List Value → α → Prop} {e : TypeId} {size : Nat} {w : World} {base : Nat} {v : Value} {l : List α} (hR : ∀ cs x, x ∈ l → R w base cs x → R' w cs x) (h : LOwn R e size w base v l) : ListAt R' size w v l := by
  obtain ⟨css, a1, a2, a3, a4⟩ := h
  rcases a4.2 with ⟨rfl, h0⟩ | ⟨g, cap, cur, rfl, hbg, hg, hnc, hcm, hcur, htake⟩
  · have e := List.eq_nil_of_length_eq_zero h0
    subst e
    exact ⟨none, 0, rfl, Nat.le_refl _, by simp [maxLen], fun i x hx => by simp at hx⟩
  · refine ⟨some ⟨g, 0, none⟩, cap, rfl, hnc, by omega, fun i x hx => ?_⟩
    have hi : i < l.length := (List.getElem?_eq_some_iff.1 hx).1
    have hc : css[i]? = some css[i] := List.getElem?_eq_getElem _
    refine ⟨g, 0, css[i], rfl, (a2 _ (List.getElem_mem _)).1, hR _ _ (List.mem_of_getElem? hx) (a3 i _ x hc hx), fun j u hu => ?_⟩
    have hf := flat_at css (fun c h => (a2 c h).1) i _ hc j u hu
    rw [Nat.zero_add, cell_of hg]
    rw [← htake, List.getElem?_take] at hf
    split at hf
    · simpa using hf
    · cases hf
theorem NatsOwn.slr {w : World} {base : Nat} {v : Value} {l : List Nat} (h : NatsOwn w base v l) : SlR w v (natsV l) := SlR.of_own h
theorem ListsOwn.at {w : World} {base : Nat} {s : StateV} {vp vi vt vj vr vs vk vl vm : Value} (h : ListsOwn w base s vp vi vt vj vr vs vk vl vm) (hv : ∀ x ∈ s.insts, x.vars.length ≤ 16) (hv2 : ∀ x ∈ s.listed, x.vars.length ≤ 16) (hv3 : ∀ x ∈ s.msgs, x.vars.length ≤ 16) :
    StateAt w [U s.pos, U s.done, U s.made, vp, vi, vt, vj, vr, vs, vk, vl, vm] s vp vi vt vj vr vs vk vl vm := by
  have big : ∀ {n : Nat}, n ≤ 16 → n ≤ 140737488355328 := fun h => by omega
  exact ⟨rfl, h.procs.list (fun _ _ _ h => h), h.insts.list (fun _ x hx h => by obtain ⟨v, a, b⟩ := h; exact ⟨v, a, b.vars (big (hv x hx))⟩), h.tokens.list (fun _ _ _ h => h), h.jobs.list (fun _ _ _ h => h), h.timers.list (fun _ _ _ h => h), h.subs.list (fun _ _ _ h => h), h.kept.list (fun _ _ _ h => h),
    h.listed.list (fun _ x hx h => by obtain ⟨v, a, b⟩ := h; exact ⟨v, a, b.vars (big (hv2 x hx))⟩), h.msgs.list (fun _ x hx h => by obtain ⟨v, u, a, b, c⟩ := h; exact ⟨v, u, a, b.vars (big (hv3 x hx)), c.slr⟩)⟩
end Go.Proofs.YthikijlbclckdaaGreat
namespace Go.Proofs.YthikijlbclckdaaGreat
set_option maxRecDepth 100000
set_option maxHeartbeats 40000000
set_option linter.unusedSimpArgs false
set_option linter.unusedVariables false
open Go.RowKit
def TakAt (w : World) (xb sb rb : Nat) (k : Nat) (node : Int) (id : ByteArray) (odd : Bool) : Prop :=
  w.heap[xb]? = some (.cells #[.pointer (some ⟨sb, 0, none⟩), .int .u64 k, .int .i64 node, .string id, .pointer (some ⟨rb, 0, none⟩), .bool odd] 81 (0, 0))
def StB (w : World) (base sb : Nat) (s : StateV) : Prop :=
  ∃ vp vi vt vj vr vs vk vl vm, w.heap[sb]? = some (.cells #[U s.pos, U s.done, U s.made, vp, vi, vt, vj, vr, vs, vk, vl, vm] 33 (0, 0)) ∧ ListsOwn w base s vp vi vt vj vr vs vk vl vm
def letTs : List TypeId := 33 :: 168 :: 81 :: listTs
theorem ty_ne {w : World} {a b : Nat} {cs ds : Array Value} {s t : TypeId} {fr fs : Nat × Nat} (h : w.heap[a]? = some (.cells cs s fr)) (k : w.heap[b]? = some (.cells ds t fs)) (hn : s ≠ t) : a ≠ b := by
  rintro rfl
  rw [h] at k
  cases k
  exact hn rfl
theorem own_ne {w : World} {base e size n b : Nat} {v : Value} {vs : List Value} {cs : Array Value} {t : TypeId} {fr : Nat × Nat} (h : w.ownsRow base e size v n vs) (k : w.heap[b]? = some (.cells cs t fr)) (hn : e ≠ t) : ¬ ownB v b := by
  rcases h.2 with ⟨rfl, -⟩ | ⟨g, cap, cur, rfl, -, hg, -⟩
  · intro h; cases h
  · intro hb
    simp only [ownB, Value.ownBlock, Option.some.injEq] at hb
    exact ty_ne hg k hn hb
theorem own_ty {w : World} {base e size n i : Nat} {v : Value} {vs : List Value} {ts : List TypeId} (h : w.ownsRow base e size v n vs) (ht : e ∈ ts) (hi : ownB v i) : TyF base ts w i := by
  rcases h.2 with ⟨rfl, -⟩ | ⟨g, cap, cur, rfl, hbg, hg, -⟩
  · cases hi
  · simp only [ownB, Value.ownBlock, Option.some.injEq] at hi
    subst hi
    exact ⟨_, _, _, hg, ht, hbg⟩
theorem own_lt {w : World} {base e size n : Nat} {v : Value} {vs : List Value} (h : w.ownsRow base e size v n vs) : ∀ b, ownB v b → b < w.heap.size := fun b hb => (h.lt b hb).2
end Go.Proofs.YthikijlbclckdaaGreat
namespace Go.Proofs.YthikijlbclckdaaGreat
set_option maxRecDepth 100000
set_option maxHeartbeats 40000000
set_option linter.unusedSimpArgs false
set_option linter.unusedVariables false
open Go.IntWalk Go.RowKit
theorem info_str : (Tryz.prog.info? 9).map (fun i => (i.zero, i.size, i.bytes)) = some (some (.string ⟨#[]⟩), 1, 16) := by kernel_rfl
theorem own_empty (w : World) (e : TypeId) (size : Nat) : (w.alloc (.cells #[] e)).ownsRow w.heap.size e size (.slice (some ⟨w.heap.size, 0, none⟩) 0 0) 0 [] :=
  ⟨by simp, .inr ⟨w.heap.size, 0, #[], rfl, Nat.le_refl _, alloc_new w _, Nat.le_refl _, by simp [maxLen], by simp, by simp⟩⟩
theorem clone_any (v : Value) (n : Nat) (cs : List Value) (w : World) (h : FlatAt 1 w v n cs) (h1 : ∀ u ∈ cs, u.oneCell' = true) (hn : n * 16 ≤ 140737488355328) :
    Calls Tryz.prog 102 #[v] w fun e w' => ∃ u, e = .returned u ∧ FlatAt 1 w' u n cs ∧ (∀ a m c, u = .slice (some a) m c → w.heap.size ≤ a.block) ∧ Below w.heap.size w w' := by
  have H := hid h
  obtain ⟨a, cap, rfl, hc1, hc2, hl, hcs⟩ := h
  have Hl := hid hl
  have Hcs := hid hcs
  have H1 := hid h1
  clear hl hcs h1
  cases a with
  | none =>
    have h0 : n = 0 := by
      cases cs with
      | nil => have := Hl.out; simp at this; omega
      | cons u l => obtain ⟨b, off, he, -⟩ := Hcs.out 0 u rfl; cases he
    subst h0
    have he := fun w => Lib.run_eql_slice_nil (P := Tryz.prog) w 84 9 none 0 cap 0 0 Tryz.underlying84
    go_enter Tryz.func102, Tryz.ntmps102
    go_wp2
    go_ret
    have hnil : cs = [] := List.eq_nil_of_length_eq_zero (by simpa using Hl.out)
    exact ⟨_, rfl, by rw [hnil]; exact FlatAt.nil 1 _, (fun a m c he => by cases he), Below.refl _ _⟩
  | some a =>
    have he := fun w => Lib.run_eql_slice_nil (P := Tryz.prog) w 84 9 (some a) n cap 0 0 Tryz.underlying84
    go_enter Tryz.func102, Tryz.ntmps102
    go_wp2_with (at_builtin; refine appk 84 9 Tryz.underlying84 info_str rfl (by decide) (own_empty w 9 1) (by simp) (H.out.grow ((Below.refl _ w).alloc (Nat.le_refl _) _)) (by unfold maxLen; omega) (by omega) H1.out rfl rfl rfl rfl ?_; intro v' w5 hown5 hb5 hg5)
    go_wp2
    go_ret
    exact ⟨_, rfl, by simpa using FlatAt.of_own hown5, (fun a m c he => by subst he; exact (hown5.lt _ rfl).1), ((But.alloc (F := fun _ => False) (But.refl _ w) _).trans' hb5 (fun i hi ho => by simp only [ownB, Value.ownBlock, Option.some.injEq] at ho; omega)).grow⟩
def keysC (l : List RowV) : List Value := l.map fun r => .string r.1
def valsC (l : List RowV) : List Value := l.map fun r => .string r.2
theorem str_one {l : List ByteArray} : ∀ u ∈ l.map Value.string, u.oneCell' = true := by
  intro u hu
  obtain ⟨x, -, rfl⟩ := List.mem_map.1 hu
  rfl
theorem keys_one (l : List RowV) : ∀ u ∈ keysC l, u.oneCell' = true := by
  intro u hu
  obtain ⟨x, -, rfl⟩ := List.mem_map.1 hu
  rfl
theorem vals_one (l : List RowV) : ∀ u ∈ valsC l, u.oneCell' = true := by
  intro u hu
  obtain ⟨x, -, rfl⟩ := List.mem_map.1 hu
  rfl
def OverAt (w : World) (kb vb : Nat) (l : List RowV) : Prop :=
  ∃ ku vu, w.heap[kb]? = some (.cells #[ku] 84 (0, 0)) ∧ w.heap[vb]? = some (.cells #[vu] 84 (0, 0)) ∧ FlatAt 1 w ku l.length (keysC l) ∧ FlatAt 1 w vu l.length (valsC l)
theorem OverAt.grow {w w' : World} {kb vb : Nat} {l : List RowV} (h : OverAt w kb vb l) (hb : Below w.heap.size w w') : OverAt w' kb vb l := by
  obtain ⟨ku, vu, h1, h2, h3, h4⟩ := h
  exact ⟨ku, vu, (hb.block kb (heap_lt h1)).trans h1, (hb.block vb (heap_lt h2)).trans h2, h3.grow hb, h4.grow hb⟩
def overV (kb vb : Nat) : Value := .func (.func 103) #[] #[.pointer (some ⟨kb, 0, none⟩), .pointer (some ⟨vb, 0, none⟩)]
theorem mOver_any (l : List RowV) (hl : l.length ≤ 4194304) (v1 v2 : Value) (w : World) (h1 : FlatAt 1 w v1 l.length (keysC l)) (h2 : FlatAt 1 w v2 l.length (valsC l)) :
    Calls Tryz.prog 36 #[v1, v2] w fun e w' => ∃ kb vb, e = .returned (overV kb vb) ∧ OverAt w' kb vb l ∧ Below w.heap.size w w' := by
  have H1 := hid h1
  have H2 := hid h2
  obtain ⟨a1, c1', rfl, hc1, hc1m, -⟩ := h1
  obtain ⟨a2, c2', rfl, hc2, hc2m, -⟩ := h2
  go_enter Tryz.func36, Tryz.ntmps36
  go_wp2_with fail
  have hk := alloc_new w (.cells #[.slice a1 l.length c1'] 84)
  have hk2 := (alloc_old (.cells #[.slice a2 l.length c2'] 84) (heap_lt hk)).trans hk
  have hv2 := alloc_new2 w (.cells #[.slice a1 l.length c1'] 84) (.cells #[.slice a2 l.length c2'] 84)
  have hB := ((Below.refl _ w).alloc (Nat.le_refl _) (.cells #[.slice a1 l.length c1'] 84)).alloc (by simp) (.cells #[.slice a2 l.length c2'] 84)
  have hz : w.heap.size + 2 = ((w.alloc (.cells #[.slice a1 l.length c1'] 84)).alloc (.cells #[.slice a2 l.length c2'] 84)).heap.size := by simp
  generalize (w.alloc (.cells #[.slice a1 l.length c1'] 84)).alloc (.cells #[.slice a2 l.length c2'] 84) = w1 at hk2 hv2 hB hz ⊢
  have Hk := hid hk2
  have Hv := hid hv2
  have HB := hid hB
  have Hz := hid hz
  have l1 := heap_lt hk2
  have l2 := heap_lt hv2
  clear hk hk2 hv2 hB hz
  unfold maxLen at hc1m hc2m
  refine Ps.wp_par (Ps.relC (fun _ => False) (fun b _ => b < w1.heap.size)) (fun _ => True) (false :: false :: false :: true :: false :: false :: false :: true :: []) _ (.fix ?_ :: .fix ?_ :: .fix ?_ :: .st (none) (fun u W => FlatAt 1 W u l.length (keysC l) ∧ ∀ a m c, u = .slice (some a) m c → w1.heap.size ≤ a.block) (fun _ _ => True) :: .fix ?_ :: .fix ?_ :: .fix ?_ :: .st (none) (fun u W => FlatAt 1 W u l.length (valsC l) ∧ ∀ a m c, u = .slice (some a) m c → w1.heap.size ≤ a.block) (fun _ _ => True) :: []) (by kernel_rfl) (by kernel_rfl) (by simp only [List.length_cons, List.length_nil, List.drop_succ_cons, List.drop_zero, List.drop_nil]; with_reducible rfl) rfl (fun _ _ _ _ _ => ⟨fun h => h, fun h => h⟩) (fun _ _ h _ => h) (trivial) ?_
  rotate_left 6
  iterate 3
    first
      | (refine Ps.par_skip (a' := ?_) (by rfl) (by rfl) ?_ ?_ ?_; rotate_left 1; with_reducible rfl; (simp only [Act.put, List.setIfInBounds_toArray, List.set_cons_zero, List.set_cons_succ]; with_reducible rfl))
      | (refine Ps.par_run (a' := ?_) (by rfl) (by rfl) (fun w' hb hn => ?_) ?_ ?_; rotate_left 1; (have q0 := hb.2 w.heap.size 0 _ l1 (cell_of Hk.out 0); have q1 := hb.2 (w.heap.size + 1) 0 _ l2 (cell_of Hv.out 0); first | (go_simp; (try simp (disch := omega) only [IntWalk.i64_in, IntWalk.i32_in, IntWalk.u64_in, IntWalk.u8_in, IntWalk.u32_in, toNatUp, iteOmega]); with_reducible rfl) | (go_simp; (try simp (disch := omega) only [IntWalk.i64_in, IntWalk.i32_in, IntWalk.u64_in, IntWalk.u8_in, IntWalk.u32_in, toNatUp, iteOmega]); go_simp; with_reducible rfl)); (simp only [Act.put, List.setIfInBounds_toArray, List.set_cons_zero, List.set_cons_succ]; with_reducible rfl))
  refine Ps.par_stc (a' := ?ap1k3) (f := ?fp1k3) (args := ?rp1k3) (by rfl) (by rfl) (fun w' => ?ep1k3) (fun _ _ _ h hb => ⟨h.1.grow hb.1.grow, h.2⟩) (fun _ _ _ h _ => h) (fun w' hb hn hr => ?hp1k3) (fun u => ?pp1k3) (fun u3 hu3 => ?gp1k3)
  case ep1k3 => (go_simp; constructor <;> with_reducible rfl)
  case hp1k3 => (exact (clone_any _ l.length (keysC l) w' (H1.out.grow (HB.out.trans (hb.1.grow.mono HB.out.size))) (keys_one l) (by omega)).mono (fun e w2 ⟨u, he, hf, hfr, hb2⟩ => ⟨u, he, trivial, ⟨hf, fun a m c he => Nat.le_trans hb.1.size (hfr a m c he)⟩, ⟨But.of hb2, fun b i v hs hc => (hb2.cell (p := ⟨b, i, none⟩) (World.block_lt_of_cell? _ _ hc)).trans hc⟩, trivial⟩))
  case pp1k3 => (simp only [Act.put, List.setIfInBounds_toArray, List.set_cons_zero, List.set_cons_succ]; with_reducible rfl)
  iterate 3
    first
      | (refine Ps.par_skip (a' := ?_) (by rfl) (by rfl) ?_ ?_ ?_; rotate_left 1; with_reducible rfl; (simp only [Act.put, List.setIfInBounds_toArray, List.set_cons_zero, List.set_cons_succ]; with_reducible rfl))
      | (refine Ps.par_run (a' := ?_) (by rfl) (by rfl) (fun w' hb hn => ?_) ?_ ?_; rotate_left 1; (have q0 := hb.2 w.heap.size 0 _ l1 (cell_of Hk.out 0); have q1 := hb.2 (w.heap.size + 1) 0 _ l2 (cell_of Hv.out 0); first | (go_simp; (try simp (disch := omega) only [IntWalk.i64_in, IntWalk.i32_in, IntWalk.u64_in, IntWalk.u8_in, IntWalk.u32_in, toNatUp, iteOmega]); with_reducible rfl) | (go_simp; (try simp (disch := omega) only [IntWalk.i64_in, IntWalk.i32_in, IntWalk.u64_in, IntWalk.u8_in, IntWalk.u32_in, toNatUp, iteOmega]); go_simp; with_reducible rfl)); (simp only [Act.put, List.setIfInBounds_toArray, List.set_cons_zero, List.set_cons_succ]; with_reducible rfl))
  refine Ps.par_stc (a' := ?ap2k7) (f := ?fp2k7) (args := ?rp2k7) (by rfl) (by rfl) (fun w' => ?ep2k7) (fun _ _ _ h hb => ⟨h.1.grow hb.1.grow, h.2⟩) (fun _ _ _ h _ => h) (fun w' hb hn hr => ?hp2k7) (fun u => ?pp2k7) (fun u7 hu7 => ?gp2k7)
  case ep2k7 => (go_simp; constructor <;> with_reducible rfl)
  case hp2k7 => (exact (clone_any _ l.length (valsC l) w' (H2.out.grow (HB.out.trans (hb.1.grow.mono HB.out.size))) (vals_one l) (by omega)).mono (fun e w2 ⟨u, he, hf, hfr, hb2⟩ => ⟨u, he, trivial, ⟨hf, fun a m c he => Nat.le_trans hb.1.size (hfr a m c he)⟩, ⟨But.of hb2, fun b i v hs hc => (hb2.cell (p := ⟨b, i, none⟩) (World.block_lt_of_cell? _ _ hc)).trans hc⟩, trivial⟩))
  case pp2k7 => (simp only [Act.put, List.setIfInBounds_toArray, List.set_cons_zero, List.set_cons_succ]; with_reducible rfl)
  refine Ps.par_end (fun w9 hb9 hf9 hr9 => ?_)
  try refine Ps.wpList_none ?_
  have e7 := hf9 _ List.mem_cons_self
  have e3 := hf9 _ (List.mem_cons_of_mem _ List.mem_cons_self)
  try dsimp only at e7 e3
  have b9 := hb9.1.grow
  have hk9 := (b9.block _ l1).trans Hk.out
  have hv9 := (b9.block _ l2).trans Hv.out
  have HB9 := hid (HB.out.trans (b9.mono HB.out.size))
  have E7 := hid e7
  have E3 := hid e3
  obtain ⟨⟨a3, c3, rfl, -⟩, -⟩ := e3
  obtain ⟨⟨a7, c7, rfl, -⟩, -⟩ := e7
  have k0 := cell_of hk9 0
  have f0 := free_of hk9 0
  have k1 := cell_of hv9 0
  have f1 := free_of hv9 0
  clear hb9 hf9 hr9 b9
  go_wp2
  have s1 := setCell_at hk9 0 (.slice a3 l.length c3)
  have r1 := Rb.set (w := w9) w.heap.size 0 (.slice a3 l.length c3)
  have s2 := setCell_at (r1.at hv9 (by omega)) 0 (.slice a7 l.length c7)
  have r2 := Rb.set (w := w9.setCell ⟨w.heap.size, 0, none⟩ (.slice a3 l.length c3)) (w.heap.size + 1) 0 (.slice a7 l.length c7)
  have s1' := r2.at s1 (by omega)
  have sz := Hz.out
  have g3 : ∀ a m c, Value.slice a3 l.length c3 = .slice (some a) m c → w.heap.size + 2 ≤ a.block := fun a m c he => by have := E3.out.2 a m c he; omega
  have g7 : ∀ a m c, Value.slice a7 l.length c7 = .slice (some a) m c → w.heap.size + 2 ≤ a.block := fun a m c he => by have := E7.out.2 a m c he; omega
  have F3 := (E3.out.1.but r1 (fun a m c he hh => by have := g3 a m c he; omega)).but r2 (fun a m c he hh => by have := g3 a m c he; omega)
  have F7 := (E7.out.1.but r1 (fun a m c he hh => by have := g7 a m c he; omega)).but r2 (fun a m c he hh => by have := g7 a m c he; omega)
  have BB := ((But.of (w := w) HB9.out).trans' r1 (F := fun _ => False) (fun i hi he => by omega)).trans' r2 (F := fun _ => False) (fun i hi he => by omega)
  go_ret
  exact ⟨_, _, rfl, ⟨_, _, s1', s2, F3, F7⟩, BB.grow⟩
theorem keysC_snoc (l : List RowV) (r : RowV) : keysC (l ++ [r]) = keysC l ++ [.string r.1] := by simp [keysC]
theorem valsC_snoc (l : List RowV) (r : RowV) : valsC (l ++ [r]) = valsC l ++ [.string r.2] := by simp [valsC]
theorem over_any (l : List RowV) (hl : l.length ≤ 4194304) (v : Value) (w : World) (h : rowsF l v w) :
    Calls Tryz.prog 19 #[v] w fun e w' => ∃ kb vb, e = .returned (overV kb vb) ∧ OverAt w' kb vb l ∧ Below w.heap.size w w' := by
  have H := hid h
  obtain ⟨a, c', rfl, hc1, hcm, -⟩ := h
  unfold maxLen at hcm
  go_enter Tryz.func19, Tryz.ntmps19
  go_wp2
  go_loopw [3, 4, 5] (fun vk vv vi wr => ∃ i : Nat, i ≤ l.length ∧ vi = .int .i64 i ∧ w.heap.size ≤ wr.heap.size ∧ Hid (wr.ownsRow w.heap.size 9 1 vk i (keysC (l.take i)) ∧ wr.ownsRow w.heap.size 9 1 vv i (valsC (l.take i)) ∧ (∀ g, vk.ownBlock = some g → vv.ownBlock ≠ some g) ∧ Below w.heap.size w wr)) (fun _ _ vi _ => l.length - (intOf vi).toNat)
  case atStart => exact ⟨0, Nat.zero_le _, rfl, Nat.le_refl _, ⟨⟨rfl, .inl ⟨rfl, rfl⟩⟩, ⟨rfl, .inl ⟨rfl, rfl⟩⟩, (fun g hg => by simp [Value.ownBlock] at hg), Below.refl _ _⟩⟩
  case round =>
    obtain ⟨i, hi, rfl, hws, hR⟩ := hrel
    obtain ⟨ak, ck, rfl⟩ := own_slice hR.out.1
    obtain ⟨av, cv, rfl⟩ := own_slice hR.out.2.1
    by_cases hlt : i < l.length
    · obtain ⟨⟨rk, rv⟩, hx⟩ : ∃ x, l[i]? = some x := ⟨_, List.getElem?_eq_getElem hlt⟩
      obtain ⟨b, off, cap', he, d0, d1⟩ := rows_at H.out hx
      cases he
      dsimp only at d0 d1
      have hb0 := World.block_lt_of_cell? w _ d0
      dsimp only at hb0
      have D1 := hid d1
      have c0 := (hR.out.2.2.2.cell (p := ⟨b, off + i * 2, none⟩) hb0).trans d0
      have ht := hid (take_snoc hx)
      clear hx d0 d1
      have KO := hid hR.out.1
      have VO := hid hR.out.2.1
      have AP := hid hR.out.2.2.1
      have BB := hid hR.out.2.2.2
      clear hR
      go_wp2_with (first | (at_builtin; refine app1k 84 9 Tryz.underlying84 info_str rfl (by decide) KO.out hws (by unfold maxLen; omega) (by omega) rfl rfl rfl rfl rfl rfl (by simp [Value.oneCell']) ?_; intro v1 w5 hown5 hb5 hg5; have V5 := hid (own_at VO.out hb5 (fun g hg hk => AP.out g hk hg)); have B5 := hid (show Below w.heap.size w w5 from ((But.of (w := w) BB.out).trans' hb5 (F := fun _ => False) (fun k hk ho => by have := (KO.out.lt k ho).1; omega)).grow); have A5 := hid (show ∀ g, v1.ownBlock = some g → (Value.slice av i cv).ownBlock ≠ some g from fun g hg he => (hg5 g hg).elim (fun h => AP.out g h he) (fun h => by have := (VO.out.lt g he).2; omega)); have O5 := hid hown5; have q1 := (B5.out.cell (p := ⟨b, off + i * 2 + 1, none⟩) hb0).trans D1.out; have s5 : w.heap.size ≤ w5.heap.size := B5.out.size; clear hown5 hb5 hg5) | (at_builtin; refine app1k 84 9 Tryz.underlying84 info_str rfl (by decide) V5.out s5 (by unfold maxLen; omega) (by omega) rfl rfl rfl rfl rfl rfl (by simp [Value.oneCell']) ?_; intro v2 w6 hown6 hb6 hg6))
      have K6 := own_at O5.out hb6 (fun g hg hk => A5.out g hg hk)
      have B6 : Below w.heap.size w w6 := ((But.of (w := w) B5.out).trans' hb6 (F := fun _ => False) (fun k hk ho => by have := (VO.out.lt k ho).1; omega)).grow
      refine ⟨⟨i + 1, by omega, by go_num, B6.size, ?_, ?_, ?_, B6⟩, by simp [intOf]; omega⟩
      · rw [ht.out, keysC_snoc]; exact K6
      · rw [ht.out, valsC_snoc]; exact hown6
      · intro g hg he
        exact (hg6 g he).elim (fun h => A5.out g hg h) (fun h => by have := (O5.out.lt g hg).2; omega)
    · have hin : i = l.length := by omega
      subst hin
      have F1 := hid (FlatAt.of_own hR.out.1)
      have F2 := hid (FlatAt.of_own hR.out.2.1)
      go_wp2_with fail
      refine (mOver_any l hl _ _ _ (by have := F1.out; rw [List.take_length] at this; exact this) (by have := F2.out; rw [List.take_length] at this; exact this)).mono ?_
      rintro e w2 ⟨kb, vb, rfl, ho, b2⟩
      have HO := hid ho
      have HB := hid (hR.out.2.2.2.trans (b2.mono hR.out.2.2.2.size))
      clear ho b2
      go_wp2
      go_ret
      exact ⟨kb, vb, rfl, HO.out, HB.out⟩
end Go.Proofs.YthikijlbclckdaaGreat
namespace Go.Proofs.YthikijlbclckdaaGreat
set_option maxRecDepth 100000
set_option maxHeartbeats 40000000
set_option linter.unusedSimpArgs false
set_option linter.unusedVariables false
open Go.IntWalk Go.RowKit
theorem info_rrow2 : (Tryz.prog.info? 70).map (fun i => (i.zero, i.size, i.bytes)) = some (some (.agg #[.string ⟨#[]⟩, .string ⟨#[]⟩]), 2, 32) := by kernel_rfl
theorem plain_any (l : List RowV) (hl : l.length ≤ 4194304) (v : Value) (w : World) (h : rowsF l v w) :
    Calls Tryz.prog 21 #[v] w fun e w' => ∃ u, e = .returned u ∧ rowsF l u w' ∧ Below w.heap.size w w' := by
  have H := hid h
  obtain ⟨a, c', rfl, hc1, hcm, -⟩ := h
  unfold maxLen at hcm
  go_enter Tryz.func21, Tryz.ntmps21
  go_wp2
  go_loopw [3, 4] (fun vk vi wr => ∃ i : Nat, i ≤ l.length ∧ vi = .int .i64 i ∧ w.heap.size ≤ wr.heap.size ∧ Hid (wr.ownsRow w.heap.size 70 2 vk i (rowsC (l.take i)) ∧ Below w.heap.size w wr)) (fun _ vi _ => l.length - (intOf vi).toNat)
  case atStart => exact ⟨0, Nat.zero_le _, rfl, Nat.le_refl _, ⟨⟨rfl, .inl ⟨rfl, rfl⟩⟩, Below.refl _ _⟩⟩
  case round =>
    obtain ⟨i, hi, rfl, hws, hR⟩ := hrel
    obtain ⟨ak, ck, rfl⟩ := own_slice hR.out.1
    by_cases hlt : i < l.length
    · obtain ⟨⟨rk, rv⟩, hx⟩ : ∃ x, l[i]? = some x := ⟨_, List.getElem?_eq_getElem hlt⟩
      obtain ⟨b, off, cap', he, d0, d1⟩ := rows_at H.out hx
      cases he
      dsimp only at d0 d1
      have hb0 := World.block_lt_of_cell? w _ d0
      dsimp only at hb0
      have D0 := hid ((hR.out.2.cell (p := ⟨b, off + i * 2, none⟩) hb0).trans d0)
      have D1 := hid ((hR.out.2.cell (p := ⟨b, off + i * 2 + 1, none⟩) hb0).trans d1)
      have ht := hid (take_snoc hx)
      have KO := hid hR.out.1
      have BB := hid hR.out.2
      have nl := hid (own_lt hR.out.1)
      have nb := hid (show ¬ ownB (.slice ak i ck) b from fun hh => by have := (hR.out.1.lt b hh).1; omega)
      clear hx d0 d1 hR
      go_wp2_with fail
      refine Ps.wp_par (Ps.relC (fun x => ownB (.slice ak i ck) x) (fun x _ => x = b)) (fun W => True ∧ W.ownsRow w.heap.size 70 2 (.slice ak i ck) i (rowsC (l.take i))) (false :: false :: false :: false :: false :: false :: false :: false :: false :: false :: false :: false :: false :: true :: []) _ (.fix ?_ :: .fix ?_ :: .fix ?_ :: .fix ?_ :: .fix ?_ :: .fix ?_ :: .fix ?_ :: .fix ?_ :: .fix ?_ :: .fix ?_ :: .fix ?_ :: .fix ?_ :: .new (Ps.rowN 2 ?_ ?_ wr.heap.size) :: .st (some (i + 1)) (fun _ _ => True) (fun u W => True ∧ W.ownsRow w.heap.size 70 2 u (i + 1) (rowsC (l.take i) ++ [.string rk, .string rv])) :: []) (by kernel_rfl) (by kernel_rfl) (by simp only [List.length_cons, List.length_nil, List.drop_succ_cons, List.drop_zero, List.drop_nil]; with_reducible rfl) rfl (fun _ _ _ _ _ => ⟨fun h => h, fun h => h⟩) (fun _ _ h hb => ⟨trivial, own_below h.2 hb⟩) (⟨trivial, KO.out⟩) ?_
      rotate_left 14
      iterate 12
        first
          | (refine Ps.par_skip (a' := ?_) (by rfl) (by rfl) ?_ ?_ ?_; rotate_left 1; with_reducible rfl; (simp only [Act.put, List.setIfInBounds_toArray, List.set_cons_zero, List.set_cons_succ]; with_reducible rfl))
          | (refine Ps.par_run (a' := ?_) (by rfl) (by rfl) (fun w' hb hn => ?_) ?_ ?_; rotate_left 1; (have q0 := hb.2 b _ _ rfl D0.out; have q1 := hb.2 b _ _ rfl D1.out; first | (go_simp; (try simp (disch := omega) only [IntWalk.i64_in, IntWalk.i32_in, IntWalk.u64_in, IntWalk.u8_in, IntWalk.u32_in, toNatUp, iteOmega]); with_reducible rfl) | (go_simp; (try simp (disch := omega) only [IntWalk.i64_in, IntWalk.i32_in, IntWalk.u64_in, IntWalk.u8_in, IntWalk.u32_in, toNatUp, iteOmega]); go_simp; with_reducible rfl)); (simp only [Act.put, List.setIfInBounds_toArray, List.set_cons_zero, List.set_cons_succ]; with_reducible rfl))
      refine Ps.par_row (a' := ?ap1k12) (m := ?mp1k12) (T := ?Tp1k12) (cs := ?cp1k12) (r := ?rp1k12) (fun x h => nl.out x h) (by rfl) (by rfl) (fun w' hb hn => ?hp1k12) (fun w' => ?ep1k12) ?np1k12 ?vp1k12 ?lp1k12 ?xp1k12 (fun u => ?pp1k12) (fun u => ?gp1k12)
      case hp1k12 => (have q0 := hb.2 b _ _ rfl D0.out; have q1 := hb.2 b _ _ rfl D1.out; go_simp; (try simp (disch := omega) only [IntWalk.i64_in, IntWalk.i32_in, IntWalk.u64_in, IntWalk.u8_in, IntWalk.u32_in, toNatUp, iteOmega]); with_reducible rfl)
      case ep1k12 => with_reducible rfl
      case np1k12 => with_reducible rfl
      case vp1k12 => with_reducible rfl
      case lp1k12 => simp only [List.length_cons, List.length_nil]
      case xp1k12 => (unfold maxLen; omega)
      case pp1k12 => (simp only [Act.put, List.setIfInBounds_toArray, List.set_cons_zero, List.set_cons_succ]; with_reducible rfl)
      refine Ps.par_app (a' := ?ap2k13) (A := fun W => True) 41 70 Tryz.underlying41 info_rrow2 rfl (by decide) hws (by unfold maxLen; omega) (by omega) (by simp [Value.oneCell']) (fun _ _ _ _ _ => trivial) (fun _ _ _ _ => trivial) (fun _ h => h) (fun x i hs hb => by subst hs; exact nb.out hb) (by rfl) rfl rfl rfl rfl (fun w' hb hn => ?xp2k13) (fun u => ?pp2k13) (fun u hu13 => ?gp2k13)
      case xp2k13 => (exact (Ps.need_head hn (by kernel_rfl)).1)
      case pp2k13 => (simp only [Act.put, List.setIfInBounds_toArray, List.set_cons_zero, List.set_cons_succ]; with_reducible rfl)
      obtain ⟨au13, cu13, rfl⟩ := hu13
      refine Ps.par_end (fun w9 hb9 hf9 hr9 => ?_)
      try refine Ps.wpList_none ?_
      have B9 : Below w.heap.size w w9 := ((But.of (w := w) BB.out).trans' hb9.1 (F := fun _ => False) (fun k hk ho => by have := (KO.out.lt k ho).1; omega)).grow
      have O9 := hr9.2
      replace B9 := hid B9
      replace O9 := hid O9
      clear hb9 hf9 hr9
      go_wp2
      exact ⟨⟨i + 1, by omega, by go_num, B9.out.size, by rw [ht.out, rowsC_snoc]; exact O9.out, B9.out⟩, by simp [intOf]; omega⟩
    · have hin : i = l.length := by omega
      subst hin
      have F1 := hid (FlatAt.of_own hR.out.1)
      go_wp2
      go_ret
      exact ⟨_, rfl, by have := F1.out; rw [List.take_length] at this; exact this, hR.out.2⟩
end Go.Proofs.YthikijlbclckdaaGreat
namespace Go.Proofs.YthikijlbclckdaaGreat
set_option maxRecDepth 100000
set_option maxHeartbeats 40000000
set_option linter.unusedSimpArgs false
set_option linter.unusedVariables false
open Go.IntWalk Go.RowKit
theorem same_any (l : List RowV) (hmax : l.length ≤ 4194304) (hsz : RowsSz l) (u1 u2 : Value) (w : World) (h1 : rowsF l u1 w) (h2 : rowsF l u2 w) :
    Calls Tryz.prog 13 #[u1, u2] w fun e w' => e = .returned (.bool true) ∧ Below w.heap.size w w' := by
  have H1 := hid h1
  have H2 := hid h2
  obtain ⟨a1, c1', rfl, -⟩ := h1
  obtain ⟨a2, c2', rfl, -⟩ := h2
  go_enter Tryz.func13, Tryz.ntmps13
  go_wp2
  go_loopw [5] (fun vi wr => ∃ i : Nat, i ≤ l.length ∧ vi = .int .i64 i ∧ Hid (Below w.heap.size w wr)) (fun vi _ => l.length - (intOf vi).toNat)
  case atStart => exact ⟨0, Nat.zero_le _, rfl, Below.refl _ _⟩
  case round =>
    obtain ⟨i, hi, rfl, hR⟩ := hrel
    by_cases hlt : i < l.length
    · obtain ⟨⟨rk, rv⟩, hx⟩ : ∃ x, l[i]? = some x := ⟨_, List.getElem?_eq_getElem hlt⟩
      obtain ⟨b1, o1, p1, e1, k10, k11⟩ := rows_at (rowsF_st _ _ _ _ H1.out hR.out) hx
      cases e1
      obtain ⟨b2, o2, p2, e2, k20, k21⟩ := rows_at (rowsF_st _ _ _ _ H2.out hR.out) hx
      cases e2
      dsimp only at k10 k11 k20 k21
      have hb1 := World.block_lt_of_cell? wr _ k10
      have hb2 := World.block_lt_of_cell? wr _ k20
      dsimp only at hb1 hb2
      clear hx
      go_wp2_with fail
      refine wp_par (fun _ => False) (fun _ => True) (List.replicate 24 false) _ [.fix ?_, .fix ?_, .fix ?_, .fix ?_, .fix ?_, .fix ?_, .fix ?_, .fix ?_, .fix ?_, .fix ?_, .fix ?_, .fix ?_, .fix ?_, .fix ?_, .fix ?_, .fix ?_, .fix ?_, .fix ?_, .fix ?_, .fix ?_, .fix ?_, .fix ?_, .fix ?_, .fix ?_] (by kernel_rfl) (by kernel_rfl) (by simp only [List.length_replicate, List.drop_succ_cons, List.drop_zero, List.drop_nil]; with_reducible rfl) rfl (fun _ _ _ _ _ => ⟨fun h => h, fun h => h⟩) (fun _ _ h _ => h) trivial ?_
      rotate_left 24
      iterate 24
        first
          | (refine par_skip (a' := ?_) (by rfl) (by rfl) ?_ ?_ ?_; rotate_left 1; with_reducible rfl; (simp only [Act.put, List.setIfInBounds_toArray, List.set_cons_zero, List.set_cons_succ]; with_reducible rfl))
          | (refine par_run (a' := ?_) (by rfl) (by rfl) (fun w' hb hn => ?_) ?_ ?_; rotate_left 1; (have hc := hb.cells; first | (go_simp; (try simp (disch := omega) only [IntWalk.i64_in, IntWalk.i32_in, IntWalk.u64_in, IntWalk.u8_in, IntWalk.u32_in, toNatUp, iteOmega]); with_reducible rfl) | (go_simp; (try simp (disch := omega) only [IntWalk.i64_in, IntWalk.i32_in, IntWalk.u64_in, IntWalk.u8_in, IntWalk.u32_in, toNatUp, iteOmega]); go_simp; with_reducible rfl)); (simp only [Act.put, List.setIfInBounds_toArray, List.set_cons_zero, List.set_cons_succ]; with_reducible rfl))
      refine par_end (fun w9 hb9 hf9 _ => ?_)
      replace hb9 := hb9.grow
      try refine wpList_none ?_
      have hbb := hid (hR.out.trans (hb9.mono hR.out.size))
      clear hb9
      go_wp2
      go_roundw
      case rel => exact ⟨i + 1, by omega, by go_num, hbb⟩
      case measure => simp [intOf]; omega
    · have hin : i = l.length := by omega
      subst hin
      go_wp2
      go_ret
      exact ⟨rfl, hR.out⟩
def state0 : StateV := { pos := 0, done := 0, made := 0, procs := [], insts := [], tokens := [], jobs := [], timers := [], subs := [], kept := [], listed := [], msgs := [] }
def cells0 : List Value := [U 0, U 0, U 0, .slice none 0 0, .slice none 0 0, .slice none 0 0, .slice none 0 0, .slice none 0 0, .slice none 0 0, .slice none 0 0, .slice none 0 0, .slice none 0 0]
theorem listAt0 {α : Type} (R : World → List Value → α → Prop) (size : Nat) (w : World) : ListAt R size w (.slice none 0 0) [] :=
  ⟨none, 0, rfl, Nat.le_refl _, by simp [maxLen], fun i x h => by cases h⟩
theorem stateAt0 (w : World) : StateAt w cells0 state0 (.slice none 0 0) (.slice none 0 0) (.slice none 0 0) (.slice none 0 0) (.slice none 0 0) (.slice none 0 0) (.slice none 0 0) (.slice none 0 0) (.slice none 0 0) :=
  ⟨rfl, listAt0 _ _ _, listAt0 _ _ _, listAt0 _ _ _, listAt0 _ _ _, listAt0 _ _ _, listAt0 _ _ _, listAt0 _ _ _, listAt0 _ _ _, listAt0 _ _ _⟩
theorem stateOk0 : StateOk state0 := by
  constructor <;> first | (show U64 0; unfold U64; omega) | (intro x hx; cases hx) | (simp [state0])
theorem uv0 : uvS 0 = ⟨#[0]⟩ := by unfold uvS; rw [Lib.uvarint_small (by decide)]; rfl
theorem rows0 : rows state0 = [(⟨#[97]⟩, ⟨#[0, 0, 0]⟩)] := by
  show [((c1 97 : ByteArray), uvS 0 ++ uvS 0 ++ uvS 0)] = _
  rw [uv0]
  rfl
theorem may0 : mayB state0 = true := by
  have h1 : boundsB state0 = true := by rfl
  unfold mayB
  rw [h1, rows0]
  rfl
theorem told0 : toldS state0 = [(⟨#[97]⟩, ⟨#[0, 0, 0]⟩)] := by rw [toldS_yes may0, rows0]
theorem run_eql_func_nil {P : Program} (w : World) (t : TypeId) {a b c} (h : P.underlying t = some (.func a b c)) : (binOp .eql t .nilFunc .nilFunc).run P w = .ok (.bool true) w := by
  have e : (Op.equal t .nilFunc .nilFunc).run P w = .ok true w := by
    show (Op.equalIn (Nat.succ 9999) t .nilFunc .nilFunc).run P w = _
    generalize 9999 = d
    simp [Op.equalIn, run_underlying h]
  simp only [binOp]
  simp [e]
theorem run_eql_func_some {P : Program} (w : World) (t : TypeId) (f : Fn) (xs ys : Array Value) {a b c} (h : P.underlying t = some (.func a b c)) : (binOp .eql t (.func f xs ys) .nilFunc).run P w = .ok (.bool false) w := by
  have e : (Op.equal t (.func f xs ys) .nilFunc).run P w = .ok false w := by
    show (Op.equalIn (Nat.succ 9999) t (.func f xs ys) .nilFunc).run P w = _
    generalize 9999 = d
    simp [Op.equalIn, run_underlying h]
  simp only [binOp]
  simp [e]
theorem readNil_any (w : World) : Calls Tryz.prog 18 #[.nilFunc] w fun e w' => e = .returned (.tuple #[.agg cells0.toArray, .int .i64 3]) ∧ Below w.heap.size w w' := by
  go_enter Tryz.func18, Tryz.ntmps18
  have he := fun w => run_eql_func_nil (P := Tryz.prog) w 38 Tryz.underlying38
  go_wp2
  have hb : Below w.heap.size w (((((w.alloc (.cells cells0.toArray 33)).alloc (.cells #[.int .i64 3] 47)).alloc (.cells cells0.toArray 33)).alloc (.cells #[.string ⟨#[]⟩] 9)).alloc (.cells #[.bool true] 4)) := by
    refine ((((((Below.refl _ w).alloc (Nat.le_refl _) _).alloc ?_ _).alloc ?_ _).alloc ?_ _).alloc ?_ _) <;> (simp only [World.size_alloc]; omega)
  have x2 := alloc_new w (.cells cells0.toArray 33)
  have x3 := alloc_new (w.alloc (.cells cells0.toArray 33)) (.cells #[.int .i64 3] 47)
  have y2 := (alloc_old (.cells #[.int .i64 3] 47) (heap_lt x2)).trans x2
  have z2 := (alloc_old (.cells cells0.toArray 33) (heap_lt y2)).trans y2
  have y3 := (alloc_old (.cells cells0.toArray 33) (heap_lt x3)).trans x3
  have u2 := (alloc_old (.cells #[.string ⟨#[]⟩] 9) (heap_lt z2)).trans z2
  have z3 := (alloc_old (.cells #[.string ⟨#[]⟩] 9) (heap_lt y3)).trans y3
  have v2 := (alloc_old (.cells #[.bool true] 4) (heap_lt u2)).trans u2
  have u3 := (alloc_old (.cells #[.bool true] 4) (heap_lt z3)).trans z3
  change bodyPost _ _ _ _ _ (((((w.alloc (.cells cells0.toArray 33)).alloc (.cells #[.int .i64 3] 47)).alloc (.cells cells0.toArray 33)).alloc (.cells #[.string ⟨#[]⟩] 9)).alloc (.cells #[.bool true] 4))
  simp only [World.size_alloc] at u3
  generalize (((((w.alloc (.cells cells0.toArray 33)).alloc (.cells #[.int .i64 3] 47)).alloc (.cells cells0.toArray 33)).alloc (.cells #[.string ⟨#[]⟩] 9)).alloc (.cells #[.bool true] 4)) = W at hb v2 u3 ⊢
  clear x2 x3 y2 z2 y3 u2 z3
  have k0 := cell_of v2 0
  have k1 := cell_of v2 1
  have k2 := cell_of v2 2
  have k3 := cell_of v2 3
  have k4 := cell_of v2 4
  have k5 := cell_of v2 5
  have k6 := cell_of v2 6
  have k7 := cell_of v2 7
  have k8 := cell_of v2 8
  have k9 := cell_of v2 9
  have k10 := cell_of v2 10
  have k11 := cell_of v2 11
  have e0 := cell_of u3 0
  try simp only [cells0] at k0 k1 k2 k3 k4 k5 k6 k7 k8 k9 k10 k11
  exact bodyPost_ret (v := .tuple #[.agg cells0.toArray, .int .i64 3]) (by simp [results, Tryz.results18, go_sem, cells0, k0, k1, k2, k3, k4, k5, k6, k7, k8, k9, k10, k11, e0]) rfl ⟨rfl, hb⟩
theorem shown_any (w : World) : Calls Tryz.prog 10 #[] w fun e w' => e = .returned (.bool true) ∧ Below w.heap.size w w' := by
  go_enter Tryz.func10, Tryz.ntmps10
  go_wp2_with fail
  refine (smay_any state0 stateOk0 (rowsSz _ stateOk0) cells0 _ _ _ _ _ _ _ _ _ w (stateAt0 w)).mono ?_
  rintro e w1 ⟨rfl, b1⟩
  rw [may0]
  have B1 := hid b1
  clear b1
  go_wp2_with fail
  refine (srows_any state0 stateOk0 cells0 _ _ _ _ _ _ _ _ _ w1 (stateAt0 w1)).mono ?_
  rintro e w2 ⟨lc, v, rfl, hlc, hv, b2⟩
  rw [told0] at hv
  have B2 := hid (B1.out.trans (b2.mono B1.out.size))
  have Hlc := hid hlc
  have Hv := hid hv
  clear b2 hlc hv
  go_wp2_with fail
  refine (told_any lc _ v w2 Hlc.out Hv.out (by simp)).mono ?_
  rintro e w3 ⟨u, rfl, hf, b3⟩
  have B3 := hid (B2.out.trans (b3.mono B2.out.size))
  obtain ⟨b, off, cap, rfl, c0, c1⟩ := rows_at hf (i := 0) rfl
  dsimp only at c0 c1
  have hbl := World.block_lt_of_cell? w3 _ c0
  dsimp only at hbl
  have C0 := hid c0
  have C1 := hid c1
  clear b3 hf c0 c1
  go_wp2_with fail
  refine (readNil_any w3).mono ?_
  rintro e w4 ⟨rfl, b4⟩
  have c0 := (b4.cell (p := ⟨b, off + 0 * 2, none⟩) hbl).trans C0.out
  have c1 := (b4.cell (p := ⟨b, off + 0 * 2 + 1, none⟩) hbl).trans C1.out
  have B4 := hid (B3.out.trans (b4.mono B3.out.size))
  have hbl4 := World.block_lt_of_cell? w4 _ c0
  dsimp only at hbl4
  clear b4
  simp only [Nat.zero_mul, Nat.add_zero] at c0 c1
  simp only [cells0]
  go_wp2
  go_ret
  exact ⟨rfl, B4.out.alloc B4.out.size _⟩
end Go.Proofs.YthikijlbclckdaaGreat
