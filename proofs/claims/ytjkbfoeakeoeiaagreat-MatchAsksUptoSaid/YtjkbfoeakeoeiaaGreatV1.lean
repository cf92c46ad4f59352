/- Keep: contracts (A Rf B). -/
import Derived.WalkKit
import Derived.MapKept
import Derived.Lib.Hide
import Derived.RangeFuncWrites
import Derived.RangeFuncNested
import Derived.RangeFuncBound
import Derived.RangeFuncCalls
import Derived.RangeFuncLeaves
import Derived.RangeFuncBox
import Derived.Deep.AppendLies
namespace Go.Proofs.YtjkbfoeakeoeiaaGreat
set_option maxRecDepth 100000
set_option maxHeartbeats 40000000
set_option linter.unusedSimpArgs false
set_option linter.unusedVariables false
open Go.RowKit
theorem hid {p : Prop} (h : p) : RowKit.Hid p := h
open Go.MapKept (Stamped)
theorem heap_lt {w : World} {b : Nat} {o : Obj} (h : w.heap[b]? = some o) : b < w.heap.size := (Array.getElem?_eq_some_iff.1 h).1
abbrev KL (α : Type) := List (ByteArray × α × Nat)
def ents {α : Type} (enc : α → Value) (l : KL α) : Array MapEntry := (l.map fun p => ⟨.string p.1, enc p.2.1, p.2.2⟩).toArray
def look {α : Type} (l : KL α) (k : ByteArray) : Option α :=
  match l with
  | [] => none
  | p :: l => if k = p.1 then some p.2.1 else look l k
def has {α : Type} (l : KL α) (k : ByteArray) : Bool := (look l k).isSome
def put {α : Type} (l : KL α) (k : ByteArray) (x : α) (ck : Nat) : KL α :=
  match l with
  | [] => [(k, x, ck)]
  | p :: l => if k = p.1 then (k, x, p.2.2) :: l else p :: put l k x ck
def place {α : Type} (l : KL α) (k : ByteArray) : Nat :=
  match l with
  | [] => 0
  | p :: l => if k = p.1 then 0 else place l k + 1
section
variable {α : Type} {P : Program} {w : World} {enc : α → Value} {l : KL α} {t K e : TypeId} {mb ck : Nat} {z : Value}
theorem ents_size (enc : α → Value) (l : KL α) : (ents enc l).size = l.length := by simp [ents]
theorem findNow_ents (k : ByteArray) (l : KL α) (i : Nat) :
    Instr.findNow .string (.string k) (l.map fun p => (⟨.string p.1, enc p.2.1, p.2.2⟩ : MapEntry)) i = some ((look l k).map fun x => (i + place l k, enc x)) := by
  induction l generalizing i with
  | nil => simp [Instr.findNow, look]
  | cons p l ih =>
    by_cases h : k = p.1
    · have hb : (k == p.1) = true := (MapKept.bytes_beq k p.1).2 h
      simp only [List.map_cons, Instr.findNow, Instr.sameNow, hb, look, place, if_pos h]
      simp
    · have hb : (k == p.1) = false := by
        rw [Bool.eq_false_iff]
        exact fun hc => h ((MapKept.bytes_beq k p.1).1 hc)
      simp only [List.map_cons, Instr.findNow, Instr.sameNow, hb, look, place, if_neg h, ih]
      cases look l k <;> simp
      omega
theorem run_findKey (hK : P.underlying K = some .string) (k : ByteArray) :
    (Instr.findKey K (.string k) (ents enc l).toList).run P w = .ok ((look l k).map fun x => (place l k, enc x)) w := by
  simp [Instr.findKey, run_underlying hK, ents, findNow_ents]
theorem run_checkKey_s (hK : P.underlying K = some .string) (b : Bool) (k : ByteArray) : (Instr.checkKey b 10000 K (.string k)).run P w = .ok () w :=
  MapKept.run_checkKey hK (k := .string k) (by simp [MapKept.IsKey]) b 9999
theorem run_getObj_map {es : Array MapEntry} (hb : w.heap[mb]? = some (.map es ck)) : (getObj mb).run P w = .ok (.map es ck) w := by
  simp [getObj, Sem.run, hb]
theorem run_len_map (ht : P.underlying t = some (.map K e)) (hb : w.heap[mb]? = some (.map (ents enc l) ck)) (ty : TypeId) :
    (Builtin.len_ #[t] ty #[.map (some mb)]).run P w = .ok (.int .i64 l.length) w := by
  simp [Builtin.len_, run_underlying ht, run_getObj_map hb, goInt, ents_size]
def setB (w : World) (r : Nat) (o : Obj) : World := { w with heap := w.heap.setIfInBounds r o }
theorem ents_put_has (k : ByteArray) (x y : α) (h : look l k = some y) :
    (ents enc l).modify (place l k) (fun e => { e with key := .string k, val := enc x }) = ents enc (put l k x ck) := by
  unfold ents
  rw [List.modify_toArray]
  congr 1
  induction l with
  | nil => simp [look] at h
  | cons p l ih =>
    by_cases hk : k = p.1
    · simp [place, put, hk]
    · simp only [look, if_neg hk] at h
      simp only [place, put, if_neg hk, List.map_cons, List.modify_succ_cons, ih h]
theorem ents_put_new (k : ByteArray) (x : α) (h : look l k = none) :
    (ents enc l).push ⟨.string k, enc x, ck⟩ = ents enc (put l k x ck) := by
  unfold ents
  rw [List.push_toArray]
  congr 1
  induction l with
  | nil => simp [put]
  | cons p l ih =>
    by_cases hk : k = p.1
    · simp [look, hk] at h
    · simp only [look, if_neg hk] at h
      simp only [put, if_neg hk, List.map_cons, List.cons_append, ih h]
theorem place_at (k : ByteArray) (y : α) (h : look l k = some y) : ((ents enc l)[place l k]?).map (·.key) = some (.string k) := by
  unfold ents
  simp only [List.getElem?_toArray, List.getElem?_map]
  induction l with
  | nil => simp [look] at h
  | cons p l ih =>
    by_cases hk : k = p.1
    · simp [place, hk]
    · simp only [look, if_neg hk] at h
      simpa only [place, if_neg hk, List.getElem?_cons_succ] using ih h
theorem run_setObj_map {es : Array MapEntry} (hb : w.heap[mb]? = some (.map es ck)) (o : Obj) : (setObj mb o).run P w = .ok () (setB w mb o) := by
  simp [setObj, Sem.run, hb, setB]
def tick {α : Type} (l : KL α) (k : ByteArray) (ck : Nat) : Nat := if has l k then ck else ck + 1
theorem run_mapUpdate_s (ht : P.underlying t = some (.map K e)) (hK : P.underlying K = some .string)
    (hb : w.heap[mb]? = some (.map (ents enc l) ck)) (k : ByteArray) (x : α) (v : Value) (hv : v = enc x) :
    (Instr.mapUpdate t (.map (some mb)) (.string k) v).run P w = .ok () (setB w mb (.map (ents enc (put l k x ck)) (tick l k ck))) := by
  subst hv
  unfold Instr.mapUpdate
  simp [run_underlying ht, run_getObj_map hb, run_checkKey_s hK, run_findKey hK]
  cases h : look l k with
  | none =>
    have ht : tick l k ck = ck + 1 := by simp [tick, has, h]
    simp [run_setObj_map hb, ht, ents_put_new k x h]
  | some y =>
    have ht : tick l k ck = ck := by simp [tick, has, h]
    have hp := place_at (enc := enc) k y h
    have hk : Instr.sameBits 10000 (.string k) (.string k) = true := by simp [Instr.sameBits, MapKept.bytes_beq]
    simp [hp, Instr.keyThatStays, hk, run_setObj_map hb, ht, ents_put_has (ck := ck) k x y h]
abbrev Fm (α : Type) := List (ByteArray × α)
def mput {α : Type} (l : Fm α) (k : ByteArray) (x : α) : Fm α :=
  match l with
  | [] => [(k, x)]
  | p :: l => if k = p.1 then (k, x) :: l else p :: mput l k x
def strip {α : Type} (l : KL α) : Fm α := l.map fun p => (p.1, p.2.1)
theorem strip_put (l : KL α) (k : ByteArray) (x : α) (ck : Nat) : strip (put l k x ck) = mput (strip l) k x := by
  induction l with
  | nil => rfl
  | cons p l ih => by_cases h : k = p.1 <;> simp only [put, strip, List.map_cons, mput, h, if_true, if_false] <;> first | rfl | (congr 1)
def MapAt (w : World) (mb : Nat) (enc : α → Value) (m : Fm α) : Prop :=
  ∃ l ck, w.heap[mb]? = some (.map (ents enc l) ck) ∧ strip l = m ∧ Stamped (ents enc l) ck
theorem MapAt.lt {m : Fm α} (h : MapAt w mb enc m) : mb < w.heap.size := by
  obtain ⟨l, ck, hb, _⟩ := h
  exact (Array.getElem?_eq_some_iff.1 hb).1
theorem MapAt.same {w' : World} {m : Fm α} (h : MapAt w mb enc m) (he : w'.heap[mb]? = w.heap[mb]?) : MapAt w' mb enc m := by
  obtain ⟨l, ck, hb, r⟩ := h
  exact ⟨l, ck, he.trans hb, r⟩
theorem MapAt.len {m : Fm α} (h : MapAt w mb enc m) (ht : P.underlying t = some (.map K e)) (ty : TypeId) :
    (Builtin.len_ #[t] ty #[.map (some mb)]).run P w = .ok (.int .i64 m.length) w := by
  obtain ⟨l, ck, hb, rfl, _⟩ := h
  rw [run_len_map ht hb]; simp [strip]
theorem stamped_ents (l : KL α) (ck : Nat) : Stamped (ents enc l) ck ↔ (∀ x ∈ l, x.2.2 < ck) ∧ (l.map (·.2.2)).Nodup ∧ l.Pairwise (fun x y => x.1 ≠ y.1) := by
  rw [MapKept.stamped_iff]
  simp only [ents, List.pairwise_map, List.map_map, Function.comp_def, List.mem_map, forall_exists_index, and_imp, forall_apply_eq_imp_iff₂, ne_eq, Value.string.injEq]
theorem mem_put {l : KL α} {k : ByteArray} {x : α} {q : ByteArray × α × Nat} (h : q ∈ put l k x ck) : q ∈ l ∨ (q.1 = k ∧ ((has l k = false ∧ q.2.2 = ck) ∨ ∃ p ∈ l, p.1 = k ∧ q.2.2 = p.2.2)) := by
  induction l with
  | nil => simp [put] at h; subst h; exact .inr ⟨rfl, .inl ⟨rfl, rfl⟩⟩
  | cons p l ih =>
    by_cases hk : k = p.1
    · simp only [put, if_pos hk] at h
      rcases List.mem_cons.1 h with h | h
      · subst h; exact .inr ⟨rfl, .inr ⟨p, by simp, hk.symm, rfl⟩⟩
      · exact .inl (by simp [h])
    · simp only [put, if_neg hk] at h
      rcases List.mem_cons.1 h with h | h
      · subst h; exact .inl (by simp)
      · rcases ih h with h | ⟨h1, h2⟩
        · exact .inl (by simp [h])
        · refine .inr ⟨h1, ?_⟩
          rcases h2 with ⟨h2, h3⟩ | ⟨p', hp, h2⟩
          · exact .inl ⟨by simpa [has, look, hk] using h2, h3⟩
          · exact .inr ⟨p', by simp [hp], h2⟩
theorem put_stamps (l : KL α) (k : ByteArray) (x : α) (ck : Nat) : (put l k x ck).map (·.2.2) = if has l k then l.map (·.2.2) else l.map (·.2.2) ++ [ck] := by
  induction l with
  | nil => simp [put, has, look]
  | cons p l ih =>
    by_cases hk : k = p.1
    · simp [put, has, look, hk]
    · simp only [put, if_neg hk, List.map_cons, ih, has, look]
      split <;> simp_all
theorem stamped_put {l : KL α} (h : Stamped (ents enc l) ck) (k : ByteArray) (x : α) : Stamped (ents enc (put l k x ck)) (tick l k ck) := by
  rw [stamped_ents] at h ⊢
  obtain ⟨h1, h2, h3⟩ := h
  have hck : ck ≤ tick l k ck := by unfold tick; split <;> omega
  refine ⟨fun q hq => ?_, ?_, ?_⟩
  · rcases mem_put hq with hq | ⟨_, ⟨hn, hq⟩ | ⟨p, hp, _, hq⟩⟩
    · exact Nat.lt_of_lt_of_le (h1 q hq) hck
    · rw [hq]; simp [tick, hn]
    · rw [hq]; exact Nat.lt_of_lt_of_le (h1 p hp) hck
  · rw [put_stamps]
    split
    · exact h2
    · rw [List.nodup_append]
      refine ⟨h2, by simp, ?_⟩
      intro a ha b hb
      obtain ⟨q, hq, rfl⟩ := List.mem_map.1 ha
      have := h1 q hq
      have hb' : b = ck := by simpa using hb
      omega
  · clear h1 h2 hck
    induction l with
    | nil => simp [put]
    | cons p l ih =>
      rw [List.pairwise_cons] at h3
      by_cases hk : k = p.1
      · simp only [put, if_pos hk, List.pairwise_cons]
        exact ⟨fun q hq => by rw [hk]; exact h3.1 q hq, h3.2⟩
      · simp only [put, if_neg hk, List.pairwise_cons]
        refine ⟨fun q hq => ?_, ih h3.2⟩
        rcases mem_put hq with hq | ⟨hq, _⟩
        · exact h3.1 q hq
        · rw [hq]; exact fun e => hk e.symm
theorem setB_at (w : World) (o : Obj) (h : mb < w.heap.size) : (setB w mb o).heap[mb]? = some o := by simp [setB, h]
theorem setB_past (w : World) (o : Obj) (k : Nat) (h : k ≠ mb) : (setB w mb o).heap[k]? = w.heap[k]? := by simp [setB, Ne.symm h]
theorem setB_size (w : World) (o : Obj) : (setB w mb o).heap.size = w.heap.size := by simp [setB]
def rawL {α : Type} (enc : α → Value) (l : KL α) : KL Value := l.map fun p => (p.1, enc p.2.1, p.2.2)
theorem ents_raw (enc : α → Value) (l : KL α) : ents id (rawL enc l) = ents enc l := by simp [ents, rawL, Function.comp_def]
theorem raw_put (enc : α → Value) (l : KL α) (k : ByteArray) (x : α) (ck : Nat) : rawL enc (put l k x ck) = put (rawL enc l) k (enc x) ck := by
  induction l with
  | nil => rfl
  | cons p l ih => by_cases h : k = p.1 <;> simp only [put, rawL, List.map_cons, h, if_true, if_false] <;> first | rfl | (congr 1)
theorem raw_has (enc : α → Value) (l : KL α) (k : ByteArray) : has (rawL enc l) k = has l k := by
  unfold has
  induction l with
  | nil => rfl
  | cons p l ih => by_cases h : k = p.1 <;> simp only [look, rawL, List.map_cons, h, if_true, if_false] <;> first | rfl | exact ih
theorem MapAt.upd {m : Fm α} (h : MapAt w mb enc m) (ht : P.underlying t = some (.map K e)) (hK : P.underlying K = some .string) (k : ByteArray) :
    ∃ O : Value → Obj, (∀ (v : Value) (W : World), W.heap[mb]? = w.heap[mb]? → (Instr.mapUpdate t (.map (some mb)) (.string k) v).run P W = .ok () (setB W mb (O v))) ∧
      ∀ (x : α) (W : World), W.heap[mb]? = w.heap[mb]? → MapAt (setB W mb (O (enc x))) mb enc (mput m k x) := by
  obtain ⟨l, ck, hb, rfl, hst⟩ := h
  refine ⟨fun v => .map (ents id (put (rawL enc l) k v ck)) (tick (rawL enc l) k ck), fun v W hW => ?_, fun x W hW => ?_⟩
  · exact run_mapUpdate_s ht hK (by rw [hW, hb, ents_raw]) k v v rfl
  · refine ⟨put l k x ck, tick l k ck, ?_, strip_put l k x ck, stamped_put hst k x⟩
    rw [setB_at W _ (heap_lt (hW.trans hb))]
    simp only [← raw_put, ents_raw, tick, raw_has]
theorem MapAt.made (w : World) (enc : α → Value) : MapAt (w.alloc (.map #[] 0)) w.heap.size enc [] :=
  ⟨[], 0, heap_alloc_new w _, rfl, by simp [stamped_ents]⟩
end
structure But (F : Nat → Prop) (w w' : World) : Prop where
  os : w'.os = w.os
  tape : w'.tape = w.tape
  output : w'.output = w.output
  size : w.heap.size ≤ w'.heap.size
  block : ∀ k, k < w.heap.size → ¬ F k → w'.heap[k]? = w.heap[k]?
theorem But.refl (F : Nat → Prop) (w : World) : But F w w := ⟨rfl, rfl, rfl, Nat.le_refl _, fun _ _ _ => rfl⟩
theorem But.of {F : Nat → Prop} {w w' : World} (h : Below w.heap.size w w') : But F w w' := ⟨h.os, h.tape, h.output, h.size, fun k hk _ => h.block k hk⟩
theorem But.trans {F : Nat → Prop} {a b c : World} (h : But F a b) (k : But F b c) : But F a c :=
  ⟨k.os.trans h.os, k.tape.trans h.tape, k.output.trans h.output, Nat.le_trans h.size k.size, fun i hi hn => (k.block i (Nat.lt_of_lt_of_le hi h.size) hn).trans (h.block i hi hn)⟩
theorem But.trans' {F G : Nat → Prop} {a b c : World} (h : But F a b) (k : But G b c) (hg : ∀ i, i < a.heap.size → G i → F i) : But F a c :=
  ⟨k.os.trans h.os, k.tape.trans h.tape, k.output.trans h.output, Nat.le_trans h.size k.size, fun i hi hn => (k.block i (Nat.lt_of_lt_of_le hi h.size) (fun hgi => hn (hg i hi hgi))).trans (h.block i hi hn)⟩
theorem But.mono {F G : Nat → Prop} {w w' : World} (h : But F w w') (hf : ∀ i, i < w.heap.size → F i → G i) : But G w w' :=
  ⟨h.os, h.tape, h.output, h.size, fun i hi hn => h.block i hi (fun hf' => hn (hf i hi hf'))⟩
theorem But.alloc {F : Nat → Prop} {a w : World} (h : But F a w) (o : Obj) : But F a (w.alloc o) :=
  h.trans (But.of ((Below.refl _ _).alloc (Nat.le_refl _) o))
theorem But.setCell {F : Nat → Prop} {a w : World} (h : But F a w) {p : Addr} (hp : p.block < a.heap.size → F p.block) (u : Value) : But F a (w.setCell p u) :=
  h.trans' (G := fun k => k = p.block) ⟨rfl, rfl, rfl, by simp [World.setCell], fun k _ hk => Below.heap_setCell w p u k hk⟩ (fun i hi e => by subst e; exact hp hi)
theorem But.setB {F : Nat → Prop} {a w : World} (h : But F a w) {mb : Nat} (hp : mb < a.heap.size → F mb) (o : Obj) : But F a (setB w mb o) :=
  h.trans' (G := fun k => k = mb) ⟨rfl, rfl, rfl, by simp [setB_size], fun k _ hk => setB_past w o k hk⟩ (fun i hi e => by subst e; exact hp hi)
theorem But.below {F : Nat → Prop} {B : Nat} {w w' : World} (h : But F w w') (hB : B ≤ w.heap.size) (hF : ∀ k, F k → B ≤ k) : Below B w w' :=
  ⟨h.os, h.tape, h.output, h.size, fun k hk => h.block k (Nat.lt_of_lt_of_le hk hB) (fun hf => by have := hF k hf; omega)⟩
theorem But.cell {F : Nat → Prop} {w w' : World} (h : But F w w') {a : Addr} {v : Value} (hc : w.cell? a = some v) (hn : ¬ F a.block) : w'.cell? a = some v := by
  rw [World.cell?_of_block (w := w) (h.block a.block (World.block_lt_of_cell? w a hc) hn)]
  exact hc
theorem cell_of {w : World} {b : Nat} {cs : Array Value} {t : TypeId} {fr : Nat × Nat} (h : w.heap[b]? = some (.cells cs t fr)) (i : Nat) : w.cell? ⟨b, i, none⟩ = cs[i]? := by simp [World.cell?, h]
theorem free_of {w : World} {b : Nat} {cs : Array Value} {t : TypeId} (h : w.heap[b]? = some (.cells cs t (0, 0))) (i : Nat) : w.frozen? ⟨b, i, none⟩ = false := by simp [World.frozen?, h]
theorem setCell_at {w : World} {b : Nat} {cs : Array Value} {t : TypeId} {fr : Nat × Nat} (h : w.heap[b]? = some (.cells cs t fr)) (i : Nat) (v : Value) :
    (w.setCell ⟨b, i, none⟩ v).heap[b]? = some (.cells (cs.setIfInBounds i v) t fr) := by
  simp [World.setCell, Array.getElem?_modify, h]
theorem alloc_old {w : World} (o : Obj) {k : Nat} (h : k < w.heap.size) : (w.alloc o).heap[k]? = w.heap[k]? := Below.heap_alloc w o k h
theorem alloc_new (w : World) (o : Obj) : (w.alloc o).heap[w.heap.size]? = some o := heap_alloc_new w o
def SlR (w : World) (v : Value) (vs : List Value) : Prop :=
  ∃ a cap, v = .slice a vs.length cap ∧ vs.length ≤ maxLen ∧ vs.length ≤ cap ∧ ∀ i u, vs[i]? = some u → ∃ b off, a = some ⟨b, off, none⟩ ∧ w.cell? ⟨b, off + i, none⟩ = some u
theorem SlR.nil (w : World) : SlR w (.slice none 0 0) [] := ⟨none, 0, rfl, by simp [maxLen], Nat.le_refl _, by simp⟩
theorem SlR.of_own {w : World} {base e n : Nat} {v : Value} {vs : List Value} (h : w.ownsRow base e 1 v n vs) : SlR w v vs := by
  have hl : vs.length = n := by have := h.1; omega
  rcases h.2 with ⟨rfl, rfl⟩ | ⟨g, cap, cur, rfl, _, _, hnc, hcm, _, _⟩
  · have : vs = [] := List.eq_nil_of_length_eq_zero hl
    subst this
    exact SlR.nil w
  · refine ⟨some ⟨g, 0, none⟩, cap, by rw [hl], by omega, by omega, fun i u hu => ⟨g, 0, rfl, ?_⟩⟩
    have := h.cells (g := g) rfl i u hu
    have ha : (⟨g, 0, none⟩ : Addr).add i = ⟨g, 0 + i, none⟩ := by unfold Addr.add; split <;> simp_all
    rwa [ha] at this
theorem own_but {F : Nat → Prop} {w w' : World} {base e size n : Nat} {v : Value} {vs : List Value} (h : w.ownsRow base e size v n vs) (hb : But F w w') (hF : ∀ k, base ≤ k → ¬ F k) : w'.ownsRow base e size v n vs := by
  refine ⟨h.1, ?_⟩
  rcases h.2 with hn | ⟨g, cap, cur, hv, hg, hh, r⟩
  · exact .inl hn
  · exact .inr ⟨g, cap, cur, hv, hg, (hb.block g (heap_lt hh) (hF g hg)).trans hh, r⟩
theorem SlR.but {F : Nat → Prop} {w w' : World} {v : Value} {vs : List Value} (h : SlR w v vs) (hb : But F w w') (hF : ∀ a n cap, v = .slice (some a) n cap → ¬ F a.block) : SlR w' v vs := by
  obtain ⟨a, cap, rfl, h1, h2, h3⟩ := h
  refine ⟨a, cap, rfl, h1, h2, fun i u hu => ?_⟩
  obtain ⟨b, off, rfl, hc⟩ := h3 i u hu
  refine ⟨b, off, rfl, ?_⟩
  rw [World.cell?_of_block (w := w) (hb.block b (World.block_lt_of_cell? w _ hc) (hF _ _ _ rfl))]
  exact hc
theorem SlR.box {F : Nat → Prop} {w W : World} (v : Value) (T : TypeId) (h : But F (w.alloc (.cells #[v] T)) W) (hF : ¬ F w.heap.size) : SlR W (.slice (some ⟨w.heap.size, 0, none⟩) 1 1) [v] := by
  refine ⟨some ⟨w.heap.size, 0, none⟩, 1, rfl, by simp [maxLen], by simp, fun i u hu => ⟨w.heap.size, 0, rfl, ?_⟩⟩
  have hi : i = 0 := by have := (List.getElem?_eq_some_iff.1 hu).1; simp at this; omega
  subst hi
  obtain rfl : v = u := by simpa using hu
  have hb := h.block w.heap.size (by simp) hF
  rw [alloc_new] at hb
  exact cell_of hb 0
theorem SlR.boxes {F : Nat → Prop} {w W : World} (cs : Array Value) (T : TypeId) (h : But F (w.alloc (.cells cs T)) W) (hF : ¬ F w.heap.size) (hm : cs.toList.length ≤ maxLen) : SlR W (.slice (some ⟨w.heap.size, 0, none⟩) cs.toList.length cs.toList.length) cs.toList := by
  refine ⟨some ⟨w.heap.size, 0, none⟩, cs.toList.length, rfl, hm, Nat.le_refl _, fun i u hu => ⟨w.heap.size, 0, rfl, ?_⟩⟩
  have hb := h.block w.heap.size (by simp) hF
  rw [alloc_new] at hb
  rw [cell_of hb]
  simpa using hu
end Go.Proofs.YtjkbfoeakeoeiaaGreat
namespace Go.Proofs.YtjkbfoeakeoeiaaGreat
set_option maxRecDepth 100000
set_option maxHeartbeats 40000000
set_option linter.unusedSimpArgs false
set_option linter.unusedVariables false
open Go.RowKit
section
variable {F : Fence} {n : Nat} {P : Program} {α : Type}
def SeqE (F : Fence) (n : Nat) (P : Program) (g : Nat) (lb : Array Value) (encs : α → Array Value) (Kp : World → World → Prop) (E : α → World → Prop) (S Sp : List α → Prop) (N : Nat) (w : World) : Prop :=
  ∀ (l : Nat) (J Jx : List α → World → Prop) (W : World), Below w.heap.size w W → AbidesFrom W.heap.size J → AbidesFrom W.heap.size Jx →
    (∀ pre x W1, J pre W1 → E x W1 → pre.length < N → YieldAt F (n - 1) P l (encs x) W1 fun e W' =>
      (e = .returned (.bool true) ∧ J (pre ++ [x]) W' ∧ Kp W1 W') ∨ (e = .returned (.bool false) ∧ Jx (pre ++ [x]) W')) →
    J [] W →
    CallsIn F n P g (#[.func (.yield l) #[] #[]] ++ lb) W fun e W' => (∃ v, e = .returned v) ∧ ((∃ xs, S xs ∧ J xs W') ∨ (∃ pre, Sp pre ∧ Jx pre W'))
theorem wpIn_tell {g : Operand} {ps : Array Tmp} {assign body : Code} {Q : Exit → Act → World → Prop} {a : Act} {w : World}
    (hro : F.round = none) (h1 : 1 ≤ n) {gf : Nat} {lb : Array Value} (hg : a.eval g = .func (.func gf) #[] lb) (hF : F.fn gf) (eg : ∀ args w, (callFunc gf args).run P w = .ok (.enter gf args) w)
    {encs : α → Array Value} {Kp : World → World → Prop} {E : α → World → Prop} {S Sp : List α → Prop} {N : Nat} {w0 : World} (hseq : SeqE F (n - 1) P gf lb encs Kp E S Sp N w0)
    (hKt : ∀ {A B C : World}, Kp A B → Kp B C → Kp A C) (hKb : ∀ (W : World) (l : Nat) (o o' : Obj), w.heap.size ≤ l → W.heap[l]? = some o → o.isCells = false → o.isWalk = false → Kp W (W.putObj l o'))
    (hb0 : Below w0.heap.size w0 w) (hps : ∀ x, (encs x).size = ps.size)
    (I : List α → World → Prop) (Ix : Code → List α → World → Prop) (hI : OwnFrom w.heap.size I) (hIx : ∀ c, OwnFrom w.heap.size (Ix c)) (h0 : I [] w) (Ax : List α → α → Act → World → Prop) (hAx : ∀ pre x a', OwnFrom w.heap.size (fun (_ : Unit) W => Ax pre x a' W))
    (hassign : ∀ (l : Nat) (pre : List α) (x : α) (W : World) (K : Act → World → Prop), I pre W → E x W → (∀ a' W', KeepsFrom w.heap.size W W' → Kp W W' → Ax pre x a' W' → K a' W') →
      assign.wpIn (F.inRound l) (n - 1 - 1) P (Exit.then K (fun _ _ _ => False)) { tmps := (ps.zip (encs x)).foldl (fun t (p, v) => t.setIfInBounds p v) a.tmps, defers := [] } W)
    (hbody : ∀ (l : Nat) (pre : List α) (x : α) (a' : Act) (W : World), Ax pre x a' W → pre.length < N → body.wpIn (F.inRound l) (n - 1 - 1) P (ownPostG w.heap.size Kp I Ix (pre ++ [x]) W) a' W)
    (hdone : ∀ (D : Nat) (xs : List α) (W : World), w.heap.size ≤ D → S xs → I xs W → W.heap[D]? = some (.deferred (some [])) → Q .normal { a with defers := { target := .collected D, args := #[] } :: a.defers } W)
    (hstop : ∀ (D : Nat) (c : Code) (pre : List α) (W : World), w.heap.size ≤ D → Sp pre → Ix c pre W → W.heap[D]? = some (.deferred (some [])) → c.wpIn F n P Q { a with defers := { target := .collected D, args := #[] } :: a.defers } W) :
    (Code.rangeFunc g ps assign body).wpIn F n P Q a w := by
  refine wpIn_rangeFunc ?_
  intro fn hfn
  rw [hro]
  obtain ⟨rec, hrec⟩ : ∃ rec : LoopState → Option Code → Loop, rec = fun st pe => { state := st, pending := pe, fn, tmps := a.tmps, params := ps, assign, body, defers := w.heap.size } := ⟨_, rfl⟩
  obtain ⟨V, hV⟩ : ∃ V, (w.alloc (.deferred (some []))).alloc (.loop (rec .ready none)) = V := ⟨_, rfl⟩
  have hsz : V.heap.size = w.heap.size + 2 := by rw [← hV]; simp
  have hl1 : V.heap[w.heap.size + 1]? = some (.loop (rec .ready none)) := by
    have := World.alloc_heap_new (w.alloc (.deferred (some []))) (.loop (rec .ready none))
    rw [World.size_alloc, hV] at this
    exact this
  have hk1 : V.heap[w.heap.size]? = some (.deferred (some [])) := by rw [← hV]; exact (Below.heap_alloc _ _ _ (by simp)).trans (World.alloc_heap_new w _)
  have hb1 : Below w0.heap.size w0 V := by rw [← hV]; exact hb0.trans ((((Below.refl _ w).alloc (Nat.le_refl _) _).alloc (by simp) _).mono hb0.size)
  have hi1 : I [] V := by rw [← hV]; exact hI.alloc _ (hI.alloc _ h0)
  refine ⟨w.heap.size + 1, [{ target := .collected w.heap.size, args := #[] }], V, { target := .fn (.func gf) lb, args := #[.func (.yield (w.heap.size + 1)) #[] #[]] }, V, gf, #[.func (.yield (w.heap.size + 1)) #[] #[]] ++ lb, V, ?_, ?_, ?_, ?_, fun _ => h1, ?_⟩
  · rw [← hV, hrec]; exact run_enterLoop_outer _ _ _ _ _
  · simp only [resolve, hg]
    simp [go_sem]
  · intro f' hf'; simp [Target.leads] at hf'; subst hf'; exact hF
  · simp [invoke, go_sem, eg]
  -- the two blocks of book-keeping lie as they lay
  have hrow : ∀ {A : World} {row : Option Nat}, (∀ r, row = some r → V.heap.size ≤ r ∧ ∃ o : Obj, A.heap[r]? = some o ∧ o.isWalk = true) → ∀ r, row = some r → w.heap.size ≤ r ∧ ∃ o : Obj, A.heap[r]? = some o ∧ o.isCells = false := fun hr r e => by
    obtain ⟨hB, o, ho, hw⟩ := hr r e
    exact ⟨by omega, o, ho, Obj.not_cells_of_walk hw⟩
  refine (hseq (w.heap.size + 1)
    (fun pre W => I pre W ∧ W.heap[w.heap.size + 1]? = some (.loop (rec .ready none)) ∧ W.heap[w.heap.size]? = some (.deferred (some [])))
    (fun pre W => ∃ c, Ix c pre W ∧ W.heap[w.heap.size + 1]? = some (.loop (rec .done (some c))) ∧ W.heap[w.heap.size]? = some (.deferred (some [])))
    V hb1
    (fun s A B row hs hg' hr => ⟨hI s A B row hs.1 hg' (hrow hr), (grownBy_keeps hg' (fun r e => (hr r e).2) hs.2.1 rfl).trans hs.2.1, (grownBy_keeps hg' (fun r e => (hr r e).2) hs.2.2 rfl).trans hs.2.2⟩)
    (fun s A B row ⟨c, hc, hl, hk⟩ hg' hr => ⟨c, hIx c s A B row hc hg' (hrow hr), (grownBy_keeps hg' (fun r e => (hr r e).2) hl rfl).trans hl, (grownBy_keeps hg' (fun r e => (hr r e).2) hk rfl).trans hk⟩)
    ?_ ⟨hi1, hl1, hk1⟩).mono ?_
  · rintro pre x W ⟨hi, hl, hk⟩ hE hlen
    have hy := run_yield (P := P) (args := encs x) hl (by rw [hrec]; exact hps x)
    rw [hrec] at hy
    refine ⟨fn, _, assign, body, hy, roundIn_of_wpIn hfn (hassign _ pre x W _ hi hE ?_)⟩
    clear hy
    intro a' W2 hkf hkp hax
    have hl2 := hkf.same _ _ (by omega) hl rfl
    have hk2 := hkf.same _ _ (Nat.le_refl _) hk rfl
    have hlt := (Array.getElem?_eq_some_iff.1 hl2).1
    refine ⟨_, run_beginRound hl2 (by rw [hrec]), ?_⟩
    have hl3 : (W2.putObj (w.heap.size + 1) (.loop { rec .ready none with state := .busy })).heap[w.heap.size + 1]? = some (.loop { rec .ready none with state := .busy }) := World.putObj_heap_same hlt
    have hk3 : (W2.putObj (w.heap.size + 1) (.loop { rec .ready none with state := .busy })).heap[w.heap.size]? = some (.deferred (some [])) := (World.putObj_heap_other (by omega)).trans hk2
    have hw3 : Kp W2 (W2.putObj (w.heap.size + 1) (.loop { rec .ready none with state := .busy })) := hKb _ _ _ _ (by omega) hl2 rfl rfl
    refine wpIn_mono (hbody _ pre x a' _ ((hAx pre x a').putObj (s := ()) _ hax (by omega) hl2 rfl) hlen) ?_
    have out : ∀ (jump : Option Code) (W4 : World), KeepsFrom w.heap.size (W2.putObj (w.heap.size + 1) (.loop { rec .ready none with state := .busy })) W4 →
        ∃ r, (Instr.endRound (w.heap.size + 1) jump).run P W4 = .ok (.bool jump.isNone) (W4.putObj (w.heap.size + 1) (.loop r)) ∧ r = rec (if jump.isNone then .ready else .done) jump ∧
          W4.heap[w.heap.size + 1]? = some (.loop { rec .ready none with state := .busy }) ∧ (W4.putObj (w.heap.size + 1) (.loop r)).heap[w.heap.size + 1]? = some (.loop r) ∧ (W4.putObj (w.heap.size + 1) (.loop r)).heap[w.heap.size]? = some (.deferred (some [])) := fun jump W4 hk4 => by
      have hl4 := hk4.same _ _ (by omega) hl3 rfl
      have h := run_endRound (P := P) jump hl4
      rw [hrec] at h
      refine ⟨_, h, by rw [hrec], by rw [hrec] at hl4 ⊢; exact hl4, World.putObj_heap_same (Array.getElem?_eq_some_iff.1 hl4).1, (World.putObj_heap_other (by omega)).trans (hk4.same _ _ (Nat.le_refl _) hk3 rfl)⟩
    have leave : ∀ (c : Code) (W4 : World), KeepsFrom w.heap.size (W2.putObj (w.heap.size + 1) (.loop { rec .ready none with state := .busy })) W4 → Ix c (pre ++ [x]) W4 → ∃ r W5, (Instr.endRound (w.heap.size + 1) (some c)).run P W4 = .ok (.bool false) W5 ∧
        W5 = W4.putObj (w.heap.size + 1) (.loop r) ∧ (∃ c, Ix c (pre ++ [x]) W5 ∧ W5.heap[w.heap.size + 1]? = some (.loop (rec .done (some c))) ∧ W5.heap[w.heap.size]? = some (.deferred (some []))) := fun c W4 hk4 hi4 => by
      obtain ⟨r, hr, rfl, hl4, hl5, hk5⟩ := out (some c) W4 hk4
      exact ⟨_, _, hr, rfl, c, (hIx c).putObj _ hi4 (by omega) hl4 rfl, hl5, hk5⟩
    rintro e a3 W4 hp
    cases e with
    | normal =>
      obtain ⟨hk4, hkp4, hi4⟩ := hp
      obtain ⟨r, hr, rfl, hl4, hl5, hk5⟩ := out none W4 hk4
      exact ⟨_, _, hr, .inl ⟨rfl, ⟨hI.putObj _ hi4 (by omega) hl4 rfl, hl5, hk5⟩, hKt hkp (hKt (hKt hw3 hkp4) (hKb _ _ _ _ (by omega) hl4 rfl rfl))⟩⟩
    | ret => obtain ⟨r, W5, hr, rfl, hx⟩ := leave .ret W4 hp.1 hp.2; exact ⟨_, _, hr, .inr ⟨rfl, hx⟩⟩
    | exit id => obtain ⟨r, W5, hr, rfl, hx⟩ := leave (.exit id) W4 hp.1 hp.2; exact ⟨_, _, hr, .inr ⟨rfl, hx⟩⟩
    | goto t => obtain ⟨r, W5, hr, rfl, hx⟩ := leave (.goto t) W4 hp.1 hp.2; exact ⟨_, _, hr, .inr ⟨rfl, hx⟩⟩
    | panic ch => exact hp.elim
    | outgrown => exact hp.elim
  · rintro e W2 ⟨⟨v, rfl⟩, (⟨xs, hS, hi, hl, hk⟩ | ⟨pre, hSp, c, hi, hl, hk⟩)⟩
    · exact ⟨none, _, by have := run_endLoop (P := P) hl (by rw [hrec]; simp); rw [hrec] at this; exact this, hdone _ xs _ (Nat.le_refl _) hS (hI.putObj _ hi (by omega) hl rfl) ((World.putObj_heap_other (by omega)).trans hk)⟩
    · exact ⟨some c, _, by have := run_endLoop (P := P) hl (by rw [hrec]; simp); rw [hrec] at this; exact this, hstop _ c pre _ (Nat.le_refl _) hSp ((hIx c).putObj _ hi (by omega) hl rfl) ((World.putObj_heap_other (by omega)).trans hk)⟩
end
end Go.Proofs.YtjkbfoeakeoeiaaGreat
namespace Go.Proofs.YtjkbfoeakeoeiaaGreat
set_option maxRecDepth 100000
set_option maxHeartbeats 40000000
set_option linter.unusedSimpArgs false
set_option linter.unusedVariables false
open Go.RowKit
theorem app1 {P : Program} {ops : Array Oper} {rest : List Oper} {o : Oper} {a : Act} {Q : Exit → Act → World → Prop} {W : World} (t e : TypeId) {z : Value} {size bytes : Nat} (ht : P.underlying t = some (.slice e))
    (hinfo : (P.info? e).map (fun i => (i.zero, i.size, i.bytes)) = some (some z, size, bytes)) (hzs : z.cells.size = size) (hsz : 0 < size)
    {base n : Nat} {v : Value} {xs : List Value} (hown : W.ownsRow base e size v n xs) (hbase : base ≤ W.heap.size) (hn : n + 1 ≤ maxLen) (hby : (n + 1) * bytes ≤ 140737488355328)
    {s x : Operand} {cs : Array Value} (hgd : o.guard = none) (ho : o.op = .call { callee := .builtin .append, args := #[s, x], argTypes := #[t, t] }) (hs : a.eval s = v)
    (hx : a.eval x = .slice (some ⟨W.heap.size, 0, none⟩) 1 1) (hcs : cs.size = size) (h1 : ∀ u ∈ cs.toList, u.oneCell' = true)
    (h : ∀ v' w', w'.ownsRow base e size v' (n + 1) (xs ++ cs.toList) → Below base W w' → wpList P ops Q rest (a.put o.dst v') w') :
    wpList P ops Q (o :: rest) a (W.alloc (.cells cs e)) := by
  obtain ⟨i0, hi, hzz⟩ := Option.map_eq_some_iff.1 hinfo
  simp only [Prod.mk.injEq] at hzz
  obtain ⟨hz0, hz1, hz2⟩ := hzz
  refine wpList_append_own (W.alloc (.cells cs e)) hgd s x t ho base e i0 z size bytes ht hi hz0 hz1 hz2 hzs hsz v n xs hs (hown.alloc _) ⟨W.heap.size, 0, none⟩ 1 1 cs.toList hx (by simpa using hcs)
    (World.news_of_block (cs := cs) (t := e) (fr := (0, 0)) (heap_alloc_new W _)) h1 hn hby (by simp; omega) ?_
  intro v' w' hown' hg _
  exact h v' w' hown' (((Below.refl base W).alloc hbase _).grown hg (by simp; omega) (fun k hk => (hown.lt k hk).1))
theorem own_slice {w : World} {base e size n : Nat} {v : Value} {xs : List Value} (h : w.ownsRow base e size v n xs) : ∃ a c, v = .slice a n c := by
  rcases h.2 with ⟨rfl, rfl⟩ | ⟨g, cap, cur, rfl, _⟩
  · exact ⟨none, 0, rfl⟩
  · exact ⟨_, cap, rfl⟩
end Go.Proofs.YtjkbfoeakeoeiaaGreat
