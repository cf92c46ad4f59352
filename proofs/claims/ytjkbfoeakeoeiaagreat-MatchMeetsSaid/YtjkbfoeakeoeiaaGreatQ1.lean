/- Keep: contracts (A B Wi Kb J Kc Kd Ke). -/
import Derived.WalkKit
import Derived.MapKept
import Derived.Lib.Hide
import Derived.Deep.AppendLies
import Derived.Test.YtjkbfoeakeoeiaaGreatProg
import Derived.KernelRfl
import Derived.WalkLawsBesides
import Derived.Lib.Varint
import Derived.Laws.Bits64
import Derived.Lib.UnsafeStr
import Derived.Laws.IdiomStrings
import Derived.Laws.MakeOwn
import Derived.Deep.QuietTactic
import Derived.BigQuiet
import Derived.Deep.RegionWith
namespace Go.Proofs.YtjkbfoeakeoeiaaGreat
set_option maxRecDepth 100000
set_option maxHeartbeats 40000000
set_option linter.unusedSimpArgs false
set_option linter.unusedVariables false
open Go.RowKit
theorem hid {p : Prop} (h : p) : RowKit.Hid p := h
open Go.MapKept (Stamped)
theorem heap_lt {w : World} {b : Nat} {o : Obj} (h : w.heap[b]? = some o) : b < w.heap.size := (Array.getElem?_eq_some_iff.1 h).1
abbrev KL (α : Type) := List (ByteArray × α × Nat)
def ents {α : Type} (enc : α → Value) (l : KL α) : Array MapEntry := (l.map fun p => ⟨.string p.1, enc p.2.1, p.2.2⟩).toArray
def look {α : Type} (l : KL α) (k : ByteArray) : Option α :=
  match l with
  | [] => none
  | p :: l => if k = p.1 then some p.2.1 else look l k
def has {α : Type} (l : KL α) (k : ByteArray) : Bool := (look l k).isSome
def put {α : Type} (l : KL α) (k : ByteArray) (x : α) (ck : Nat) : KL α :=
  match l with
  | [] => [(k, x, ck)]
  | p :: l => if k = p.1 then (k, x, p.2.2) :: l else p :: put l k x ck
def place {α : Type} (l : KL α) (k : ByteArray) : Nat :=
  match l with
  | [] => 0
  | p :: l => if k = p.1 then 0 else place l k + 1
section
variable {α : Type} {P : Program} {w : World} {enc : α → Value} {l : KL α} {t K e : TypeId} {mb ck : Nat} {z : Value}
theorem ents_size (enc : α → Value) (l : KL α) : (ents enc l).size = l.length := by simp [ents]
theorem findNow_ents (k : ByteArray) (l : KL α) (i : Nat) :
    Instr.findNow .string (.string k) (l.map fun p => (⟨.string p.1, enc p.2.1, p.2.2⟩ : MapEntry)) i = some ((look l k).map fun x => (i + place l k, enc x)) := by
  induction l generalizing i with
  | nil => simp [Instr.findNow, look]
  | cons p l ih =>
    by_cases h : k = p.1
    · have hb : (k == p.1) = true := (MapKept.bytes_beq k p.1).2 h
      simp only [List.map_cons, Instr.findNow, Instr.sameNow, hb, look, place, if_pos h]
      simp
    · have hb : (k == p.1) = false := by
        rw [Bool.eq_false_iff]
        exact fun hc => h ((MapKept.bytes_beq k p.1).1 hc)
      simp only [List.map_cons, Instr.findNow, Instr.sameNow, hb, look, place, if_neg h, ih]
      cases look l k <;> simp
      omega
theorem run_findKey (hK : P.underlying K = some .string) (k : ByteArray) :
    (Instr.findKey K (.string k) (ents enc l).toList).run P w = .ok ((look l k).map fun x => (place l k, enc x)) w := by
  simp [Instr.findKey, run_underlying hK, ents, findNow_ents]
theorem run_checkKey_s (hK : P.underlying K = some .string) (b : Bool) (k : ByteArray) : (Instr.checkKey b 10000 K (.string k)).run P w = .ok () w :=
  MapKept.run_checkKey hK (k := .string k) (by simp [MapKept.IsKey]) b 9999
theorem run_getObj_map {es : Array MapEntry} (hb : w.heap[mb]? = some (.map es ck)) : (getObj mb).run P w = .ok (.map es ck) w := by
  simp [getObj, Sem.run, hb]
theorem run_len_map (ht : P.underlying t = some (.map K e)) (hb : w.heap[mb]? = some (.map (ents enc l) ck)) (ty : TypeId) :
    (Builtin.len_ #[t] ty #[.map (some mb)]).run P w = .ok (.int .i64 l.length) w := by
  simp [Builtin.len_, run_underlying ht, run_getObj_map hb, goInt, ents_size]
def setB (w : World) (r : Nat) (o : Obj) : World := { w with heap := w.heap.setIfInBounds r o }
theorem ents_put_has (k : ByteArray) (x y : α) (h : look l k = some y) :
    (ents enc l).modify (place l k) (fun e => { e with key := .string k, val := enc x }) = ents enc (put l k x ck) := by
  unfold ents
  rw [List.modify_toArray]
  congr 1
  induction l with
  | nil => simp [look] at h
  | cons p l ih =>
    by_cases hk : k = p.1
    · simp [place, put, hk]
    · simp only [look, if_neg hk] at h
      simp only [place, put, if_neg hk, List.map_cons, List.modify_succ_cons, ih h]
theorem ents_put_new (k : ByteArray) (x : α) (h : look l k = none) :
    (ents enc l).push ⟨.string k, enc x, ck⟩ = ents enc (put l k x ck) := by
  unfold ents
  rw [List.push_toArray]
  congr 1
  induction l with
  | nil => simp [put]
  | cons p l ih =>
    by_cases hk : k = p.1
    · simp [look, hk] at h
    · simp only [look, if_neg hk] at h
      simp only [put, if_neg hk, List.map_cons, List.cons_append, ih h]
theorem place_at (k : ByteArray) (y : α) (h : look l k = some y) : ((ents enc l)[place l k]?).map (·.key) = some (.string k) := by
  unfold ents
  simp only [List.getElem?_toArray, List.getElem?_map]
  induction l with
  | nil => simp [look] at h
  | cons p l ih =>
    by_cases hk : k = p.1
    · simp [place, hk]
    · simp only [look, if_neg hk] at h
      simpa only [place, if_neg hk, List.getElem?_cons_succ] using ih h
theorem run_setObj_map {es : Array MapEntry} (hb : w.heap[mb]? = some (.map es ck)) (o : Obj) : (setObj mb o).run P w = .ok () (setB w mb o) := by
  simp [setObj, Sem.run, hb, setB]
def tick {α : Type} (l : KL α) (k : ByteArray) (ck : Nat) : Nat := if has l k then ck else ck + 1
theorem run_mapUpdate_s (ht : P.underlying t = some (.map K e)) (hK : P.underlying K = some .string)
    (hb : w.heap[mb]? = some (.map (ents enc l) ck)) (k : ByteArray) (x : α) (v : Value) (hv : v = enc x) :
    (Instr.mapUpdate t (.map (some mb)) (.string k) v).run P w = .ok () (setB w mb (.map (ents enc (put l k x ck)) (tick l k ck))) := by
  subst hv
  unfold Instr.mapUpdate
  simp [run_underlying ht, run_getObj_map hb, run_checkKey_s hK, run_findKey hK]
  cases h : look l k with
  | none =>
    have ht : tick l k ck = ck + 1 := by simp [tick, has, h]
    simp [run_setObj_map hb, ht, ents_put_new k x h]
  | some y =>
    have ht : tick l k ck = ck := by simp [tick, has, h]
    have hp := place_at (enc := enc) k y h
    have hk : Instr.sameBits 10000 (.string k) (.string k) = true := by simp [Instr.sameBits, MapKept.bytes_beq]
    simp [hp, Instr.keyThatStays, hk, run_setObj_map hb, ht, ents_put_has (ck := ck) k x y h]
abbrev Fm (α : Type) := List (ByteArray × α)
def mput {α : Type} (l : Fm α) (k : ByteArray) (x : α) : Fm α :=
  match l with
  | [] => [(k, x)]
  | p :: l => if k = p.1 then (k, x) :: l else p :: mput l k x
def strip {α : Type} (l : KL α) : Fm α := l.map fun p => (p.1, p.2.1)
theorem strip_put (l : KL α) (k : ByteArray) (x : α) (ck : Nat) : strip (put l k x ck) = mput (strip l) k x := by
  induction l with
  | nil => rfl
  | cons p l ih => by_cases h : k = p.1 <;> simp only [put, strip, List.map_cons, mput, h, if_true, if_false] <;> first | rfl | (congr 1)
def MapAt (w : World) (mb : Nat) (enc : α → Value) (m : Fm α) : Prop :=
  ∃ l ck, w.heap[mb]? = some (.map (ents enc l) ck) ∧ strip l = m ∧ Stamped (ents enc l) ck
theorem MapAt.lt {m : Fm α} (h : MapAt w mb enc m) : mb < w.heap.size := by
  obtain ⟨l, ck, hb, _⟩ := h
  exact (Array.getElem?_eq_some_iff.1 hb).1
theorem MapAt.same {w' : World} {m : Fm α} (h : MapAt w mb enc m) (he : w'.heap[mb]? = w.heap[mb]?) : MapAt w' mb enc m := by
  obtain ⟨l, ck, hb, r⟩ := h
  exact ⟨l, ck, he.trans hb, r⟩
theorem MapAt.len {m : Fm α} (h : MapAt w mb enc m) (ht : P.underlying t = some (.map K e)) (ty : TypeId) :
    (Builtin.len_ #[t] ty #[.map (some mb)]).run P w = .ok (.int .i64 m.length) w := by
  obtain ⟨l, ck, hb, rfl, _⟩ := h
  rw [run_len_map ht hb]; simp [strip]
theorem stamped_ents (l : KL α) (ck : Nat) : Stamped (ents enc l) ck ↔ (∀ x ∈ l, x.2.2 < ck) ∧ (l.map (·.2.2)).Nodup ∧ l.Pairwise (fun x y => x.1 ≠ y.1) := by
  rw [MapKept.stamped_iff]
  simp only [ents, List.pairwise_map, List.map_map, Function.comp_def, List.mem_map, forall_exists_index, and_imp, forall_apply_eq_imp_iff₂, ne_eq, Value.string.injEq]
theorem mem_put {l : KL α} {k : ByteArray} {x : α} {q : ByteArray × α × Nat} (h : q ∈ put l k x ck) : q ∈ l ∨ (q.1 = k ∧ ((has l k = false ∧ q.2.2 = ck) ∨ ∃ p ∈ l, p.1 = k ∧ q.2.2 = p.2.2)) := by
  induction l with
  | nil => simp [put] at h; subst h; exact .inr ⟨rfl, .inl ⟨rfl, rfl⟩⟩
  | cons p l ih =>
    by_cases hk : k = p.1
    · simp only [put, if_pos hk] at h
      rcases List.mem_cons.1 h with h | h
      · subst h; exact .inr ⟨rfl, .inr ⟨p, by simp, hk.symm, rfl⟩⟩
      · exact .inl (by simp [h])
    · simp only [put, if_neg hk] at h
      rcases List.mem_cons.1 h with h | h
      · subst h; exact .inl (by simp)
      · rcases ih h with h | ⟨h1, h2⟩
        · exact .inl (by simp [h])
        · refine .inr ⟨h1, ?_⟩
          rcases h2 with ⟨h2, h3⟩ | ⟨p', hp, h2⟩
          · exact .inl ⟨by simpa [has, look, hk] using h2, h3⟩
          · exact .inr ⟨p', by simp [hp], h2⟩
theorem put_stamps (l : KL α) (k : ByteArray) (x : α) (ck : Nat) : (put l k x ck).map (·.2.2) = if has l k then l.map (·.2.2) else l.map (·.2.2) ++ [ck] := by
  induction l with
  | nil => simp [put, has, look]
  | cons p l ih =>
    by_cases hk : k = p.1
    · simp [put, has, look, hk]
    · simp only [put, if_neg hk, List.map_cons, ih, has, look]
      split <;> simp_all
theorem stamped_put {l : KL α} (h : Stamped (ents enc l) ck) (k : ByteArray) (x : α) : Stamped (ents enc (put l k x ck)) (tick l k ck) := by
  rw [stamped_ents] at h ⊢
  obtain ⟨h1, h2, h3⟩ := h
  have hck : ck ≤ tick l k ck := by unfold tick; split <;> omega
  refine ⟨fun q hq => ?_, ?_, ?_⟩
  · rcases mem_put hq with hq | ⟨_, ⟨hn, hq⟩ | ⟨p, hp, _, hq⟩⟩
    · exact Nat.lt_of_lt_of_le (h1 q hq) hck
    · rw [hq]; simp [tick, hn]
    · rw [hq]; exact Nat.lt_of_lt_of_le (h1 p hp) hck
  · rw [put_stamps]
    split
    · exact h2
    · rw [List.nodup_append]
      refine ⟨h2, by simp, ?_⟩
      intro a ha b hb
      obtain ⟨q, hq, rfl⟩ := List.mem_map.1 ha
      have := h1 q hq
      have hb' : b = ck := by simpa using hb
      omega
  · clear h1 h2 hck
    induction l with
    | nil => simp [put]
    | cons p l ih =>
      rw [List.pairwise_cons] at h3
      by_cases hk : k = p.1
      · simp only [put, if_pos hk, List.pairwise_cons]
        exact ⟨fun q hq => by rw [hk]; exact h3.1 q hq, h3.2⟩
      · simp only [put, if_neg hk, List.pairwise_cons]
        refine ⟨fun q hq => ?_, ih h3.2⟩
        rcases mem_put hq with hq | ⟨hq, _⟩
        · exact h3.1 q hq
        · rw [hq]; exact fun e => hk e.symm
theorem setB_at (w : World) (o : Obj) (h : mb < w.heap.size) : (setB w mb o).heap[mb]? = some o := by simp [setB, h]
theorem setB_past (w : World) (o : Obj) (k : Nat) (h : k ≠ mb) : (setB w mb o).heap[k]? = w.heap[k]? := by simp [setB, Ne.symm h]
theorem setB_size (w : World) (o : Obj) : (setB w mb o).heap.size = w.heap.size := by simp [setB]
def rawL {α : Type} (enc : α → Value) (l : KL α) : KL Value := l.map fun p => (p.1, enc p.2.1, p.2.2)
theorem ents_raw (enc : α → Value) (l : KL α) : ents id (rawL enc l) = ents enc l := by simp [ents, rawL, Function.comp_def]
theorem raw_put (enc : α → Value) (l : KL α) (k : ByteArray) (x : α) (ck : Nat) : rawL enc (put l k x ck) = put (rawL enc l) k (enc x) ck := by
  induction l with
  | nil => rfl
  | cons p l ih => by_cases h : k = p.1 <;> simp only [put, rawL, List.map_cons, h, if_true, if_false] <;> first | rfl | (congr 1)
theorem raw_has (enc : α → Value) (l : KL α) (k : ByteArray) : has (rawL enc l) k = has l k := by
  unfold has
  induction l with
  | nil => rfl
  | cons p l ih => by_cases h : k = p.1 <;> simp only [look, rawL, List.map_cons, h, if_true, if_false] <;> first | rfl | exact ih
theorem MapAt.upd {m : Fm α} (h : MapAt w mb enc m) (ht : P.underlying t = some (.map K e)) (hK : P.underlying K = some .string) (k : ByteArray) :
    ∃ O : Value → Obj, (∀ (v : Value) (W : World), W.heap[mb]? = w.heap[mb]? → (Instr.mapUpdate t (.map (some mb)) (.string k) v).run P W = .ok () (setB W mb (O v))) ∧
      ∀ (x : α) (W : World), W.heap[mb]? = w.heap[mb]? → MapAt (setB W mb (O (enc x))) mb enc (mput m k x) := by
  obtain ⟨l, ck, hb, rfl, hst⟩ := h
  refine ⟨fun v => .map (ents id (put (rawL enc l) k v ck)) (tick (rawL enc l) k ck), fun v W hW => ?_, fun x W hW => ?_⟩
  · exact run_mapUpdate_s ht hK (by rw [hW, hb, ents_raw]) k v v rfl
  · refine ⟨put l k x ck, tick l k ck, ?_, strip_put l k x ck, stamped_put hst k x⟩
    rw [setB_at W _ (heap_lt (hW.trans hb))]
    simp only [← raw_put, ents_raw, tick, raw_has]
theorem MapAt.made (w : World) (enc : α → Value) : MapAt (w.alloc (.map #[] 0)) w.heap.size enc [] :=
  ⟨[], 0, heap_alloc_new w _, rfl, by simp [stamped_ents]⟩
end
structure But (F : Nat → Prop) (w w' : World) : Prop where
  os : w'.os = w.os
  tape : w'.tape = w.tape
  output : w'.output = w.output
  size : w.heap.size ≤ w'.heap.size
  block : ∀ k, k < w.heap.size → ¬ F k → w'.heap[k]? = w.heap[k]?
theorem But.refl (F : Nat → Prop) (w : World) : But F w w := ⟨rfl, rfl, rfl, Nat.le_refl _, fun _ _ _ => rfl⟩
theorem But.of {F : Nat → Prop} {w w' : World} (h : Below w.heap.size w w') : But F w w' := ⟨h.os, h.tape, h.output, h.size, fun k hk _ => h.block k hk⟩
theorem But.trans {F : Nat → Prop} {a b c : World} (h : But F a b) (k : But F b c) : But F a c :=
  ⟨k.os.trans h.os, k.tape.trans h.tape, k.output.trans h.output, Nat.le_trans h.size k.size, fun i hi hn => (k.block i (Nat.lt_of_lt_of_le hi h.size) hn).trans (h.block i hi hn)⟩
theorem But.trans' {F G : Nat → Prop} {a b c : World} (h : But F a b) (k : But G b c) (hg : ∀ i, i < a.heap.size → G i → F i) : But F a c :=
  ⟨k.os.trans h.os, k.tape.trans h.tape, k.output.trans h.output, Nat.le_trans h.size k.size, fun i hi hn => (k.block i (Nat.lt_of_lt_of_le hi h.size) (fun hgi => hn (hg i hi hgi))).trans (h.block i hi hn)⟩
theorem But.mono {F G : Nat → Prop} {w w' : World} (h : But F w w') (hf : ∀ i, i < w.heap.size → F i → G i) : But G w w' :=
  ⟨h.os, h.tape, h.output, h.size, fun i hi hn => h.block i hi (fun hf' => hn (hf i hi hf'))⟩
theorem But.alloc {F : Nat → Prop} {a w : World} (h : But F a w) (o : Obj) : But F a (w.alloc o) :=
  h.trans (But.of ((Below.refl _ _).alloc (Nat.le_refl _) o))
theorem But.setCell {F : Nat → Prop} {a w : World} (h : But F a w) {p : Addr} (hp : p.block < a.heap.size → F p.block) (u : Value) : But F a (w.setCell p u) :=
  h.trans' (G := fun k => k = p.block) ⟨rfl, rfl, rfl, by simp [World.setCell], fun k _ hk => Below.heap_setCell w p u k hk⟩ (fun i hi e => by subst e; exact hp hi)
theorem But.setB {F : Nat → Prop} {a w : World} (h : But F a w) {mb : Nat} (hp : mb < a.heap.size → F mb) (o : Obj) : But F a (setB w mb o) :=
  h.trans' (G := fun k => k = mb) ⟨rfl, rfl, rfl, by simp [setB_size], fun k _ hk => setB_past w o k hk⟩ (fun i hi e => by subst e; exact hp hi)
theorem But.below {F : Nat → Prop} {B : Nat} {w w' : World} (h : But F w w') (hB : B ≤ w.heap.size) (hF : ∀ k, F k → B ≤ k) : Below B w w' :=
  ⟨h.os, h.tape, h.output, h.size, fun k hk => h.block k (Nat.lt_of_lt_of_le hk hB) (fun hf => by have := hF k hf; omega)⟩
theorem But.cell {F : Nat → Prop} {w w' : World} (h : But F w w') {a : Addr} {v : Value} (hc : w.cell? a = some v) (hn : ¬ F a.block) : w'.cell? a = some v := by
  rw [World.cell?_of_block (w := w) (h.block a.block (World.block_lt_of_cell? w a hc) hn)]
  exact hc
theorem cell_of {w : World} {b : Nat} {cs : Array Value} {t : TypeId} {fr : Nat × Nat} (h : w.heap[b]? = some (.cells cs t fr)) (i : Nat) : w.cell? ⟨b, i, none⟩ = cs[i]? := by simp [World.cell?, h]
theorem free_of {w : World} {b : Nat} {cs : Array Value} {t : TypeId} (h : w.heap[b]? = some (.cells cs t (0, 0))) (i : Nat) : w.frozen? ⟨b, i, none⟩ = false := by simp [World.frozen?, h]
theorem setCell_at {w : World} {b : Nat} {cs : Array Value} {t : TypeId} {fr : Nat × Nat} (h : w.heap[b]? = some (.cells cs t fr)) (i : Nat) (v : Value) :
    (w.setCell ⟨b, i, none⟩ v).heap[b]? = some (.cells (cs.setIfInBounds i v) t fr) := by
  simp [World.setCell, Array.getElem?_modify, h]
theorem alloc_old {w : World} (o : Obj) {k : Nat} (h : k < w.heap.size) : (w.alloc o).heap[k]? = w.heap[k]? := Below.heap_alloc w o k h
theorem alloc_new (w : World) (o : Obj) : (w.alloc o).heap[w.heap.size]? = some o := heap_alloc_new w o
def SlR (w : World) (v : Value) (vs : List Value) : Prop :=
  ∃ a cap, v = .slice a vs.length cap ∧ vs.length ≤ maxLen ∧ vs.length ≤ cap ∧ ∀ i u, vs[i]? = some u → ∃ b off, a = some ⟨b, off, none⟩ ∧ w.cell? ⟨b, off + i, none⟩ = some u
theorem SlR.nil (w : World) : SlR w (.slice none 0 0) [] := ⟨none, 0, rfl, by simp [maxLen], Nat.le_refl _, by simp⟩
theorem SlR.of_own {w : World} {base e n : Nat} {v : Value} {vs : List Value} (h : w.ownsRow base e 1 v n vs) : SlR w v vs := by
  have hl : vs.length = n := by have := h.1; omega
  rcases h.2 with ⟨rfl, rfl⟩ | ⟨g, cap, cur, rfl, _, _, hnc, hcm, _, _⟩
  · have : vs = [] := List.eq_nil_of_length_eq_zero hl
    subst this
    exact SlR.nil w
  · refine ⟨some ⟨g, 0, none⟩, cap, by rw [hl], by omega, by omega, fun i u hu => ⟨g, 0, rfl, ?_⟩⟩
    have := h.cells (g := g) rfl i u hu
    have ha : (⟨g, 0, none⟩ : Addr).add i = ⟨g, 0 + i, none⟩ := by unfold Addr.add; split <;> simp_all
    rwa [ha] at this
theorem own_but {F : Nat → Prop} {w w' : World} {base e size n : Nat} {v : Value} {vs : List Value} (h : w.ownsRow base e size v n vs) (hb : But F w w') (hF : ∀ k, base ≤ k → ¬ F k) : w'.ownsRow base e size v n vs := by
  refine ⟨h.1, ?_⟩
  rcases h.2 with hn | ⟨g, cap, cur, hv, hg, hh, r⟩
  · exact .inl hn
  · exact .inr ⟨g, cap, cur, hv, hg, (hb.block g (heap_lt hh) (hF g hg)).trans hh, r⟩
theorem SlR.but {F : Nat → Prop} {w w' : World} {v : Value} {vs : List Value} (h : SlR w v vs) (hb : But F w w') (hF : ∀ a n cap, v = .slice (some a) n cap → ¬ F a.block) : SlR w' v vs := by
  obtain ⟨a, cap, rfl, h1, h2, h3⟩ := h
  refine ⟨a, cap, rfl, h1, h2, fun i u hu => ?_⟩
  obtain ⟨b, off, rfl, hc⟩ := h3 i u hu
  refine ⟨b, off, rfl, ?_⟩
  rw [World.cell?_of_block (w := w) (hb.block b (World.block_lt_of_cell? w _ hc) (hF _ _ _ rfl))]
  exact hc
theorem SlR.boxes {F : Nat → Prop} {w W : World} (cs : Array Value) (T : TypeId) (h : But F (w.alloc (.cells cs T)) W) (hF : ¬ F w.heap.size) (hm : cs.toList.length ≤ maxLen) : SlR W (.slice (some ⟨w.heap.size, 0, none⟩) cs.toList.length cs.toList.length) cs.toList := by
  refine ⟨some ⟨w.heap.size, 0, none⟩, cs.toList.length, rfl, hm, Nat.le_refl _, fun i u hu => ⟨w.heap.size, 0, rfl, ?_⟩⟩
  have hb := h.block w.heap.size (by simp) hF
  rw [alloc_new] at hb
  rw [cell_of hb]
  simpa using hu
end Go.Proofs.YtjkbfoeakeoeiaaGreat
namespace Go.Proofs.YtjkbfoeakeoeiaaGreat
set_option maxRecDepth 100000
set_option maxHeartbeats 40000000
set_option linter.unusedSimpArgs false
set_option linter.unusedVariables false
open Go.RowKit
theorem app1 {P : Program} {ops : Array Oper} {rest : List Oper} {o : Oper} {a : Act} {Q : Exit → Act → World → Prop} {W : World} (t e : TypeId) {z : Value} {size bytes : Nat} (ht : P.underlying t = some (.slice e))
    (hinfo : (P.info? e).map (fun i => (i.zero, i.size, i.bytes)) = some (some z, size, bytes)) (hzs : z.cells.size = size) (hsz : 0 < size)
    {base n : Nat} {v : Value} {xs : List Value} (hown : W.ownsRow base e size v n xs) (hbase : base ≤ W.heap.size) (hn : n + 1 ≤ maxLen) (hby : (n + 1) * bytes ≤ 140737488355328)
    {s x : Operand} {cs : Array Value} (hgd : o.guard = none) (ho : o.op = .call { callee := .builtin .append, args := #[s, x], argTypes := #[t, t] }) (hs : a.eval s = v)
    (hx : a.eval x = .slice (some ⟨W.heap.size, 0, none⟩) 1 1) (hcs : cs.size = size) (h1 : ∀ u ∈ cs.toList, u.oneCell' = true)
    (h : ∀ v' w', w'.ownsRow base e size v' (n + 1) (xs ++ cs.toList) → Below base W w' → wpList P ops Q rest (a.put o.dst v') w') :
    wpList P ops Q (o :: rest) a (W.alloc (.cells cs e)) := by
  obtain ⟨i0, hi, hzz⟩ := Option.map_eq_some_iff.1 hinfo
  simp only [Prod.mk.injEq] at hzz
  obtain ⟨hz0, hz1, hz2⟩ := hzz
  refine wpList_append_own (W.alloc (.cells cs e)) hgd s x t ho base e i0 z size bytes ht hi hz0 hz1 hz2 hzs hsz v n xs hs (hown.alloc _) ⟨W.heap.size, 0, none⟩ 1 1 cs.toList hx (by simpa using hcs)
    (World.news_of_block (cs := cs) (t := e) (fr := (0, 0)) (heap_alloc_new W _)) h1 hn hby (by simp; omega) ?_
  intro v' w' hown' hg _
  exact h v' w' hown' (((Below.refl base W).alloc hbase _).grown hg (by simp; omega) (fun k hk => (hown.lt k hk).1))
theorem own_slice {w : World} {base e size n : Nat} {v : Value} {xs : List Value} (h : w.ownsRow base e size v n xs) : ∃ a c, v = .slice a n c := by
  rcases h.2 with ⟨rfl, rfl⟩ | ⟨g, cap, cur, rfl, _⟩
  · exact ⟨none, 0, rfl⟩
  · exact ⟨_, cap, rfl⟩
end Go.Proofs.YtjkbfoeakeoeiaaGreat
namespace Go.Proofs.YtjkbfoeakeoeiaaGreat
set_option maxRecDepth 100000
set_option maxHeartbeats 40000000
set_option linter.unusedSimpArgs false
set_option linter.unusedVariables false
open Go.RowKit
def uvS (x : Nat) : ByteArray := ⟨(Lib.uvarint x).toArray⟩
theorem uvS_size (x : Nat) : (uvS x).size = (Lib.uvarint x).length := by simp [uvS, ByteArray.size]
theorem info_u8 : (Tryz.prog.info? 5).map (fun i => (i.zero, i.size, i.bytes)) = some (some (.int .u8 0), 1, 1) := by kernel_rfl
theorem bytes_row {w : World} {base e n : Nat} {v : Value} {l : List UInt8} (h : w.ownsRow base e 1 v n (Lib.byteCells l)) (hl : 0 < l.length) :
    ∃ g cap, v = .slice (some ⟨g, 0, none⟩) l.length cap ∧ ∀ j (hj : j < l.length), w.cell? ((⟨g, 0, none⟩ : Addr).add j) = some (.int .u8 (l[j].toNat : Int)) := by
  have hn : l.length = n := by have := h.1; rw [Lib.byteCells_length] at this; omega
  rcases h.2 with ⟨rfl, rfl⟩ | ⟨g, cap, cur, rfl, _, hh, hnc, hcm, hsz, htk⟩
  · omega
  · refine ⟨g, cap, by rw [hn], fun j hj => ?_⟩
    have e : (⟨g, 0, none⟩ : Addr).add j = ⟨g, j, none⟩ := by
      by_cases hj0 : j = 0 <;> simp [Addr.add, hj0]
    rw [e, cell_of hh]
    have h1 : (Lib.byteCells l)[j]? = some (.int .u8 (l[j].toNat : Int)) := by simp [Lib.byteCells, hj]
    rw [← htk, List.getElem?_take] at h1
    split at h1
    · simpa using h1
    · cases h1
theorem byteCells_snoc (pre : List UInt8) {n : Nat} (hn : n < 256) : Lib.byteCells (pre ++ [n.toUInt8]) = Lib.byteCells pre ++ [.int .u8 (n : Int)] := by
  have h : n.toUInt8.toNat = n := by simp [Nat.toUInt8, UInt8.toNat_ofNat']; omega
  simp [Lib.byteCells, h]
theorem wuint_any (x : Nat) (hx : x < 18446744073709551616) (w : World) :
    Calls Tryz.prog 62 #[.int .u64 x] w fun e w' => e = .returned (.string (uvS x)) ∧ Below w.heap.size w w' := by
  have hlen := Lib.uvarint_length64 hx
  go_enter Tryz.func62, Tryz.ntmps62
  go_wp2
  go_loopw [0, 3] (fun vx vb wr => ∃ (y : Nat) (pre : List UInt8), vx = .int .u64 y ∧ Hid (y ≤ x ∧ Lib.uvarint x = pre ++ Lib.uvarint y ∧ wr.ownsRow w.heap.size 5 1 vb pre.length (Lib.byteCells pre) ∧ Below w.heap.size w wr))
    (fun vx _ _ => (intOf vx).toNat)
  case atStart => exact ⟨x, [], rfl, Nat.le_refl _, rfl, World.ownsRow_nil _ _ _ _, Below.refl _ _⟩
  case round =>
    obtain ⟨y, pre, rfl, hR⟩ := hrel
    have hy := hR.out.1
    have hws := hR.out.2.2.2.size
    have hpl : pre.length + (Lib.uvarint y).length ≤ 10 := by
      have h2 := congrArg List.length hR.out.2.1
      rw [List.length_append] at h2
      omega
    have hyp := Lib.uvarint_pos y
    by_cases h128 : 128 ≤ y
    · have hor : bits .or .u8 ((y : Int) % 256) 128 = ((y % 128 + 128 : Nat) : Int) := by
        rw [Lib.u8_or128_any _ (by omega) (by omega)]
        omega
      go_wp2_with (at_builtin; refine app1 133 5 Tryz.underlying133 info_u8 rfl (by decide) hR.out.2.2.1 hws (by unfold maxLen; omega) (by omega) rfl rfl rfl rfl rfl (by simp [Value.oneCell']) ?_; intro v' w4 hown4 hb4)
      refine ⟨⟨y / 128, pre ++ [(y % 128 + 128).toUInt8], by go_num, by omega, by rw [hR.out.2.1, Lib.uvarint_big h128]; simp, ?_, hR.out.2.2.2.trans hb4⟩, by simp [intOf]; omega⟩
      rw [byteCells_snoc pre (by omega), List.length_append, List.length_singleton]
      exact hown4
    · have hsm : Lib.uvarint y = [y.toUInt8] := Lib.uvarint_small (by omega)
      go_wp2_with (at_builtin; refine app1 133 5 Tryz.underlying133 info_u8 rfl (by decide) hR.out.2.2.1 hws (by unfold maxLen; omega) (by omega) rfl rfl rfl rfl rfl (by simp [Value.oneCell']) ?_; intro v' w4 hown4 hb4)
      have hfin : w4.ownsRow w.heap.size 5 1 v' (pre.length + 1) (Lib.byteCells (Lib.uvarint x)) := by
        rw [hR.out.2.1, hsm, byteCells_snoc pre (by omega)]
        exact hown4
      obtain ⟨g, cap, rfl, hc⟩ := bytes_row hfin (by have := Lib.uvarint_pos x; omega)
      rw [run_convert_bytes_back w4 _ _ 5 ⟨g, 0, none⟩ cap (Lib.uvarint x) Tryz.underlying133 Tryz.underlying5 Tryz.underlying9 hc]
      simp only [Result.andThen]
      rw [Oper.upon_value]
      go_wp2
      go_ret
      exact ⟨rfl, hR.out.2.2.2.trans hb4⟩
def zig (x : Int) : Nat := if 0 ≤ x then (2 * x).toNat else (-2 * x - 1).toNat
theorem xor_ones (a : Nat) (ha : a < 18446744073709551616) : a ^^^ 18446744073709551615 = 18446744073709551615 - a := by
  have h := congrArg BitVec.toNat (BitVec.xor_allOnes (x := BitVec.ofNat 64 a))
  simp only [BitVec.toNat_xor, BitVec.toNat_ofNat, BitVec.toNat_allOnes, BitVec.toNat_not, Nat.reducePow, Nat.reduceSub, Nat.mod_eq_of_lt ha] at h
  exact h
theorem zig_pos (n : Nat) (hn : n ≤ 9223372036854775807) : bits .xor .u64 ((n : Int) * 2) ((n : Int) / 9223372036854775808) = ((zig n : Nat) : Int) := by
  have e1 : ((n : Int) * 2) = ((n * 2 : Nat) : Int) := by omega
  have e2 : ((n : Int) / 9223372036854775808) = ((0 : Nat) : Int) := by omega
  rw [e1, e2, bits_xor_u64_nat _ _ (by omega) (by omega), Nat.xor_zero]
  unfold zig
  rw [if_pos (by omega)]
  omega
theorem zig_neg (x : Int) (h0 : x < 0) (h1 : -9223372036854775808 ≤ x) : bits .xor .u64 (IntKind.u64.wrap (IntKind.u64.wrap x * 2)) (IntKind.u64.wrap (x / 9223372036854775808)) = ((zig x : Nat) : Int) := by
  rw [IntKind.wrap_u64, IntKind.wrap_u64, IntKind.wrap_u64]
  have e1 : (x % 18446744073709551616 * 2 % 18446744073709551616) = ((18446744073709551616 + 2 * x).toNat : Int) := by omega
  have e2 : (x / 9223372036854775808 % 18446744073709551616) = ((18446744073709551615 : Nat) : Int) := by omega
  rw [e1, e2, bits_xor_u64_nat _ _ (by omega) (by omega), xor_ones _ (by omega)]
  unfold zig
  rw [if_neg (by omega)]
  omega
theorem zig_lt (x : Int) (h1 : -9223372036854775808 ≤ x) (h2 : x ≤ 9223372036854775807) : zig x < 18446744073709551616 := by
  unfold zig
  split <;> omega
theorem wint_any (x : Int) (h1 : -9223372036854775808 ≤ x) (h2 : x ≤ 9223372036854775807) (w : World) :
    Calls Tryz.prog 76 #[.int .i64 x] w fun e w' => e = .returned (.string (uvS (zig x))) ∧ Below w.heap.size w w' := by
  have hz := zig_lt x h1 h2
  by_cases h0 : 0 ≤ x
  · obtain ⟨n, rfl⟩ := Int.eq_ofNat_of_zero_le h0
    have hq := hid (zig_pos n (by omega))
    go_enter Tryz.func76, Tryz.ntmps76
    go_wp2_with fail
    rw [hq.out]
    refine (wuint_any (zig n) hz w).mono ?_
    rintro e w1 ⟨rfl, b1⟩
    go_wp2
    go_ret
    exact ⟨rfl, b1⟩
  · have hq := hid (zig_neg x (by omega) h1)
    go_enter Tryz.func76, Tryz.ntmps76
    go_wp2_with fail
    rw [hq.out]
    refine (wuint_any (zig x) hz w).mono ?_
    rintro e w1 ⟨rfl, b1⟩
    go_wp2
    go_ret
    exact ⟨rfl, b1⟩
def txS (s : ByteArray) : ByteArray := uvS s.size ++ s
theorem wtext_any (s : ByteArray) (hs : s.size ≤ 140737488355328) (w : World) :
    Calls Tryz.prog 63 #[.string s] w fun e w' => e = .returned (.string (txS s)) ∧ Below w.heap.size w w' := by
  have hz := uvS_size s.size
  have hl := Lib.uvarint_length64 (show s.size < 18446744073709551616 by omega)
  go_enter Tryz.func63, Tryz.ntmps63
  go_wp2_with fail
  refine (wuint_any s.size (by omega) w).mono ?_
  rintro e w1 ⟨rfl, b1⟩
  go_wp2
  go_ret
  exact ⟨rfl, b1⟩
end Go.Proofs.YtjkbfoeakeoeiaaGreat
namespace Go.Proofs.YtjkbfoeakeoeiaaGreat
set_option maxRecDepth 100000
set_option maxHeartbeats 40000000
set_option linter.unusedSimpArgs false
set_option linter.unusedVariables false
open Go.RowKit
theorem SlR.below {w W : World} {v : Value} {vs : List Value} (h : SlR w v vs) (hb : Below w.heap.size w W) : SlR W v vs := by
  obtain ⟨a, cap, hv, h1, h2, h3⟩ := h
  refine ⟨a, cap, hv, h1, h2, fun i u hu => ?_⟩
  obtain ⟨b, off, ha, hc⟩ := h3 i u hu
  exact ⟨b, off, ha, (hb.cell (p := ⟨b, off + i, none⟩) (World.block_lt_of_cell? w _ hc)).trans hc⟩
theorem app_snoc {α : Type} (f : α → ByteArray) (l : List α) (i : Nat) (x : α) (h : l[i]? = some x) (s : ByteArray) : (l.take (i + 1)).foldl (fun s x => s ++ f x) s = (l.take i).foldl (fun s x => s ++ f x) s ++ f x := by
  rw [show l.take (i + 1) = l.take i ++ [x] by simp [List.take_add_one, h], List.foldl_append]
  rfl
def u64 (n : Int) : Nat := (n % 18446744073709551616).toNat
def inS (x : Int) : ByteArray := uvS (zig x)
theorem wint_in (x : Int) (h1 : -9223372036854775808 ≤ x) (h2 : x ≤ 9223372036854775807) (w : World) :
    Calls Tryz.prog 76 #[.int .i64 x] w fun e w' => e = .returned (.string (inS x)) ∧ Below w.heap.size w w' := wint_any x h1 h2 w
end Go.Proofs.YtjkbfoeakeoeiaaGreat
namespace Go.Proofs.YtjkbfoeakeoeiaaGreat
set_option maxRecDepth 100000
set_option maxHeartbeats 40000000
set_option linter.unusedSimpArgs false
set_option linter.unusedVariables false
open Go.RowKit
def ltS (a b : ByteArray) : Bool := Op.bytesLess a.data.toList b.data.toList
theorem drop_at (a : ByteArray) (i : Nat) (h : i < a.size) : a.data.toList.drop i = a[i] :: a.data.toList.drop (i + 1) := by
  rw [List.drop_eq_getElem_cons (by simpa using h)]; rfl
end Go.Proofs.YtjkbfoeakeoeiaaGreat
namespace Go.Proofs.YtjkbfoeakeoeiaaGreat
set_option maxRecDepth 100000
set_option maxHeartbeats 40000000
set_option linter.unusedSimpArgs false
set_option linter.unusedVariables false
open Go.RowKit
def ltr (c : UInt8) : Bool := decide (97 ≤ c.toNat) && decide (c.toNat ≤ 122)
def okc (c : UInt8) : Bool := ltr c || (decide (48 ≤ c.toNat) && decide (c.toNat ≤ 57)) || decide (c.toNat = 95)
def words : List ByteArray := [⟨#[97, 110, 100]⟩, ⟨#[111, 114]⟩, ⟨#[110, 111, 116]⟩, ⟨#[116, 114, 117, 101]⟩, ⟨#[102, 97, 108, 115, 101]⟩, ⟨#[108, 101, 110]⟩]
def inL (s : ByteArray) (l : List ByteArray) : Bool := l.any fun x => decide (s = x)
theorem inL_yes {s : ByteArray} {l : List ByteArray} {i : Nat} (h : l[i]? = some s) : inL s l = true := List.any_eq_true.2 ⟨s, List.mem_of_getElem? h, decide_eq_true rfl⟩
theorem inL_snoc (s x : ByteArray) (l : List ByteArray) : inL s (l ++ [x]) = (inL s l || decide (s = x)) := by simp [inL]
theorem bytes_eq2 (x y : ByteArray) : (x.toList == y.toList) = decide (x = y) := by
  by_cases h : x = y
  · subst h; simp
  · simp only [h, decide_false]
    rw [beq_eq_false_iff_ne]
    intro he
    rw [ByteArray.toList_eq, ByteArray.toList_eq] at he
    exact h (ByteArray.ext (Array.toList_inj.1 he))
def named (s : ByteArray) : Bool := decide (1 ≤ s.size) && decide (s.size ≤ 32) && ltr (s.data.toList.headD 0) && s.data.toList.all okc && !inL s words
theorem named_short {s : ByteArray} (h : s.size < 1 ∨ 32 < s.size) : named s = false := by
  unfold named
  rcases h with h | h
  · rw [decide_eq_false (by omega : ¬ 1 ≤ s.size)]; rfl
  · rw [decide_eq_false (by omega : ¬ s.size ≤ 32)]; simp
theorem head_at {s : ByteArray} (h : 0 < s.size) : s.data.toList.headD 0 = s[0] := by
  have e := drop_at s 0 h
  rw [List.drop_zero] at e
  rw [e]
  rfl
theorem named_head {s : ByteArray} (h : 0 < s.size) (hl : ltr s[0] = false) : named s = false := by
  unfold named
  rw [head_at h, hl]; simp
theorem named_bad {s : ByteArray} {i : Nat} (h : i < s.size) (hc : okc s[i] = false) : named s = false := by
  unfold named
  have : s.data.toList.all okc = false := by
    rw [Bool.eq_false_iff]
    intro ha
    rw [List.all_eq_true] at ha
    have := ha s[i] (by simp [ByteArray.getElem_eq_getElem_data])
    rw [hc] at this
    cases this
  rw [this]; simp
theorem named_end {s : ByteArray} (h1 : 1 ≤ s.size) (h2 : s.size ≤ 32) (hl : ltr s[0] = true) (ha : ∀ j (h : j < s.size), okc s[j] = true) : named s = !inL s words := by
  unfold named
  have : s.data.toList.all okc = true := by
    rw [List.all_eq_true]
    intro c hc
    obtain ⟨j, hj, rfl⟩ := List.mem_iff_getElem.1 hc
    have := ha j (by simpa using hj)
    simpa [ByteArray.getElem_eq_getElem_data] using this
  rw [head_at (by omega), hl, this, decide_eq_true h1, decide_eq_true h2]; rfl
theorem okc_iff (c : UInt8) : okc c = true ↔ (97 ≤ c.toNat ∧ c.toNat ≤ 122) ∨ (48 ≤ c.toNat ∧ c.toNat ≤ 57) ∨ c.toNat = 95 := by
  simp [okc, ltr, or_assoc]
theorem ltr_iff (c : UInt8) : ltr c = true ↔ (97 ≤ c.toNat ∧ c.toNat ≤ 122) := by simp [ltr]
theorem index_any (v : Value) (xs : List ByteArray) (s : ByteArray) (w : World) (h : SlR w v (xs.map Value.string)) (hl : xs.length ≤ 1000) :
    Calls Tryz.prog 74 #[v, .string s] w fun e w' => ∃ n : Int, e = .returned (.int .i64 n) ∧ decide (n ≥ 0) = inL s xs ∧ w = w' := by
  have hxl : (xs.map Value.string).length = xs.length := by simp
  have H := hid h
  obtain ⟨a, cap, rfl, h1, h2, -⟩ := h
  rw [hxl] at h1 h2
  unfold maxLen at h1
  rw [hxl]
  go_enter Tryz.func74, Tryz.ntmps74
  go_wp2
  go_loop [8] (fun vi => ∃ i : Nat, i ≤ xs.length ∧ vi = .int .i64 i ∧ Hid (inL s (xs.take i) = false)) (fun vi => xs.length - (intOf vi).toNat)
  case atStart => exact ⟨0, Nat.zero_le _, rfl, rfl⟩
  case round =>
    obtain ⟨i, hi, rfl, hR⟩ := hrel
    by_cases hlt : i < xs.length
    · have hxi : xs[i]? = some xs[i] := List.getElem?_eq_getElem hlt
      generalize hx : xs[i] = x at hxi
      obtain ⟨a', cap', hv, -, -, hcell⟩ := H.out
      cases hv
      obtain ⟨b, off, rfl, hc⟩ := hcell i (.string x) (by simp [hxi])
      have HX := hid hxi
      clear hcell hxi hx
      by_cases he : s = x
      · subst he
        go_wp2
        go_ret
        exact ⟨i, rfl, by rw [decide_eq_true (by omega), inL_yes HX.out], rfl⟩
      · have he2 : (s.toList == x.toList) = false := by rw [bytes_eq2, decide_eq_false he]
        go_wp2
        refine ⟨⟨i + 1, by omega, by go_num, ?_⟩, by simp [intOf]; omega⟩
        show inL s (xs.take (i + 1)) = false
        rw [show xs.take (i + 1) = xs.take i ++ [x] by simp [List.take_add_one, HX.out], inL_snoc, hR.out, decide_eq_false he]
        rfl
    · have : i = xs.length := by omega
      subst this
      have hno := hR.out
      rw [List.take_length] at hno
      have HNo := hid hno
      clear hno
      go_wp2
      go_ret
      exact ⟨-1, rfl, by rw [decide_eq_false (by omega), HNo.out], rfl⟩
theorem contains_any (v : Value) (xs : List ByteArray) (s : ByteArray) (w : World) (h : SlR w v (xs.map Value.string)) (hl : xs.length ≤ 1000) :
    Calls Tryz.prog 59 #[v, .string s] w fun e w' => e = .returned (.bool (inL s xs)) ∧ w = w' := by
  go_enter Tryz.func59, Tryz.ntmps59
  go_wp2_with fail
  refine (index_any v xs s w h hl).mono ?_
  rintro e w1 ⟨n, rfl, hn, rfl⟩
  have HN := hid hn
  clear hn
  go_wp2
  go_ret
  rw [← HN.out]
  exact ⟨by simp, rfl⟩
theorem cls (n : Nat) : (97 ≤ n ∧ n ≤ 122) ∨ (48 ≤ n ∧ n ≤ 57) ∨ n = 95 ∨ n < 48 ∨ (57 < n ∧ n < 95) ∨ n = 96 ∨ 122 < n := by omega
theorem named_any (s : ByteArray) (w : World) : Calls Tryz.prog 26 #[.string s] w fun e w' => e = .returned (.bool (named s)) ∧ Below w.heap.size w w' := by
  by_cases h1 : s.size < 1
  · have E := hid (named_short (.inl h1))
    go_enter Tryz.func26, Tryz.ntmps26
    go_wp2
    go_ret
    rw [E.out]
    exact ⟨rfl, Below.refl _ _⟩
  by_cases h2 : 32 < s.size
  · have E := hid (named_short (.inr h2))
    go_enter Tryz.func26, Tryz.ntmps26
    go_wp2
    go_ret
    rw [E.out]
    exact ⟨rfl, Below.refl _ _⟩
  have h0 : 0 < s.size := by omega
  by_cases hl : ltr s[0] = true
  · have hl2 := (ltr_iff _).1 hl
    obtain ⟨hl3, hl4⟩ := hl2
    have HL := hid hl
    clear hl
    go_enter Tryz.func26, Tryz.ntmps26
    go_wp2
    go_loop [25] (fun vi => ∃ i : Nat, i ≤ s.size ∧ vi = .int .i64 i ∧ Hid (∀ j (h : j < s.size), j < i → okc s[j] = true)) (fun vi => s.size - (intOf vi).toNat)
    case atStart => exact ⟨0, Nat.zero_le _, rfl, fun j _ hj => by omega⟩
    case round =>
      obtain ⟨i, hi, rfl, hR⟩ := hrel
      by_cases hlt : i < s.size
      · by_cases hok : okc s[i] = true
        · have hstep : Hid (∀ j (h : j < s.size), j < i + 1 → okc s[j] = true) := by
            intro j hj hji
            by_cases he : j = i
            · subst he; exact hok
            · exact hR.out j hj (by omega)
          have hok2 := (okc_iff _).1 hok
          clear hok
          rcases hok2 with ⟨k1, k2⟩ | ⟨k1, k2⟩ | k1
          all_goals
            go_wp2
            exact ⟨⟨i + 1, by omega, by go_num, hstep.out⟩, by simp [intOf]; omega⟩
        · have E := hid (named_bad hlt (by simpa using hok))
          have hno := mt (okc_iff s[i]).2 hok
          clear hok
          rcases cls s[i].toNat with ⟨k1, k2⟩ | ⟨k1, k2⟩ | k1 | k1 | ⟨k1, k2⟩ | k1 | k1
          · omega
          · omega
          · omega
          all_goals
            have hq : ((s[i].toNat : Int) != 95) = true := by rw [bne_iff_ne]; omega
            clear hno
            go_wp2
            go_ret
            rw [E.out]
            exact ⟨rfl, Below.refl _ _⟩
      · have hin : i = s.size := by omega
        subst hin
        have E := hid (named_end (by omega) (by omega) HL.out (fun j hj => hR.out j hj hj))
        go_wp2_with fail
        refine (contains_any _ words s _ (by exact SlR.boxes _ _ (But.refl (fun _ => False) _) (fun h => h) (by simp [maxLen])) (by decide)).mono ?_
        rintro e w1 ⟨rfl, rfl⟩
        go_wp2
        go_ret
        rw [E.out]
        exact ⟨rfl, (Below.refl _ _).alloc (Nat.le_refl _) _⟩
  · have E := hid (named_head h0 (by simpa using hl))
    have hl2 : s[0].toNat < 97 ∨ 122 < s[0].toNat := by
      have := mt (ltr_iff s[0]).2 hl
      omega
    clear hl
    rcases hl2 with k1 | k1
    all_goals
      go_enter Tryz.func26, Tryz.ntmps26
      go_wp2
      go_ret
      rw [E.out]
      exact ⟨rfl, Below.refl _ _⟩
end Go.Proofs.YtjkbfoeakeoeiaaGreat
namespace Go.Proofs.YtjkbfoeakeoeiaaGreat
set_option maxRecDepth 100000
set_option maxHeartbeats 40000000
set_option linter.unusedSimpArgs false
set_option linter.unusedVariables false
open Go.RowKit
structure ValV where
  k : Int
  n : Int
  s : ByteArray
def ValV.enc (v : ValV) : Value := .agg #[.int .i64 v.k, .int .i64 v.n, .string v.s]
def eS (s : ByteArray) : Bool := s.toList == []
def mayV (v : ValV) : Bool := if v.k = 3 then v.n == 0 && decide (v.s.size ≤ 1024) else if v.k = 1 then eS v.s else if v.k = 2 then (v.n == 0 || v.n == 1) && eS v.s else false
theorem may_any (v : ValV) (w : World) : Calls Tryz.prog 60 #[v.enc] w fun e w' => e = .returned (.bool (mayV v)) ∧ Below w.heap.size w w' := by
  obtain ⟨k, n, s⟩ := v
  have hb : Hid (∀ o, Below w.heap.size w (w.alloc o)) := fun o => (Below.refl _ w).alloc (Nat.le_refl _) o
  show Calls Tryz.prog 60 #[.agg #[.int .i64 k, .int .i64 n, .string s]] w _
  by_cases h2 : k = 2
  · subst h2
    by_cases h0 : n = 0
    · subst h0
      have E : Hid (mayV ⟨2, 0, s⟩ = (s.toList == [])) := by show _ = _; simp [mayV, eS]
      go_enter Tryz.func60, Tryz.ntmps60
      go_wp2
      go_ret
      rw [E.out]
      exact ⟨by first | rfl | (simp; done), hb.out _⟩
    · have hq0 : (n != 0) = true := by rw [bne_iff_ne]; exact h0
      by_cases h1 : n = 1
      · subst h1
        have E : Hid (mayV ⟨2, 1, s⟩ = (s.toList == [])) := by show _ = _; simp [mayV, eS]
        clear h0
        go_enter Tryz.func60, Tryz.ntmps60
        go_wp2
        go_ret
        rw [E.out]
        exact ⟨by first | rfl | (simp; done), hb.out _⟩
      · have hq1 : (n != 1) = true := by rw [bne_iff_ne]; exact h1
        have E : Hid (mayV ⟨2, n, s⟩ = false) := by show _ = _; simp [mayV, h0, h1]
        clear h0 h1
        go_enter Tryz.func60, Tryz.ntmps60
        go_wp2
        go_ret
        rw [E.out]
        exact ⟨by first | rfl | (simp; done), hb.out _⟩
  have q2 : (k == 2) = false := beq_eq_false_iff_ne.2 h2
  by_cases h1 : k = 1
  · subst h1
    have E : Hid (mayV ⟨1, n, s⟩ = (s.toList == [])) := by show _ = _; simp [mayV, eS]
    clear h2
    go_enter Tryz.func60, Tryz.ntmps60
    go_wp2
    go_ret
    rw [E.out]
    exact ⟨by first | rfl | (simp; done), hb.out _⟩
  have q1 : (k == 1) = false := beq_eq_false_iff_ne.2 h1
  by_cases h3 : k = 3
  · subst h3
    have E : Hid (mayV ⟨3, n, s⟩ = (n == 0 && decide (s.size ≤ 1024))) := by show _ = _; simp [mayV]
    clear h1 h2
    by_cases h0 : n = 0
    · subst h0
      go_enter Tryz.func60, Tryz.ntmps60
      go_wp2
      all_goals
        go_ret
        rw [E.out]
        refine ⟨?_, hb.out _⟩
        simp [*]
        try omega
    · have hq0 : (n == 0) = false := beq_eq_false_iff_ne.2 h0
      go_enter Tryz.func60, Tryz.ntmps60
      go_wp2
      go_ret
      rw [E.out, hq0]
      exact ⟨by first | rfl | (simp; done), hb.out _⟩
  have q3 : (k == 3) = false := beq_eq_false_iff_ne.2 h3
  have E : Hid (mayV ⟨k, n, s⟩ = false) := by show _ = _; simp [mayV, h1, h2, h3]
  clear h1 h2 h3
  go_enter Tryz.func60, Tryz.ntmps60
  go_wp2
  go_ret
  rw [E.out]
  exact ⟨by first | rfl | (simp; done), hb.out _⟩
end Go.Proofs.YtjkbfoeakeoeiaaGreat
namespace Go.Proofs.YtjkbfoeakeoeiaaGreat
set_option maxRecDepth 100000
set_option maxHeartbeats 40000000
set_option linter.unusedSimpArgs false
set_option linter.unusedVariables false
open Go.RowKit
def kS (k : Int) : ByteArray := ⟨#[(k % 256).toNat.toUInt8]⟩
def valS (v : ValV) : ByteArray := if mayV v then (if v.k = 3 then kS 3 ++ txS v.s else kS v.k ++ inS v.n) else ⟨#[]⟩
structure VOk (v : ValV) : Prop where
  n0 : -9223372036854775808 ≤ v.n
  n1 : v.n ≤ 9223372036854775807
  s : v.s.size ≤ 2097152
theorem kS_size (k : Int) : (kS k).size = 1 := rfl
theorem txS_size {s : ByteArray} (hs : s.size ≤ 2097152) : (txS s).size ≤ s.size + 10 := by
  unfold txS
  rw [ByteArray.size_append]
  have := uvS_size s.size
  have := Lib.uvarint_length64 (show s.size < 18446744073709551616 by omega)
  omega
theorem inS_size {n : Int} (h0 : -9223372036854775808 ≤ n) (h1 : n ≤ 9223372036854775807) : (inS n).size ≤ 10 := by
  have h1 := uvS_size (zig n)
  have h2 := Lib.uvarint_length64 (zig_lt n h0 (by assumption))
  show (uvS (zig n)).size ≤ 10
  omega
theorem one_at (W : World) (g n : Nat) (z : Int) (c : ByteArray) (hn : n < 256) (hz : z = n) (hc : c = ⟨#[n.toUInt8]⟩) (hg : W.cell? ⟨g, 0, none⟩ = some (.int .u8 z)) :
    (convert 133 9 (.slice (some ⟨g, 0, none⟩) 1 1)).run Tryz.prog W = .ok (.string c) W := by
  have h : n.toUInt8.toNat = n := by simp [Nat.toUInt8, UInt8.toNat_ofNat']; omega
  subst hz hc
  refine run_convert_bytes_back _ _ _ 5 ⟨g, 0, none⟩ 1 [n.toUInt8] Tryz.underlying133 Tryz.underlying5 Tryz.underlying9 ?_
  intro j hj
  have : j = 0 := by simp at hj; exact hj
  subst this
  simpa [h, Addr.add] using hg
theorem vbytes_any (v : ValV) (hv : VOk v) (w : World) : Calls Tryz.prog 64 #[v.enc] w fun e w' => e = .returned (.string (valS v)) ∧ Below w.heap.size w w' := by
  obtain ⟨k, n, s⟩ := v
  obtain ⟨hn0, hn1, hs⟩ := hv
  dsimp only at hn0 hn1 hs
  obtain ⟨c, hc⟩ : ∃ c : ByteArray, c = kS k := ⟨_, rfl⟩
  have hcs : c.size = 1 := by rw [hc]; rfl
  have Hc := hid hc
  clear hc
  have htx := txS_size hs
  have hin := inS_size hn0 hn1
  show Calls Tryz.prog 64 #[.agg #[.int .i64 k, .int .i64 n, .string s]] w _
  go_enter Tryz.func64, Tryz.ntmps64
  go_wp2_with fail
  let W := (w.alloc (.cells #[.int .i64 k, .int .i64 n, .string s] 78)).alloc (.cells #[.int .u8 (k % 256)] 5)
  have hW : Hid (Below w.heap.size w W) := ((Below.refl _ w).alloc (Nat.le_refl _) _).alloc (by simp) _
  have hb0 : W.heap[w.heap.size]? = some (.cells #[.int .i64 k, .int .i64 n, .string s] 78) := (alloc_old _ (by simp)).trans (alloc_new _ _)
  have k0 := cell_of hb0 0
  have k1 := cell_of hb0 1
  have k2 := cell_of hb0 2
  have hg : W.cell? ⟨w.heap.size + 1, 0, none⟩ = some (.int .u8 (k % 256)) := by
    have h := alloc_new (w.alloc (.cells #[.int .i64 k, .int .i64 n, .string s] 78)) (.cells #[.int .u8 (k % 256)] 5)
    rw [show (w.alloc (.cells #[.int .i64 k, .int .i64 n, .string s] 78)).heap.size = w.heap.size + 1 by simp] at h
    exact cell_of h 0
  rw [one_at W (w.heap.size + 1) (k % 256).toNat (k % 256) c (by omega) (by omega) Hc.out hg]
  have hlt : w.heap.size < W.heap.size := by simp [W]; omega
  clear hg hb0
  clear_value W
  simp only [Result.andThen]
  rw [Oper.upon_value]
  go_wp2_with fail
  refine (may_any ⟨k, n, s⟩ W).mono ?_
  rintro e w1 ⟨rfl, b1⟩
  have j0 := (b1.cell (p := ⟨w.heap.size, 0, none⟩) hlt).trans k0
  have j1 := (b1.cell (p := ⟨w.heap.size, 1, none⟩) hlt).trans k1
  have j2 := (b1.cell (p := ⟨w.heap.size, 2, none⟩) hlt).trans k2
  have B1 := hid (hW.out.trans (b1.mono hW.out.size))
  have hz1 := b1.size
  clear b1 k0 k1 k2
  cases hm : mayV ⟨k, n, s⟩ with
  | false =>
    have E : Hid (valS ⟨k, n, s⟩ = ⟨#[]⟩) := by show _ = _; unfold valS; rw [hm]; rfl
    clear hm
    go_wp2
    go_ret
    rw [E.out]
    exact ⟨rfl, B1.out⟩
  | true =>
    by_cases h3 : k = 3
    · have E : Hid (valS ⟨k, n, s⟩ = c ++ txS s) := by show _ = _; unfold valS; rw [hm, if_pos rfl, if_pos h3, Hc.out, h3]
      have q3 : (k == 3) = true := beq_iff_eq.2 h3
      clear hm h3
      go_wp2_with fail
      refine (wtext_any s (by omega) w1).mono ?_
      rintro e w2 ⟨rfl, b2⟩
      go_wp2
      go_ret
      rw [E.out]
      exact ⟨rfl, B1.out.trans (b2.mono B1.out.size)⟩
    · have E : Hid (valS ⟨k, n, s⟩ = c ++ inS n) := by show _ = _; unfold valS; rw [hm, if_pos rfl, if_neg h3, Hc.out]
      have q3 : (k == 3) = false := beq_eq_false_iff_ne.2 h3
      clear hm h3
      go_wp2_with fail
      refine (wint_in n hn0 hn1 w1).mono ?_
      rintro e w2 ⟨rfl, b2⟩
      go_wp2
      go_ret
      rw [E.out]
      exact ⟨rfl, B1.out.trans (b2.mono B1.out.size)⟩
end Go.Proofs.YtjkbfoeakeoeiaaGreat
