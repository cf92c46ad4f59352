/- Keep: contracts (A). -/
import Derived.WalkKit
import Derived.MapKept
import Derived.Lib.Hide
namespace Go.Proofs.YthikijlbclckdaaGreat
set_option maxRecDepth 100000
set_option maxHeartbeats 40000000
set_option linter.unusedSimpArgs false
set_option linter.unusedVariables false
open Go.RowKit
theorem hid {p : Prop} (h : p) : RowKit.Hid p := h
open Go.MapKept (Stamped)
theorem heap_lt {w : World} {b : Nat} {o : Obj} (h : w.heap[b]? = some o) : b < w.heap.size := (Array.getElem?_eq_some_iff.1 h).1
abbrev KL (α : Type) := List (ByteArray × α × Nat)
def ents {α : Type} (enc : α → Value) (l : KL α) : Array MapEntry := (l.map fun p => ⟨.string p.1, enc p.2.1, p.2.2⟩).toArray
def look {α : Type} (l : KL α) (k : ByteArray) : Option α :=
 match l with
 | [] => none
 | p :: l => if k = p.1 then some p.2.1 else look l k
def has {α : Type} (l : KL α) (k : ByteArray) : Bool := (look l k).isSome
def put {α : Type} (l : KL α) (k : ByteArray) (x : α) (ck : Nat) : KL α :=
 match l with
 | [] => [(k, x, ck)]
 | p :: l => if k = p.1 then (k, x, p.2.2) :: l else p :: put l k x ck
def del {α : Type} (l : KL α) (k : ByteArray) : KL α :=
 match l with
 | [] => []
 | p :: l => if k = p.1 then l else p :: del l k
def place {α : Type} (l : KL α) (k : ByteArray) : Nat :=
 match l with
 | [] => 0
 | p :: l => if k = p.1 then 0 else place l k + 1
section
variable {α : Type} {P : Program} {w : World} {enc : α → Value} {l : KL α} {t K e : TypeId} {mb ck : Nat} {z : Value}
theorem ents_size (enc : α → Value) (l : KL α) : (ents enc l).size = l.length := by simp [ents]
theorem findNow_ents (k : ByteArray) (l : KL α) (i : Nat) :
  Instr.findNow .string (.string k) (l.map fun p => (⟨.string p.1, enc p.2.1, p.2.2⟩ : MapEntry)) i = some ((look l k).map fun x => (i + place l k, enc x)) := by
 induction l generalizing i with
 | nil => simp [Instr.findNow, look]
 | cons p l ih =>
  by_cases h : k = p.1
  ·
   have hb : (k == p.1) = true := (MapKept.bytes_beq k p.1).2 h
   simp only [List.map_cons, Instr.findNow, Instr.sameNow, hb, look, place, if_pos h]
   simp
  ·
   have hb : (k == p.1) = false := by
    rw [Bool.eq_false_iff]
    exact fun hc => h ((MapKept.bytes_beq k p.1).1 hc)
   simp only [List.map_cons, Instr.findNow, Instr.sameNow, hb, look, place, if_neg h, ih]
   cases look l k <;> simp
   omega
theorem run_findKey (hK : P.underlying K = some .string) (k : ByteArray) :
  (Instr.findKey K (.string k) (ents enc l).toList).run P w = .ok ((look l k).map fun x => (place l k, enc x)) w := by
 simp [Instr.findKey, run_underlying hK, ents, findNow_ents]
theorem run_checkKey_s (hK : P.underlying K = some .string) (b : Bool) (k : ByteArray) : (Instr.checkKey b 10000 K (.string k)).run P w = .ok () w :=
 MapKept.run_checkKey hK (k := .string k) (by simp [MapKept.IsKey]) b 9999
theorem run_getObj_map {es : Array MapEntry} (hb : w.heap[mb]? = some (.map es ck)) : (getObj mb).run P w = .ok (.map es ck) w := by
 simp [getObj, Sem.run, hb]
theorem run_lookup_ok (ht : P.underlying t = some (.map K e)) (hK : P.underlying K = some .string) (hz : (zeroValue e).run P w = .ok z w)
  (hb : w.heap[mb]? = some (.map (ents enc l) ck)) (k : ByteArray) :
  (Instr.lookup t (.map (some mb)) (.string k) true).run P w = .ok (.tuple #[((look l k).map enc).getD z, .bool (has l k)]) w := by
 simp only [Instr.lookup, has]
 simp [run_underlying ht, run_getObj_map hb, run_checkKey_s hK, run_findKey hK]
 cases look l k <;> simp [hz]
theorem run_lookup_one (ht : P.underlying t = some (.map K e)) (hK : P.underlying K = some .string) (hz : (zeroValue e).run P w = .ok z w)
  (hb : w.heap[mb]? = some (.map (ents enc l) ck)) (k : ByteArray) :
  (Instr.lookup t (.map (some mb)) (.string k) false).run P w = .ok (((look l k).map enc).getD z) w := by
 simp only [Instr.lookup]
 simp [run_underlying ht, run_getObj_map hb, run_checkKey_s hK, run_findKey hK]
 cases look l k <;> simp [hz]
theorem run_len_map (ht : P.underlying t = some (.map K e)) (hb : w.heap[mb]? = some (.map (ents enc l) ck)) (ty : TypeId) :
  (Builtin.len_ #[t] ty #[.map (some mb)]).run P w = .ok (.int .i64 l.length) w := by
 simp [Builtin.len_, run_underlying ht, run_getObj_map hb, goInt, ents_size]
def setB (w : World) (r : Nat) (o : Obj) : World := { w with heap := w.heap.setIfInBounds r o }
theorem ents_put_has (k : ByteArray) (x y : α) (h : look l k = some y) :
  (ents enc l).modify (place l k) (fun e => { e with key := .string k, val := enc x }) = ents enc (put l k x ck) := by
 unfold ents
 rw [List.modify_toArray]
 congr 1
 induction l with
 | nil => simp [look] at h
 | cons p l ih =>
  by_cases hk : k = p.1
  ·
   simp [place, put, hk]
  ·
   simp only [look, if_neg hk] at h
   simp only [place, put, if_neg hk, List.map_cons, List.modify_succ_cons, ih h]
theorem ents_put_new (k : ByteArray) (x : α) (h : look l k = none) :
  (ents enc l).push ⟨.string k, enc x, ck⟩ = ents enc (put l k x ck) := by
 unfold ents
 rw [List.push_toArray]
 congr 1
 induction l with
 | nil => simp [put]
 | cons p l ih =>
  by_cases hk : k = p.1
  ·
   simp [look, hk] at h
  ·
   simp only [look, if_neg hk] at h
   simp only [put, if_neg hk, List.map_cons, List.cons_append, ih h]
theorem ents_del (k : ByteArray) (y : α) (h : look l k = some y) :
  (ents enc l).eraseIdxIfInBounds (place l k) = ents enc (del l k) := by
 unfold ents
 rw [← Array.toList_inj]
 simp only [Array.toList_eraseIdxIfInBounds]
 induction l with
 | nil => simp [look] at h
 | cons p l ih =>
  by_cases hk : k = p.1
  ·
   simp [place, del, hk]
  ·
   simp only [look, if_neg hk] at h
   simp only [place, del, if_neg hk, List.map_cons, List.eraseIdx_cons_succ, ih h]
theorem place_at (k : ByteArray) (y : α) (h : look l k = some y) : ((ents enc l)[place l k]?).map (·.key) = some (.string k) := by
 unfold ents
 simp only [List.getElem?_toArray, List.getElem?_map]
 induction l with
 | nil => simp [look] at h
 | cons p l ih =>
  by_cases hk : k = p.1
  ·
   simp [place, hk]
  ·
   simp only [look, if_neg hk] at h
   simpa only [place, if_neg hk, List.getElem?_cons_succ] using ih h
theorem run_setObj_map {es : Array MapEntry} (hb : w.heap[mb]? = some (.map es ck)) (o : Obj) : (setObj mb o).run P w = .ok () (setB w mb o) := by
 simp [setObj, Sem.run, hb, setB]
def tick {α : Type} (l : KL α) (k : ByteArray) (ck : Nat) : Nat := if has l k then ck else ck + 1
theorem run_mapUpdate_s (ht : P.underlying t = some (.map K e)) (hK : P.underlying K = some .string)
  (hb : w.heap[mb]? = some (.map (ents enc l) ck)) (k : ByteArray) (x : α) (v : Value) (hv : v = enc x) :
  (Instr.mapUpdate t (.map (some mb)) (.string k) v).run P w = .ok () (setB w mb (.map (ents enc (put l k x ck)) (tick l k ck))) := by
 subst hv
 unfold Instr.mapUpdate
 simp [run_underlying ht, run_getObj_map hb, run_checkKey_s hK, run_findKey hK]
 cases h : look l k with
 | none =>
  have ht : tick l k ck = ck + 1 := by simp [tick, has, h]
  simp [run_setObj_map hb, ht, ents_put_new k x h]
 | some y =>
  have ht : tick l k ck = ck := by simp [tick, has, h]
  have hp := place_at (enc := enc) k y h
  have hk : Instr.sameBits 10000 (.string k) (.string k) = true := by simp [Instr.sameBits, MapKept.bytes_beq]
  simp [hp, Instr.keyThatStays, hk, run_setObj_map hb, ht, ents_put_has (ck := ck) k x y h]
theorem run_delete_s (ht : P.underlying t = some (.map K e)) (hK : P.underlying K = some .string)
  (hb : w.heap[mb]? = some (.map (ents enc l) ck)) (k : ByteArray) (t2 ty : TypeId) :
  (Builtin.delete_ #[t, t2] ty #[.map (some mb), .string k]).run P w = .ok (.tuple #[]) (setB w mb (.map (ents enc (del l k)) ck)) := by
 unfold Builtin.delete_
 simp [run_underlying ht, run_getObj_map hb, run_checkKey_s hK, run_findKey hK]
 cases h : look l k with
 | none =>
  have : del l k = l := by
   clear hb
   induction l with
   | nil => rfl
   | cons p l ih =>
    by_cases hk : k = p.1
    ·
     simp [look, hk] at h
    ·
     simp only [look, if_neg hk] at h
     simp only [del, if_neg hk, ih h]
  simp [run_setObj_map hb, this]
 | some y => simp [run_setObj_map hb, ents_del k y h]
abbrev Fm (α : Type) := List (ByteArray × α)
def mlook {α : Type} (l : Fm α) (k : ByteArray) : Option α :=
 match l with
 | [] => none
 | p :: l => if k = p.1 then some p.2 else mlook l k
def mhas {α : Type} (l : Fm α) (k : ByteArray) : Bool := (mlook l k).isSome
def mput {α : Type} (l : Fm α) (k : ByteArray) (x : α) : Fm α :=
 match l with
 | [] => [(k, x)]
 | p :: l => if k = p.1 then (k, x) :: l else p :: mput l k x
def mdel {α : Type} (l : Fm α) (k : ByteArray) : Fm α :=
 match l with
 | [] => []
 | p :: l => if k = p.1 then l else p :: mdel l k
def strip {α : Type} (l : KL α) : Fm α := l.map fun p => (p.1, p.2.1)
theorem look_strip (l : KL α) (k : ByteArray) : look l k = mlook (strip l) k := by
 induction l with
 | nil => rfl
 | cons p l ih => simp only [look, strip, List.map_cons, mlook]; split <;> first | rfl | exact ih
theorem strip_put (l : KL α) (k : ByteArray) (x : α) (ck : Nat) : strip (put l k x ck) = mput (strip l) k x := by
 induction l with
 | nil => rfl
 | cons p l ih => by_cases h : k = p.1 <;> simp only [put, strip, List.map_cons, mput, h, if_true, if_false] <;> first | rfl | (congr 1)
theorem strip_del (l : KL α) (k : ByteArray) : strip (del l k) = mdel (strip l) k := by
 induction l with
 | nil => rfl
 | cons p l ih => by_cases h : k = p.1 <;> simp only [del, strip, List.map_cons, mdel, h, if_true, if_false] <;> first | rfl | (congr 1)
def MapAt (w : World) (mb : Nat) (enc : α → Value) (m : Fm α) : Prop :=
 ∃ l ck, w.heap[mb]? = some (.map (ents enc l) ck) ∧ strip l = m ∧ Stamped (ents enc l) ck
theorem MapAt.lt {m : Fm α} (h : MapAt w mb enc m) : mb < w.heap.size := by
 obtain ⟨l, ck, hb, _⟩ := h
 exact (Array.getElem?_eq_some_iff.1 hb).1
theorem MapAt.same {w' : World} {m : Fm α} (h : MapAt w mb enc m) (he : w'.heap[mb]? = w.heap[mb]?) : MapAt w' mb enc m := by
 obtain ⟨l, ck, hb, r⟩ := h
 exact ⟨l, ck, he.trans hb, r⟩
theorem MapAt.look_ok {m : Fm α} (h : MapAt w mb enc m) (ht : P.underlying t = some (.map K e)) (hK : P.underlying K = some .string) (hz : (zeroValue e).run P w = .ok z w) (k : ByteArray) :
  (Instr.lookup t (.map (some mb)) (.string k) true).run P w = .ok (.tuple #[((mlook m k).map enc).getD z, .bool (mhas m k)]) w := by
 obtain ⟨l, ck, hb, rfl, _⟩ := h
 rw [run_lookup_ok ht hK hz hb, has, mhas, look_strip]
theorem MapAt.look_one {m : Fm α} (h : MapAt w mb enc m) (ht : P.underlying t = some (.map K e)) (hK : P.underlying K = some .string) (hz : (zeroValue e).run P w = .ok z w) (k : ByteArray) :
  (Instr.lookup t (.map (some mb)) (.string k) false).run P w = .ok (((mlook m k).map enc).getD z) w := by
 obtain ⟨l, ck, hb, rfl, _⟩ := h
 rw [run_lookup_one ht hK hz hb, look_strip]
theorem MapAt.len {m : Fm α} (h : MapAt w mb enc m) (ht : P.underlying t = some (.map K e)) (ty : TypeId) :
  (Builtin.len_ #[t] ty #[.map (some mb)]).run P w = .ok (.int .i64 m.length) w := by
 obtain ⟨l, ck, hb, rfl, _⟩ := h
 rw [run_len_map ht hb]; simp [strip]
theorem stamped_ents (l : KL α) (ck : Nat) : Stamped (ents enc l) ck ↔ (∀ x ∈ l, x.2.2 < ck) ∧ (l.map (·.2.2)).Nodup ∧ l.Pairwise (fun x y => x.1 ≠ y.1) := by
 rw [MapKept.stamped_iff]
 simp only [ents, List.pairwise_map, List.map_map, Function.comp_def, List.mem_map, forall_exists_index, and_imp, forall_apply_eq_imp_iff₂, ne_eq, Value.string.injEq]
theorem mem_put {l : KL α} {k : ByteArray} {x : α} {q : ByteArray × α × Nat} (h : q ∈ put l k x ck) : q ∈ l ∨ (q.1 = k ∧ ((has l k = false ∧ q.2.2 = ck) ∨ ∃ p ∈ l, p.1 = k ∧ q.2.2 = p.2.2)) := by
 induction l with
 | nil => simp [put] at h; subst h; exact .inr ⟨rfl, .inl ⟨rfl, rfl⟩⟩
 | cons p l ih =>
  by_cases hk : k = p.1
  ·
   simp only [put, if_pos hk] at h
   rcases List.mem_cons.1 h with h | h
   ·
    subst h; exact .inr ⟨rfl, .inr ⟨p, by simp, hk.symm, rfl⟩⟩
   ·
    exact .inl (by simp [h])
  ·
   simp only [put, if_neg hk] at h
   rcases List.mem_cons.1 h with h | h
   ·
    subst h; exact .inl (by simp)
   ·
    rcases ih h with h | ⟨h1, h2⟩
    ·
     exact .inl (by simp [h])
    ·
     refine .inr ⟨h1, ?_⟩
     rcases h2 with ⟨h2, h3⟩ | ⟨p', hp, h2⟩
     ·
      exact .inl ⟨by simpa [has, look, hk] using h2, h3⟩
     ·
      exact .inr ⟨p', by simp [hp], h2⟩
theorem put_stamps (l : KL α) (k : ByteArray) (x : α) (ck : Nat) : (put l k x ck).map (·.2.2) = if has l k then l.map (·.2.2) else l.map (·.2.2) ++ [ck] := by
 induction l with
 | nil => simp [put, has, look]
 | cons p l ih =>
  by_cases hk : k = p.1
  ·
   simp [put, has, look, hk]
  ·
   simp only [put, if_neg hk, List.map_cons, ih, has, look]
   split <;> simp_all
theorem stamped_put {l : KL α} (h : Stamped (ents enc l) ck) (k : ByteArray) (x : α) : Stamped (ents enc (put l k x ck)) (tick l k ck) := by
 rw [stamped_ents] at h ⊢
 obtain ⟨h1, h2, h3⟩ := h
 have hck : ck ≤ tick l k ck := by unfold tick; split <;> omega
 refine ⟨fun q hq => ?_, ?_, ?_⟩
 ·
  rcases mem_put hq with hq | ⟨_, ⟨hn, hq⟩ | ⟨p, hp, _, hq⟩⟩
  ·
   exact Nat.lt_of_lt_of_le (h1 q hq) hck
  ·
   rw [hq]; simp [tick, hn]
  ·
   rw [hq]; exact Nat.lt_of_lt_of_le (h1 p hp) hck
 ·
  rw [put_stamps]
  split
  ·
   exact h2
  ·
   rw [List.nodup_append]
   refine ⟨h2, by simp, ?_⟩
   intro a ha b hb
   obtain ⟨q, hq, rfl⟩ := List.mem_map.1 ha
   have := h1 q hq
   have hb' : b = ck := by simpa using hb
   omega
 ·
  clear h1 h2 hck
  induction l with
  | nil => simp [put]
  | cons p l ih =>
   rw [List.pairwise_cons] at h3
   by_cases hk : k = p.1
   ·
    simp only [put, if_pos hk, List.pairwise_cons]
    exact ⟨fun q hq => by rw [hk]; exact h3.1 q hq, h3.2⟩
   ·
    simp only [put, if_neg hk, List.pairwise_cons]
    refine ⟨fun q hq => ?_, ih h3.2⟩
    rcases mem_put hq with hq | ⟨hq, _⟩
    ·
     exact h3.1 q hq
    ·
     rw [hq]; exact fun e => hk e.symm
theorem del_sub (l : KL α) (k : ByteArray) : (del l k).Sublist l := by
 induction l with
 | nil => simp [del]
 | cons p l ih =>
  by_cases hk : k = p.1
  ·
   simp only [del, if_pos hk]; exact List.sublist_cons_self _ _
  ·
   simp only [del, if_neg hk]; exact List.Sublist.cons_cons _ ih
theorem stamped_del {l : KL α} (h : Stamped (ents enc l) ck) (k : ByteArray) : Stamped (ents enc (del l k)) ck := by
 rw [stamped_ents] at h ⊢
 have hs := del_sub l k
 exact ⟨fun q hq => h.1 q (hs.subset hq), (hs.map _).nodup h.2.1, h.2.2.sublist hs⟩
theorem setB_at (w : World) (o : Obj) (h : mb < w.heap.size) : (setB w mb o).heap[mb]? = some o := by simp [setB, h]
theorem setB_past (w : World) (o : Obj) (k : Nat) (h : k ≠ mb) : (setB w mb o).heap[k]? = w.heap[k]? := by simp [setB, Ne.symm h]
theorem setB_size (w : World) (o : Obj) : (setB w mb o).heap.size = w.heap.size := by simp [setB]
theorem MapAt.update {m : Fm α} (h : MapAt w mb enc m) (ht : P.underlying t = some (.map K e)) (hK : P.underlying K = some .string) (k : ByteArray) (x : α) :
  ∃ o, (∀ v, v = enc x → (Instr.mapUpdate t (.map (some mb)) (.string k) v).run P w = .ok () (setB w mb o)) ∧ MapAt (setB w mb o) mb enc (mput m k x) := by
 have hlt := h.lt
 obtain ⟨l, ck, hb, rfl, hst⟩ := h
 exact ⟨_, fun v hv => run_mapUpdate_s ht hK hb k x v hv, _, _, setB_at w _ hlt, strip_put l k x ck, stamped_put hst k x⟩
theorem MapAt.delete {m : Fm α} (h : MapAt w mb enc m) (ht : P.underlying t = some (.map K e)) (hK : P.underlying K = some .string) (k : ByteArray) :
  ∃ o, (∀ t2 ty, (Builtin.delete_ #[t, t2] ty #[.map (some mb), .string k]).run P w = .ok (.tuple #[]) (setB w mb o)) ∧ MapAt (setB w mb o) mb enc (mdel m k) := by
 have hlt := h.lt
 obtain ⟨l, ck, hb, rfl, hst⟩ := h
 exact ⟨_, fun t2 ty => run_delete_s ht hK hb k t2 ty, _, _, setB_at w _ hlt, strip_del l k, stamped_del hst k⟩
theorem MapAt.made (w : World) (enc : α → Value) : MapAt (w.alloc (.map #[] 0)) w.heap.size enc [] :=
 ⟨[], 0, heap_alloc_new w _, rfl, by simp [stamped_ents]⟩
end
structure But (F : Nat → Prop) (w w' : World) : Prop where
 os : w'.os = w.os
 tape : w'.tape = w.tape
 output : w'.output = w.output
 size : w.heap.size ≤ w'.heap.size
 block : ∀ k, k < w.heap.size → ¬ F k → w'.heap[k]? = w.heap[k]?
theorem But.refl (F : Nat → Prop) (w : World) : But F w w := ⟨rfl, rfl, rfl, Nat.le_refl _, fun _ _ _ => rfl⟩
theorem But.of {F : Nat → Prop} {w w' : World} (h : Below w.heap.size w w') : But F w w' := ⟨h.os, h.tape, h.output, h.size, fun k hk _ => h.block k hk⟩
theorem But.trans {F : Nat → Prop} {a b c : World} (h : But F a b) (k : But F b c) : But F a c :=
 ⟨k.os.trans h.os, k.tape.trans h.tape, k.output.trans h.output, Nat.le_trans h.size k.size, fun i hi hn => (k.block i (Nat.lt_of_lt_of_le hi h.size) hn).trans (h.block i hi hn)⟩
theorem But.trans' {F G : Nat → Prop} {a b c : World} (h : But F a b) (k : But G b c) (hg : ∀ i, i < a.heap.size → G i → F i) : But F a c :=
 ⟨k.os.trans h.os, k.tape.trans h.tape, k.output.trans h.output, Nat.le_trans h.size k.size, fun i hi hn => (k.block i (Nat.lt_of_lt_of_le hi h.size) (fun hgi => hn (hg i hi hgi))).trans (h.block i hi hn)⟩
theorem But.mono {F G : Nat → Prop} {w w' : World} (h : But F w w') (hf : ∀ i, i < w.heap.size → F i → G i) : But G w w' :=
 ⟨h.os, h.tape, h.output, h.size, fun i hi hn => h.block i hi (fun hf' => hn (hf i hi hf'))⟩
theorem But.alloc {F : Nat → Prop} {a w : World} (h : But F a w) (o : Obj) : But F a (w.alloc o) :=
 h.trans (But.of ((Below.refl _ _).alloc (Nat.le_refl _) o))
theorem But.drew {F : Nat → Prop} {a w : World} (h : But F a w) : But F a w.drew := ⟨h.os, h.tape, h.output, h.size, h.block⟩
theorem But.setCell {F : Nat → Prop} {a w : World} (h : But F a w) {p : Addr} (hp : p.block < a.heap.size → F p.block) (u : Value) : But F a (w.setCell p u) :=
 h.trans' (G := fun k => k = p.block) ⟨rfl, rfl, rfl, by simp [World.setCell], fun k _ hk => Below.heap_setCell w p u k hk⟩ (fun i hi e => by subst e; exact hp hi)
theorem But.setB {F : Nat → Prop} {a w : World} (h : But F a w) {mb : Nat} (hp : mb < a.heap.size → F mb) (o : Obj) : But F a (setB w mb o) :=
 h.trans' (G := fun k => k = mb) ⟨rfl, rfl, rfl, by simp [setB_size], fun k _ hk => setB_past w o k hk⟩ (fun i hi e => by subst e; exact hp hi)
theorem But.below {F : Nat → Prop} {B : Nat} {w w' : World} (h : But F w w') (hB : B ≤ w.heap.size) (hF : ∀ k, F k → B ≤ k) : Below B w w' :=
 ⟨h.os, h.tape, h.output, h.size, fun k hk => h.block k (Nat.lt_of_lt_of_le hk hB) (fun hf => by have := hF k hf; omega)⟩
theorem But.cell {F : Nat → Prop} {w w' : World} (h : But F w w') {a : Addr} {v : Value} (hc : w.cell? a = some v) (hn : ¬ F a.block) : w'.cell? a = some v := by
 rw [World.cell?_of_block (w := w) (h.block a.block (World.block_lt_of_cell? w a hc) hn)]
 exact hc
theorem cell_of {w : World} {b : Nat} {cs : Array Value} {t : TypeId} {fr : Nat × Nat} (h : w.heap[b]? = some (.cells cs t fr)) (i : Nat) : w.cell? ⟨b, i, none⟩ = cs[i]? := by simp [World.cell?, h]
theorem free_of {w : World} {b : Nat} {cs : Array Value} {t : TypeId} (h : w.heap[b]? = some (.cells cs t (0, 0))) (i : Nat) : w.frozen? ⟨b, i, none⟩ = false := by simp [World.frozen?, h]
theorem setCell_at {w : World} {b : Nat} {cs : Array Value} {t : TypeId} {fr : Nat × Nat} (h : w.heap[b]? = some (.cells cs t fr)) (i : Nat) (v : Value) :
  (w.setCell ⟨b, i, none⟩ v).heap[b]? = some (.cells (cs.setIfInBounds i v) t fr) := by
 simp [World.setCell, Array.getElem?_modify, h]
theorem alloc_old {w : World} (o : Obj) {k : Nat} (h : k < w.heap.size) : (w.alloc o).heap[k]? = w.heap[k]? := Below.heap_alloc w o k h
theorem alloc_new (w : World) (o : Obj) : (w.alloc o).heap[w.heap.size]? = some o := heap_alloc_new w o
theorem alloc_new2 (w : World) (a b : Obj) : ((w.alloc a).alloc b).heap[w.heap.size + 1]? = some b := by
 have h := alloc_new (w.alloc a) b
 simpa using h
def SlR (w : World) (v : Value) (vs : List Value) : Prop :=
 ∃ a cap, v = .slice a vs.length cap ∧ vs.length ≤ maxLen ∧ vs.length ≤ cap ∧ ∀ i u, vs[i]? = some u → ∃ b off, a = some ⟨b, off, none⟩ ∧ w.cell? ⟨b, off + i, none⟩ = some u
theorem SlR.nil (w : World) : SlR w (.slice none 0 0) [] := ⟨none, 0, rfl, by simp [maxLen], Nat.le_refl _, by simp⟩
theorem SlR.of_own {w : World} {base e n : Nat} {v : Value} {vs : List Value} (h : w.ownsRow base e 1 v n vs) : SlR w v vs := by
 have hl : vs.length = n := by have := h.1; omega
 rcases h.2 with ⟨rfl, rfl⟩ | ⟨g, cap, cur, rfl, _, _, hnc, hcm, _, _⟩
 ·
  have : vs = [] := List.eq_nil_of_length_eq_zero hl
  subst this
  exact SlR.nil w
 ·
  refine ⟨some ⟨g, 0, none⟩, cap, by rw [hl], by omega, by omega, fun i u hu => ⟨g, 0, rfl, ?_⟩⟩
  have := h.cells (g := g) rfl i u hu
  have ha : (⟨g, 0, none⟩ : Addr).add i = ⟨g, 0 + i, none⟩ := by unfold Addr.add; split <;> simp_all
  rwa [ha] at this
theorem own_but {F : Nat → Prop} {w w' : World} {base e size n : Nat} {v : Value} {vs : List Value} (h : w.ownsRow base e size v n vs) (hb : But F w w') (hF : ∀ k, base ≤ k → ¬ F k) : w'.ownsRow base e size v n vs := by
 refine ⟨h.1, ?_⟩
 rcases h.2 with hn | ⟨g, cap, cur, hv, hg, hh, r⟩
 ·
  exact .inl hn
 ·
  exact .inr ⟨g, cap, cur, hv, hg, (hb.block g (heap_lt hh) (hF g hg)).trans hh, r⟩
theorem SlR.but {F : Nat → Prop} {w w' : World} {v : Value} {vs : List Value} (h : SlR w v vs) (hb : But F w w') (hF : ∀ a n cap, v = .slice (some a) n cap → ¬ F a.block) : SlR w' v vs := by
 obtain ⟨a, cap, rfl, h1, h2, h3⟩ := h
 refine ⟨a, cap, rfl, h1, h2, fun i u hu => ?_⟩
 obtain ⟨b, off, rfl, hc⟩ := h3 i u hu
 refine ⟨b, off, rfl, ?_⟩
 rw [World.cell?_of_block (w := w) (hb.block b (World.block_lt_of_cell? w _ hc) (hF _ _ _ rfl))]
 exact hc
theorem SlR.box {F : Nat → Prop} {w W : World} (v : Value) (T : TypeId) (h : But F (w.alloc (.cells #[v] T)) W) (hF : ¬ F w.heap.size) : SlR W (.slice (some ⟨w.heap.size, 0, none⟩) 1 1) [v] := by
 refine ⟨some ⟨w.heap.size, 0, none⟩, 1, rfl, by simp [maxLen], by simp, fun i u hu => ⟨w.heap.size, 0, rfl, ?_⟩⟩
 have hi : i = 0 := by have := (List.getElem?_eq_some_iff.1 hu).1; simp at this; omega
 subst hi
 obtain rfl : v = u := by simpa using hu
 have hb := h.block w.heap.size (by simp) hF
 rw [alloc_new] at hb
 exact cell_of hb 0
theorem SlR.boxes {F : Nat → Prop} {w W : World} (cs : Array Value) (T : TypeId) (h : But F (w.alloc (.cells cs T)) W) (hF : ¬ F w.heap.size) (hm : cs.toList.length ≤ maxLen) : SlR W (.slice (some ⟨w.heap.size, 0, none⟩) cs.toList.length cs.toList.length) cs.toList := by
 refine ⟨some ⟨w.heap.size, 0, none⟩, cs.toList.length, rfl, hm, Nat.le_refl _, fun i u hu => ⟨w.heap.size, 0, rfl, ?_⟩⟩
 have hb := h.block w.heap.size (by simp) hF
 rw [alloc_new] at hb
 rw [cell_of hb]
 simpa using hu
theorem nrm : (∀ n : Int, -9223372036854775808 ≤ n ∧ n ≤ 9223372036854775807 → IntKind.i64.wrap n = n) ∧ (∀ n : Int, -2147483648 ≤ n ∧ n ≤ 2147483647 → IntKind.i32.wrap n = n) ∧ (∀ n : Int, 0 ≤ n ∧ n ≤ 18446744073709551615 → IntKind.u64.wrap n = n) ∧ (∀ n : Int, 0 ≤ n ∧ n ≤ 255 → IntKind.u8.wrap n = n) ∧ (∀ n : Int, 0 ≤ n ∧ n ≤ 4294967295 → IntKind.u32.wrap n = n) := ⟨IntWalk.i64_in, IntWalk.i32_in, IntWalk.u64_in, IntWalk.u8_in, IntWalk.u32_in⟩
theorem lays : (∀ (t : Array Value) (d : List Deferred) (i : Nat) (v : Value), Act.put ⟨t, d⟩ (some i) v = ⟨t.setIfInBounds i v, d⟩) ∧ (∀ (a : Act) (v : Value), Act.put a none v = a) ∧ (∀ (l : List Value) (i : Nat) (a : Value), l.toArray.setIfInBounds i a = (l.set i a).toArray) ∧ (∀ (x : Value) (l : List Value) (a : Value), (x :: l).set 0 a = a :: l) ∧ (∀ (x : Value) (l : List Value) (i : Nat) (a : Value), (x :: l).set (i + 1) a = x :: l.set i a) := ⟨fun _ _ _ _ => rfl, fun _ _ => rfl, fun _ _ _ => List.setIfInBounds_toArray .., fun _ _ _ => List.set_cons_zero .., fun _ _ _ _ => List.set_cons_succ ..⟩
theorem kc {w w' : World} {p : Addr} {v : Value} (hb : Below w.heap.size w w') (h : w.cell? p = some v) : w'.cell? p = some v := (hb.cell (p := p) (World.block_lt_of_cell? w _ h)).trans h
theorem cells12 {w : World} {b : Nat} {v0 v1 v2 v3 v4 v5 v6 v7 v8 v9 v10 v11 : Value} {L : List Value} {T : TypeId} {fr : Nat × Nat} (h : w.heap[b]? = some (.cells (v0 :: v1 :: v2 :: v3 :: v4 :: v5 :: v6 :: v7 :: v8 :: v9 :: v10 :: v11 :: L).toArray T fr)) :
  w.cell? ⟨b, 0, none⟩ = some v0 ∧ w.cell? ⟨b, 1, none⟩ = some v1 ∧ w.cell? ⟨b, 2, none⟩ = some v2 ∧ w.cell? ⟨b, 3, none⟩ = some v3 ∧ w.cell? ⟨b, 4, none⟩ = some v4 ∧ w.cell? ⟨b, 5, none⟩ = some v5 ∧ w.cell? ⟨b, 6, none⟩ = some v6 ∧ w.cell? ⟨b, 7, none⟩ = some v7 ∧ w.cell? ⟨b, 8, none⟩ = some v8 ∧ w.cell? ⟨b, 9, none⟩ = some v9 ∧ w.cell? ⟨b, 10, none⟩ = some v10 ∧ w.cell? ⟨b, 11, none⟩ = some v11 :=
 ⟨cell_of h 0, cell_of h 1, cell_of h 2, cell_of h 3, cell_of h 4, cell_of h 5, cell_of h 6, cell_of h 7, cell_of h 8, cell_of h 9, cell_of h 10, cell_of h 11⟩
end Go.Proofs.YthikijlbclckdaaGreat
