/- The disk and its reference, side by side: the plain laws. -/
import Derived.Test.YtcbjokofjmefnaaV
import Derived.Test.YtcbjokofjmefnaaC
import Derived.Sort.Walk0
namespace Go.Proofs.Ytcbjokofjmefnaa
open Go.RowKit

section Plain
variable {α : Type} {l l' : Fm α} {k : ByteArray} {x : α}
def KN (l : Fm α) : Prop := (l.map (·.1)).Nodup
def mrest (l : Fm α) (k : ByteArray) : Fm α := l.filter fun p => !decide (p.1 = k)
theorem mrest_none (h : k ∉ l.map (·.1)) : mrest l k = l := by
  refine List.filter_eq_self.2 fun p hp => ?_
  have : p.1 ≠ k := fun e => h (List.mem_map.2 ⟨p, hp, e⟩)
  simp [this]
theorem mlook_none : mlook l k = none ↔ k ∉ l.map (·.1) := by
  induction l with
  | nil => simp [mlook]
  | cons p l ih =>
    by_cases hk : k = p.1
    · simp [mlook, hk]
    · simp only [mlook, hk, if_false, ih, List.map_cons, List.mem_cons, not_or, not_false_eq_true, true_and]
theorem mlook_iff (hn : KN l) : mlook l k = some x ↔ (k, x) ∈ l := by
  induction l with
  | nil => simp [mlook]
  | cons p l ih =>
    have hn' := List.nodup_cons.1 hn
    by_cases hk : k = p.1
    · subst hk
      simp only [mlook, if_true, List.mem_cons, Option.some.injEq]
      constructor
      · rintro rfl; exact .inl rfl
      · rintro (h | h)
        · rw [← h]
        · exact absurd (List.mem_map.2 ⟨_, h, rfl⟩) hn'.1
    · simp only [mlook, if_neg hk, ih hn'.2, List.mem_cons]
      constructor
      · exact .inr
      · rintro (h | h)
        · exact absurd (by rw [← h]) hk
        · exact h
theorem KN.perm (hn : KN l) (hp : l.Perm l') : KN l' := (hp.map _).nodup_iff.1 hn
theorem mlook_perm (hn : KN l) (hp : l.Perm l') (k : ByteArray) : mlook l k = mlook l' k :=
  Option.ext fun _ => (mlook_iff hn).trans (hp.mem_iff.trans (mlook_iff (hn.perm hp)).symm)
theorem mdel_rest (hn : KN l) (k : ByteArray) : mdel l k = mrest l k := by
  induction l with
  | nil => rfl
  | cons p l ih =>
    have hn' := List.nodup_cons.1 hn
    by_cases hk : k = p.1
    · subst hk
      simp only [mdel, if_true]
      rw [show mrest (p :: l) p.1 = mrest l p.1 by simp [mrest], mrest_none hn'.1]
    · simp only [mdel, if_neg hk, ih hn'.2]
      rw [show mrest (p :: l) k = p :: mrest l k by simp [mrest, Ne.symm hk]]
theorem mput_rest (hn : KN l) (k : ByteArray) (x : α) : (mput l k x).Perm ((k, x) :: mrest l k) := by
  induction l with
  | nil => exact List.Perm.refl _
  | cons p l ih =>
    have hn' := List.nodup_cons.1 hn
    by_cases hk : k = p.1
    · subst hk
      simp only [mput, if_true]
      rw [show mrest (p :: l) p.1 = mrest l p.1 by simp [mrest], mrest_none hn'.1]
    · simp only [mput, if_neg hk]
      rw [show mrest (p :: l) k = p :: mrest l k by simp [mrest, Ne.symm hk]]
      exact ((ih hn'.2).cons p).trans (List.Perm.swap _ _ _)
theorem mrest_perm (hp : l.Perm l') (k : ByteArray) : (mrest l k).Perm (mrest l' k) := hp.filter _
end Plain

def toV (f : FileR) : FileV := ⟨f.s ++ f.t, f.s.size⟩
def encR (F : List FileR) : Fm FileV := F.map fun f => (f.n, toV f)
theorem encR_keys (F : List FileR) : (encR F).map (·.1) = namesR F := by simp [encR, namesR, Function.comp_def]
theorem rfind_none {F : List FileR} {k : ByteArray} (h : rfind F k < 0) : k ∉ namesR F := by
  induction F with
  | nil => simp [namesR]
  | cons f F ih =>
    have hg := rfind_ge F k
    simp only [rfind] at h
    by_cases hk : f.n = k
    · rw [if_pos hk] at h; omega
    · rw [if_neg hk] at h
      have : rfind F k < 0 := by
        by_cases h1 : rfind F k = -1
        · omega
        · rw [if_neg h1] at h; omega
      simp only [namesR, List.map_cons, List.mem_cons, not_or]
      exact ⟨fun e => hk e.symm, ih this⟩
theorem set_rest {F : List FileR} {i : Nat} {f g : FileR} (hn : (namesR F).Nodup) (hf : F[i]? = some f) (hg : g.n = f.n) : (encR (F.set i g)).Perm ((f.n, toV g) :: mrest (encR F) f.n) := by
  induction F generalizing i with
  | nil => simp at hf
  | cons h F ih =>
    have hn' := List.nodup_cons.1 hn
    cases i with
    | zero =>
      simp only [List.getElem?_cons_zero, Option.some.injEq] at hf
      subst hf
      have e1 : encR ((h :: F).set 0 g) = (g.n, toV g) :: encR F := rfl
      rw [e1, hg, show mrest (encR (h :: F)) h.n = mrest (encR F) h.n by simp [mrest, encR], mrest_none (by rw [encR_keys]; exact hn'.1)]
    | succ i =>
      simp only [List.getElem?_cons_succ] at hf
      have hne : h.n ≠ f.n := fun e => hn'.1 (List.mem_map.2 ⟨f, List.mem_of_getElem? hf, e.symm⟩)
      have e1 : encR ((h :: F).set (i + 1) g) = (h.n, toV h) :: encR (F.set i g) := rfl
      have e2 : mrest (encR (h :: F)) f.n = (h.n, toV h) :: mrest (encR F) f.n := by
        show List.filter _ ((h.n, toV h) :: encR F) = _
        rw [List.filter_cons_of_pos (by simp [hne])]; rfl
      rw [e1, e2]
      exact ((ih hn'.2 hf).cons _).trans (List.Perm.swap _ _ _)
theorem erase_rest {F : List FileR} {i : Nat} {f : FileR} (hn : (namesR F).Nodup) (hf : F[i]? = some f) : encR (F.eraseIdx i) = mrest (encR F) f.n := by
  induction F generalizing i with
  | nil => simp at hf
  | cons h F ih =>
    have hn' := List.nodup_cons.1 hn
    cases i with
    | zero =>
      simp only [List.getElem?_cons_zero, Option.some.injEq] at hf
      subst hf
      rw [show (h :: F).eraseIdx 0 = F from rfl, show mrest (encR (h :: F)) h.n = mrest (encR F) h.n by simp [mrest, encR], mrest_none (by rw [encR_keys]; exact hn'.1)]
    | succ i =>
      simp only [List.getElem?_cons_succ] at hf
      have hne : h.n ≠ f.n := fun e => hn'.1 (List.mem_map.2 ⟨f, List.mem_of_getElem? hf, e.symm⟩)
      have e2 : mrest (encR (h :: F)) f.n = (h.n, toV h) :: mrest (encR F) f.n := by
        show List.filter _ ((h.n, toV h) :: encR F) = _
        rw [List.filter_cons_of_pos (by simp [hne])]; rfl
      rw [e2, ← ih hn'.2 hf]
      rfl
theorem ins_perm (F : List FileR) (f : FileR) : (ins F f).Perm (f :: F) := by
  induction F with
  | nil => exact List.Perm.refl _
  | cons g F ih =>
    simp only [ins]
    split
    · exact List.Perm.refl _
    · exact (ih.cons g).trans (List.Perm.swap _ _ _)

/-! Names rise. -/
theorem ltS_eq (a b : ByteArray) : ltS a b = decide (a.data.toList < b.data.toList) := bytesLess_eq _ _
theorem ltS_irr (a : ByteArray) : ltS a a = false := by rw [ltS_eq]; exact decide_eq_false (List.lt_irrefl _)
theorem ltS_trans {a b c : ByteArray} (h1 : ltS a b = true) (h2 : ltS b c = true) : ltS a c = true := by
  rw [ltS_eq, decide_eq_true_eq] at *
  exact List.lt_trans h1 h2
theorem ltS_tri {a b : ByteArray} (h : ltS a b = false) (hne : a ≠ b) : ltS b a = true := by
  rw [ltS_eq] at *
  rw [decide_eq_false_iff_not, List.not_lt] at h
  rw [decide_eq_true_eq]
  rcases Classical.em (b.data.toList < a.data.toList) with h1 | h1
  · exact h1
  · exact absurd (ByteArray.ext (Array.toList_inj.1 (List.le_antisymm (List.not_lt.1 h1) h))) hne
def Rises (ns : List ByteArray) : Prop := ns.Pairwise fun a b => ltS a b = true
theorem Rises.nodup {ns : List ByteArray} (h : Rises ns) : ns.Nodup := h.imp fun {a b} hab e => by subst e; rw [ltS_irr] at hab; cases hab
theorem ins_rises {F : List FileR} {f : FileR} (h : Rises (namesR F)) (hn : f.n ∉ namesR F) : Rises (namesR (ins F f)) := by
  induction F with
  | nil => exact List.pairwise_singleton _ _
  | cons g F ih =>
    have h' := List.pairwise_cons.1 h
    have hn' : f.n ≠ g.n ∧ f.n ∉ namesR F := by simpa [namesR] using hn
    simp only [ins]
    split
    · rename_i hlt
      refine List.pairwise_cons.2 ⟨fun b hb => ?_, h⟩
      rcases List.mem_cons.1 hb with rfl | hb
      · exact hlt
      · exact ltS_trans hlt (h'.1 b hb)
    · rename_i hlt
      have hgf : ltS g.n f.n = true := ltS_tri (by simpa using hlt) hn'.1
      refine List.pairwise_cons.2 ⟨fun b hb => ?_, ih h'.2 hn'.2⟩
      have : b ∈ namesR (f :: F) := ((ins_perm F f).map _).mem_iff.1 hb
      rcases List.mem_cons.1 this with rfl | hb
      · exact hgf
      · exact h'.1 b hb
theorem namesR_set {F : List FileR} {i : Nat} {f g : FileR} (hf : F[i]? = some f) (hg : g.n = f.n) : namesR (F.set i g) = namesR F := by
  have hl := (List.getElem?_eq_some_iff.1 hf).1
  refine List.ext_getElem? fun j => ?_
  simp only [namesR, List.getElem?_map]
  by_cases hij : i = j
  · subst hij
    rw [List.getElem?_set_self hl, hf]
    simp [hg]
  · rw [List.getElem?_set_ne hij]
theorem sorted_names {F : List FileR} (h : Rises (namesR F)) : skeys (encR F) = namesR F := by
  have h1 : (encR F).map (fun p => p.1.data.toList) = (namesR F).map fun b => b.data.toList := by rw [← encR_keys, List.map_map]; rfl
  have h2 : ((namesR F).map fun b => b.data.toList).mergeSort leB = (namesR F).map fun b => b.data.toList := by
    refine List.mergeSort_of_pairwise (List.pairwise_map.2 (h.imp fun {a b} hab => ?_))
    rw [ltS_eq, decide_eq_true_eq] at hab
    simp only [leB, decide_eq_true_eq]
    exact List.not_lt.1 (List.lt_asymm hab)
  rw [skeys, h1, h2, List.map_map]
  exact (List.map_congr_left (fun b _ => rfl)).trans (List.map_id _)
theorem skeys_perm {α : Type} {l l' : Fm α} (h : l.Perm l') : skeys l = skeys l' := by
  rw [skeys, skeys, mergeSort_of_perm (h.map _)]
end Go.Proofs.Ytcbjokofjmefnaa
