/- Keep: contracts (Va Ga Gb). -/
import Derived.Test.YtjkbfoeakeoeiaaGreatV6
import Derived.WalkSpells
namespace Go.Proofs.YtjkbfoeakeoeiaaGreat
set_option maxRecDepth 100000
set_option maxHeartbeats 40000000
set_option linter.unusedSimpArgs false
set_option linter.unusedVariables false
open Go.RowKit
open Classical in
noncomputable def sans (S : Nat → Prop) (w : World) : World := { w with heap := w.heap.mapIdx fun i o => if S i then .deferred none else o }
theorem sans_size (S : Nat → Prop) (w : World) : (sans S w).heap.size = w.heap.size := by simp [sans]
theorem sans_block {S : Nat → Prop} {w : World} {b : Nat} (h : ¬ S b) : (sans S w).heap[b]? = w.heap[b]? := by
  simp only [sans, Array.getElem?_mapIdx, if_neg h]
  cases w.heap[b]? <;> rfl
theorem sans_hid {S : Nat → Prop} {w : World} {b : Nat} (h : S b) {o : Obj} (hb : (sans S w).heap[b]? = some o) : o = .deferred none := by
  simp only [sans, Array.getElem?_mapIdx, if_pos h] at hb
  cases hw : w.heap[b]? with
  | none => rw [hw] at hb; cases hb
  | some x => rw [hw] at hb; cases hb; rfl
theorem sans_cell {S : Nat → Prop} {w : World} {p : Addr} {v : Value} (h : (sans S w).cell? p = some v) : w.cell? p = some v ∧ ¬ S p.block := by
  by_cases hs : S p.block
  · exfalso
    unfold World.cell? at h
    cases hb : (sans S w).heap[p.block]? with
    | none => rw [hb] at h; cases h
    | some o => rw [hb, sans_hid hs hb] at h; cases h
  · refine ⟨?_, hs⟩
    unfold World.cell? at h ⊢
    rwa [sans_block hs] at h
theorem sans_cell' {S : Nat → Prop} {w : World} {p : Addr} (h : ¬ S p.block) : (sans S w).cell? p = w.cell? p := by
  unfold World.cell?
  rw [sans_block h]
theorem sans_below {S : Nat → Prop} {w w' : World} {B : Nat} (h : Below B w w') : Below B (sans S w) (sans S w') :=
  ⟨h.os, h.tape, h.output, by rw [sans_size, sans_size]; exact h.size, fun k hk => by
    by_cases hs : S k
    · simp only [sans, Array.getElem?_mapIdx, if_pos hs, h.block k hk]
    · rw [sans_block hs, sans_block hs, h.block k hk]⟩
theorem sans_grow {S : Nat → Prop} {w w' : World} (h : Below w.heap.size w w') : Below (sans S w).heap.size (sans S w) (sans S w') := by
  rw [sans_size]; exact sans_below h
structure Goes (S : Nat → Prop) (w : World) (S' : Nat → Prop) (w' : World) : Prop where
  but : But S w w'
  same : ∀ b, b < w.heap.size → (S' b ↔ S b)
theorem Goes.refl (S : Nat → Prop) (w : World) : Goes S w S w := ⟨But.refl _ _, fun _ _ => Iff.rfl⟩
theorem Goes.trans {S T U : Nat → Prop} {a b c : World} (h : Goes S a T b) (k : Goes T b U c) : Goes S a U c :=
  ⟨h.but.trans' k.but (fun i hi ht => (h.same i hi).1 ht), fun i hi => (k.same i (Nat.lt_of_lt_of_le hi h.but.size)).trans (h.same i hi)⟩
theorem Goes.of {S : Nat → Prop} {w w' : World} (h : Below w.heap.size w w') : Goes S w S w' := ⟨But.of h, fun _ _ => Iff.rfl⟩
theorem Goes.sans {S T : Nat → Prop} {w w' : World} (h : Goes S w T w') : Below (sans S w).heap.size (sans S w) (sans T w') :=
  ⟨h.but.os, h.but.tape, h.but.output, by rw [sans_size, sans_size]; exact h.but.size, fun k hk => by
    rw [sans_size] at hk
    by_cases hs : S k
    · have ht := (h.same k hk).2 hs
      have hk' : k < w'.heap.size := Nat.lt_of_lt_of_le hk h.but.size
      simp only [Proofs.YtjkbfoeakeoeiaaGreat.sans, Array.getElem?_mapIdx, if_pos hs, if_pos ht, Array.getElem?_eq_getElem hk, Array.getElem?_eq_getElem hk']
      rfl
    · have ht := fun x => hs ((h.same k hk).1 x)
      rw [sans_block hs, sans_block ht, h.but.block k hk hs]⟩
theorem Goes.below {S T : Nat → Prop} {w w' : World} {B : Nat} (h : Goes S w T w') (hB : B ≤ w.heap.size) (hS : ∀ b, S b → B ≤ b) : Below B w w' := h.but.below hB hS
theorem FlatAt.seen {S : Nat → Prop} {w : World} {size n : Nat} {v : Value} {cs : List Value} (h : FlatAt size (sans S w) v n cs) : FlatAt size w v n cs := by
  obtain ⟨a, cap, hv, h1, h2, h3, h4⟩ := h
  refine ⟨a, cap, hv, h1, h2, h3, fun j u hu => ?_⟩
  obtain ⟨b, off, ha, hc⟩ := h4 j u hu
  exact ⟨b, off, ha, (sans_cell hc).1⟩
theorem own_sans {S : Nat → Prop} {w : World} {base e size n : Nat} {v : Value} {xs : List Value} (h : w.ownsRow base e size v n xs) (hS : ∀ b, base ≤ b → ¬ S b) : (sans S w).ownsRow base e size v n xs := by
  refine ⟨h.1, ?_⟩
  rcases h.2 with hn | ⟨g, cap, cur, hv, hg, hh, r⟩
  · exact .inl hn
  · exact .inr ⟨g, cap, cur, hv, hg, (sans_block (hS g hg)).trans hh, r⟩
theorem VarsAt.seen {S : Nat → Prop} {w : World} {v : Value} {l : List VarV} (h : VarsAt (sans S w) v l) : VarsAt w v l := by
  obtain ⟨a, cap, hv, h1, h2, h3⟩ := h
  refine ⟨a, cap, hv, h1, h2, fun i x hx => ?_⟩
  obtain ⟨b, off, ha, c0, c1, c2, c3⟩ := h3 i x hx
  exact ⟨b, off, ha, (sans_cell c0).1, (sans_cell c1).1, (sans_cell c2).1, (sans_cell c3).1⟩
def varC (x : VarV) : List Value := [.string x.name, .int .i64 x.v.k, .int .i64 x.v.n, .string x.v.s]
def varsC (l : List VarV) : List Value := l.flatMap varC
theorem varsC_len (l : List VarV) : (varsC l).length = l.length * 4 := by
  induction l with
  | nil => rfl
  | cons x l ih => simp only [varsC, List.flatMap_cons, List.length_append, List.length_cons] at ih ⊢; rw [ih]; simp [varC]; omega
theorem varsC_at {l : List VarV} {i : Nat} {x : VarV} (h : l[i]? = some x) : (varsC l)[i * 4]? = some (.string x.name) ∧ (varsC l)[i * 4 + 1]? = some (.int .i64 x.v.k) ∧ (varsC l)[i * 4 + 2]? = some (.int .i64 x.v.n) ∧ (varsC l)[i * 4 + 3]? = some (.string x.v.s) := by
  induction l generalizing i with
  | nil => cases h
  | cons y l ih =>
    cases i with
    | zero => cases h; exact ⟨rfl, rfl, rfl, rfl⟩
    | succ i =>
      have := ih (i := i) h
      rw [show (i + 1) * 4 = i * 4 + 4 by omega]
      exact this
theorem varsC_split : ∀ (l : List VarV) (k : Nat) (u : Value), (varsC l)[k]? = some u → ∃ i x, l[i]? = some x ∧ k / 4 = i ∧ (varC x)[k % 4]? = some u := by
  intro l
  induction l with
  | nil => intro k u h; cases h
  | cons y l ih =>
    intro k u h
    by_cases hk : k < 4
    · refine ⟨0, y, rfl, by omega, ?_⟩
      rw [Nat.mod_eq_of_lt hk]
      simp only [varsC, List.flatMap_cons] at h
      rwa [List.getElem?_append_left (by simp [varC]; omega)] at h
    · simp only [varsC, List.flatMap_cons] at h
      rw [List.getElem?_append_right (by simp [varC]; omega)] at h
      obtain ⟨i, x, h1, h2, h3⟩ := ih _ _ h
      simp only [varC, List.length_cons, List.length_nil] at h2 h3
      exact ⟨i + 1, x, by simpa using h1, by omega, by rw [show k % 4 = (k - 4) % 4 by omega]; exact h3⟩
theorem VarsAt.flat {w : World} {v : Value} {l : List VarV} (h : VarsAt w v l) : FlatAt 4 w v l.length (varsC l) := by
  obtain ⟨a, cap, rfl, h1, h2, h3⟩ := h
  refine ⟨a, cap, rfl, h1, by unfold maxLen; omega, varsC_len l, fun j u hu => ?_⟩
  obtain ⟨i, x, hx, hj, hu⟩ := varsC_split l j u hu
  obtain ⟨b, off, ha, c0, c1, c2, c3⟩ := h3 i x hx
  refine ⟨b, off, ha, ?_⟩
  have e : off + j = off + i * 4 + j % 4 := by omega
  rw [e]
  have hm : j % 4 < 4 := Nat.mod_lt _ (by omega)
  generalize j % 4 = r at hu hm
  match r, hm with
  | 0, _ => simp [varC] at hu; subst hu; exact c0
  | 1, _ => simp [varC] at hu; subst hu; exact c1
  | 2, _ => simp [varC] at hu; subst hu; exact c2
  | 3, _ => simp [varC] at hu; subst hu; exact c3
theorem FlatAt.vars {w : World} {v : Value} {l : List VarV} (h : FlatAt 4 w v l.length (varsC l)) (hm : l.length ≤ 140737488355328) : VarsAt w v l := by
  obtain ⟨a, cap, rfl, h1, h2, h3, h4⟩ := h
  refine ⟨a, cap, rfl, h1, hm, fun i x hx => ?_⟩
  obtain ⟨e0, e1, e2, e3⟩ := varsC_at hx
  obtain ⟨b, off, rfl, c0⟩ := h4 _ _ e0
  obtain ⟨b1, o1, q1, c1⟩ := h4 _ _ e1
  obtain ⟨b2, o2, q2, c2⟩ := h4 _ _ e2
  obtain ⟨b3, o3, q3, c3⟩ := h4 _ _ e3
  cases q1; cases q2; cases q3
  exact ⟨b, off, rfl, c0, by rw [Nat.add_assoc]; exact c1, by rw [Nat.add_assoc]; exact c2, by rw [Nat.add_assoc]; exact c3⟩
end Go.Proofs.YtjkbfoeakeoeiaaGreat
namespace Go.Proofs.YtjkbfoeakeoeiaaGreat
set_option maxRecDepth 100000
set_option maxHeartbeats 40000000
set_option linter.unusedSimpArgs false
set_option linter.unusedVariables false
open Go.RowKit
theorem infoDep : (Tryz.prog.info? 109).map (fun i => (i.zero, i.size, i.bytes)) = some (some (.agg #[.string ⟨#[]⟩, .string ⟨#[]⟩]), 2, 32) := by kernel_rfl
theorem cloneDep_any {n : Nat} {v : Value} {cs : List Value} (w : World) (hF : FlatAt 2 w v n cs) (h1 : ∀ u ∈ cs, u.oneCell' = true) (hn : n * 32 ≤ 140737488355328) :
    Calls Tryz.prog 48 #[v] w fun e w' => ∃ v', e = .returned v' ∧ w'.ownsRow w.heap.size 109 2 v' n cs ∧ Below w.heap.size w w' := by
  have HF := hid hF
  obtain ⟨a, cap, rfl, -, hm, hl, hc⟩ := hF
  have q := fun (w : World) (a : Option Addr) (n c n' c' : Nat) => Lib.run_eql_slice_nil (P := Tryz.prog) w _ _ a n c n' c' Tryz.underlying23
  cases a with
  | none =>
    have hz : Hid (cs = [] ∧ n = 0) := by
      have : cs = [] := List.eq_nil_iff_forall_not_mem.2 fun u hu => by
        obtain ⟨j, hj⟩ := List.mem_iff_getElem?.1 hu
        obtain ⟨b, off, h, -⟩ := hc j u hj
        cases h
      subst this
      exact ⟨rfl, by simp at hl; omega⟩
    clear hc hl
    go_enter Tryz.func48, Tryz.ntmps48
    go_wp2
    go_ret
    obtain ⟨rfl, rfl⟩ := hz.out
    exact ⟨_, rfl, World.ownsRow_nil _ _ _ _, Below.refl _ _⟩
  | some ad =>
    have Hl := hid hl
    clear hc hl
    unfold maxLen at hm
    go_enter Tryz.func48, Tryz.ntmps48
    go_wp2_with (at_builtin; refine app_flat 23 109 Tryz.underlying23 infoDep rfl (by decide) (World.ownsRow_made w #[] 0 (Nat.le_refl _) (Nat.zero_le _) (by simp)) (by simp) (HF.out.grow ((Below.refl _ w).alloc (Nat.le_refl _) _)) (by unfold maxLen; omega) (by omega) h1 rfl rfl rfl rfl ?_; intro v' w1 hown hb)
    go_ret
    simp only [Nat.zero_add, List.nil_append] at hown
    exact ⟨_, rfl, hown, ((Below.refl _ w).alloc (Nat.le_refl _) _).trans hb⟩
theorem infoIns : (Tryz.prog.info? 125).map (fun i => (i.zero, i.size, i.bytes)) = some (some (.agg #[.int .u64 0, .string ⟨#[]⟩, .slice none 0 0]), 3, 48) := by kernel_rfl
theorem cloneIns_any {n : Nat} {v : Value} {cs : List Value} (w : World) (hF : FlatAt 3 w v n cs) (h1 : ∀ u ∈ cs, u.oneCell' = true) (hn : n * 48 ≤ 140737488355328) :
    Calls Tryz.prog 54 #[v] w fun e w' => ∃ v', e = .returned v' ∧ w'.ownsRow w.heap.size 125 3 v' n cs ∧ Below w.heap.size w w' := by
  have HF := hid hF
  obtain ⟨a, cap, rfl, -, hm, hl, hc⟩ := hF
  have q := fun (w : World) (a : Option Addr) (n c n' c' : Nat) => Lib.run_eql_slice_nil (P := Tryz.prog) w _ _ a n c n' c' Tryz.underlying24
  cases a with
  | none =>
    have hz : Hid (cs = [] ∧ n = 0) := by
      have : cs = [] := List.eq_nil_iff_forall_not_mem.2 fun u hu => by
        obtain ⟨j, hj⟩ := List.mem_iff_getElem?.1 hu
        obtain ⟨b, off, h, -⟩ := hc j u hj
        cases h
      subst this
      exact ⟨rfl, by simp at hl; omega⟩
    clear hc hl
    go_enter Tryz.func54, Tryz.ntmps54
    go_wp2
    go_ret
    obtain ⟨rfl, rfl⟩ := hz.out
    exact ⟨_, rfl, World.ownsRow_nil _ _ _ _, Below.refl _ _⟩
  | some ad =>
    have Hl := hid hl
    clear hc hl
    unfold maxLen at hm
    go_enter Tryz.func54, Tryz.ntmps54
    go_wp2_with (at_builtin; refine app_flat 24 125 Tryz.underlying24 infoIns rfl (by decide) (World.ownsRow_made w #[] 0 (Nat.le_refl _) (Nat.zero_le _) (by simp)) (by simp) (HF.out.grow ((Below.refl _ w).alloc (Nat.le_refl _) _)) (by unfold maxLen; omega) (by omega) h1 rfl rfl rfl rfl ?_; intro v' w1 hown hb)
    go_ret
    simp only [Nat.zero_add, List.nil_append] at hown
    exact ⟨_, rfl, hown, ((Below.refl _ w).alloc (Nat.le_refl _) _).trans hb⟩
theorem infoTok : (Tryz.prog.info? 112).map (fun i => (i.zero, i.size, i.bytes)) = some (some (.agg #[.int .u64 0, .int .u64 0, .int .u64 0, .int .i64 0, .int .i64 0, .string ⟨#[]⟩]), 6, 56) := by kernel_rfl
theorem cloneTok_any {n : Nat} {v : Value} {cs : List Value} (w : World) (hF : FlatAt 6 w v n cs) (h1 : ∀ u ∈ cs, u.oneCell' = true) (hn : n * 56 ≤ 140737488355328) :
    Calls Tryz.prog 49 #[v] w fun e w' => ∃ v', e = .returned v' ∧ w'.ownsRow w.heap.size 112 6 v' n cs ∧ Below w.heap.size w w' := by
  have HF := hid hF
  obtain ⟨a, cap, rfl, -, hm, hl, hc⟩ := hF
  have q := fun (w : World) (a : Option Addr) (n c n' c' : Nat) => Lib.run_eql_slice_nil (P := Tryz.prog) w _ _ a n c n' c' Tryz.underlying25
  cases a with
  | none =>
    have hz : Hid (cs = [] ∧ n = 0) := by
      have : cs = [] := List.eq_nil_iff_forall_not_mem.2 fun u hu => by
        obtain ⟨j, hj⟩ := List.mem_iff_getElem?.1 hu
        obtain ⟨b, off, h, -⟩ := hc j u hj
        cases h
      subst this
      exact ⟨rfl, by simp at hl; omega⟩
    clear hc hl
    go_enter Tryz.func49, Tryz.ntmps49
    go_wp2
    go_ret
    obtain ⟨rfl, rfl⟩ := hz.out
    exact ⟨_, rfl, World.ownsRow_nil _ _ _ _, Below.refl _ _⟩
  | some ad =>
    have Hl := hid hl
    clear hc hl
    unfold maxLen at hm
    go_enter Tryz.func49, Tryz.ntmps49
    go_wp2_with (at_builtin; refine app_flat 25 112 Tryz.underlying25 infoTok rfl (by decide) (World.ownsRow_made w #[] 0 (Nat.le_refl _) (Nat.zero_le _) (by simp)) (by simp) (HF.out.grow ((Below.refl _ w).alloc (Nat.le_refl _) _)) (by unfold maxLen; omega) (by omega) h1 rfl rfl rfl rfl ?_; intro v' w1 hown hb)
    go_ret
    simp only [Nat.zero_add, List.nil_append] at hown
    exact ⟨_, rfl, hown, ((Below.refl _ w).alloc (Nat.le_refl _) _).trans hb⟩
theorem infoJob : (Tryz.prog.info? 115).map (fun i => (i.zero, i.size, i.bytes)) = some (some (.agg #[.int .u64 0, .int .u64 0, .string ⟨#[]⟩, .int .i64 0, .string ⟨#[]⟩, .int .i64 0]), 6, 64) := by kernel_rfl
theorem cloneJob_any {n : Nat} {v : Value} {cs : List Value} (w : World) (hF : FlatAt 6 w v n cs) (h1 : ∀ u ∈ cs, u.oneCell' = true) (hn : n * 64 ≤ 140737488355328) :
    Calls Tryz.prog 50 #[v] w fun e w' => ∃ v', e = .returned v' ∧ w'.ownsRow w.heap.size 115 6 v' n cs ∧ Below w.heap.size w w' := by
  have HF := hid hF
  obtain ⟨a, cap, rfl, -, hm, hl, hc⟩ := hF
  have q := fun (w : World) (a : Option Addr) (n c n' c' : Nat) => Lib.run_eql_slice_nil (P := Tryz.prog) w _ _ a n c n' c' Tryz.underlying26
  cases a with
  | none =>
    have hz : Hid (cs = [] ∧ n = 0) := by
      have : cs = [] := List.eq_nil_iff_forall_not_mem.2 fun u hu => by
        obtain ⟨j, hj⟩ := List.mem_iff_getElem?.1 hu
        obtain ⟨b, off, h, -⟩ := hc j u hj
        cases h
      subst this
      exact ⟨rfl, by simp at hl; omega⟩
    clear hc hl
    go_enter Tryz.func50, Tryz.ntmps50
    go_wp2
    go_ret
    obtain ⟨rfl, rfl⟩ := hz.out
    exact ⟨_, rfl, World.ownsRow_nil _ _ _ _, Below.refl _ _⟩
  | some ad =>
    have Hl := hid hl
    clear hc hl
    unfold maxLen at hm
    go_enter Tryz.func50, Tryz.ntmps50
    go_wp2_with (at_builtin; refine app_flat 26 115 Tryz.underlying26 infoJob rfl (by decide) (World.ownsRow_made w #[] 0 (Nat.le_refl _) (Nat.zero_le _) (by simp)) (by simp) (HF.out.grow ((Below.refl _ w).alloc (Nat.le_refl _) _)) (by unfold maxLen; omega) (by omega) h1 rfl rfl rfl rfl ?_; intro v' w1 hown hb)
    go_ret
    simp only [Nat.zero_add, List.nil_append] at hown
    exact ⟨_, rfl, hown, ((Below.refl _ w).alloc (Nat.le_refl _) _).trans hb⟩
theorem infoTim : (Tryz.prog.info? 118).map (fun i => (i.zero, i.size, i.bytes)) = some (some (.agg #[.int .u64 0, .int .i64 0, .int .i64 0]), 3, 24) := by kernel_rfl
theorem cloneTim_any {n : Nat} {v : Value} {cs : List Value} (w : World) (hF : FlatAt 3 w v n cs) (h1 : ∀ u ∈ cs, u.oneCell' = true) (hn : n * 24 ≤ 140737488355328) :
    Calls Tryz.prog 51 #[v] w fun e w' => ∃ v', e = .returned v' ∧ w'.ownsRow w.heap.size 118 3 v' n cs ∧ Below w.heap.size w w' := by
  have HF := hid hF
  obtain ⟨a, cap, rfl, -, hm, hl, hc⟩ := hF
  have q := fun (w : World) (a : Option Addr) (n c n' c' : Nat) => Lib.run_eql_slice_nil (P := Tryz.prog) w _ _ a n c n' c' Tryz.underlying27
  cases a with
  | none =>
    have hz : Hid (cs = [] ∧ n = 0) := by
      have : cs = [] := List.eq_nil_iff_forall_not_mem.2 fun u hu => by
        obtain ⟨j, hj⟩ := List.mem_iff_getElem?.1 hu
        obtain ⟨b, off, h, -⟩ := hc j u hj
        cases h
      subst this
      exact ⟨rfl, by simp at hl; omega⟩
    clear hc hl
    go_enter Tryz.func51, Tryz.ntmps51
    go_wp2
    go_ret
    obtain ⟨rfl, rfl⟩ := hz.out
    exact ⟨_, rfl, World.ownsRow_nil _ _ _ _, Below.refl _ _⟩
  | some ad =>
    have Hl := hid hl
    clear hc hl
    unfold maxLen at hm
    go_enter Tryz.func51, Tryz.ntmps51
    go_wp2_with (at_builtin; refine app_flat 27 118 Tryz.underlying27 infoTim rfl (by decide) (World.ownsRow_made w #[] 0 (Nat.le_refl _) (Nat.zero_le _) (by simp)) (by simp) (HF.out.grow ((Below.refl _ w).alloc (Nat.le_refl _) _)) (by unfold maxLen; omega) (by omega) h1 rfl rfl rfl rfl ?_; intro v' w1 hown hb)
    go_ret
    simp only [Nat.zero_add, List.nil_append] at hown
    exact ⟨_, rfl, hown, ((Below.refl _ w).alloc (Nat.le_refl _) _).trans hb⟩
theorem infoSub : (Tryz.prog.info? 73).map (fun i => (i.zero, i.size, i.bytes)) = some (some (.agg #[.int .u64 0, .int .u64 0, .int .i64 0, .string ⟨#[]⟩, .string ⟨#[]⟩, .bool false]), 6, 64) := by kernel_rfl
theorem cloneSub_any {n : Nat} {v : Value} {cs : List Value} (w : World) (hF : FlatAt 6 w v n cs) (h1 : ∀ u ∈ cs, u.oneCell' = true) (hn : n * 64 ≤ 140737488355328) :
    Calls Tryz.prog 52 #[v] w fun e w' => ∃ v', e = .returned v' ∧ w'.ownsRow w.heap.size 73 6 v' n cs ∧ Below w.heap.size w w' := by
  have HF := hid hF
  obtain ⟨a, cap, rfl, -, hm, hl, hc⟩ := hF
  have q := fun (w : World) (a : Option Addr) (n c n' c' : Nat) => Lib.run_eql_slice_nil (P := Tryz.prog) w _ _ a n c n' c' Tryz.underlying28
  cases a with
  | none =>
    have hz : Hid (cs = [] ∧ n = 0) := by
      have : cs = [] := List.eq_nil_iff_forall_not_mem.2 fun u hu => by
        obtain ⟨j, hj⟩ := List.mem_iff_getElem?.1 hu
        obtain ⟨b, off, h, -⟩ := hc j u hj
        cases h
      subst this
      exact ⟨rfl, by simp at hl; omega⟩
    clear hc hl
    go_enter Tryz.func52, Tryz.ntmps52
    go_wp2
    go_ret
    obtain ⟨rfl, rfl⟩ := hz.out
    exact ⟨_, rfl, World.ownsRow_nil _ _ _ _, Below.refl _ _⟩
  | some ad =>
    have Hl := hid hl
    clear hc hl
    unfold maxLen at hm
    go_enter Tryz.func52, Tryz.ntmps52
    go_wp2_with (at_builtin; refine app_flat 28 73 Tryz.underlying28 infoSub rfl (by decide) (World.ownsRow_made w #[] 0 (Nat.le_refl _) (Nat.zero_le _) (by simp)) (by simp) (HF.out.grow ((Below.refl _ w).alloc (Nat.le_refl _) _)) (by unfold maxLen; omega) (by omega) h1 rfl rfl rfl rfl ?_; intro v' w1 hown hb)
    go_ret
    simp only [Nat.zero_add, List.nil_append] at hown
    exact ⟨_, rfl, hown, ((Below.refl _ w).alloc (Nat.le_refl _) _).trans hb⟩
theorem infoKep : (Tryz.prog.info? 122).map (fun i => (i.zero, i.size, i.bytes)) = some (some (.agg #[.int .u64 0, .int .u64 0, .int .i64 0]), 3, 24) := by kernel_rfl
theorem cloneKep_any {n : Nat} {v : Value} {cs : List Value} (w : World) (hF : FlatAt 3 w v n cs) (h1 : ∀ u ∈ cs, u.oneCell' = true) (hn : n * 24 ≤ 140737488355328) :
    Calls Tryz.prog 53 #[v] w fun e w' => ∃ v', e = .returned v' ∧ w'.ownsRow w.heap.size 122 3 v' n cs ∧ Below w.heap.size w w' := by
  have HF := hid hF
  obtain ⟨a, cap, rfl, -, hm, hl, hc⟩ := hF
  have q := fun (w : World) (a : Option Addr) (n c n' c' : Nat) => Lib.run_eql_slice_nil (P := Tryz.prog) w _ _ a n c n' c' Tryz.underlying29
  cases a with
  | none =>
    have hz : Hid (cs = [] ∧ n = 0) := by
      have : cs = [] := List.eq_nil_iff_forall_not_mem.2 fun u hu => by
        obtain ⟨j, hj⟩ := List.mem_iff_getElem?.1 hu
        obtain ⟨b, off, h, -⟩ := hc j u hj
        cases h
      subst this
      exact ⟨rfl, by simp at hl; omega⟩
    clear hc hl
    go_enter Tryz.func53, Tryz.ntmps53
    go_wp2
    go_ret
    obtain ⟨rfl, rfl⟩ := hz.out
    exact ⟨_, rfl, World.ownsRow_nil _ _ _ _, Below.refl _ _⟩
  | some ad =>
    have Hl := hid hl
    clear hc hl
    unfold maxLen at hm
    go_enter Tryz.func53, Tryz.ntmps53
    go_wp2_with (at_builtin; refine app_flat 29 122 Tryz.underlying29 infoKep rfl (by decide) (World.ownsRow_made w #[] 0 (Nat.le_refl _) (Nat.zero_le _) (by simp)) (by simp) (HF.out.grow ((Below.refl _ w).alloc (Nat.le_refl _) _)) (by unfold maxLen; omega) (by omega) h1 rfl rfl rfl rfl ?_; intro v' w1 hown hb)
    go_ret
    simp only [Nat.zero_add, List.nil_append] at hown
    exact ⟨_, rfl, hown, ((Below.refl _ w).alloc (Nat.le_refl _) _).trans hb⟩
theorem infoLis : (Tryz.prog.info? 58).map (fun i => (i.zero, i.size, i.bytes)) = some (some (.agg #[.int .u64 0, .int .u64 0, .int .i64 0, .string ⟨#[]⟩, .string ⟨#[]⟩, .int .u64 0, .slice none 0 0]), 7, 88) := by kernel_rfl
theorem cloneLis_any {n : Nat} {v : Value} {cs : List Value} (w : World) (hF : FlatAt 7 w v n cs) (h1 : ∀ u ∈ cs, u.oneCell' = true) (hn : n * 88 ≤ 140737488355328) :
    Calls Tryz.prog 55 #[v] w fun e w' => ∃ v', e = .returned v' ∧ w'.ownsRow w.heap.size 58 7 v' n cs ∧ Below w.heap.size w w' := by
  have HF := hid hF
  obtain ⟨a, cap, rfl, -, hm, hl, hc⟩ := hF
  have q := fun (w : World) (a : Option Addr) (n c n' c' : Nat) => Lib.run_eql_slice_nil (P := Tryz.prog) w _ _ a n c n' c' Tryz.underlying30
  cases a with
  | none =>
    have hz : Hid (cs = [] ∧ n = 0) := by
      have : cs = [] := List.eq_nil_iff_forall_not_mem.2 fun u hu => by
        obtain ⟨j, hj⟩ := List.mem_iff_getElem?.1 hu
        obtain ⟨b, off, h, -⟩ := hc j u hj
        cases h
      subst this
      exact ⟨rfl, by simp at hl; omega⟩
    clear hc hl
    go_enter Tryz.func55, Tryz.ntmps55
    go_wp2
    go_ret
    obtain ⟨rfl, rfl⟩ := hz.out
    exact ⟨_, rfl, World.ownsRow_nil _ _ _ _, Below.refl _ _⟩
  | some ad =>
    have Hl := hid hl
    clear hc hl
    unfold maxLen at hm
    go_enter Tryz.func55, Tryz.ntmps55
    go_wp2_with (at_builtin; refine app_flat 30 58 Tryz.underlying30 infoLis rfl (by decide) (World.ownsRow_made w #[] 0 (Nat.le_refl _) (Nat.zero_le _) (by simp)) (by simp) (HF.out.grow ((Below.refl _ w).alloc (Nat.le_refl _) _)) (by unfold maxLen; omega) (by omega) h1 rfl rfl rfl rfl ?_; intro v' w1 hown hb)
    go_ret
    simp only [Nat.zero_add, List.nil_append] at hown
    exact ⟨_, rfl, hown, ((Below.refl _ w).alloc (Nat.le_refl _) _).trans hb⟩
theorem infoMsg : (Tryz.prog.info? 66).map (fun i => (i.zero, i.size, i.bytes)) = some (some (.agg #[.int .u64 0, .string ⟨#[]⟩, .string ⟨#[]⟩, .string ⟨#[]⟩, .int .i64 0, .slice none 0 0, .slice none 0 0]), 7, 112) := by kernel_rfl
theorem cloneMsg_any {n : Nat} {v : Value} {cs : List Value} (w : World) (hF : FlatAt 7 w v n cs) (h1 : ∀ u ∈ cs, u.oneCell' = true) (hn : n * 112 ≤ 140737488355328) :
    Calls Tryz.prog 56 #[v] w fun e w' => ∃ v', e = .returned v' ∧ w'.ownsRow w.heap.size 66 7 v' n cs ∧ Below w.heap.size w w' := by
  have HF := hid hF
  obtain ⟨a, cap, rfl, -, hm, hl, hc⟩ := hF
  have q := fun (w : World) (a : Option Addr) (n c n' c' : Nat) => Lib.run_eql_slice_nil (P := Tryz.prog) w _ _ a n c n' c' Tryz.underlying31
  cases a with
  | none =>
    have hz : Hid (cs = [] ∧ n = 0) := by
      have : cs = [] := List.eq_nil_iff_forall_not_mem.2 fun u hu => by
        obtain ⟨j, hj⟩ := List.mem_iff_getElem?.1 hu
        obtain ⟨b, off, h, -⟩ := hc j u hj
        cases h
      subst this
      exact ⟨rfl, by simp at hl; omega⟩
    clear hc hl
    go_enter Tryz.func56, Tryz.ntmps56
    go_wp2
    go_ret
    obtain ⟨rfl, rfl⟩ := hz.out
    exact ⟨_, rfl, World.ownsRow_nil _ _ _ _, Below.refl _ _⟩
  | some ad =>
    have Hl := hid hl
    clear hc hl
    unfold maxLen at hm
    go_enter Tryz.func56, Tryz.ntmps56
    go_wp2_with (at_builtin; refine app_flat 31 66 Tryz.underlying31 infoMsg rfl (by decide) (World.ownsRow_made w #[] 0 (Nat.le_refl _) (Nat.zero_le _) (by simp)) (by simp) (HF.out.grow ((Below.refl _ w).alloc (Nat.le_refl _) _)) (by unfold maxLen; omega) (by omega) h1 rfl rfl rfl rfl ?_; intro v' w1 hown hb)
    go_ret
    simp only [Nat.zero_add, List.nil_append] at hown
    exact ⟨_, rfl, hown, ((Below.refl _ w).alloc (Nat.le_refl _) _).trans hb⟩
theorem infoRec : (Tryz.prog.info? 49).map (fun i => (i.zero, i.size, i.bytes)) = some (some (.agg #[.int .i64 0, .int .i64 0, .int .u64 0, .int .i64 0, .int .u64 0, .int .u64 0, .int .u64 0, .int .i64 0, .int .i64 0, .string ⟨#[]⟩, .string ⟨#[]⟩, .string ⟨#[]⟩, .slice none 0 0]), 13, 144) := by kernel_rfl
theorem cloneRec_any {n : Nat} {v : Value} {cs : List Value} (w : World) (hF : FlatAt 13 w v n cs) (h1 : ∀ u ∈ cs, u.oneCell' = true) (hn : n * 144 ≤ 140737488355328) :
    Calls Tryz.prog 46 #[v] w fun e w' => ∃ v', e = .returned v' ∧ w'.ownsRow w.heap.size 49 13 v' n cs ∧ Below w.heap.size w w' := by
  have HF := hid hF
  obtain ⟨a, cap, rfl, -, hm, hl, hc⟩ := hF
  have q := fun (w : World) (a : Option Addr) (n c n' c' : Nat) => Lib.run_eql_slice_nil (P := Tryz.prog) w _ _ a n c n' c' Tryz.underlying68
  cases a with
  | none =>
    have hz : Hid (cs = [] ∧ n = 0) := by
      have : cs = [] := List.eq_nil_iff_forall_not_mem.2 fun u hu => by
        obtain ⟨j, hj⟩ := List.mem_iff_getElem?.1 hu
        obtain ⟨b, off, h, -⟩ := hc j u hj
        cases h
      subst this
      exact ⟨rfl, by simp at hl; omega⟩
    clear hc hl
    go_enter Tryz.func46, Tryz.ntmps46
    go_wp2
    go_ret
    obtain ⟨rfl, rfl⟩ := hz.out
    exact ⟨_, rfl, World.ownsRow_nil _ _ _ _, Below.refl _ _⟩
  | some ad =>
    have Hl := hid hl
    clear hc hl
    unfold maxLen at hm
    go_enter Tryz.func46, Tryz.ntmps46
    go_wp2_with (at_builtin; refine app_flat 68 49 Tryz.underlying68 infoRec rfl (by decide) (World.ownsRow_made w #[] 0 (Nat.le_refl _) (Nat.zero_le _) (by simp)) (by simp) (HF.out.grow ((Below.refl _ w).alloc (Nat.le_refl _) _)) (by unfold maxLen; omega) (by omega) h1 rfl rfl rfl rfl ?_; intro v' w1 hown hb)
    go_ret
    simp only [Nat.zero_add, List.nil_append] at hown
    exact ⟨_, rfl, hown, ((Below.refl _ w).alloc (Nat.le_refl _) _).trans hb⟩
theorem infoVar : (Tryz.prog.info? 80).map (fun i => (i.zero, i.size, i.bytes)) = some (some (.agg #[.string ⟨#[]⟩, .int .i64 0, .int .i64 0, .string ⟨#[]⟩]), 4, 48) := by kernel_rfl
theorem cloneVar_any {n : Nat} {v : Value} {cs : List Value} (w : World) (hF : FlatAt 4 w v n cs) (h1 : ∀ u ∈ cs, u.oneCell' = true) (hn : n * 48 ≤ 140737488355328) :
    Calls Tryz.prog 24 #[v] w fun e w' => ∃ v', e = .returned v' ∧ w'.ownsRow w.heap.size 80 4 v' n cs ∧ Below w.heap.size w w' := by
  have HF := hid hF
  obtain ⟨a, cap, rfl, -, hm, hl, hc⟩ := hF
  have q := fun (w : World) (a : Option Addr) (n c n' c' : Nat) => Lib.run_eql_slice_nil (P := Tryz.prog) w _ _ a n c n' c' Tryz.underlying47
  cases a with
  | none =>
    have hz : Hid (cs = [] ∧ n = 0) := by
      have : cs = [] := List.eq_nil_iff_forall_not_mem.2 fun u hu => by
        obtain ⟨j, hj⟩ := List.mem_iff_getElem?.1 hu
        obtain ⟨b, off, h, -⟩ := hc j u hj
        cases h
      subst this
      exact ⟨rfl, by simp at hl; omega⟩
    clear hc hl
    go_enter Tryz.func24, Tryz.ntmps24
    go_wp2
    go_ret
    obtain ⟨rfl, rfl⟩ := hz.out
    exact ⟨_, rfl, World.ownsRow_nil _ _ _ _, Below.refl _ _⟩
  | some ad =>
    have Hl := hid hl
    clear hc hl
    unfold maxLen at hm
    go_enter Tryz.func24, Tryz.ntmps24
    go_wp2_with (at_builtin; refine app_flat 47 80 Tryz.underlying47 infoVar rfl (by decide) (World.ownsRow_made w #[] 0 (Nat.le_refl _) (Nat.zero_le _) (by simp)) (by simp) (HF.out.grow ((Below.refl _ w).alloc (Nat.le_refl _) _)) (by unfold maxLen; omega) (by omega) h1 rfl rfl rfl rfl ?_; intro v' w1 hown hb)
    go_ret
    simp only [Nat.zero_add, List.nil_append] at hown
    exact ⟨_, rfl, hown, ((Below.refl _ w).alloc (Nat.le_refl _) _).trans hb⟩
theorem infoNat : (Tryz.prog.info? 22).map (fun i => (i.zero, i.size, i.bytes)) = some (some (.int .u64 0), 1, 8) := by kernel_rfl
theorem cloneNat_any {n : Nat} {v : Value} {cs : List Value} (w : World) (hF : FlatAt 1 w v n cs) (h1 : ∀ u ∈ cs, u.oneCell' = true) (hn : n * 8 ≤ 140737488355328) :
    Calls Tryz.prog 58 #[v] w fun e w' => ∃ v', e = .returned v' ∧ w'.ownsRow w.heap.size 22 1 v' n cs ∧ Below w.heap.size w w' := by
  have HF := hid hF
  obtain ⟨a, cap, rfl, -, hm, hl, hc⟩ := hF
  have q := fun (w : World) (a : Option Addr) (n c n' c' : Nat) => Lib.run_eql_slice_nil (P := Tryz.prog) w _ _ a n c n' c' Tryz.underlying64
  cases a with
  | none =>
    have hz : Hid (cs = [] ∧ n = 0) := by
      have : cs = [] := List.eq_nil_iff_forall_not_mem.2 fun u hu => by
        obtain ⟨j, hj⟩ := List.mem_iff_getElem?.1 hu
        obtain ⟨b, off, h, -⟩ := hc j u hj
        cases h
      subst this
      exact ⟨rfl, by simp at hl; omega⟩
    clear hc hl
    go_enter Tryz.func58, Tryz.ntmps58
    go_wp2
    go_ret
    obtain ⟨rfl, rfl⟩ := hz.out
    exact ⟨_, rfl, World.ownsRow_nil _ _ _ _, Below.refl _ _⟩
  | some ad =>
    have Hl := hid hl
    clear hc hl
    unfold maxLen at hm
    go_enter Tryz.func58, Tryz.ntmps58
    go_wp2_with (at_builtin; refine app_flat 64 22 Tryz.underlying64 infoNat rfl (by decide) (World.ownsRow_made w #[] 0 (Nat.le_refl _) (Nat.zero_le _) (by simp)) (by simp) (HF.out.grow ((Below.refl _ w).alloc (Nat.le_refl _) _)) (by unfold maxLen; omega) (by omega) h1 rfl rfl rfl rfl ?_; intro v' w1 hown hb)
    go_ret
    simp only [Nat.zero_add, List.nil_append] at hown
    exact ⟨_, rfl, hown, ((Below.refl _ w).alloc (Nat.le_refl _) _).trans hb⟩
end Go.Proofs.YtjkbfoeakeoeiaaGreat
namespace Go.Proofs.YtjkbfoeakeoeiaaGreat
set_option maxRecDepth 100000
set_option maxHeartbeats 40000000
set_option linter.unusedSimpArgs false
set_option linter.unusedVariables false
open Go.RowKit
theorem row_at {size n : Nat} {w : World} {v : Value} {css : List (List Value)} (h : FlatAt size w v n css.flatten) (hs : ∀ cs ∈ css, cs.length = size) (h0 : 0 < size) {i : Nat} {cs : List Value} (hx : css[i]? = some cs) :
    ∃ b off cap, v = .slice (some ⟨b, off, none⟩) n cap ∧ b < w.heap.size ∧ ∀ j u, cs[j]? = some u → w.cell? ⟨b, off + i * size + j, none⟩ = some u := by
  obtain ⟨a, cap, rfl, -, -, -, h4⟩ := h
  have hl := hs _ (List.mem_of_getElem? hx)
  obtain ⟨b, off, rfl, hc⟩ := h4 _ _ (flat_at css hs i cs hx 0 cs[0] (List.getElem?_eq_getElem (by omega)))
  refine ⟨b, off, cap, rfl, World.block_lt_of_cell? w _ hc, fun j u hu => ?_⟩
  obtain ⟨b', off', e, hc⟩ := h4 _ _ (flat_at css hs i cs hx j u hu)
  cases e
  rw [Nat.add_assoc]
  exact hc
def fstI (q : Nat → Bool) (n : Nat) : Int := match (List.range n).find? q with | some i => (i : Int) | none => -1
theorem fstI_hit {q : Nat → Bool} {n i : Nat} (hi : i < n) (hq : q i = true) (h : ∀ j, j < i → q j = false) : fstI q n = i := by
  have e : List.range n = List.range i ++ (i :: (List.range' (i + 1) (n - i - 1))) := by
    rw [List.range_eq_range', List.range_eq_range', ← List.range'_succ, show n - i - 1 + 1 = n - i by omega]
    have h := List.range'_append_1 (s := 0) (m := i) (n := n - i)
    rw [Nat.zero_add, show i + (n - i) = n by omega] at h
    exact h.symm
  unfold fstI
  have e2 : (List.range n).find? q = some i := by
    rw [e, List.find?_append, List.find?_eq_none.2 (fun j hj => by rw [h j (List.mem_range.1 hj)]; simp), Option.none_or, List.find?_cons_of_pos hq]
  rw [e2]
theorem fstI_miss {q : Nat → Bool} {n : Nat} (h : ∀ j, j < n → q j = false) : fstI q n = -1 := by
  unfold fstI
  rw [List.find?_eq_none.2 (fun j hj => by rw [h j (List.mem_range.1 hj)]; simp)]
def idxOf {α : Type} (p : α → Bool) (l : List α) : Int := match l.findIdx? p with | some i => (i : Int) | none => -1
theorem fstI_list {α : Type} (p : α → Bool) (l : List α) (q : Nat → Bool) (h : ∀ i x, l[i]? = some x → q i = p x) : fstI q l.length = idxOf p l := by
  unfold idxOf
  cases hf : l.findIdx? p with
  | none =>
    rw [List.findIdx?_eq_none_iff] at hf
    exact fstI_miss fun j hj => by rw [h j _ (List.getElem?_eq_getElem hj)]; exact hf _ (List.getElem_mem _)
  | some i =>
    rw [List.findIdx?_eq_some_iff_getElem] at hf
    obtain ⟨hi, hp, hb⟩ := hf
    exact fstI_hit hi (by rw [h i _ (List.getElem?_eq_getElem hi)]; exact hp) (fun j hj => by rw [h j _ (List.getElem?_eq_getElem (by omega))]; simpa using hb j hj)
theorem idxLis_any {n : Nat} {v : Value} {css : List (List Value)} (w : World) (hF : FlatAt 7 w v n css.flatten) (hs : ∀ cs ∈ css, cs.length = 7) (hl : css.length = n) (q : Nat → Bool) (g : Nat) (lb : Array Value)
    (eg : ∀ args w, (callFunc g args).run Tryz.prog w = .ok (.enter g args) w)
    (hp : ∀ (W : World) (i : Nat) (cs : List Value), css[i]? = some cs → Below w.heap.size w W → Calls Tryz.prog g (#[.agg cs.toArray] ++ lb) W fun e w' => e = .returned (.bool (q i)) ∧ Below W.heap.size W w') :
    Calls Tryz.prog 71 #[v, .func (.func g) #[] lb] w fun e w' => e = .returned (.int .i64 (fstI q n)) ∧ Below w.heap.size w w' := by
  have HF := hid hF
  have Hp := hid hp
  obtain ⟨a, cap, rfl, hnc, hm, -, -⟩ := hF
  unfold maxLen at hm
  clear hp
  go_enter Tryz.func71, Tryz.ntmps71
  go_wp2
  go_loopw [8] (fun vi wr => ∃ i : Nat, i ≤ n ∧ vi = .int .i64 i ∧ Hid ((∀ j, j < i → q j = false) ∧ Below w.heap.size w wr)) (fun vi _ => n - (intOf vi).toNat)
  case atStart => exact ⟨0, Nat.zero_le _, rfl, fun j hj => by omega, Below.refl _ _⟩
  case round =>
    obtain ⟨i, hi, rfl, hR⟩ := hrel
    by_cases hlt : i < n
    · obtain ⟨cs, hx⟩ : ∃ cs, css[i]? = some cs := ⟨_, List.getElem?_eq_getElem (by omega)⟩
      obtain ⟨b, off, cap', he, hb, hk⟩ := row_at (HF.out.grow hR.out.2) hs (by omega) hx
      cases he
      have hcall := Hp.out wr i _ hx hR.out.2
      have hlen := hs _ (List.mem_of_getElem? hx)
      obtain ⟨c0, c1, c2, c3, c4, c5, c6, rfl⟩ : ∃ c0 c1 c2 c3 c4 c5 c6, cs = [c0, c1, c2, c3, c4, c5, c6] := by
        match cs, hlen with
        | [c0, c1, c2, c3, c4, c5, c6], _ => exact ⟨c0, c1, c2, c3, c4, c5, c6, rfl⟩
      have k0 := hk 0 _ rfl
      have k1 := hk 1 _ rfl
      have k2 := hk 2 _ rfl
      have k3 := hk 3 _ rfl
      have k4 := hk 4 _ rfl
      have k5 := hk 5 _ rfl
      have k6 := hk 6 _ rfl
      simp only [Nat.add_zero] at k0
      clear hk hx hlen
      have Hq : Hid (∀ b, q i = b → (b = true → fstI q n = i) ∧ (b = false → ∀ j, j < i + 1 → q j = false)) := fun b hb => ⟨fun h => fstI_hit hlt (hb.trans h) hR.out.1, fun h j hj => by
        by_cases e : j = i
        · subst e; exact hb.trans h
        · exact hR.out.1 j (by omega)⟩
      generalize q i = c at hcall Hq
      cases c with
      | true =>
        have E := hid ((Hq.out true rfl).1 rfl)
        go_wp2_with (go_at_fn g; refine hcall.mono ?_; rintro e w' ⟨rfl, hb'⟩)
        go_ret
        rw [E.out]
        exact ⟨rfl, hR.out.2.trans (hb'.mono hR.out.2.size)⟩
      | false =>
        have E := hid ((Hq.out false rfl).2 rfl)
        go_wp2_with (go_at_fn g; refine hcall.mono ?_; rintro e w' ⟨rfl, hb'⟩)
        go_roundw
        case rel => exact ⟨i + 1, by omega, by go_num, E.out, hR.out.2.trans (hb'.mono hR.out.2.size)⟩
        case measure => simp [intOf]; omega
    · obtain rfl : i = n := by omega
      have E := hid (fstI_miss hR.out.1)
      go_wp2
      go_ret
      rw [E.out]
      exact ⟨rfl, hR.out.2⟩
theorem idxMsg_any {n : Nat} {v : Value} {css : List (List Value)} (w : World) (hF : FlatAt 7 w v n css.flatten) (hs : ∀ cs ∈ css, cs.length = 7) (hl : css.length = n) (q : Nat → Bool) (g : Nat) (lb : Array Value)
    (eg : ∀ args w, (callFunc g args).run Tryz.prog w = .ok (.enter g args) w)
    (hp : ∀ (W : World) (i : Nat) (cs : List Value), css[i]? = some cs → Below w.heap.size w W → Calls Tryz.prog g (#[.agg cs.toArray] ++ lb) W fun e w' => e = .returned (.bool (q i)) ∧ Below W.heap.size W w') :
    Calls Tryz.prog 42 #[v, .func (.func g) #[] lb] w fun e w' => e = .returned (.int .i64 (fstI q n)) ∧ Below w.heap.size w w' := by
  have HF := hid hF
  have Hp := hid hp
  obtain ⟨a, cap, rfl, hnc, hm, -, -⟩ := hF
  unfold maxLen at hm
  clear hp
  go_enter Tryz.func42, Tryz.ntmps42
  go_wp2
  go_loopw [8] (fun vi wr => ∃ i : Nat, i ≤ n ∧ vi = .int .i64 i ∧ Hid ((∀ j, j < i → q j = false) ∧ Below w.heap.size w wr)) (fun vi _ => n - (intOf vi).toNat)
  case atStart => exact ⟨0, Nat.zero_le _, rfl, fun j hj => by omega, Below.refl _ _⟩
  case round =>
    obtain ⟨i, hi, rfl, hR⟩ := hrel
    by_cases hlt : i < n
    · obtain ⟨cs, hx⟩ : ∃ cs, css[i]? = some cs := ⟨_, List.getElem?_eq_getElem (by omega)⟩
      obtain ⟨b, off, cap', he, hb, hk⟩ := row_at (HF.out.grow hR.out.2) hs (by omega) hx
      cases he
      have hcall := Hp.out wr i _ hx hR.out.2
      have hlen := hs _ (List.mem_of_getElem? hx)
      obtain ⟨c0, c1, c2, c3, c4, c5, c6, rfl⟩ : ∃ c0 c1 c2 c3 c4 c5 c6, cs = [c0, c1, c2, c3, c4, c5, c6] := by
        match cs, hlen with
        | [c0, c1, c2, c3, c4, c5, c6], _ => exact ⟨c0, c1, c2, c3, c4, c5, c6, rfl⟩
      have k0 := hk 0 _ rfl
      have k1 := hk 1 _ rfl
      have k2 := hk 2 _ rfl
      have k3 := hk 3 _ rfl
      have k4 := hk 4 _ rfl
      have k5 := hk 5 _ rfl
      have k6 := hk 6 _ rfl
      simp only [Nat.add_zero] at k0
      clear hk hx hlen
      have Hq : Hid (∀ b, q i = b → (b = true → fstI q n = i) ∧ (b = false → ∀ j, j < i + 1 → q j = false)) := fun b hb => ⟨fun h => fstI_hit hlt (hb.trans h) hR.out.1, fun h j hj => by
        by_cases e : j = i
        · subst e; exact hb.trans h
        · exact hR.out.1 j (by omega)⟩
      generalize q i = c at hcall Hq
      cases c with
      | true =>
        have E := hid ((Hq.out true rfl).1 rfl)
        go_wp2_with (go_at_fn g; refine hcall.mono ?_; rintro e w' ⟨rfl, hb'⟩)
        go_ret
        rw [E.out]
        exact ⟨rfl, hR.out.2.trans (hb'.mono hR.out.2.size)⟩
      | false =>
        have E := hid ((Hq.out false rfl).2 rfl)
        go_wp2_with (go_at_fn g; refine hcall.mono ?_; rintro e w' ⟨rfl, hb'⟩)
        go_roundw
        case rel => exact ⟨i + 1, by omega, by go_num, E.out, hR.out.2.trans (hb'.mono hR.out.2.size)⟩
        case measure => simp [intOf]; omega
    · obtain rfl : i = n := by omega
      have E := hid (fstI_miss hR.out.1)
      go_wp2
      go_ret
      rw [E.out]
      exact ⟨rfl, hR.out.2⟩
theorem idxNat_any {n : Nat} {v : Value} {css : List (List Value)} (w : World) (hF : FlatAt 1 w v n css.flatten) (hs : ∀ cs ∈ css, cs.length = 1) (hl : css.length = n) (q : Nat → Bool) (g : Nat) (lb : Array Value)
    (eg : ∀ args w, (callFunc g args).run Tryz.prog w = .ok (.enter g args) w)
    (hp : ∀ (W : World) (i : Nat) (cs : List Value), css[i]? = some cs → Below w.heap.size w W → Calls Tryz.prog g (#[cs.headD undef] ++ lb) W fun e w' => e = .returned (.bool (q i)) ∧ Below W.heap.size W w') :
    Calls Tryz.prog 239 #[v, .func (.func g) #[] lb] w fun e w' => e = .returned (.int .i64 (fstI q n)) ∧ Below w.heap.size w w' := by
  have HF := hid hF
  have Hp := hid hp
  obtain ⟨a, cap, rfl, hnc, hm, -, -⟩ := hF
  unfold maxLen at hm
  clear hp
  go_enter Tryz.func239, Tryz.ntmps239
  go_wp2
  go_loopw [8] (fun vi wr => ∃ i : Nat, i ≤ n ∧ vi = .int .i64 i ∧ Hid ((∀ j, j < i → q j = false) ∧ Below w.heap.size w wr)) (fun vi _ => n - (intOf vi).toNat)
  case atStart => exact ⟨0, Nat.zero_le _, rfl, fun j hj => by omega, Below.refl _ _⟩
  case round =>
    obtain ⟨i, hi, rfl, hR⟩ := hrel
    by_cases hlt : i < n
    · obtain ⟨cs, hx⟩ : ∃ cs, css[i]? = some cs := ⟨_, List.getElem?_eq_getElem (by omega)⟩
      obtain ⟨b, off, cap', he, hb, hk⟩ := row_at (HF.out.grow hR.out.2) hs (by omega) hx
      cases he
      have hcall := Hp.out wr i _ hx hR.out.2
      have hlen := hs _ (List.mem_of_getElem? hx)
      obtain ⟨c0, rfl⟩ : ∃ c0, cs = [c0] := by
        match cs, hlen with
        | [c0], _ => exact ⟨c0, rfl⟩
      have k0 := hk 0 _ rfl
      simp only [Nat.add_zero, Nat.mul_one] at k0
      clear hk hx hlen
      have Hq : Hid (∀ b, q i = b → (b = true → fstI q n = i) ∧ (b = false → ∀ j, j < i + 1 → q j = false)) := fun b hb => ⟨fun h => fstI_hit hlt (hb.trans h) hR.out.1, fun h j hj => by
        by_cases e : j = i
        · subst e; exact hb.trans h
        · exact hR.out.1 j (by omega)⟩
      generalize q i = c at hcall Hq
      cases c with
      | true =>
        have E := hid ((Hq.out true rfl).1 rfl)
        go_wp2_with (go_at_fn g; refine hcall.mono ?_; rintro e w' ⟨rfl, hb'⟩)
        go_ret
        rw [E.out]
        exact ⟨rfl, hR.out.2.trans (hb'.mono hR.out.2.size)⟩
      | false =>
        have E := hid ((Hq.out false rfl).2 rfl)
        go_wp2_with (go_at_fn g; refine hcall.mono ?_; rintro e w' ⟨rfl, hb'⟩)
        go_roundw
        case rel => exact ⟨i + 1, by omega, by go_num, E.out, hR.out.2.trans (hb'.mono hR.out.2.size)⟩
        case measure => simp [intOf]; omega
    · obtain rfl : i = n := by omega
      have E := hid (fstI_miss hR.out.1)
      go_wp2
      go_ret
      rw [E.out]
      exact ⟨rfl, hR.out.2⟩
end Go.Proofs.YtjkbfoeakeoeiaaGreat
