/- Keep: contracts (Cc Ce Cm Lb Lc). -/
import Derived.Test.YthikijlbclckdaaGreatT17
import Derived.Test.YthikijlbclckdaaGreatT18
import Derived.Test.YthikijlbclckdaaGreatT20
import Derived.Laws.StructEq
namespace Go.Proofs.YthikijlbclckdaaGreat
set_option maxRecDepth 100000
set_option maxHeartbeats 40000000
set_option linter.unusedSimpArgs false
set_option linter.unusedVariables false
open Go.RowKit
end Go.Proofs.YthikijlbclckdaaGreat
namespace Go.Proofs.YthikijlbclckdaaGreat
set_option maxRecDepth 100000
set_option maxHeartbeats 40000000
set_option linter.unusedSimpArgs false
set_option linter.unusedVariables false
open Go.RowKit
theorem chg_at {w : World} {v : Value} {n : Nat} {l : List ChgV} (h : FlatAt 3 w v n (chgsC l)) {i : Nat} {r : ChgV} (hr : l[i]? = some r) : ∃ b off cap, v = .slice (some ⟨b, off, none⟩) n cap ∧ w.cell? ⟨b, off + i * 3, none⟩ = some (.string r.key) ∧ w.cell? ⟨b, off + i * 3 + 1, none⟩ = some (.string r.s) ∧ w.cell? ⟨b, off + i * 3 + 2, none⟩ = some (.bool r.gone) := by
 obtain ⟨a, cap, rfl, h1, h2, h3, h4⟩ := h
 have hc : ∀ (l : List ChgV) (i : Nat) (r : ChgV), l[i]? = some r → (chgsC l)[i * 3]? = some (.string r.key) ∧ (chgsC l)[i * 3 + 1]? = some (.string r.s) ∧ (chgsC l)[i * 3 + 2]? = some (.bool r.gone) := by
  intro l
  induction l with
  | nil => intro i r h; cases h
  | cons x l ih =>
   intro i r h
   cases i with
   | zero =>
    obtain rfl : x = r := by simpa using h
    exact ⟨rfl, rfl, rfl⟩
   | succ i =>
    have := ih i r (by simpa using h)
    have e : (i + 1) * 3 = i * 3 + 1 + 1 + 1 := by omega
    rw [e]
    exact this
 obtain ⟨c0, c1, c2⟩ := hc l i r hr
 obtain ⟨b, off, rfl, d0⟩ := h4 _ _ c0
 obtain ⟨b1, off1, e1, d1⟩ := h4 _ _ c1
 obtain ⟨b2, off2, e2, d2⟩ := h4 _ _ c2
 cases e1
 cases e2
 exact ⟨b, off, cap, rfl, d0, d1, d2⟩
theorem chgF_st (l : List ChgV) : ∀ (u : Value) (w w' : World), chgF l u w → Below w.heap.size w w' → chgF l u w' := fun _ _ _ h hb => FlatAt.grow h hb
theorem over_st (l : List RowV) : ∀ (u : Value) (w w' : World), (∃ kb vb, u = overV kb vb ∧ OverAt w kb vb l) → Below w.heap.size w w' → ∃ kb vb, u = overV kb vb ∧ OverAt w' kb vb l := fun _ _ _ ⟨kb, vb, e, h⟩ hb => ⟨kb, vb, e, h.grow hb⟩
end Go.Proofs.YthikijlbclckdaaGreat
namespace Go.Proofs.YthikijlbclckdaaGreat
set_option maxRecDepth 100000
set_option maxHeartbeats 40000000
set_option linter.unusedSimpArgs false
set_option linter.unusedVariables false
open Go.RowKit
theorem up_ris {l : List RowV} (h : Up l) : risL l = l := by
 suffices hh : ∀ (l acc : List RowV), Up (acc ++ l) → l.foldl risF acc = acc ++ l from hh l [] h
 intro l
 induction l with
 | nil => intro acc _; simp
 | cons x l ih =>
  intro acc h
  have e : risF acc x = acc ++ [x] := by
   unfold risF
   split
   ·
    rfl
   ·
    rename_i q hq
    obtain ⟨ys, rfl⟩ := List.getLast?_eq_some_iff.1 hq
    rw [if_pos ((List.pairwise_append.1 h).2.2 q (by simp) x (by simp))]
  rw [List.foldl_cons, e, ih (acc ++ [x]) (by rw [List.append_assoc]; exact h), List.append_assoc]
  rfl
theorem merge_self : ∀ l : List RowV, mergeC l l = []
 | [] => by rw [mergeC]
 | x :: l => by rw [mergeC, if_neg (by rw [clt_irr]; decide), if_pos rfl, if_pos rfl, merge_self l]
def doF (c : ChgV) (a : List RowV × Bool) (x : RowV) : List RowV × Bool :=
 if x.1 = c.key then a else if a.2 = false ∧ ltS c.key x.1 = true then (a.1 ++ [(c.key, c.s)] ++ [x], true) else (a.1 ++ [x], a.2)
def doL (c : ChgV) (l : List RowV) : List RowV × Bool := l.foldl (doF c) ([], c.gone)
def doOne (l : List RowV) (c : ChgV) : List RowV := if (doL c l).2 = true then (doL c l).1 else (doL c l).1 ++ [(c.key, c.s)]
theorem doL_snoc (c : ChgV) (l : List RowV) (x : RowV) : doL c (l ++ [x]) = doF c (doL c l) x := by unfold doL; rw [List.foldl_append]; rfl
theorem do_pre {c : ChgV} : ∀ (pre acc : List RowV) (d : Bool), (∀ p ∈ pre, ltS p.1 c.key = true) → pre.foldl (doF c) (acc, d) = (acc ++ pre, d)
 | [], acc, d, _ => by simp
 | x :: pre, acc, d, h => by
  have hx := h x (by simp)
  have hn : ltS c.key x.1 = false := by
   cases h2 : ltS c.key x.1 with
   | false => rfl
   | true => have := clt_trans hx h2; rw [clt_irr] at this; cases this
  have e : doF c (acc, d) x = (acc ++ [x], d) := by
   unfold doF
   rw [if_neg (clt_ne hx), if_neg (by rw [hn]; simp)]
  rw [List.foldl_cons, e, do_pre pre _ d (fun p hp => h p (List.mem_cons_of_mem _ hp)), List.append_assoc]
  rfl
theorem do_post {c : ChgV} : ∀ (l acc : List RowV), (∀ p ∈ l, ltS c.key p.1 = true) → l.foldl (doF c) (acc, true) = (acc ++ l, true)
 | [], acc, _ => by simp
 | x :: l, acc, h => by
  have hx := h x (by simp)
  have e : doF c (acc, true) x = (acc ++ [x], true) := by
   unfold doF
   rw [if_neg (clt_ne hx).symm, if_neg (by simp)]
  rw [List.foldl_cons, e, do_post l _ (fun p hp => h p (List.mem_cons_of_mem _ hp)), List.append_assoc]
  rfl
theorem do_skip (c : ChgV) (a : List RowV × Bool) (x : RowV) (h : x.1 = c.key) : doF c a x = a := by unfold doF; rw [if_pos h]
theorem do_gone {pre a : List RowV} {x : RowV} (h1 : ∀ p ∈ pre, ltS p.1 x.1 = true) (h2 : ∀ p ∈ a, ltS x.1 p.1 = true) : doOne (pre ++ x :: a) (goneC x) = pre ++ a := by
 have e : doL (goneC x) (pre ++ x :: a) = (pre ++ a, true) := by
  unfold doL
  rw [List.foldl_append, do_pre (c := goneC x) pre [] _ h1, List.foldl_cons, do_skip (goneC x) _ x rfl]
  exact do_post (c := goneC x) a _ h2
 unfold doOne
 rw [e]
 rfl
theorem do_late {acc a : List RowV} {y : RowV} (h2 : ∀ p ∈ a, ltS y.1 p.1 = true) : (if (a.foldl (doF (newC y)) (acc, false)).2 = true then (a.foldl (doF (newC y)) (acc, false)).1 else (a.foldl (doF (newC y)) (acc, false)).1 ++ [y]) = acc ++ y :: a := by
 cases a with
 | nil => rfl
 | cons z a =>
  have hz := h2 z (by simp)
  have e : doF (newC y) (acc, false) z = (acc ++ [y] ++ [z], true) := by
   unfold doF
   rw [if_neg (show ¬ z.1 = (newC y).key from (clt_ne hz).symm), if_pos (show (acc, false).2 = false ∧ ltS (newC y).key z.1 = true from ⟨rfl, hz⟩)]
   rfl
  rw [List.foldl_cons, e, do_post (c := newC y) a _ (fun p hp => h2 p (List.mem_cons_of_mem _ hp))]
  rw [if_pos rfl]
  simp
theorem do_new {pre a : List RowV} {y : RowV} (h1 : ∀ p ∈ pre, ltS p.1 y.1 = true) (h2 : ∀ p ∈ a, ltS y.1 p.1 = true) : doOne (pre ++ a) (newC y) = pre ++ y :: a := by
 have e : doL (newC y) (pre ++ a) = a.foldl (doF (newC y)) (pre, false) := by
  unfold doL
  rw [List.foldl_append, do_pre (c := newC y) pre [] _ h1]
  rfl
 have h := do_late (acc := pre) h2
 unfold doOne
 rw [e]
 exact h
theorem do_over {pre a : List RowV} {x y : RowV} (he : x.1 = y.1) (h1 : ∀ p ∈ pre, ltS p.1 y.1 = true) (h2 : ∀ p ∈ a, ltS y.1 p.1 = true) : doOne (pre ++ x :: a) (newC y) = pre ++ y :: a := by
 have e : doL (newC y) (pre ++ x :: a) = a.foldl (doF (newC y)) (pre, false) := by
  unfold doL
  rw [List.foldl_append, do_pre (c := newC y) pre [] _ h1, List.foldl_cons, do_skip (newC y) _ x he]
  rfl
 have h := do_late (acc := pre) h2
 unfold doOne
 rw [e]
 exact h
theorem moves_pre : ∀ (a b pre : List RowV), Up a → Up b → (∀ p ∈ pre, ∀ z ∈ a, ltS p.1 z.1 = true) → (∀ p ∈ pre, ∀ z ∈ b, ltS p.1 z.1 = true) → (mergeC a b).foldl doOne (pre ++ a) = pre ++ b := by
 intro a b
 induction a, b using mergeC.induct with
 | case1 => intro pre _ _ _ _; rw [mergeC]; rfl
 | case2 x a ih =>
  intro pre ha hb h1 h2
  rw [mergeC, List.foldl_cons, do_gone (fun p hp => h1 p hp x (by simp)) ha.head]
  exact ih pre ha.tail hb (fun p hp z hz => h1 p hp z (List.mem_cons_of_mem _ hz)) h2
 | case3 y b ih =>
  intro pre ha hb h1 h2
  rw [mergeC, List.foldl_cons, do_new (fun p hp => h2 p hp y (by simp)) (by simp)]
  have := ih (pre ++ [y]) ha hb.tail (by simp) (fun p hp z hz => by
   rcases List.mem_append.1 hp with hp | hp
   ·
    exact h2 p hp z (List.mem_cons_of_mem _ hz)
   ·
    obtain rfl : p = y := by simpa using hp
    exact hb.head z hz)
  simpa using this
 | case4 x a y b h ih =>
  intro pre ha hb h1 h2
  rw [mergeC, if_pos h, List.foldl_cons, do_gone (fun p hp => h1 p hp x (by simp)) ha.head]
  exact ih pre ha.tail hb (fun p hp z hz => h1 p hp z (List.mem_cons_of_mem _ hz)) h2
 | case5 x a y b h h3 h4 ih =>
  intro pre ha hb h1 h2
  obtain rfl : x = y := Prod.ext h3 h4
  rw [mergeC, if_neg h, if_pos rfl, if_pos rfl]
  have := ih (pre ++ [x]) ha.tail hb.tail (fun p hp z hz => by
   rcases List.mem_append.1 hp with hp | hp
   ·
    exact h1 p hp z (List.mem_cons_of_mem _ hz)
   ·
    obtain rfl : p = x := by simpa using hp
    exact ha.head z hz) (fun p hp z hz => by
   rcases List.mem_append.1 hp with hp | hp
   ·
    exact h2 p hp z (List.mem_cons_of_mem _ hz)
   ·
    obtain rfl : p = x := by simpa using hp
    exact hb.head z hz)
  simpa using this
 | case6 x a y b h h3 h4 ih =>
  intro pre ha hb h1 h2
  have hya : ∀ z ∈ a, ltS y.1 z.1 = true := fun z hz => by rw [← h3]; exact ha.head z hz
  rw [mergeC, if_neg h, if_pos h3, if_neg h4, List.foldl_cons, do_over h3 (fun p hp => h2 p hp y (by simp)) hya]
  have := ih (pre ++ [y]) ha.tail hb.tail (fun p hp z hz => by
   rcases List.mem_append.1 hp with hp | hp
   ·
    exact h1 p hp z (List.mem_cons_of_mem _ hz)
   ·
    obtain rfl : p = y := by simpa using hp
    exact hya z hz) (fun p hp z hz => by
   rcases List.mem_append.1 hp with hp | hp
   ·
    exact h2 p hp z (List.mem_cons_of_mem _ hz)
   ·
    obtain rfl : p = y := by simpa using hp
    exact hb.head z hz)
  simpa using this
 | case7 x a y b h h3 ih =>
  intro pre ha hb h1 h2
  have hyx : ltS y.1 x.1 = true := clt_tri (by simpa using h) h3
  have hya : ∀ z ∈ x :: a, ltS y.1 z.1 = true := fun z hz => by
   rcases List.mem_cons.1 hz with rfl | hz
   ·
    exact hyx
   ·
    exact clt_trans hyx (ha.head z hz)
  rw [mergeC, if_neg h, if_neg h3, List.foldl_cons, do_new (fun p hp => h2 p hp y (by simp)) hya]
  have := ih (pre ++ [y]) ha hb.tail (fun p hp z hz => by
   rcases List.mem_append.1 hp with hp | hp
   ·
    exact h1 p hp z hz
   ·
    obtain rfl : p = y := by simpa using hp
    exact hya z hz) (fun p hp z hz => by
   rcases List.mem_append.1 hp with hp | hp
   ·
    exact h2 p hp z (List.mem_cons_of_mem _ hz)
   ·
    obtain rfl : p = y := by simpa using hp
    exact hb.head z hz)
  simpa using this
theorem moves {a b : List RowV} (ha : Up a) (hb : Up b) : (mergeC a b).foldl doOne a = b := moves_pre a b [] ha hb (by simp) (by simp)
end Go.Proofs.YthikijlbclckdaaGreat
namespace Go.Proofs.YthikijlbclckdaaGreat
set_option maxRecDepth 100000
set_option maxHeartbeats 40000000
set_option linter.unusedSimpArgs false
set_option linter.unusedVariables false
open Go.RowKit
structure Stp where
 s : StateV
 r : RdV
 bad : Bool
def instsL : Nat → RdV → List Nat → List Nat × RdV
 | 0, r, l => (l, r)
 | n + 1, r, l => if r.e = 0 then instsL n (uintR r).2 (l ++ [(uintR r).1]) else (l, r)
def takeInsts (r : RdV) : List Nat × RdV := instsL (uintR r).1 (uintR r).2 []
def varsOf (r : RdV) : List VarV := (takeVars r).1.getD []
def varsBad (r : RdV) : Bool := !(takeVars r).1.isSome
def stepA (s : StateV) (r : RdV) : Stp := ⟨{ s with pos := (uintR r).1, done := (uintR (uintR r).2).1, made := (uintR (uintR (uintR r).2).2).1 }, (uintR (uintR (uintR r).2).2).2, false⟩
def stepG (k : Nat) (s : StateV) (r : RdV) : Stp :=
 let a := textR 16384 r
 let b := textR 16384 a.2
 let c := textR 16384 b.2
 let d := intR c.2
 let e := takeInsts (takeVars d.2).2
 ⟨{ s with msgs := s.msgs ++ [⟨k, a.1, b.1, c.1, d.1, varsOf d.2, e.1⟩] }, e.2, varsBad d.2⟩
def stepI (k : Nat) (s : StateV) (r : RdV) : Stp :=
 let a := textR 16384 r
 ⟨{ s with insts := s.insts ++ [⟨k, a.1, varsOf a.2⟩] }, (takeVars a.2).2, varsBad a.2⟩
def stepJ (k : Nat) (s : StateV) (r : RdV) : Stp :=
 let a := uintR r
 let b := textR 16384 a.2
 let c := intR b.2
 let d := textR 16384 c.2
 let e := intR d.2
 ⟨{ s with jobs := s.jobs ++ [⟨k, a.1, b.1, c.1, d.1, e.1⟩] }, e.2, false⟩
def stepK (k : Nat) (node : Int) (s : StateV) (r : RdV) : Stp :=
 let a := uintR r
 ⟨{ s with kept := s.kept ++ [⟨k, a.1, node⟩] }, a.2, false⟩
def stepL (k : Nat) (node : Int) (s : StateV) (r : RdV) : Stp :=
 let a := uintR r
 let b := textR 16384 a.2
 let c := textR 16384 b.2
 let d := uintR c.2
 ⟨{ s with listed := s.listed ++ [⟨k, a.1, node, b.1, c.1, d.1, varsOf d.2⟩] }, (takeVars d.2).2, varsBad d.2⟩
def stepP (id : ByteArray) (s : StateV) (r : RdV) : Stp :=
 let a := textR 16384 r
 ⟨{ s with procs := s.procs ++ [⟨id, a.1⟩] }, a.2, false⟩
def stepR (k : Nat) (node : Int) (s : StateV) (r : RdV) : Stp :=
 let a := intR r
 ⟨{ s with timers := s.timers ++ [⟨k, node, a.1⟩] }, a.2, false⟩
def stepS (k : Nat) (node : Int) (s : StateV) (r : RdV) : Stp :=
 let a := uintR r
 let b := textR 16384 a.2
 let c := textR 16384 b.2
 let d := intR c.2
 ⟨{ s with subs := s.subs ++ [⟨k, a.1, node, b.1, c.1, d.1 == 1⟩] }, d.2, d.1 != 0 && d.1 != 1⟩
def stepT (k : Nat) (s : StateV) (r : RdV) : Stp :=
 let a := uintR r
 let b := uintR a.2
 let c := intR b.2
 let d := intR c.2
 let e := textR 16384 d.2
 ⟨{ s with tokens := s.tokens ++ [⟨k, a.1, b.1, c.1, d.1, e.1⟩] }, e.2, false⟩
theorem intR_in (r : RdV) : -9223372036854775808 ≤ (intR r).1 ∧ (intR r).1 ≤ 9223372036854775807 := sgn_in (uintR_lt r)
theorem uintR_size (r : RdV) : (uintR r).2.s.size ≤ r.s.size := takeR_size _ _ _
theorem intR_size (r : RdV) : (intR r).2.s.size ≤ r.s.size := takeR_size _ _ _
theorem textR_sz (m : Int) (r : RdV) : (textR m r).2.s.size ≤ r.s.size := takeR_size _ _ _
theorem varsL_size : ∀ (n : Nat) (r : RdV) (l : List VarV), (varsL n r l).2.s.size ≤ r.s.size
 | 0, r, l => Nat.le_refl _
 | n + 1, r, l => by
  have h1 : (takeV (textR 32 r).2).2.s.size ≤ r.s.size := Nat.le_trans (takeV_size _) (textR_sz 32 r)
  simp only [varsL]
  split
  ·
   exact Nat.le_trans (varsL_size n _ _) h1
  ·
   exact h1
theorem takeVars_size (r : RdV) : (takeVars r).2.s.size ≤ r.s.size := by
 have h1 := uintR_size r
 have h2 := varsL_size (uintR r).1 (uintR r).2 []
 unfold takeVars
 split
 ·
  exact h1
 ·
  split
  ·
   rename_i h
   rw [h] at h2
   split <;> exact Nat.le_trans h2 h1
  ·
   rename_i h
   rw [h] at h2
   exact Nat.le_trans h2 h1
theorem TakAt.c {w : World} {xb sb rb k : Nat} {node : Int} {id : ByteArray} {odd : Bool} (h : TakAt w xb sb rb k node id odd) : w.cell? ⟨xb, 4, none⟩ = some (.pointer (some ⟨rb, 0, none⟩)) := cell_of h 4
theorem takText_any (xb sb rb k : Nat) (node : Int) (id : ByteArray) (odd : Bool) (r : RdV) (w : World) (hx : TakAt w xb sb rb k node id odd) (hr : IsR 168 w rb r) (hsz : r.s.size ≤ 140737488355328) :
  Calls Tryz.prog 89 #[.pointer (some ⟨xb, 0, none⟩)] w fun e w' => e = .returned (.string (textR 16384 r).1) ∧ IsR 168 w' rb (textR 16384 r).2 ∧ Rb rb w w' := by
 have Hc := hid (rdText_any rb r w hr hsz 16384 (by omega) (by omega))
 have q := hx.c
 clear hx hr
 go_enter Tryz.func89, Tryz.ntmps89
 go_wp2_with fail
 refine Hc.out.mono ?_
 rintro e1 w1 ⟨rfl, h1, b1⟩
 have H1 := hid h1
 have B1 := hid b1
 clear h1 b1
 go_wp2
 go_ret
 exact ⟨rfl, H1.out, B1.out⟩
theorem takVars_any (xb sb rb k : Nat) (node : Int) (id : ByteArray) (odd : Bool) (r : RdV) (w : World) (hx : TakAt w xb sb rb k node id odd) (hr : IsR 168 w rb r) (hsz : r.s.size ≤ 140737488355328) :
  Calls Tryz.prog 91 #[.pointer (some ⟨xb, 0, none⟩)] w fun e w' => ∃ v, e = .returned v ∧ VarsOwn w' w.heap.size v (varsOf r) ∧ TakAt w' xb sb rb k node id (odd || varsBad r) ∧ IsR 168 w' rb (takeVars r).2 ∧ But (fun b => b = rb ∨ b = xb) w w' ∧ ∀ i v, i < 5 → w.cell? ⟨xb, i, none⟩ = some v → w'.cell? ⟨xb, i, none⟩ = some v := by
 have Hc := hid (takeVars_any rb r w hr hsz)
 have q := hx.c
 have n1 : xb ≠ rb := ty_ne hx hr (by decide)
 have l1 := heap_lt hx
 have Hx := hid hx
 clear hx hr
 go_enter Tryz.func91, Tryz.ntmps91
 go_wp2_with fail
 refine Hc.out.mono ?_
 rintro e1 w1 ⟨v, rfl, hv, h1, b1⟩
 obtain ⟨av, cv, rfl⟩ := own_slice hv
 have Hv := hid hv
 have H1 := hid h1
 have B1 := hid b1
 have Hx1 := hid (b1.at Hx.out n1)
 clear hv h1 b1 q
 have q5 := cell_of Hx1.out 5
 have f5 := free_of Hx1.out 5
 have hx2 := setCell_at Hx1.out 5 (.bool (odd || varsBad r))
 have hb2 := Rb.set (w := w1) xb 5 (.bool (odd || varsBad r))
 have Hend : Hid (VarsOwn (w1.setCell ⟨xb, 5, none⟩ (.bool (odd || varsBad r))) w.heap.size (.slice av (varsOf r).length cv) (varsOf r) ∧ TakAt (w1.setCell ⟨xb, 5, none⟩ (.bool (odd || varsBad r))) xb sb rb k node id (odd || varsBad r) ∧ IsR 168 (w1.setCell ⟨xb, 5, none⟩ (.bool (odd || varsBad r))) rb (takeVars r).2 ∧ But (fun b => b = rb ∨ b = xb) w (w1.setCell ⟨xb, 5, none⟩ (.bool (odd || varsBad r))) ∧ ∀ i v, i < 5 → w.cell? ⟨xb, i, none⟩ = some v → (w1.setCell ⟨xb, 5, none⟩ (.bool (odd || varsBad r))).cell? ⟨xb, i, none⟩ = some v) :=
  ⟨own_rb Hv.out hb2 l1, hx2, hb2.at H1.out (Ne.symm n1), (B1.out.mono (fun _ _ h => .inl h)).trans (hb2.mono (fun _ _ h => .inr h)), fun i v hi hc => by
   rw [cell_of hx2 i]
   rw [cell_of Hx.out i] at hc
   rw [Array.getElem?_setIfInBounds_ne (by omega)]
   rw [← hc]⟩
 clear hx2 hb2
 cases odd with
 | true =>
  go_wp2
  go_ret
  exact ⟨_, rfl, Hend.out⟩
 | false =>
  unfold varsBad at Hend
  cases hb : (takeVars r).1.isSome with
  | true =>
   rw [hb] at Hend
   go_wp2
   go_ret
   exact ⟨_, rfl, by unfold varsBad; rw [hb]; exact Hend.out⟩
  | false =>
   rw [hb] at Hend
   go_wp2
   go_ret
   exact ⟨_, rfl, by unfold varsBad; rw [hb]; exact Hend.out⟩
end Go.Proofs.YthikijlbclckdaaGreat
namespace Go.Proofs.YthikijlbclckdaaGreat
set_option maxRecDepth 100000
set_option maxHeartbeats 40000000
set_option linter.unusedSimpArgs false
set_option linter.unusedVariables false
open Go.RowKit
theorem uintR_less (r : RdV) (h : (uintR r).2.e = 0) : (uintR r).2.s.size + 1 ≤ r.s.size := by
 obtain ⟨h1, h2, h3⟩ := uintR_e r h
 have := (numS_ok r.s).pos h2
 have := numS_len r.s
 rw [h3]
 show (r.s.extract (numS r.s).2.1 r.s.size).size + 1 ≤ _
 rw [extract_size]
 omega
theorem info_u64 : (Tryz.prog.info? 22).map (fun i => (i.zero, i.size, i.bytes)) = some (some (.int .u64 0), 1, 8) := by kernel_rfl
theorem natsV_snoc (l : List Nat) (n : Nat) : natsV (l ++ [n]) = natsV l ++ [U n] := by simp [natsV]
theorem takInsts_any (xb sb rb k : Nat) (node : Int) (id : ByteArray) (odd : Bool) (r : RdV) (w : World) (hx : TakAt w xb sb rb k node id odd) (hr : IsR 168 w rb r) (hsz : r.s.size ≤ 1099511627776) :
  Calls Tryz.prog 92 #[.pointer (some ⟨xb, 0, none⟩)] w fun e w' => ∃ v, e = .returned v ∧ NatsOwn w' w.heap.size v (takeInsts r).1 ∧ IsR 168 w' rb (takeInsts r).2 ∧ Rb rb w w' := by
 have n1 : xb ≠ rb := ty_ne hx hr (by decide)
 have l1 : rb < w.heap.size := heap_lt hr
 have Hx := hid hx
 have hc := rdUint_any rb r w hr (by omega)
 have hz1 := uintR_size r
 have hT : takeInsts r = instsL (uintR r).1 (uintR r).2 [] := rfl
 have hv := uintR_lt r
 have q := hx.c
 rw [hT]
 clear hT
 revert hc hz1 hv
 generalize uintR r = p
 obtain ⟨n, r1⟩ := p
 intro hc hz1 hv
 dsimp only at hc hz1 hv ⊢
 have Hc := hid hc
 clear hx hr hc
 go_enter Tryz.func92, Tryz.ntmps92
 go_wp2_with fail
 refine Hc.out.mono ?_
 rintro e1 w1 ⟨rfl, h1, b1⟩
 have H1 := hid h1
 have B1 := hid b1
 clear h1 b1 Hc q
 go_wp2
 go_loopw [3, 4] (fun vo vi wr => ∃ (m : Nat) (r' : RdV) (l : List Nat), vi = .int .u64 m ∧ m < 18446744073709551616 ∧ r'.s.size ≤ 1099511627776 ∧
  Hid ((r'.e = 0 → l.length + r'.s.size ≤ 1099511627776) ∧ wr.ownsRow w.heap.size 22 1 vo l.length (natsV l) ∧ IsR 168 wr rb r' ∧ Rb rb w wr ∧ instsL m r' l = instsL n r1 [])) (fun _ vi _ => (intOf vi).toNat)
 case atStart => exact ⟨n, r1, [], rfl, hv, by omega, fun _ => by simp; omega, ⟨rfl, .inl ⟨rfl, rfl⟩⟩, H1.out, B1.out, rfl⟩
 case round =>
  obtain ⟨m, r', l, rfl, hm, hs', hR⟩ := hrel
  obtain ⟨ao, co, rfl⟩ := own_slice hR.out.2.1
  have Hx' := hid (hR.out.2.2.2.1.at Hx.out n1)
  have q := TakAt.c Hx'.out
  by_cases h0 : m = 0
  ·
   subst h0
   have hE := hid (show (l, r') = instsL n r1 [] from hR.out.2.2.2.2)
   go_wp2
   go_ret
   exact ⟨_, rfl, by rw [← hE.out]; exact hR.out.2.1, by rw [← hE.out]; exact hR.out.2.2.1, hR.out.2.2.2.1⟩
  ·
   have h0' : decide (0 < (m : Int)) = true := by simp; omega
   obtain ⟨m', rfl⟩ : ∃ m', m = m' + 1 := ⟨m - 1, by omega⟩
   by_cases he : r'.e = 0
   ·
    have he' : (r'.e == 0) = true := by simpa using he
    have hl := hR.out.1 he
    have hE := hid ((if_pos he : instsL (m' + 1) r' l = instsL m' (uintR r').2 (l ++ [(uintR r').1])).symm.trans hR.out.2.2.2.2)
    have hless := hid (uintR_less r')
    have hz2 := uintR_size r'
    have hv2 := uintR_lt r'
    have Hc2 := hid (fun W h => rdUint_any rb r' W h (by omega))
    clear he
    go_wp2_with fail
    refine (rdErr_any rb r' _ hR.out.2.2.1).mono ?_
    rintro e1 w2 ⟨rfl, rfl⟩
    go_wp2_with fail
    refine (Hc2.out _ hR.out.2.2.1).mono ?_
    revert hE hless hz2 hv2
    generalize uintR r' = p
    obtain ⟨u, r2⟩ := p
    intro hE hless hz2 hv2
    dsimp only at hE hless hz2 hv2 ⊢
    rintro e1 w3 ⟨rfl, h3, b3⟩
    have H3 := hid h3
    have B3 := hid (hR.out.2.2.2.1.trans b3)
    have O3 := hid (own_rb hR.out.2.1 b3 l1)
    clear h3 b3
    go_wp2_with (at_builtin; refine app1k 116 22 Tryz.underlying116 info_u64 rfl (by decide) O3.out (by have := B3.out.size; omega) (by unfold maxLen; omega) (by omega) rfl rfl rfl rfl (by simp) rfl (by simp [Value.oneCell']) ?_; intro v' w5 hown5 hb5 hg5)
    have hob : ∀ k, ownB (.slice ao l.length co) k → w.heap.size ≤ k := fun k hk => (O3.out.lt k hk).1
    have H5 : IsR 168 w5 rb r2 := (hb5.block rb (heap_lt H3.out) (fun hk => by have := hob rb hk; omega)).trans H3.out
    have B5 : Rb rb w w5 := B3.out.trans' hb5 (fun k hk ho => by have := hob k ho; omega)
    exact ⟨⟨m', r2, l ++ [u], rfl, by omega, by omega, fun he => by have := hless.out he; simp; omega, by simpa [natsV_snoc] using hown5, H5, B5, hE.out⟩, by simp [intOf]⟩
   ·
    have he' : (r'.e == 0) = false := by simpa using he
    have hE := hid ((if_neg he : instsL (m' + 1) r' l = (l, r')).symm.trans hR.out.2.2.2.2)
    clear he
    go_wp2_with fail
    refine (rdErr_any rb r' _ hR.out.2.2.1).mono ?_
    rintro e1 w2 ⟨rfl, rfl⟩
    go_wp2
    go_ret
    exact ⟨_, rfl, by rw [← hE.out]; exact hR.out.2.1, by rw [← hE.out]; exact hR.out.2.2.1, hR.out.2.2.2.1⟩
end Go.Proofs.YthikijlbclckdaaGreat
