/- Rkback: contracts (Sn Ky Kv Bd Ru). -/
import Derived.Test.YthikijlbclckdaaGreatQ27
import Derived.Test.YthikijlbclckdaaGreatQ28
import Derived.Test.YthikijlbclckdaaGreatQ10
import Derived.Test.YthikijlbclckdaaGreatQ11
import Derived.Test.YthikijlbclckdaaGreatQ24
import Derived.Test.YthikijlbclckdaaGreatQ23
import Derived.Test.YthikijlbclckdaaGreatQ22
import Derived.Test.YthikijlbclckdaaGreatP1
import Derived.Test.YthikijlbclckdaaGreatQ1
import Derived.Test.YthikijlbclckdaaGreatRows
import Derived.Deep.Slices
import Derived.ProofKit
import Derived.SizedLaws
namespace Go.Proofs.YthikijlbclckdaaGreat
set_option maxRecDepth 100000
set_option maxHeartbeats 40000000
set_option linter.unusedSimpArgs false
set_option linter.unusedVariables false
open Go.RowKit
theorem same13_not (s t : StateV) (hne : s.pos ≠ t.pos ∨ s.done ≠ t.done ∨ s.made ≠ t.made ∨ s.procs.length ≠ t.procs.length ∨ s.insts.length ≠ t.insts.length ∨ s.tokens.length ≠ t.tokens.length ∨ s.jobs.length ≠ t.jobs.length ∨ s.timers.length ≠ t.timers.length ∨ s.subs.length ≠ t.subs.length ∨ s.kept.length ≠ t.kept.length ∨ s.listed.length ≠ t.listed.length ∨ s.msgs.length ≠ t.msgs.length) (cs1 cs2 : List Value) (vp vi vt vj vr vs vk vl vm yp yi yt yj yr ys yk yl ym : Value) (w : World) (h1 : StateAt w cs1 s vp vi vt vj vr vs vk vl vm) (h2 : StateAt w cs2 t yp yi yt yj yr ys yk yl ym) :
  Calls Tryz.prog 22 #[.agg cs1.toArray, .agg cs2.toArray] w fun e w' => e = .returned (.bool false) ∧ Below w.heap.size w w' := by
 replace hne := hid hne
 have H1 := hid h1
 obtain ⟨rfl, hp, hi, ht, hj, hr, hs, hk, hl, hm⟩ := h1
 obtain ⟨ap1, cp1, rfl, -, mp1, -⟩ := hp
 obtain ⟨ai1, ci1, rfl, -, mi1, -⟩ := hi
 obtain ⟨at1, ct1, rfl, -, mt1, -⟩ := ht
 obtain ⟨aj1, cj1, rfl, -, mj1, -⟩ := hj
 obtain ⟨ar1, cr1, rfl, -, mr1, -⟩ := hr
 obtain ⟨as1, cs1, rfl, -, ms1, -⟩ := hs
 obtain ⟨ak1, ck1, rfl, -, mk1, -⟩ := hk
 obtain ⟨al1, cl1, rfl, -, ml1, -⟩ := hl
 obtain ⟨am1, cm1, rfl, -, mm1, -⟩ := hm
 have H2 := hid h2
 obtain ⟨rfl, hp, hi, ht, hj, hr, hs, hk, hl, hm⟩ := h2
 obtain ⟨ap2, cp2, rfl, -, mp2, -⟩ := hp
 obtain ⟨ai2, ci2, rfl, -, mi2, -⟩ := hi
 obtain ⟨at2, ct2, rfl, -, mt2, -⟩ := ht
 obtain ⟨aj2, cj2, rfl, -, mj2, -⟩ := hj
 obtain ⟨ar2, cr2, rfl, -, mr2, -⟩ := hr
 obtain ⟨as2, cs2, rfl, -, ms2, -⟩ := hs
 obtain ⟨ak2, ck2, rfl, -, mk2, -⟩ := hk
 obtain ⟨al2, cl2, rfl, -, ml2, -⟩ := hl
 obtain ⟨am2, cm2, rfl, -, mm2, -⟩ := hm
 unfold maxLen at mp1 mp2 mi1 mi2 mt1 mt2 mj1 mj2 mr1 mr2 ms1 ms2 mk1 mk2 ml1 ml2 mm1 mm2
 obtain ⟨CS1, hCS1⟩ : ∃ C : Array Value, C = #[U s.pos, U s.done, U s.made, .slice ap1 s.procs.length cp1, .slice ai1 s.insts.length ci1, .slice at1 s.tokens.length ct1, .slice aj1 s.jobs.length cj1, .slice ar1 s.timers.length cr1, .slice as1 s.subs.length cs1, .slice ak1 s.kept.length ck1, .slice al1 s.listed.length cl1, .slice am1 s.msgs.length cm1] := ⟨_, rfl⟩
 replace hCS1 := hid hCS1
 obtain ⟨CS2, hCS2⟩ : ∃ C : Array Value, C = #[U t.pos, U t.done, U t.made, .slice ap2 t.procs.length cp2, .slice ai2 t.insts.length ci2, .slice at2 t.tokens.length ct2, .slice aj2 t.jobs.length cj2, .slice ar2 t.timers.length cr2, .slice as2 t.subs.length cs2, .slice ak2 t.kept.length ck2, .slice al2 t.listed.length cl2, .slice am2 t.msgs.length cm2] := ⟨_, rfl⟩
 replace hCS2 := hid hCS2
 go_enter Tryz.func22, Tryz.ntmps22
 simp only [List.append_eq, List.cons_append, List.nil_append]
 have I0 : Hid (SB w CS1 CS2 ((w.alloc (.cells #[U s.pos, U s.done, U s.made, .slice ap1 s.procs.length cp1, .slice ai1 s.insts.length ci1, .slice at1 s.tokens.length ct1, .slice aj1 s.jobs.length cj1, .slice ar1 s.timers.length cr1, .slice as1 s.subs.length cs1, .slice ak1 s.kept.length ck1, .slice al1 s.listed.length cl1, .slice am1 s.msgs.length cm1] 33)).alloc (.cells #[U t.pos, U t.done, U t.made, .slice ap2 t.procs.length cp2, .slice ai2 t.insts.length ci2, .slice at2 t.tokens.length ct2, .slice aj2 t.jobs.length cj2, .slice ar2 t.timers.length cr2, .slice as2 t.subs.length cs2, .slice ak2 t.kept.length ck2, .slice al2 t.listed.length cl2, .slice am2 t.msgs.length cm2] 33))) := by
  rw [hCS1.out, hCS2.out]
  exact ⟨((Below.refl _ w).alloc (Nat.le_refl _) _).alloc (by simp) _, (alloc_old _ (by simp)).trans (alloc_new _ _), alloc_new2 _ _ _⟩
 by_cases e0 : s.pos = t.pos
 rotate_left 1
 ·
  have q0 : ((s.pos : Int) != (t.pos : Int)) = true := by simp; omega
  go_wp2
  go_ret
  exact ⟨rfl, I0.out.below⟩
 have q0 : ((s.pos : Int) != (t.pos : Int)) = false := by simp; omega
 replace e0 := hid e0
 by_cases e1 : s.done = t.done
 rotate_left 1
 ·
  have q1 : ((s.done : Int) != (t.done : Int)) = true := by simp; omega
  go_wp2
  go_ret
  exact ⟨rfl, I0.out.below⟩
 have q1 : ((s.done : Int) != (t.done : Int)) = false := by simp; omega
 replace e1 := hid e1
 by_cases e2 : s.made = t.made
 rotate_left 1
 ·
  have q2 : ((s.made : Int) != (t.made : Int)) = true := by simp; omega
  go_wp2
  go_ret
  exact ⟨rfl, I0.out.below⟩
 have q2 : ((s.made : Int) != (t.made : Int)) = false := by simp; omega
 replace e2 := hid e2
 by_cases e3 : s.procs.length = t.procs.length
 rotate_left 1
 ·
  have q3 : ((s.procs.length : Int) != (t.procs.length : Int)) = true := by simp; omega
  go_wp2
  go_ret
  exact ⟨rfl, I0.out.below⟩
 have q3 : ((s.procs.length : Int) != (t.procs.length : Int)) = false := by simp; omega
 replace e3 := hid e3
 by_cases e4 : s.insts.length = t.insts.length
 rotate_left 1
 ·
  have q4 : ((s.insts.length : Int) != (t.insts.length : Int)) = true := by simp; omega
  go_wp2
  go_ret
  exact ⟨rfl, I0.out.below⟩
 have q4 : ((s.insts.length : Int) != (t.insts.length : Int)) = false := by simp; omega
 replace e4 := hid e4
 by_cases e5 : s.tokens.length = t.tokens.length
 rotate_left 1
 ·
  have q5 : ((s.tokens.length : Int) != (t.tokens.length : Int)) = true := by simp; omega
  go_wp2
  go_ret
  exact ⟨rfl, I0.out.below⟩
 have q5 : ((s.tokens.length : Int) != (t.tokens.length : Int)) = false := by simp; omega
 replace e5 := hid e5
 by_cases e6 : s.jobs.length = t.jobs.length
 rotate_left 1
 ·
  have q6 : ((s.jobs.length : Int) != (t.jobs.length : Int)) = true := by simp; omega
  go_wp2
  go_ret
  exact ⟨rfl, I0.out.below⟩
 have q6 : ((s.jobs.length : Int) != (t.jobs.length : Int)) = false := by simp; omega
 replace e6 := hid e6
 by_cases e7 : s.timers.length = t.timers.length
 rotate_left 1
 ·
  have q7 : ((s.timers.length : Int) != (t.timers.length : Int)) = true := by simp; omega
  go_wp2
  go_ret
  exact ⟨rfl, I0.out.below⟩
 have q7 : ((s.timers.length : Int) != (t.timers.length : Int)) = false := by simp; omega
 replace e7 := hid e7
 by_cases e8 : s.subs.length = t.subs.length
 rotate_left 1
 ·
  have q8 : ((s.subs.length : Int) != (t.subs.length : Int)) = true := by simp; omega
  go_wp2
  go_ret
  exact ⟨rfl, I0.out.below⟩
 have q8 : ((s.subs.length : Int) != (t.subs.length : Int)) = false := by simp; omega
 replace e8 := hid e8
 by_cases e9 : s.kept.length = t.kept.length
 rotate_left 1
 ·
  have q9 : ((s.kept.length : Int) != (t.kept.length : Int)) = true := by simp; omega
  go_wp2
  go_ret
  exact ⟨rfl, I0.out.below⟩
 have q9 : ((s.kept.length : Int) != (t.kept.length : Int)) = false := by simp; omega
 replace e9 := hid e9
 by_cases e10 : s.listed.length = t.listed.length
 rotate_left 1
 ·
  have q10 : ((s.listed.length : Int) != (t.listed.length : Int)) = true := by simp; omega
  go_wp2
  go_ret
  exact ⟨rfl, I0.out.below⟩
 have q10 : ((s.listed.length : Int) != (t.listed.length : Int)) = false := by simp; omega
 replace e10 := hid e10
 by_cases e11 : s.msgs.length = t.msgs.length
 rotate_left 1
 ·
  have q11 : ((s.msgs.length : Int) != (t.msgs.length : Int)) = true := by simp; omega
  go_wp2
  go_ret
  exact ⟨rfl, I0.out.below⟩
 have q11 : ((s.msgs.length : Int) != (t.msgs.length : Int)) = false := by simp; omega
 replace e11 := hid e11
 rcases hne.out with h | h | h | h | h | h | h | h | h | h | h | h
 ·
  exact absurd e0.out h
 ·
  exact absurd e1.out h
 ·
  exact absurd e2.out h
 ·
  exact absurd e3.out h
 ·
  exact absurd e4.out h
 ·
  exact absurd e5.out h
 ·
  exact absurd e6.out h
 ·
  exact absurd e7.out h
 ·
  exact absurd e8.out h
 ·
  exact absurd e9.out h
 ·
  exact absurd e10.out h
 ·
  exact absurd e11.out h
end Go.Proofs.YthikijlbclckdaaGreat
namespace Go.Proofs.YthikijlbclckdaaGreat
set_option maxRecDepth 100000
set_option maxHeartbeats 40000000
set_option linter.unusedSimpArgs false
set_option linter.unusedVariables false
open Go.RowKit
def rdS (l : List RowV) : StateV := (readS l).getD state0
def rdE (l : List RowV) : Int := if (readS l).isSome then 0 else 3
theorem ReadT.is {l : List RowV} {w w' : World} {v : Value} (h : ReadT l w v w') : ∃ vp vi vt vj vr vs vk vl vm, v = .tuple #[.agg #[U (rdS l).pos, U (rdS l).done, U (rdS l).made, vp, vi, vt, vj, vr, vs, vk, vl, vm], .int .i64 (rdE l)] ∧
  StateAt w' [U (rdS l).pos, U (rdS l).done, U (rdS l).made, vp, vi, vt, vj, vr, vs, vk, vl, vm] (rdS l) vp vi vt vj vr vs vk vl vm := by
 unfold ReadT at h
 unfold rdS rdE
 cases hr : readS l with
 | none =>
  rw [hr] at h
  dsimp only at h
  exact ⟨_, _, _, _, _, _, _, _, _, h, stateAt0 w'⟩
 | some s =>
  rw [hr] at h
  dsimp only at h
  obtain ⟨cs, vp, vi, vt, vj, vr, vs, vk, vl, vm, h1, h2⟩ := h
  have h3 := h2.cells
  subst h3
  exact ⟨vp, vi, vt, vj, vr, vs, vk, vl, vm, h1, h2⟩
end Go.Proofs.YthikijlbclckdaaGreat
namespace Go.Proofs.YthikijlbclckdaaGreat
set_option maxRecDepth 100000
set_option maxHeartbeats 40000000
set_option linter.unusedSimpArgs false
set_option linter.unusedVariables false
open Go.RowKit
theorem rows_count (s : StateV) : (rows s).length = 1 + s.procs.length + s.insts.length + s.tokens.length + s.jobs.length + s.timers.length + s.subs.length + s.kept.length + s.listed.length + s.msgs.length := by
 unfold rows lists
 simp only [List.flatten_cons, List.flatten_nil, List.length_append, List.length_map, List.length_cons, List.length_nil]
 omega
end Go.Proofs.YthikijlbclckdaaGreat
namespace Go.Proofs.YthikijlbclckdaaGreat
set_option maxRecDepth 100000
set_option maxHeartbeats 40000000
set_option linter.unusedSimpArgs false
set_option linter.unusedVariables false
open Go.RowKit
theorem info_lrow3 : (Tryz.prog.info? 46).map (fun i => (i.zero, i.size, i.bytes)) = some (some (.agg #[.string ⟨#[]⟩, .string ⟨#[]⟩]), 2, 32) := by kernel_rfl
theorem rows_key (s : StateV) (hb : boundsB s = true) : ∀ x ∈ rows s, Sz x.1 := by
 unfold boundsB at hb
 simp only [Bool.and_eq_true, List.all_eq_true] at hb
 obtain ⟨⟨⟨⟨⟨⟨⟨⟨bp, -⟩, -⟩, -⟩, -⟩, -⟩, -⟩, -⟩, -⟩ := hb
 intro x hx
 rw [rows_eq] at hx
 unfold restL at hx
 simp only [List.mem_cons, List.mem_append, List.mem_map] at hx
 unfold Sz
 rcases hx with rfl | ⟨y, -, rfl⟩ | ⟨y, -, rfl⟩ | ⟨y, -, rfl⟩ | ⟨y, -, rfl⟩ | ⟨y, -, rfl⟩ | ⟨y, hy, rfl⟩ | ⟨y, -, rfl⟩ | ⟨y, -, rfl⟩ | ⟨y, -, rfl⟩
 ·
  show (c1 97).size ≤ _; rw [show (c1 97).size = 1 from rfl]; omega
 ·
  show (keyS _ _ _).size ≤ _; rw [keyS_sz0]; omega
 ·
  show (keyS _ _ _).size ≤ _; rw [keyS_sz0]; omega
 ·
  show (keyS _ _ _).size ≤ _; rw [keyS_sz0]; omega
 ·
  show (keyS _ _ _).size ≤ _; rw [keyS_sz1]; omega
 ·
  show (keyS _ _ _).size ≤ _; rw [keyS_sz1]; omega
 ·
  have h := bp y hy
  unfold bDep textB at h
  simp only [List.all_cons, List.all_nil, Bool.and_true, decide_eq_true_eq] at h
  show (c1 112 ++ y.id).size ≤ _
  rw [app_size, show (c1 112).size = 1 from rfl]
  omega
 ·
  show (keyS _ _ _).size ≤ _; rw [keyS_sz1]; omega
 ·
  show (keyS _ _ _).size ≤ _; rw [keyS_sz1]; omega
 ·
  show (keyS _ _ _).size ≤ _; rw [keyS_sz0]; omega
theorem rows_szs (s : StateV) (hm : mayB s = true) : ∀ x ∈ rows s, Sz x.1 ∧ Sz x.2 := by
 obtain ⟨hb, hv, -⟩ := may_rows hm
 intro x hx
 refine ⟨rows_key s hb x hx, ?_⟩
 obtain ⟨i, hi⟩ := List.mem_iff_getElem?.1 hx
 have := hv i x hi
 unfold Sz
 omega
theorem rows_tot (s : StateV) : (rows s).length = tot s + 1 := by
 rw [rows_count]
 unfold tot
 omega
def lessL (l : List RowV) (d : Nat) : List RowV := l.take d ++ l.drop (d + 1)
theorem lessL_len {l : List RowV} {d : Nat} (h : d < l.length) : (lessL l d).length + 1 = l.length := by
 unfold lessL
 rw [List.length_append, List.length_take, List.length_drop]
 omega
theorem lessL_mem {l : List RowV} {d : Nat} {x : RowV} (h : x ∈ lessL l d) : x ∈ l := by
 rcases List.mem_append.1 h with h | h
 ·
  exact List.mem_of_mem_take h
 ·
  exact List.mem_of_mem_drop h
def lessI (l : List RowV) (d i : Nat) : List RowV := l.take (min i d) ++ (l.take i).drop (d + 1)
theorem lessI_same {l : List RowV} (d : Nat) : lessI l d (d + 1) = lessI l d d := by
 unfold lessI
 rw [show min (d + 1) d = d by omega, show min d d = d by omega]
 rw [List.drop_eq_nil_of_le (by rw [List.length_take]; omega), List.drop_eq_nil_of_le (by rw [List.length_take]; omega)]
theorem lessI_next {l : List RowV} {d i : Nat} {x : RowV} (hx : l[i]? = some x) (hne : i ≠ d) : lessI l d (i + 1) = lessI l d i ++ [x] := by
 have hl : i < l.length := by
  rcases Nat.lt_or_ge i l.length with h | h
  ·
   exact h
  ·
   rw [List.getElem?_eq_none h] at hx; cases hx
 unfold lessI
 rcases Nat.lt_or_ge i d with h | h
 ·
  rw [show min (i + 1) d = i + 1 by omega, show min i d = i by omega, take_snoc hx]
  rw [List.drop_eq_nil_of_le (by rw [List.length_append, List.length_take]; simp; omega), List.drop_eq_nil_of_le (by rw [List.length_take]; omega)]
  simp
 ·
  rw [show min (i + 1) d = d by omega, show min i d = d by omega, take_snoc hx, List.drop_append_of_le_length (by rw [List.length_take]; omega), List.append_assoc]
theorem lessI_end (l : List RowV) {d : Nat} (h : d < l.length) : lessI l d l.length = lessL l d := by
 unfold lessI lessL
 rw [show min l.length d = d by omega, List.take_length]
theorem same0 (s : StateV) : s = state0 ∨ (s.pos ≠ state0.pos ∨ s.done ≠ state0.done ∨ s.made ≠ state0.made ∨ s.procs.length ≠ state0.procs.length ∨ s.insts.length ≠ state0.insts.length ∨ s.tokens.length ≠ state0.tokens.length ∨ s.jobs.length ≠ state0.jobs.length ∨ s.timers.length ≠ state0.timers.length ∨ s.subs.length ≠ state0.subs.length ∨ s.kept.length ≠ state0.kept.length ∨ s.listed.length ≠ state0.listed.length ∨ s.msgs.length ≠ state0.msgs.length) := by
 by_cases hd : (s.pos ≠ state0.pos ∨ s.done ≠ state0.done ∨ s.made ≠ state0.made ∨ s.procs.length ≠ state0.procs.length ∨ s.insts.length ≠ state0.insts.length ∨ s.tokens.length ≠ state0.tokens.length ∨ s.jobs.length ≠ state0.jobs.length ∨ s.timers.length ≠ state0.timers.length ∨ s.subs.length ≠ state0.subs.length ∨ s.kept.length ≠ state0.kept.length ∨ s.listed.length ≠ state0.listed.length ∨ s.msgs.length ≠ state0.msgs.length)
 ·
  exact .inr hd
 ·
  left
  simp only [ne_eq, not_or, Classical.not_not] at hd
  obtain ⟨h1, h2, h3, h4, h5, h6, h7, h8, h9, h10, h11, h12⟩ := hd
  obtain ⟨a, b, c, l1, l2, l3, l4, l5, l6, l7, l8, l9⟩ := s
  dsimp only at *
  subst h1 h2 h3
  obtain rfl := List.length_eq_zero_iff.1 (show l1.length = 0 from h4)
  obtain rfl := List.length_eq_zero_iff.1 (show l2.length = 0 from h5)
  obtain rfl := List.length_eq_zero_iff.1 (show l3.length = 0 from h6)
  obtain rfl := List.length_eq_zero_iff.1 (show l4.length = 0 from h7)
  obtain rfl := List.length_eq_zero_iff.1 (show l5.length = 0 from h8)
  obtain rfl := List.length_eq_zero_iff.1 (show l6.length = 0 from h9)
  obtain rfl := List.length_eq_zero_iff.1 (show l7.length = 0 from h10)
  obtain rfl := List.length_eq_zero_iff.1 (show l8.length = 0 from h11)
  obtain rfl := List.length_eq_zero_iff.1 (show l9.length = 0 from h12)
  rfl
theorem keepBack_any (s : StateV) (hok : StateOk s) (hn : tot s + 1 ≤ 2097152) (d : Int) (hd : I64 d) (cs : List Value) (vp vi vt vj vr vs vk vl vm : Value) (w : World) (h : StateAt w cs s vp vi vt vj vr vs vk vl vm) :
  Calls Tryz.prog 6 #[.agg cs.toArray, .int .i64 d] w fun e w' => e = .returned (.bool true) ∧ Below w.heap.size w w' := by
 have H := hid h
 have Hok := hid hok
 obtain ⟨hd1, hd2⟩ := hd
 obtain ⟨hcs, hp, hi, ht, hj, hr, hs, hk, hl, hm⟩ := h
 obtain ⟨xap, xcp, rfl, -⟩ := hp
 obtain ⟨xai, xci, rfl, -⟩ := hi
 obtain ⟨xat, xct, rfl, -⟩ := ht
 obtain ⟨xaj, xcj, rfl, -⟩ := hj
 obtain ⟨xar, xcr, rfl, -⟩ := hr
 obtain ⟨xas, xcs, rfl, -⟩ := hs
 obtain ⟨xak, xck, rfl, -⟩ := hk
 obtain ⟨xal, xcl, rfl, -⟩ := hl
 obtain ⟨xam, xcm, rfl, -⟩ := hm
 subst hcs
 clear hok
 go_enter Tryz.func6, Tryz.ntmps6
 go_wp2_with fail
 have hst := hid (alloc_new w (.cells #[U s.pos, U s.done, U s.made, .slice xap s.procs.length xcp, .slice xai s.insts.length xci, .slice xat s.tokens.length xct, .slice xaj s.jobs.length xcj, .slice xar s.timers.length xcr, .slice xas s.subs.length xcs, .slice xak s.kept.length xck, .slice xal s.listed.length xcl, .slice xam s.msgs.length xcm] 33))
 have hB0 := hid ((Below.refl _ w).alloc (Nat.le_refl _) (.cells #[U s.pos, U s.done, U s.made, .slice xap s.procs.length xcp, .slice xai s.insts.length xci, .slice xat s.tokens.length xct, .slice xaj s.jobs.length xcj, .slice xar s.timers.length xcr, .slice xas s.subs.length xcs, .slice xak s.kept.length xck, .slice xal s.listed.length xcl, .slice xam s.msgs.length xcm] 33))
 have hlt0 : w.heap.size < (w.alloc (.cells #[U s.pos, U s.done, U s.made, .slice xap s.procs.length xcp, .slice xai s.insts.length xci, .slice xat s.tokens.length xct, .slice xaj s.jobs.length xcj, .slice xar s.timers.length xcr, .slice xas s.subs.length xcs, .slice xak s.kept.length xck, .slice xal s.listed.length xcl, .slice xam s.msgs.length xcm] 33)).heap.size := by simp
 generalize w.alloc (.cells #[U s.pos, U s.done, U s.made, .slice xap s.procs.length xcp, .slice xai s.insts.length xci, .slice xat s.tokens.length xct, .slice xaj s.jobs.length xcj, .slice xar s.timers.length xcr, .slice xas s.subs.length xcs, .slice xak s.kept.length xck, .slice xal s.listed.length xcl, .slice xam s.msgs.length xcm] 33) = w0 at hst hB0 hlt0 ⊢
 refine (shown_any w0).mono ?_
 rintro e w1 ⟨rfl, b1⟩
 have hst1 := hid ((b1.block w.heap.size hlt0).trans hst.out)
 have hB1 := hid (hB0.out.trans (b1.mono hB0.out.size))
 clear b1 hst hlt0
 obtain ⟨k0, k1, k2, k3, k4, k5, k6, k7, k8, k9, k10, k11⟩ := cells12 hst1.out
 go_wp2_with fail
 clear k0 k1 k2 k3 k4 k5 k6 k7 k8 k9 k10 k11
 refine (rsmay_any s Hok.out [U s.pos, U s.done, U s.made, .slice xap s.procs.length xcp, .slice xai s.insts.length xci, .slice xat s.tokens.length xct, .slice xaj s.jobs.length xcj, .slice xar s.timers.length xcr, .slice xas s.subs.length xcs, .slice xak s.kept.length xck, .slice xal s.listed.length xcl, .slice xam s.msgs.length xcm] _ _ _ _ _ _ _ _ _ w1 (H.out.grow hB1.out)).mono ?_
 rintro e w2 ⟨rfl, b2⟩
 have hst2 := hid ((b2.block w.heap.size (heap_lt hst1.out)).trans hst1.out)
 have hB2 := hid (hB1.out.trans (b2.mono hB1.out.size))
 clear b2 hst1
 obtain ⟨k0, k1, k2, k3, k4, k5, k6, k7, k8, k9, k10, k11⟩ := cells12 hst2.out
 go_wp2_with fail
 clear k0 k1 k2 k3 k4 k5 k6 k7 k8 k9 k10 k11
 refine (srows_any s Hok.out [U s.pos, U s.done, U s.made, .slice xap s.procs.length xcp, .slice xai s.insts.length xci, .slice xat s.tokens.length xct, .slice xaj s.jobs.length xcj, .slice xar s.timers.length xcr, .slice xas s.subs.length xcs, .slice xak s.kept.length xck, .slice xal s.listed.length xcl, .slice xam s.msgs.length xcm] _ _ _ _ _ _ _ _ _ w2 (H.out.grow hB2.out)).mono ?_
 rintro e w3 ⟨lc, v, rfl, hlc, hv, b3⟩
 have hst3 := hid ((b3.block w.heap.size (heap_lt hst2.out)).trans hst2.out)
 have hB3 := hid (hB2.out.trans (b3.mono hB2.out.size))
 have Hlc := hid hlc
 have Hv := hid hv
 clear b3 hlc hv hst2
 go_wp2_with fail
 refine (told_any lc _ v w3 Hlc.out Hv.out (told_len Hok.out)).mono ?_
 rintro e w4 ⟨u1, rfl, hf1, b4⟩
 have hst4 := hid ((b4.block w.heap.size (heap_lt hst3.out)).trans hst3.out)
 have hB4 := hid (hB3.out.trans (b4.mono hB3.out.size))
 have F1 := hid hf1
 clear b4 hst3 Hlc Hv
 cases hmy : mayB s with
 | false =>
  rw [toldS_no hmy] at hf1
  obtain ⟨ao, co, rfl, -⟩ := hf1
  go_wp2
  go_ret
  exact ⟨rfl, hB4.out⟩
 | true =>
  rw [toldS_yes hmy] at hf1 F1
  have Hback := hid (read_back s Hok.out hmy)
  have Hsz := hid (rows_szs s hmy)
  have hlen := rows_tot s
  have Htot := hid hlen
  replace hmy := hid hmy
  generalize hl0 : rows s = l at hf1 F1 Hback Hsz hlen Htot
  replace hl0 := hid hl0
  obtain ⟨ao, co, rfl, hlc, hlm, -⟩ := hf1
  unfold maxLen at hlm
  have hl2 : l.length ≤ 2097152 := by omega
  clear hlen
  go_wp2_with fail
  refine (over_any l (by omega) _ w4 F1.out).mono ?_
  rintro e w5 ⟨kb, vb, rfl, hov, b5⟩
  have Hov := hid hov
  have hst5 := hid ((b5.block w.heap.size (heap_lt hst4.out)).trans hst4.out)
  have hB5 := hid (hB4.out.trans (b5.mono hB4.out.size))
  have F5 := hid (rowsF_st _ _ _ _ F1.out b5)
  clear b5 hov hst4 F1
  go_wp2_with fail
  refine (sread_any kb vb l w5 Hov.out Hsz.out hl2).mono ?_
  rintro e w6 ⟨v1, rfl, hR1, b6⟩
  have hst6 := hid ((b6.block w.heap.size (heap_lt hst5.out)).trans hst5.out)
  have hB6 := hid (hB5.out.trans (b6.mono hB5.out.size))
  have F6 := hid (rowsF_st _ _ _ _ F5.out b6)
  unfold ReadT at hR1
  rw [Hback.out] at hR1
  dsimp only at hR1
  obtain ⟨cs1, zp, zi, zt, zj, zr, zs, zk, zl, zm, rfl, hs1⟩ := hR1
  have hc1 := hs1.cells
  subst hc1
  have Hs1 := hid hs1
  clear b6 hst5 F5
  obtain ⟨-, hp, hi, ht, hj, hr, hs, hk, hl, hm⟩ := hs1
  obtain ⟨yap, ycp, rfl, -⟩ := hp
  obtain ⟨yai, yci, rfl, -⟩ := hi
  obtain ⟨yat, yct, rfl, -⟩ := ht
  obtain ⟨yaj, ycj, rfl, -⟩ := hj
  obtain ⟨yar, ycr, rfl, -⟩ := hr
  obtain ⟨yas, ycs, rfl, -⟩ := hs
  obtain ⟨yak, yck, rfl, -⟩ := hk
  obtain ⟨yal, ycl, rfl, -⟩ := hl
  obtain ⟨yam, ycm, rfl, -⟩ := hm
  have A1 := (Below.refl _ w6).alloc (Nat.le_refl _) (.cells #[U s.pos, U s.done, U s.made, .slice yap s.procs.length ycp, .slice yai s.insts.length yci, .slice yat s.tokens.length yct, .slice yaj s.jobs.length ycj, .slice yar s.timers.length ycr, .slice yas s.subs.length ycs, .slice yak s.kept.length yck, .slice yal s.listed.length ycl, .slice yam s.msgs.length ycm] 33)
  have X7 := hid ((A1.block _ (heap_lt hst6.out)).trans hst6.out)
  have Y7 := hid (alloc_new w6 (.cells #[U s.pos, U s.done, U s.made, .slice yap s.procs.length ycp, .slice yai s.insts.length yci, .slice yat s.tokens.length yct, .slice yaj s.jobs.length ycj, .slice yar s.timers.length ycr, .slice yas s.subs.length ycs, .slice yak s.kept.length yck, .slice yal s.listed.length ycl, .slice yam s.msgs.length ycm] 33))
  have hB7 := hid (hB6.out.trans (A1.mono hB6.out.size))
  have F7 := hid (rowsF_st _ _ _ _ F6.out A1)
  have S7 := hid (Hs1.out.grow A1)
  clear A1 F6 Hs1 hst6 hB6
  obtain ⟨k0, k1, k2, k3, k4, k5, k6, k7, k8, k9, k10, k11⟩ := cells12 X7.out
  have l0 := cell_of Y7.out 0
  have l1 := cell_of Y7.out 1
  have l2 := cell_of Y7.out 2
  have l3 := cell_of Y7.out 3
  have l4 := cell_of Y7.out 4
  have l5 := cell_of Y7.out 5
  have l6 := cell_of Y7.out 6
  have l7 := cell_of Y7.out 7
  have l8 := cell_of Y7.out 8
  have l9 := cell_of Y7.out 9
  have l10 := cell_of Y7.out 10
  have l11 := cell_of Y7.out 11
  have hz7 := heap_lt X7.out
  have hz8 := heap_lt Y7.out
  go_wp2_with fail
  clear k0 k1 k2 k3 k4 k5 k6 k7 k8 k9 k10 k11 l0 l1 l2 l3 l4 l5 l6 l7 l8 l9 l10 l11 hz7 hz8
  refine (same13_any s _ _ _ _ _ _ _ _ _ _ _ _ _ _ _ _ _ _ _ _ _ (H.out.grow hB7.out) S7.out).mono ?_
  rintro e w8 ⟨rfl, b8⟩
  have hst8 := hid ((b8.block w.heap.size (heap_lt X7.out)).trans X7.out)
  have hB8 := hid (hB7.out.trans (b8.mono hB7.out.size))
  have F8 := hid (rowsF_st _ _ _ _ F7.out b8)
  clear b8 X7 Y7 S7 F7 hB7
  by_cases hneg : d < 0
  ·
   have q0 : decide (d < 0) = true := decide_eq_true hneg
   go_wp2
   go_ret
   exact ⟨rfl, hB8.out⟩
  have q0 : decide (d < 0) = false := decide_eq_false hneg
  by_cases hbig : (l.length : Int) ≤ d
  ·
   have q1 : decide ((l.length : Int) ≤ d) = true := decide_eq_true hbig
   go_wp2
   go_ret
   exact ⟨rfl, hB8.out⟩
  have q1 : decide ((l.length : Int) ≤ d) = false := decide_eq_false hbig
  obtain ⟨n, rfl⟩ : ∃ n : Nat, d = n := ⟨d.toNat, by omega⟩
  have hnl : n < l.length := by omega
  go_wp2_with fail
  clear q0 q1 hneg hbig
  go_loopw [11, 12] (fun vk vi wr => ∃ i : Nat, i ≤ l.length ∧ vi = .int .i64 i ∧ w8.heap.size ≤ wr.heap.size ∧ Hid (wr.ownsRow w8.heap.size 46 2 vk (if i ≤ n then i else i - 1) (rowsC (lessI l n i)) ∧ Below w8.heap.size w8 wr)) (fun _ vi _ => l.length - (intOf vi).toNat)
  case atStart => exact ⟨0, Nat.zero_le _, rfl, Nat.le_refl _, ⟨by rw [if_pos (Nat.zero_le _), show lessI l n 0 = [] from by unfold lessI; simp]; exact ⟨rfl, .inl ⟨rfl, rfl⟩⟩, Below.refl _ _⟩⟩
  case round =>
   obtain ⟨i, hi, rfl, hws, hR⟩ := hrel
   obtain ⟨ak, ck, rfl⟩ := own_slice hR.out.1
   by_cases hlt : i < l.length
   ·
    by_cases hin : i = n
    ·
     subst hin
     have q0 : (((i : Int)) != (i : Int)) = false := by simp
     have hRR : Hid (wr.ownsRow w8.heap.size 46 2 (.slice ak (if i ≤ i then i else i - 1) ck) (if i + 1 ≤ i then i + 1 else i + 1 - 1) (rowsC (lessI l i (i + 1))) ∧ Below w8.heap.size w8 wr) := by
      have := hR.out
      rw [if_pos (Nat.le_refl _)] at this ⊢
      rw [if_neg (by omega), Nat.add_sub_cancel, lessI_same]
      exact this
     go_wp2
     go_roundw
     case rel => exact ⟨i + 1, by omega, by go_num, hws, hRR⟩
     case measure => simp [intOf]; omega
    ·
     have q0 : (((i : Int)) != (n : Int)) = true := by simp; omega
     obtain ⟨⟨rk, rv⟩, hx⟩ : ∃ x, l[i]? = some x := ⟨_, List.getElem?_eq_getElem hlt⟩
     obtain ⟨b, off, cap', he, d0, d1⟩ := rows_at F8.out hx
     cases he
     dsimp only at d0 d1
     have hb0 := World.block_lt_of_cell? w8 _ d0
     dsimp only at hb0
     have D0 := (hR.out.2.cell (p := ⟨b, off + i * 2, none⟩) hb0).trans d0
     have D1 := (hR.out.2.cell (p := ⟨b, off + i * 2 + 1, none⟩) hb0).trans d1
     have ht := hid (lessI_next hx hin)
     have hm1 : (if i + 1 ≤ n then i + 1 else i + 1 - 1) = (if i ≤ n then i else i - 1) + 1 := by split <;> split <;> omega
     have hmle : (if i ≤ n then i else i - 1) ≤ i := by split <;> omega
     replace hm1 := hid hm1
     have KO := hid hR.out.1
     have BB := hid hR.out.2
     clear hx d0 d1 hR
     generalize (if i ≤ n then i else i - 1) = m at KO hm1 hmle ⊢
     go_wp2_with (at_builtin; refine app1k 35 46 Tryz.underlying35 info_lrow3 rfl (by decide) KO.out hws (by unfold maxLen; omega) (by omega) rfl rfl rfl rfl rfl rfl (by simp [Value.oneCell']) ?_; intro v1 w9 hown9 hb9 hg9)
     have O9 := hid hown9
     have B9 : Hid (Below w8.heap.size w8 w9) := ((But.of (w := w8) BB.out).trans' hb9 (F := fun _ => False) (fun k hk ho => by have := (KO.out.lt k ho).1; omega)).grow
     clear hown9 hb9 hg9
     obtain ⟨ak', ck', rfl⟩ := own_slice O9.out
     go_wp2
     go_roundw
     case rel => exact ⟨i + 1, by omega, by go_num, B9.out.size, by rw [hm1.out, ht.out, rowsC_snoc]; exact O9.out, B9.out⟩
     case measure => simp [intOf]; omega
   ·
    obtain rfl : i = l.length := by omega
    have hil : (if l.length ≤ n then l.length else l.length - 1) = l.length - 1 := if_neg (by omega)
    have hR' := hR.out
    rw [hil, lessI_end l hnl] at hR'
    have hll := lessL_len hnl
    have F9 := hid (show rowsF (lessL l n) (.slice ak (l.length - 1) ck) wr from by have := FlatAt.of_own hR'.1; unfold rowsF; rw [show (lessL l n).length = l.length - 1 by omega]; exact this)
    have hB9 := hid (hB8.out.trans (hR'.2.mono hB8.out.size))
    have hst9 := hid ((hR'.2.block w.heap.size (heap_lt hst8.out)).trans hst8.out)
    have Hl9 : Hid (∀ x ∈ lessL l n, Sz x.1 ∧ Sz x.2) := fun x hx => Hsz.out x (lessL_mem hx)
    have Hll := hid hll
    have hil' := hid hil
    rw [hil]
    clear hil hR hR' hst8 hB8 F8
    go_wp2_with fail
    refine (over_any (lessL l n) (by omega) _ wr F9.out).mono ?_
    rintro e w10 ⟨kb, vb, rfl, hov, b10⟩
    have Hov := hid hov
    have hst10 := hid ((b10.block w.heap.size (heap_lt hst9.out)).trans hst9.out)
    have hB10 := hid (hB9.out.trans (b10.mono hB9.out.size))
    clear b10 hov hst9 hB9
    go_wp2_with fail
    refine (sread_any kb vb (lessL l n) w10 Hov.out Hl9.out (by omega)).mono ?_
    rintro e w11 ⟨v1, rfl, hR1, b11⟩
    have hst11 := hid ((b11.block w.heap.size (heap_lt hst10.out)).trans hst10.out)
    have hB11 := hid (hB10.out.trans (b11.mono hB10.out.size))
    clear b11 hst10 hB10 hll
    have htt : Hid (∀ t, readS (lessL l n) = some t → tot s ≠ tot t) := fun t ht => by
     have h1 := read_tot ht
     have h2 := Htot.out
     have h3 := Hll.out
     omega
    obtain ⟨zp, zi, zt, zj, zr, zs, zk, zl, zm, rfl, hs1⟩ := hR1.is
    have Hs1 := hid hs1
    clear hR1
    obtain ⟨-, hp, hi, ht, hj, hr, hs, hk, hl, hm⟩ := hs1
    have Hnot : Hid ((rdE (lessL l n) = 3 ∧ rdS (lessL l n) = state0) ∨ (rdE (lessL l n) = 0 ∧ tot s ≠ tot (rdS (lessL l n)))) := by
     unfold rdE rdS
     cases hq : readS (lessL l n) with
     | none => exact .inl ⟨rfl, rfl⟩
     | some t => exact .inr ⟨rfl, htt.out t hq⟩
    clear htt
    generalize rdE (lessL l n) = er at Hnot ⊢
    generalize rdS (lessL l n) = t at Hs1 Hnot hp hi ht hj hr hs hk hl hm ⊢
    obtain ⟨zap, zcp, rfl, -⟩ := hp
    obtain ⟨zai, zci, rfl, -⟩ := hi
    obtain ⟨zat, zct, rfl, -⟩ := ht
    obtain ⟨zaj, zcj, rfl, -⟩ := hj
    obtain ⟨zar, zcr, rfl, -⟩ := hr
    obtain ⟨zas, zcs, rfl, -⟩ := hs
    obtain ⟨zak, zck, rfl, -⟩ := hk
    obtain ⟨zal, zcl, rfl, -⟩ := hl
    obtain ⟨zam, zcm, rfl, -⟩ := hm
    have A2 := (Below.refl _ w11).alloc (Nat.le_refl _) (.cells #[U t.pos, U t.done, U t.made, .slice zap t.procs.length zcp, .slice zai t.insts.length zci, .slice zat t.tokens.length zct, .slice zaj t.jobs.length zcj, .slice zar t.timers.length zcr, .slice zas t.subs.length zcs, .slice zak t.kept.length zck, .slice zal t.listed.length zcl, .slice zam t.msgs.length zcm] 33)
    have X7 := hid ((A2.block _ (heap_lt hst11.out)).trans hst11.out)
    have Y7 := hid (alloc_new w11 (.cells #[U t.pos, U t.done, U t.made, .slice zap t.procs.length zcp, .slice zai t.insts.length zci, .slice zat t.tokens.length zct, .slice zaj t.jobs.length zcj, .slice zar t.timers.length zcr, .slice zas t.subs.length zcs, .slice zak t.kept.length zck, .slice zal t.listed.length zcl, .slice zam t.msgs.length zcm] 33))
    have hB12 := hid (hB11.out.trans (A2.mono hB11.out.size))
    have S7 := hid (Hs1.out.grow A2)
    clear A2 Hs1 hst11 hB11
    obtain ⟨k0, k1, k2, k3, k4, k5, k6, k7, k8, k9, k10, k11⟩ := cells12 X7.out
    have l0 := cell_of Y7.out 0
    have l1 := cell_of Y7.out 1
    have l2 := cell_of Y7.out 2
    have l3 := cell_of Y7.out 3
    have l4 := cell_of Y7.out 4
    have l5 := cell_of Y7.out 5
    have l6 := cell_of Y7.out 6
    have l7 := cell_of Y7.out 7
    have l8 := cell_of Y7.out 8
    have l9 := cell_of Y7.out 9
    have l10 := cell_of Y7.out 10
    have l11 := cell_of Y7.out 11
    have hz7 := heap_lt X7.out
    have hz8 := heap_lt Y7.out
    go_wp2_with fail
    clear k0 k1 k2 k3 k4 k5 k6 k7 k8 k9 k10 k11 l0 l1 l2 l3 l4 l5 l6 l7 l8 l9 l10 l11 hz7 hz8
    rcases Hnot.out with ⟨rfl, ht0⟩ | ⟨rfl, hne⟩
    ·
     have hcall : ∀ cs1 cs2 vp vi vt vj vr vs vk vl vm yp yi yt yj yr ys yk yl ym W, StateAt W cs1 s vp vi vt vj vr vs vk vl vm → StateAt W cs2 t yp yi yt yj yr ys yk yl ym → Calls Tryz.prog 22 #[.agg cs1.toArray, .agg cs2.toArray] W fun e w' => (∃ b, e = .returned (.bool b)) ∧ Below W.heap.size W w' := by
      intro cs1 cs2 vp vi vt vj vr vs vk vl vm yp yi yt yj yr ys yk yl ym W g1 g2
      rcases same0 s with h | h
      ·
       have : s = t := h.trans ht0.symm
       subst this
       exact (same13_any s _ _ _ _ _ _ _ _ _ _ _ _ _ _ _ _ _ _ _ _ W g1 g2).mono (fun e w' h => ⟨⟨_, h.1⟩, h.2⟩)
      ·
       exact (same13_not s t (by rw [ht0]; exact h) _ _ _ _ _ _ _ _ _ _ _ _ _ _ _ _ _ _ _ _ W g1 g2).mono (fun e w' h => ⟨⟨_, h.1⟩, h.2⟩)
     replace hcall := hid hcall
     clear ht0
     refine (hcall.out _ _ _ _ _ _ _ _ _ _ _ _ _ _ _ _ _ _ _ _ _ (H.out.grow hB12.out) S7.out).mono ?_
     rintro e w13 ⟨⟨bb, rfl⟩, b13⟩
     have hB13 := hid (hB12.out.trans (b13.mono hB12.out.size))
     clear b13
     go_wp2
     go_ret
     exact ⟨rfl, hB13.out⟩
    ·
     refine (same13_not s t (tot_ne hne) _ _ _ _ _ _ _ _ _ _ _ _ _ _ _ _ _ _ _ _ _ (H.out.grow hB12.out) S7.out).mono ?_
     rintro e w13 ⟨rfl, b13⟩
     have hB13 := hid (hB12.out.trans (b13.mono hB12.out.size))
     clear b13
     go_wp2
     go_ret
     exact ⟨rfl, hB13.out⟩
end Go.Proofs.YthikijlbclckdaaGreat
namespace Go.Proofs.YthikijlbclckdaaGreat
set_option maxRecDepth 100000
set_option maxHeartbeats 40000000
set_option linter.unusedSimpArgs false
set_option linter.unusedVariables false
open Go.RowKit Go.Deep
structure Rep (P : Program) (t : TypeId) (α : Type) where
 R : (Nat → Prop) → World → List Value → α → Prop
 bulk : α → Nat
 len : ∀ {S : Nat → Prop} {w : World} {cs : List Value} {x : α}, R S w cs x → cs.length = P.cellsOf t
 mono : ∀ {S : Nat → Prop} {w w' : World} {cs : List Value} {x : α}, (∀ k, S k → k < w.heap.size → w'.heap[k]? = w.heap[k]?) → R S w cs x → R S w' cs x
 weak : ∀ {S S' : Nat → Prop} {w : World} {cs : List Value} {x : α}, (∀ k, k < w.heap.size → S k → S' k) → R S w cs x → R S' w cs x
 opens : ∀ {H : Type} {enc : TypeId × Value → H} {w : World} {base : Nat} {held : Bool} {fuel : Nat} {cs : List Value} {d : DataW H} {ps : List MemPlace},
  DataW.trod enc P w base (fun _ => true) held fuel t cs = some (d, ps) → (∀ n ∈ d.weights P t, n ≤ reachBytes) → ∃ x, R (fun k => base ≤ k ∧ k < w.heap.size) w cs x ∧ bulk x ≤ Rows.uptoBulk d
theorem bulk_one {H : Type} (d : DataW H) : 1 ≤ Rows.uptoBulk d := by
 cases d with
 | lit l => cases l <;> simp [Rows.uptoBulk]
 | nil => simp [Rows.uptoBulk]
 | ptr d => simp [Rows.uptoBulk]
 | slice elems spare => simp [Rows.uptoBulk]
 | agg parts => simp [Rows.uptoBulk]
 | iface t d => simp [Rows.uptoBulk]
 | map entries => simp [Rows.uptoBulk]
 | held h => simp [Rows.uptoBulk]
theorem cell_mono {S : Nat → Prop} {w w' : World} (h : ∀ k, S k → k < w.heap.size → w'.heap[k]? = w.heap[k]?) {a : Addr} (ha : S a.block) {v : Value} (hc : w.cell? a = some v) : w'.cell? a = some v := by
 rw [World.cell?_of_block (w := w) (h a.block ha (World.block_lt_of_cell? w a hc))]
 exact hc
section
variable {P : Program} {t e : TypeId} {α β : Type}
def Rep.int (k : IntKind) (ht : P.underlying t = some (.int k)) (hc : P.cellsOf t = 1) : Rep P t Int where
 R _ _ cs x := cs = [.int k x] ∧ (Lit.int k x).wf = true
 bulk _ := 1
 len h := by rw [h.1, hc]; rfl
 mono _ h := h
 weak _ h := h
 opens h _ := by
  obtain ⟨n, rfl, _, hw⟩ := DataW.trod_int ht h
  exact ⟨n, ⟨rfl, hw⟩, bulk_one _⟩
def Rep.u64 (ht : P.underlying t = some (.int .u64)) (hc : P.cellsOf t = 1) : Rep P t Nat where
 R _ _ cs x := cs = [.int .u64 (x : Int)] ∧ x < 18446744073709551616
 bulk _ := 1
 len h := by rw [h.1, hc]; rfl
 mono _ h := h
 weak _ h := h
 opens h _ := by
  obtain ⟨n, rfl, _, hw⟩ := DataW.trod_int ht h
  have hx : 0 ≤ n ∧ n ≤ 18446744073709551615 := by simpa [Lit.wf, IntKind.min, IntKind.max, IntKind.signed, IntKind.bits] using hw
  exact ⟨n.toNat, ⟨by rw [Int.toNat_of_nonneg hx.1], by omega⟩, bulk_one _⟩
def Rep.bool (ht : P.underlying t = some .bool) (hc : P.cellsOf t = 1) : Rep P t Bool where
 R _ _ cs x := cs = [.bool x]
 bulk _ := 1
 len h := by rw [h, hc]; rfl
 mono _ h := h
 weak _ h := h
 opens h _ := by
  obtain ⟨n, rfl, _⟩ := DataW.trod_bool ht h
  exact ⟨n, rfl, bulk_one _⟩
def Rep.str (ht : P.underlying t = some .string) (hc : P.cellsOf t = 1) : Rep P t ByteArray where
 R _ _ cs x := cs = [.string x] ∧ x.size ≤ reachBytes
 bulk x := x.size + 1
 len h := by rw [h.1, hc]; rfl
 mono _ h := h
 weak _ h := h
 opens h hw := by
  obtain ⟨s, rfl, hx, _⟩ := DataW.trod_string ht h
  injection hx with hd _
  subst hd
  refine ⟨s, ⟨rfl, ?_⟩, ?_⟩
  ·
   have := hw s.data.toList.length (by simp [DataW.weights])
   rwa [Array.length_toList] at this
  ·
   simp only [Rows.uptoBulk, Array.length_toList]; exact Nat.le_refl _
def Rep.SR (r : Rep P e α) (S : Nat → Prop) (w : World) (v : Value) (xs : List α) : Prop :=
 ∃ a cap, v = .slice a xs.length cap ∧ xs.length ≤ cap ∧ cap ≤ maxLen ∧ cap * P.bytesOf e ≤ reachBytes ∧
  ∀ i x, xs[i]? = some x → ∃ b off, a = some ⟨b, off, none⟩ ∧ S b ∧ ∃ cs, r.R S w cs x ∧ ∀ j u, cs[j]? = some u → w.cell? ⟨b, off + (i * P.cellsOf e + j), none⟩ = some u
theorem Rep.SR.mono {r : Rep P e α} {S : Nat → Prop} {w w' : World} {v : Value} {xs : List α} (hm : ∀ k, S k → k < w.heap.size → w'.heap[k]? = w.heap[k]?) (h : r.SR S w v xs) : r.SR S w' v xs := by
 obtain ⟨a, cap, hv, h1, h2, h3, h4⟩ := h
 refine ⟨a, cap, hv, h1, h2, h3, fun i x hx => ?_⟩
 obtain ⟨b, off, ha, hb, cs, hr, hc⟩ := h4 i x hx
 exact ⟨b, off, ha, hb, cs, r.mono hm hr, fun j u hu => cell_mono hm (a := ⟨b, off + (i * P.cellsOf e + j), none⟩) hb (hc j u hu)⟩
theorem Rep.SR.weak {r : Rep P e α} {S S' : Nat → Prop} {w : World} {v : Value} {xs : List α} (hpos : 0 < P.cellsOf e) (hm : ∀ k, k < w.heap.size → S k → S' k) (h : r.SR S w v xs) : r.SR S' w v xs := by
 obtain ⟨a, cap, hv, h1, h2, h3, h4⟩ := h
 refine ⟨a, cap, hv, h1, h2, h3, fun i x hx => ?_⟩
 obtain ⟨b, off, ha, hb, cs, hr, hc⟩ := h4 i x hx
 refine ⟨b, off, ha, ?_, cs, r.weak hm hr, hc⟩
 have hl := r.len hr
 have h0 : cs[0]? = some (cs[0]'(by omega)) := List.getElem?_eq_getElem _
 exact hm b (World.block_lt_of_cell? w _ (hc 0 _ h0)) hb
theorem Rep.SR.nil (r : Rep P e α) (S : Nat → Prop) (w : World) : r.SR S w (.slice none 0 0) [] := ⟨none, 0, rfl, Nat.le_refl _, by simp [maxLen], by simp, by simp⟩
theorem mapM_len {γ δ : Type} {f : γ → Option δ} : ∀ {l : List γ} {r : List δ}, l.mapM f = some r → r.length = l.length
 | [], r, h => by simp at h; subst h; rfl
 | c :: l, r, h => by
  simp only [List.mapM_cons, Option.bind_eq_bind, Option.bind_eq_some_iff, Option.pure_def, Option.some.injEq] at h
  obtain ⟨b, hb, r', hr', rfl⟩ := h
  simp [mapM_len hr']
theorem mapM_opt {γ δ : Type} {f : γ → Option δ} : ∀ {l : List γ} {r : List δ}, l.mapM f = some r → ∀ (i : Nat) (a : γ), l[i]? = some a → f a = r[i]?
 | [], r, h, i, a, ha => by simp at ha
 | c :: l, r, h, i, a, ha => by
  simp only [List.mapM_cons, Option.bind_eq_bind, Option.bind_eq_some_iff, Option.pure_def, Option.some.injEq] at h
  obtain ⟨b, hb, r', hr', rfl⟩ := h
  cases i with
  | zero => simp at ha; subst ha; simpa using hb
  | succ i => simpa using mapM_opt hr' i a (by simpa using ha)
theorem cells_at {w : World} {base : Nat} {a : Addr} {n : Nat} {cs : List Value} (h : w.cells? base a n = some cs) : base ≤ a.block ∧ cs.length = n ∧ ∀ j u, cs[j]? = some u → w.cell? (a.add j) = some u := by
 unfold World.cells? at h
 split at h
 ·
  rename_i hb
  have hl : cs.length = n := by have := mapM_len h; simpa using this
  refine ⟨hb, hl, fun j u hu => ?_⟩
  have hj : j < n := by have := (List.getElem?_eq_some_iff.1 hu).1; omega
  have := mapM_opt h j j (by simp [hj])
  rw [this, hu]
 ·
  cases h
theorem list_of {γ : Type} {Q : Nat → γ → Prop} : ∀ (n : Nat), (∀ i, i < n → ∃ x, Q i x) → ∃ xs : List γ, xs.length = n ∧ ∀ i x, xs[i]? = some x → Q i x
 | 0, _ => ⟨[], rfl, by simp⟩
 | n + 1, h => by
  obtain ⟨xs, hl, hx⟩ := list_of n (fun i hi => h i (by omega))
  obtain ⟨y, hy⟩ := h n (by omega)
  refine ⟨xs ++ [y], by simp [hl], fun i x hi => ?_⟩
  rcases Nat.lt_or_ge i n with h1 | h1
  ·
   rw [List.getElem?_append_left (by omega)] at hi
   exact hx i x hi
  ·
   rw [List.getElem?_append_right (by omega), hl] at hi
   have : i = n := by
    have := (List.getElem?_eq_some_iff.1 hi).1
    simp at this; omega
   subst this
   simp at hi
   subst hi
   exact hy
theorem weightsAll_mem' {H : Type} {P : Program} {e : TypeId} : ∀ {l : List (DataW H)} {d : DataW H}, d ∈ l → ∀ n ∈ d.weights P e, n ∈ DataW.weightsAll P e l
 | c :: l, d, hd, n, hn => by
  simp only [DataW.weightsAll, List.mem_append]
  rcases List.mem_cons.1 hd with rfl | hd
  ·
   exact .inl hn
  ·
   exact .inr (weightsAll_mem' hd n hn)
theorem sum_bulk {γ H : Type} (f : γ → Nat) : ∀ (xs : List γ) (ds : List (DataW H)), xs.length = ds.length → (∀ (i : Nat) (x : γ) (d : DataW H), xs[i]? = some x → ds[i]? = some d → f x ≤ Rows.uptoBulk d) → (xs.map f).sum ≤ Rows.uptoBulkAll ds
 | [], [], _, _ => by simp [Rows.uptoBulkAll]
 | x :: xs, d :: ds, hl, h => by
  have h0 := h 0 x d rfl rfl
  have h1 := sum_bulk f xs ds (by simpa using hl) (fun i y e hy he => h (i + 1) y e (by simpa using hy) (by simpa using he))
  simp only [List.map_cons, List.sum_cons, Rows.uptoBulkAll]
  omega
 | [], _ :: _, hl, _ => by simp at hl
 | _ :: _, [], hl, _ => by simp at hl
theorem le_sum {γ : Type} (f : γ → Nat) {x : γ} : ∀ {xs : List γ}, x ∈ xs → f x ≤ (xs.map f).sum
 | y :: xs, h => by
  simp only [List.map_cons, List.sum_cons]
  rcases List.mem_cons.1 h with rfl | h
  ·
   omega
  ·
   have := le_sum f h; omega
theorem len_sum {γ : Type} (f : γ → Nat) (hf : ∀ x, 1 ≤ f x) : ∀ (xs : List γ), xs.length ≤ (xs.map f).sum
 | [] => by simp
 | x :: xs => by
  have := len_sum f hf xs
  have := hf x
  simp only [List.map_cons, List.sum_cons, List.length_cons]
  omega
def Rep.slice (r : Rep P e α) (ht : P.underlying t = some (.slice e)) (hc : P.cellsOf t = 1) (hpos : 0 < P.cellsOf e) : Rep P t (List α) where
 R S w cs xs := ∃ v, cs = [v] ∧ r.SR S w v xs
 bulk xs := (xs.map r.bulk).sum + 1
 len h := by obtain ⟨v, rfl, _⟩ := h; rw [hc]; rfl
 mono hm h := by obtain ⟨v, hv, hs⟩ := h; exact ⟨v, hv, hs.mono hm⟩
 weak hm h := by obtain ⟨v, hv, hs⟩ := h; exact ⟨v, hv, hs.weak hpos hm⟩
 opens {H enc w base held fuel cs d ps} h hw := by
  rcases open_slice ht h with ⟨rfl, hx⟩ | ⟨a, len, cap, m, n, D, Pl, rfl, hb, hl, hm, hmm, hx, hel⟩
  ·
   exact ⟨[], ⟨_, rfl, Rep.SR.nil r _ w⟩, bulk_one _⟩
  ·
   injection hx with hd _
   subst hd
   simp only [if_true] at hmm
   subst hmm
   have hwt : (len + (m - len)) * P.bytesOf e ≤ reachBytes := by
    have := hw ((len + (m - len)) * P.bytesOf e) (by simp [DataW.weights, ht])
    exact this
   have hq : ∀ i, i < len → ∃ x, r.bulk x ≤ Rows.uptoBulk (D i) ∧ ∃ b off, (some a : Option Addr) = some ⟨b, off, none⟩ ∧ (base ≤ b ∧ b < w.heap.size) ∧ ∃ cs, r.R (fun k => base ≤ k ∧ k < w.heap.size) w cs x ∧ ∀ j u, cs[j]? = some u → w.cell? ⟨b, off + (i * P.cellsOf e + j), none⟩ = some u := by
    intro i hi
    obtain ⟨cs', hcs, htr⟩ := hel i (by omega)
    obtain ⟨hba, hcl, hcc⟩ := cells_at hcs
    obtain ⟨x, hx, hbk⟩ := r.opens htr (fun q hq => hw q (by
     simp only [DataW.weights, ht, List.mem_cons, List.mem_append]
     exact .inr (.inl (weightsAll_mem' (List.mem_map.2 ⟨i, by simp [hi], rfl⟩) q hq))))
    have hlen := r.len hx
    have hc0 := hcc 0 _ (List.getElem?_eq_getElem (show 0 < cs'.length by omega))
    have hspot : a.spot = none := by
     cases hs : a.spot with
     | none => rfl
     | some s =>
      exfalso
      obtain ⟨cs0, hcs0, _⟩ := hel 0 (by omega)
      obtain ⟨_, hl0, hc00⟩ := cells_at hcs0
      have := hc00 0 _ (List.getElem?_eq_getElem (show 0 < cs0.length by omega))
      simp [Addr.add, World.cell?, hs] at this
      split at this <;> simp at this
    obtain ⟨b, off, sp⟩ := a
    simp only at hspot
    subst hspot
    have hadd : ∀ j, ((⟨b, off, none⟩ : Addr).add (i * P.cellsOf e)).add j = ⟨b, off + (i * P.cellsOf e + j), none⟩ := by
     intro j
     unfold Addr.add
     split <;> split <;> simp_all [Nat.add_assoc]
    rw [hadd] at hc0
    exact ⟨x, hbk, b, off, rfl, ⟨hb, World.block_lt_of_cell? w _ hc0⟩, cs', hx, fun j u hu => by have := hcc j u hu; rwa [hadd] at this⟩
   obtain ⟨xs, hxl, hxs⟩ := list_of len hq
   refine ⟨xs, ⟨_, rfl, some a, m, by rw [hxl], by omega, hm, ?_, fun i x hx => (hxs i x hx).2⟩, ?_⟩
   ·
    rwa [show len + (m - len) = m by omega] at hwt
   ·
    have hs := sum_bulk r.bulk xs ((List.range len).map D) (by simp [hxl]) (fun i x d hx hd => by
     simp only [List.getElem?_map, Option.map_eq_some_iff] at hd
     obtain ⟨j, hj, rfl⟩ := hd
     have hj' : j = i := by
      have := List.getElem?_eq_some_iff.1 hj
      obtain ⟨h1, h2⟩ := this
      simp at h2
      omega
     subst hj'
     exact (hxs j x hx).1)
    simp only [Rows.uptoBulk]
    omega
structure Fl (P : Program) (fs : List Field) (α : Type) where
 R : (Nat → Prop) → World → List Value → α → Prop
 bulk : α → Nat
 mono : ∀ {S : Nat → Prop} {w w' : World} {cs : List Value} {x : α}, (∀ k, S k → k < w.heap.size → w'.heap[k]? = w.heap[k]?) → R S w cs x → R S w' cs x
 weak : ∀ {S S' : Nat → Prop} {w : World} {cs : List Value} {x : α}, (∀ k, k < w.heap.size → S k → S' k) → R S w cs x → R S' w cs x
 opens : ∀ {H : Type} {enc : TypeId × Value → H} {w : World} {base : Nat} {held : Bool} {fuel : Nat} {cs : List Value} {xs : List (DataW H × List MemPlace)}, xs.length = fs.length →
  (∀ (i : Nat) (f : Field), fs[i]? = some f → DataW.trod enc P w base (fun _ => true) held fuel f.type ((cs.drop f.offset).take (P.cellsOf f.type)) = xs[i]?) →
  (∀ n ∈ DataW.weightsEach P (fs.map (·.type)) (xs.map (·.1)), n ≤ reachBytes) → ∃ x, R (fun k => base ≤ k ∧ k < w.heap.size) w cs x ∧ bulk x ≤ Rows.uptoBulkAll (xs.map (·.1))
def Fl.nil (P : Program) : Fl P [] Unit where
 R _ _ _ _ := True
 bulk _ := 0
 mono _ _ := trivial
 weak _ _ := trivial
 opens _ _ _ := ⟨(), trivial, Nat.zero_le _⟩
def Fl.cons {f : Field} {fs : List Field} (r : Rep P f.type α) (l : Fl P fs β) : Fl P (f :: fs) (α × β) where
 R S w cs x := r.R S w ((cs.drop f.offset).take (P.cellsOf f.type)) x.1 ∧ l.R S w cs x.2
 bulk x := r.bulk x.1 + l.bulk x.2
 mono hm h := ⟨r.mono hm h.1, l.mono hm h.2⟩
 weak hm h := ⟨r.weak hm h.1, l.weak hm h.2⟩
 opens {H enc w base held fuel cs xs} hl h hw := by
  match xs, hl with
  | y :: ys, hl =>
   have h0 := h 0 f rfl
   obtain ⟨x, hx, hb1⟩ := r.opens (d := y.1) (ps := y.2) (by simpa using h0) (fun n hn => hw n (by simp only [List.map_cons, DataW.weightsEach, List.mem_append]; exact .inl hn))
   obtain ⟨z, hz, hb2⟩ := l.opens (xs := ys) (by simpa using hl) (fun i g hg => by simpa using h (i + 1) g (by simpa using hg)) (fun n hn => hw n (by simp only [List.map_cons, DataW.weightsEach, List.mem_append]; exact .inr hn))
   exact ⟨(x, z), ⟨hx, hz⟩, by simp only [List.map_cons, Rows.uptoBulkAll]; omega⟩
def Rep.struct {fs : Array Field} (ht : P.underlying t = some (.struct fs)) (l : Fl P fs.toList α) (g : α → β) (bk : β → Nat) (hbk : ∀ x, bk (g x) ≤ l.bulk x + 1) : Rep P t β where
 R S w cs y := cs.length = P.cellsOf t ∧ ∃ x, l.R S w cs x ∧ y = g x
 bulk := bk
 len h := h.1
 mono hm h := by obtain ⟨h1, x, h2, h3⟩ := h; exact ⟨h1, x, l.mono hm h2, h3⟩
 weak hm h := by obtain ⟨h1, x, h2, h3⟩ := h; exact ⟨h1, x, l.weak hm h2, h3⟩
 opens h hw := by
  obtain ⟨xs, n, _, hx, hl, hlen, hf⟩ := DataW.trod_struct ht h
  injection hx with hd _
  subst hd
  obtain ⟨x, hx, hb⟩ := l.opens (xs := xs) (by simpa using hlen) (fun i f hf' => hf i f (by simpa using hf')) (fun n hn => hw n (by simpa [DataW.weights, ht] using hn))
  exact ⟨g x, ⟨hl, x, hx, rfl⟩, by have := hbk x; simp only [Rows.uptoBulk]; omega⟩
theorem Rep.arg (r : Rep P t α) {H : Type} {enc : TypeId × Value → H} {W : World} {held : Bool} {v : Value} {d : DataW H} {p : List MemPlace} (h : DataW.Trod enc P W 0 (fun _ => true) held t v d p)
  {ts : List TypeId} {ds : List (DataW H)} (hsz : (DataW.weightsEach P ts ds).all (· ≤ reachBytes) = true) {j : Nat} (hj : ts[j]? = some t) (hd : ds[j]? = some d) : ∃ x, r.R (fun k => k < W.heap.size) W v.cells.toList x ∧ r.bulk x ≤ Rows.uptoBulk d := by
 obtain ⟨fuel, hf⟩ := h
 obtain ⟨x, hx, hb⟩ := r.opens hf (fun n hn => by
  have := List.all_eq_true.1 hsz n (DataW.weights_mem_each hj hd n hn)
  simpa using this)
 exact ⟨x, r.weak (fun k _ hk => hk.2) hx, hb⟩
end
end Go.Proofs.YthikijlbclckdaaGreat
