/- Keep: contracts (Rr Bc Sm). -/
import Derived.Test.YthikijlbclckdaaGreatT4
import Derived.Test.YthikijlbclckdaaGreatT6
import Derived.Test.YthikijlbclckdaaGreatT18
import Derived.Test.YthikijlbclckdaaGreatT24
import Derived.Test.YthikijlbclckdaaGreatT25
import Derived.Test.YthikijlbclckdaaGreatT26
namespace Go.Proofs.YthikijlbclckdaaGreat
set_option maxRecDepth 100000
set_option maxHeartbeats 40000000
set_option linter.unusedSimpArgs false
set_option linter.unusedVariables false
open Go.RowKit
def RnH (w : World) (base xb : Nat) (s : StateV) : Prop :=
 ∃ p vp vi vt vj vr vs vk vl vm, w.heap[xb]? = some (.cells #[U s.pos, U s.done, U s.made, vp, vi, vt, vj, vr, vs, vk, vl, vm, .pointer p, .bool false] 89 (0, 0)) ∧ ListsOwn w base s vp vi vt vj vr vs vk vl vm
theorem RnB.head {w : World} {base xb rb : Nat} {s : StateV} (h : RnB w base xb rb s false) : RnH w base xb s := by
 obtain ⟨vp, vi, vt, vj, vr, vs, vk, vl, vm, hx, hL⟩ := h
 exact ⟨_, vp, vi, vt, vj, vr, vs, vk, vl, vm, hx, hL⟩
end Go.Proofs.YthikijlbclckdaaGreat
namespace Go.Proofs.YthikijlbclckdaaGreat
set_option maxRecDepth 100000
set_option maxHeartbeats 40000000
set_option linter.unusedSimpArgs false
set_option linter.unusedVariables false
open Go.RowKit
def coreF (o : Option StateV) (x : RowV) : Option StateV := o.bind fun s => coreS s x
def ChainK : ByteArray → List RowV → Prop
 | _, [] => True
 | last, x :: l => ltS last x.1 = true ∧ ChainK x.1 l
theorem coreF_none : ∀ l : List RowV, l.foldl coreF none = none
 | [] => rfl
 | _ :: l => coreF_none l
theorem chain_ne : ∀ (l : List RowV) (last : ByteArray), ChainK last l → (last = c1 97 ∨ ltS (c1 97) last = true) → ∀ x ∈ l, x.1 ≠ c1 97
 | [], _, _, _, x, hx => by cases hx
 | y :: l, last, h, hl, x, hx => by
  obtain ⟨h1, h2⟩ := h
  have hy : ltS (c1 97) y.1 = true := by
   rcases hl with rfl | hl
   ·
    exact h1
   ·
    exact ltS_trans hl h1
  rcases List.mem_cons.1 hx with rfl | hx
  ·
   intro e; rw [e, ltS_irr] at hy; cases hy
  ·
   exact chain_ne l y.1 h2 (.inr hy) x hx
theorem fold_core : ∀ (l : List RowV) (last : ByteArray) (s s' : StateV), ChainK last l → (∀ x ∈ l, x.1 ≠ c1 97) → l.foldl coreF (some s) = some s' → ∃ k, l.foldl rdStep (some ⟨false, last, s⟩) = some ⟨false, k, s'⟩
 | [], last, s, s', _, _, h => by
  cases h
  exact ⟨last, rfl⟩
 | x :: l, last, s, s', hc, hn, h => by
  obtain ⟨h1, h2⟩ := hc
  rw [List.foldl_cons] at h ⊢
  have h3 : coreF (some s) x = coreS s x := rfl
  rw [h3] at h
  cases hx : coreS s x with
  | none => rw [hx, coreF_none] at h; cases h
  | some s1 =>
   rw [hx] at h
   rw [rd_core ⟨false, last, s⟩ rfl x h1 (hn x (List.mem_cons_self ..)), hx]
   exact fold_core l x.1 s1 s' h2 (fun y hy => hn y (List.mem_cons_of_mem _ hy)) h
theorem seg {α : Type} (f : α → RowV) (g : List α → StateV) : ∀ (L l0 : List α), (∀ l x, x ∈ L → coreS (g l) (f x) = some (g (l ++ [x]))) → (L.map f).foldl coreF (some (g l0)) = some (g (l0 ++ L))
 | [], l0, _ => by rw [List.append_nil]; rfl
 | x :: L, l0, h => by
  rw [List.map_cons, List.foldl_cons]
  have h3 : coreF (some (g l0)) (f x) = some (g (l0 ++ [x])) := h l0 x (List.mem_cons_self ..)
  rw [h3, seg f g L (l0 ++ [x]) (fun l y hy => h l y (List.mem_cons_of_mem _ hy)), List.append_assoc]
  rfl
theorem chain_of : ∀ (l : List RowV) (r0 : RowV), (∀ (i : Nat) (q r : RowV), (r0 :: l)[i]? = some q → (r0 :: l)[i + 1]? = some r → ltS q.1 r.1 = true) → ChainK r0.1 l
 | [], _, _ => trivial
 | x :: l, r0, h => ⟨h 0 r0 x rfl rfl, chain_of l x (fun i q r hq hr => h (i + 1) q r hq hr)⟩
theorem may_rows {s : StateV} (h : mayB s = true) : boundsB s = true ∧ (∀ (i : Nat) (r : RowV), (rows s)[i]? = some r → r.2.size ≤ 16384) ∧ ∀ (i : Nat) (q r : RowV), (rows s)[i]? = some q → (rows s)[i + 1]? = some r → ltS q.1 r.1 = true := by
 unfold mayB at h
 rw [Bool.and_eq_true] at h
 obtain ⟨h1, h2⟩ := h
 unfold rowsB at h2
 rw [List.all_eq_true] at h2
 have hl : ∀ {i : Nat} {r : RowV}, (rows s)[i]? = some r → i < (rows s).length := fun {i r} h => by
  rcases Nat.lt_or_ge i (rows s).length with h3 | h3
  ·
   exact h3
  ·
   rw [List.getElem?_eq_none h3] at h; cases h
 refine ⟨h1, fun i r hr => ?_, fun i q r hq hr => ?_⟩
 ·
  have h3 := h2 i (List.mem_range.2 (hl hr))
  simp only [rOk, hr, Bool.and_eq_true, decide_eq_true_eq] at h3
  exact h3.1
 ·
  have h3 := h2 (i + 1) (List.mem_range.2 (hl hr))
  simp only [rOk, hr, hq, Bool.and_eq_true] at h3
  exact h3.2
def restL (s : StateV) : List RowV := s.msgs.map rowG ++ (s.insts.map rowI ++ (s.jobs.map rowJ ++ (s.kept.map rowK ++ (s.listed.map rowL ++ (s.procs.map rowP ++ (s.timers.map rowR ++ (s.subs.map rowS ++ s.tokens.map rowT)))))))
theorem rows_eq (s : StateV) : rows s = rowA s :: restL s := by simp [rows, lists, restL]
theorem rows_core (s : StateV) (hok : StateOk s) (hb : boundsB s = true) (hv : ∀ x ∈ s.procs, x.bytes.size ≤ 16384) : (restL s).foldl coreF (some { state0 with pos := s.pos, done := s.done, made := s.made }) = some s := by
 unfold boundsB at hb
 simp only [Bool.and_eq_true, List.all_eq_true] at hb
 obtain ⟨⟨⟨⟨⟨⟨⟨⟨bp, bi⟩, bt⟩, bj⟩, br⟩, bs⟩, bk⟩, bl⟩, bm⟩ := hb
 have h0 : (s.msgs.map rowG).foldl coreF (some { state0 with pos := s.pos, done := s.done, made := s.made }) = some { state0 with pos := s.pos, done := s.done, made := s.made, msgs := s.msgs } := seg rowG (fun l => { state0 with pos := s.pos, done := s.done, made := s.made, msgs := l }) s.msgs [] (fun l x hx => core_G x (hok.msgs x hx) (bm x hx) _)
 have h1 : (s.insts.map rowI).foldl coreF (some { state0 with pos := s.pos, done := s.done, made := s.made, msgs := s.msgs }) = some { state0 with pos := s.pos, done := s.done, made := s.made, msgs := s.msgs, insts := s.insts } := seg rowI (fun l => { state0 with pos := s.pos, done := s.done, made := s.made, msgs := s.msgs, insts := l }) s.insts [] (fun l x hx => core_I x (hok.insts x hx) (bi x hx) _)
 have h2 : (s.jobs.map rowJ).foldl coreF (some { state0 with pos := s.pos, done := s.done, made := s.made, msgs := s.msgs, insts := s.insts }) = some { state0 with pos := s.pos, done := s.done, made := s.made, msgs := s.msgs, insts := s.insts, jobs := s.jobs } := seg rowJ (fun l => { state0 with pos := s.pos, done := s.done, made := s.made, msgs := s.msgs, insts := s.insts, jobs := l }) s.jobs [] (fun l x hx => core_J x (hok.jobs x hx) (bj x hx) _)
 have h3 : (s.kept.map rowK).foldl coreF (some { state0 with pos := s.pos, done := s.done, made := s.made, msgs := s.msgs, insts := s.insts, jobs := s.jobs }) = some { state0 with pos := s.pos, done := s.done, made := s.made, msgs := s.msgs, insts := s.insts, jobs := s.jobs, kept := s.kept } := seg rowK (fun l => { state0 with pos := s.pos, done := s.done, made := s.made, msgs := s.msgs, insts := s.insts, jobs := s.jobs, kept := l }) s.kept [] (fun l x hx => core_K x (hok.kept x hx) (bk x hx) _)
 have h4 : (s.listed.map rowL).foldl coreF (some { state0 with pos := s.pos, done := s.done, made := s.made, msgs := s.msgs, insts := s.insts, jobs := s.jobs, kept := s.kept }) = some { state0 with pos := s.pos, done := s.done, made := s.made, msgs := s.msgs, insts := s.insts, jobs := s.jobs, kept := s.kept, listed := s.listed } := seg rowL (fun l => { state0 with pos := s.pos, done := s.done, made := s.made, msgs := s.msgs, insts := s.insts, jobs := s.jobs, kept := s.kept, listed := l }) s.listed [] (fun l x hx => core_L x (hok.listed x hx) (bl x hx) _)
 have h5 : (s.procs.map rowP).foldl coreF (some { state0 with pos := s.pos, done := s.done, made := s.made, msgs := s.msgs, insts := s.insts, jobs := s.jobs, kept := s.kept, listed := s.listed }) = some { state0 with pos := s.pos, done := s.done, made := s.made, msgs := s.msgs, insts := s.insts, jobs := s.jobs, kept := s.kept, listed := s.listed, procs := s.procs } := seg rowP (fun l => { state0 with pos := s.pos, done := s.done, made := s.made, msgs := s.msgs, insts := s.insts, jobs := s.jobs, kept := s.kept, listed := s.listed, procs := l }) s.procs [] (fun l x hx => core_P x (hok.procs x hx) (hv x hx) _)
 have h6 : (s.timers.map rowR).foldl coreF (some { state0 with pos := s.pos, done := s.done, made := s.made, msgs := s.msgs, insts := s.insts, jobs := s.jobs, kept := s.kept, listed := s.listed, procs := s.procs }) = some { state0 with pos := s.pos, done := s.done, made := s.made, msgs := s.msgs, insts := s.insts, jobs := s.jobs, kept := s.kept, listed := s.listed, procs := s.procs, timers := s.timers } := seg rowR (fun l => { state0 with pos := s.pos, done := s.done, made := s.made, msgs := s.msgs, insts := s.insts, jobs := s.jobs, kept := s.kept, listed := s.listed, procs := s.procs, timers := l }) s.timers [] (fun l x hx => core_R x (hok.timers x hx) (br x hx) _)
 have h7 : (s.subs.map rowS).foldl coreF (some { state0 with pos := s.pos, done := s.done, made := s.made, msgs := s.msgs, insts := s.insts, jobs := s.jobs, kept := s.kept, listed := s.listed, procs := s.procs, timers := s.timers }) = some { state0 with pos := s.pos, done := s.done, made := s.made, msgs := s.msgs, insts := s.insts, jobs := s.jobs, kept := s.kept, listed := s.listed, procs := s.procs, timers := s.timers, subs := s.subs } := seg rowS (fun l => { state0 with pos := s.pos, done := s.done, made := s.made, msgs := s.msgs, insts := s.insts, jobs := s.jobs, kept := s.kept, listed := s.listed, procs := s.procs, timers := s.timers, subs := l }) s.subs [] (fun l x hx => core_S x (hok.subs x hx) (bs x hx) _)
 have h8 : (s.tokens.map rowT).foldl coreF (some { state0 with pos := s.pos, done := s.done, made := s.made, msgs := s.msgs, insts := s.insts, jobs := s.jobs, kept := s.kept, listed := s.listed, procs := s.procs, timers := s.timers, subs := s.subs }) = some { state0 with pos := s.pos, done := s.done, made := s.made, msgs := s.msgs, insts := s.insts, jobs := s.jobs, kept := s.kept, listed := s.listed, procs := s.procs, timers := s.timers, subs := s.subs, tokens := s.tokens } := seg rowT (fun l => { state0 with pos := s.pos, done := s.done, made := s.made, msgs := s.msgs, insts := s.insts, jobs := s.jobs, kept := s.kept, listed := s.listed, procs := s.procs, timers := s.timers, subs := s.subs, tokens := l }) s.tokens [] (fun l x hx => core_T x (hok.tokens x hx) (bt x hx) _)
 unfold restL
 simp only [List.foldl_append]
 rw [h0, h1, h2, h3, h4, h5, h6, h7, h8]
theorem read_rowA (s : StateV) (hok : StateOk s) : rdStep (some rd0) (rowA s) = some ⟨false, c1 97, { state0 with pos := s.pos, done := s.done, made := s.made }⟩ := by
 have hst : stepA state0 ⟨uvS s.pos ++ uvS s.done ++ uvS s.made, 0⟩ = ⟨{ state0 with pos := s.pos, done := s.done, made := s.made }, ⟨⟨#[]⟩, 0⟩, false⟩ := by
  unfold stepA
  rw [app_assoc, uintR_uv s.pos hok.pos]
  dsimp only
  rw [uintR_uv s.done hok.done]
  dsimp only
  rw [uv0' s.made hok.made]
 unfold rowA
 rw [rdz rd0 rfl]
 have h2 : rd0.s = state0 := rfl
 rw [h2, hst]
 rfl
theorem read_back (s : StateV) (hok : StateOk s) (hm : mayB s = true) : readS (rows s) = some s := by
 obtain ⟨hb, hv, hr⟩ := may_rows hm
 have hp : ∀ x ∈ s.procs, x.bytes.size ≤ 16384 := fun x hx => by
  have hmem : rowP x ∈ rows s := by
   rw [rows_eq]
   unfold restL
   simp only [List.mem_cons, List.mem_append, List.mem_map]
   exact .inr (.inr (.inr (.inr (.inr (.inr (.inl ⟨x, hx, rfl⟩))))))
  obtain ⟨i, hi⟩ := List.mem_iff_getElem?.1 hmem
  have := hv i _ hi
  have h2 : (rowP x).2 = txS x.bytes := rfl
  rw [h2] at this
  unfold txS at this
  rw [app_size] at this
  omega
 have hc := rows_core s hok hb hp
 rw [rows_eq] at hr
 have hch := chain_of (restL s) (rowA s) hr
 have hka : (rowA s).1 = c1 97 := rfl
 rw [hka] at hch
 obtain ⟨k, hk⟩ := fold_core (restL s) (c1 97) _ s hch (chain_ne _ _ hch (.inl rfl)) hc
 have hf : readF (rows s) = some ⟨false, k, s⟩ := by
  rw [rows_eq]
  unfold readF
  rw [List.foldl_cons, read_rowA s hok]
  exact hk
 unfold readS
 rw [hf]
 simp [hm]
def tot (s : StateV) : Nat := s.procs.length + s.insts.length + s.tokens.length + s.jobs.length + s.timers.length + s.subs.length + s.kept.length + s.listed.length + s.msgs.length
end Go.Proofs.YthikijlbclckdaaGreat
namespace Go.Proofs.YthikijlbclckdaaGreat
set_option maxRecDepth 100000
set_option maxHeartbeats 40000000
set_option linter.unusedSimpArgs false
set_option linter.unusedVariables false
open Go.IntWalk Go.RowKit
theorem take_snoc2 {α : Type} {l : List α} {i : Nat} {x : α} (h : l[i]? = some x) : l.take (i + 1) = l.take i ++ [x] := by rw [List.take_add_one, h]; rfl
theorem bytes_eq7 {a b : ByteArray} (h : a.toList = b.toList) : a = b := by
 rw [Lib.toList_data, Lib.toList_data] at h
 exact ByteArray.ext (Array.toList_inj.1 h)
theorem vsame_any (l m : List VarV) (u1 u2 : Value) (w : World) (h1 : VarsAt w u1 l) (h2 : VarsAt w u2 m) :
  Calls Tryz.prog 44 #[u1, u2] w fun e w' => (∃ o, e = .returned (.bool o) ∧ (o = true ↔ l = m)) ∧ Below w.heap.size w w' := by
 have H1 := hid h1
 have H2 := hid h2
 obtain ⟨a1, c1', rfl, hc1, hm1, -⟩ := h1
 obtain ⟨a2, c2', rfl, hc2, hm2, -⟩ := h2
 go_enter Tryz.func44, Tryz.ntmps44
 by_cases hll : l.length = m.length
 ·
  have q0 : ((l.length : Int) != (m.length : Int)) = false := by simp [hll]
  go_wp2
  go_loopw [5] (fun vi wr => ∃ i : Nat, i ≤ l.length ∧ vi = .int .i64 i ∧ Hid (l.take i = m.take i) ∧ Hid (Below w.heap.size w wr)) (fun vi _ => l.length - (intOf vi).toNat)
  case atStart => exact ⟨0, Nat.zero_le _, rfl, rfl, Below.refl _ _⟩
  case round =>
   obtain ⟨i, hi, rfl, hT, hR⟩ := hrel
   by_cases hlt : i < l.length
   ·
    obtain ⟨⟨xn, ⟨xk, xi, xs⟩⟩, hx⟩ : ∃ x, l[i]? = some x := ⟨_, List.getElem?_eq_getElem hlt⟩
    obtain ⟨⟨yn, ⟨yk, yi, ys⟩⟩, hy⟩ : ∃ x, m[i]? = some x := ⟨_, List.getElem?_eq_getElem (by omega)⟩
    obtain ⟨as1, cs1, es1, ls1, ms1, gx⟩ := VarsAt.below H1.out hR.out
    obtain ⟨b1, o1, rfl, x0, x1, x2, x3⟩ := gx i _ hx
    cases es1
    clear gx
    obtain ⟨as2, cs2, es2, ls2, ms2, gy⟩ := VarsAt.below H2.out hR.out
    obtain ⟨b2, o2, rfl, y0, y1, y2, y3⟩ := gy i _ hy
    cases es2
    clear gy
    have hb1 := World.block_lt_of_cell? wr _ x0
    have hb2 := World.block_lt_of_cell? wr _ y0
    dsimp only at hb1 hb2 x0 x1 x2 x3 y0 y1 y2 y3
    have hs : Hid (l.take (i + 1) = m.take (i + 1) ↔ (⟨xn, ⟨xk, xi, xs⟩⟩ : VarV) = ⟨yn, ⟨yk, yi, ys⟩⟩) := by
     show _ ↔ _
     rw [take_snoc2 hx, take_snoc2 hy, hT.out]
     simp
    clear hx hy
    by_cases he : (⟨xn, ⟨xk, xi, xs⟩⟩ : VarV) = ⟨yn, ⟨yk, yi, ys⟩⟩
    ·
     replace hs := hid (hs.out.2 he)
     simp only [VarV.mk.injEq, ValV.mk.injEq] at he
     obtain ⟨rfl, rfl, rfl, rfl⟩ := he
     go_wp2_with fail
     refine wp_par (fun _ => False) (fun _ => True) (List.replicate 9 false) _ [.fix ?_, .fix ?_, .fix ?_, .fix ?_, .fix ?_, .fix ?_, .fix ?_, .fix ?_, .fix (.bool false)] (by kernel_rfl) (by kernel_rfl) (by simp only [List.length_replicate, List.drop_succ_cons, List.drop_zero, List.drop_nil]; with_reducible rfl) rfl (fun _ _ _ _ _ => ⟨fun h => h, fun h => h⟩) (fun _ _ h _ => h) trivial ?_
     rotate_left 8
     iterate 8
      first
       | (refine par_skip (a' := ?_) (by rfl) (by rfl) ?_ ?_ ?_; rotate_left 1; with_reducible rfl; (simp only [lays]; with_reducible rfl))
       | (refine par_run (a' := ?_) (by rfl) (by rfl) (fun w' hb hn => ?_) ?_ ?_; rotate_left 1; (have hc := hb.cells; go_simp; (try simp (disch := omega) only [nrm, toNatUp, iteOmega]); first | with_reducible rfl | (go_simp; with_reducible rfl)); (simp only [lays]; with_reducible rfl))
     refine par_run (a' := ?a55k8) (by rfl) (by rfl) (fun w' hb hn => ?h55k8) ?p55k8 ?g55k8
     case h55k8 => (have hc := hb.cells; go_simp; (try simp (disch := omega) only [nrm, toNatUp, iteOmega]); first | done | simp)
     case p55k8 => (simp only [lays]; with_reducible rfl)
     refine par_end (fun w9 hb9 hf9 _ => ?_)
     replace hb9 := hb9.grow
     try refine wpList_none ?_
     have hbb := hid (hR.out.trans (hb9.mono hR.out.size))
     clear hb9
     go_wp2
     go_roundw
     case rel => exact ⟨i + 1, by omega, by go_num, hs, hbb⟩
     case measure => simp [intOf]; omega
    ·
     replace hs := hid (mt hs.out.1 he)
     replace he := hid he
     go_wp2_with fail
     refine wp_par (fun _ => False) (fun _ => True) (List.replicate 9 false) _ [.fix ?_, .fix ?_, .fix ?_, .fix ?_, .fix ?_, .fix ?_, .fix ?_, .fix ?_, .fix (.bool true)] (by kernel_rfl) (by kernel_rfl) (by simp only [List.length_replicate, List.drop_succ_cons, List.drop_zero, List.drop_nil]; with_reducible rfl) rfl (fun _ _ _ _ _ => ⟨fun h => h, fun h => h⟩) (fun _ _ h _ => h) trivial ?_
     rotate_left 8
     iterate 8
      first
       | (refine par_skip (a' := ?_) (by rfl) (by rfl) ?_ ?_ ?_; rotate_left 1; with_reducible rfl; (simp only [lays]; with_reducible rfl))
       | (refine par_run (a' := ?_) (by rfl) (by rfl) (fun w' hb hn => ?_) ?_ ?_; rotate_left 1; (have hc := hb.cells; go_simp; (try simp (disch := omega) only [nrm, toNatUp, iteOmega]); first | with_reducible rfl | (go_simp; with_reducible rfl)); (simp only [lays]; with_reducible rfl))
     refine par_run (a' := ?a76k8) (by rfl) (by rfl) (fun w' hb hn => ?h76k8) ?p76k8 ?g76k8
     case h76k8 => (have hc := hb.cells; go_simp; (try simp (disch := omega) only [nrm, toNatUp, iteOmega]); ((try intros); (try intro); exact absurd (by simp only [VarV.mk.injEq, ValV.mk.injEq]; (repeat' apply And.intro) <;> first | assumption | (apply bytes_eq7; assumption)) he.out))
     case p76k8 => (simp only [lays]; with_reducible rfl)
     refine par_end (fun w9 hb9 hf9 _ => ?_)
     replace hb9 := hb9.grow
     try refine wpList_none ?_
     have hbb := hid (hR.out.trans (hb9.mono hR.out.size))
     clear hb9
     go_wp2
     go_ret
     exact ⟨⟨false, rfl, by simp; intro h; exact hs.out (by rw [h])⟩, hbb.out⟩
   ·
    obtain rfl : i = l.length := by omega
    go_wp2
    go_ret
    refine ⟨⟨true, rfl, by simp only [true_iff]; have := hT.out; rw [List.take_of_length_le (Nat.le_refl _), hll, List.take_of_length_le (Nat.le_refl _)] at this; exact this⟩, hR.out⟩
 ·
  have q0 : ((l.length : Int) != (m.length : Int)) = true := by simp; omega
  go_wp2
  go_ret
  exact ⟨⟨false, rfl, by simp; intro h; exact hll (by rw [h])⟩, Below.refl _ _⟩
end Go.Proofs.YthikijlbclckdaaGreat
