/- Rkleast: contracts (Cm Cv Cq Cu). -/
import Derived.Test.YthikijlbclckdaaGreatR20
import Derived.Test.YthikijlbclckdaaGreatR22
import Derived.Test.YthikijlbclckdaaGreatR23
import Derived.Test.YthikijlbclckdaaGreatR24
namespace Go.Proofs.YthikijlbclckdaaGreat
set_option maxRecDepth 100000
set_option maxHeartbeats 40000000
set_option linter.unusedSimpArgs false
set_option linter.unusedVariables false
open Go.RowKit
theorem up_ris {l : List RowV} (h : Up l) : risL l = l := by
  suffices hh : ∀ (l acc : List RowV), Up (acc ++ l) → l.foldl risF acc = acc ++ l from hh l [] h
  intro l
  induction l with
  | nil => intro acc _; simp
  | cons x l ih =>
    intro acc h
    have e : risF acc x = acc ++ [x] := by
      unfold risF
      split
      · rfl
      · rename_i q hq
        obtain ⟨ys, rfl⟩ := List.getLast?_eq_some_iff.1 hq
        rw [if_pos ((List.pairwise_append.1 h).2.2 q (by simp) x (by simp))]
    rw [List.foldl_cons, e, ih (acc ++ [x]) (by rw [List.append_assoc]; exact h), List.append_assoc]
    rfl
theorem merge_self : ∀ l : List RowV, mergeC l l = []
  | [] => by rw [mergeC]
  | x :: l => by rw [mergeC, if_neg (by rw [clt_irr]; decide), if_pos rfl, if_pos rfl, merge_self l]
def doF (c : ChgV) (a : List RowV × Bool) (x : RowV) : List RowV × Bool :=
  if x.1 = c.key then a else if a.2 = false ∧ ltS c.key x.1 = true then (a.1 ++ [(c.key, c.s)] ++ [x], true) else (a.1 ++ [x], a.2)
def doL (c : ChgV) (l : List RowV) : List RowV × Bool := l.foldl (doF c) ([], c.gone)
def doOne (l : List RowV) (c : ChgV) : List RowV := if (doL c l).2 = true then (doL c l).1 else (doL c l).1 ++ [(c.key, c.s)]
theorem doL_snoc (c : ChgV) (l : List RowV) (x : RowV) : doL c (l ++ [x]) = doF c (doL c l) x := by unfold doL; rw [List.foldl_append]; rfl
theorem do_pre {c : ChgV} : ∀ (pre acc : List RowV) (d : Bool), (∀ p ∈ pre, ltS p.1 c.key = true) → pre.foldl (doF c) (acc, d) = (acc ++ pre, d)
  | [], acc, d, _ => by simp
  | x :: pre, acc, d, h => by
    have hx := h x (by simp)
    have hn : ltS c.key x.1 = false := by
      cases h2 : ltS c.key x.1 with
      | false => rfl
      | true => have := clt_trans hx h2; rw [clt_irr] at this; cases this
    have e : doF c (acc, d) x = (acc ++ [x], d) := by
      unfold doF
      rw [if_neg (clt_ne hx), if_neg (by rw [hn]; simp)]
    rw [List.foldl_cons, e, do_pre pre _ d (fun p hp => h p (List.mem_cons_of_mem _ hp)), List.append_assoc]
    rfl
theorem do_post {c : ChgV} : ∀ (l acc : List RowV), (∀ p ∈ l, ltS c.key p.1 = true) → l.foldl (doF c) (acc, true) = (acc ++ l, true)
  | [], acc, _ => by simp
  | x :: l, acc, h => by
    have hx := h x (by simp)
    have e : doF c (acc, true) x = (acc ++ [x], true) := by
      unfold doF
      rw [if_neg (clt_ne hx).symm, if_neg (by simp)]
    rw [List.foldl_cons, e, do_post l _ (fun p hp => h p (List.mem_cons_of_mem _ hp)), List.append_assoc]
    rfl
theorem do_skip (c : ChgV) (a : List RowV × Bool) (x : RowV) (h : x.1 = c.key) : doF c a x = a := by unfold doF; rw [if_pos h]
theorem do_gone {pre a : List RowV} {x : RowV} (h1 : ∀ p ∈ pre, ltS p.1 x.1 = true) (h2 : ∀ p ∈ a, ltS x.1 p.1 = true) : doOne (pre ++ x :: a) (goneC x) = pre ++ a := by
  have e : doL (goneC x) (pre ++ x :: a) = (pre ++ a, true) := by
    unfold doL
    rw [List.foldl_append, do_pre (c := goneC x) pre [] _ h1, List.foldl_cons, do_skip (goneC x) _ x rfl]
    exact do_post (c := goneC x) a _ h2
  unfold doOne
  rw [e]
  rfl
theorem do_late {acc a : List RowV} {y : RowV} (h2 : ∀ p ∈ a, ltS y.1 p.1 = true) : (if (a.foldl (doF (newC y)) (acc, false)).2 = true then (a.foldl (doF (newC y)) (acc, false)).1 else (a.foldl (doF (newC y)) (acc, false)).1 ++ [y]) = acc ++ y :: a := by
  cases a with
  | nil => rfl
  | cons z a =>
    have hz := h2 z (by simp)
    have e : doF (newC y) (acc, false) z = (acc ++ [y] ++ [z], true) := by
      unfold doF
      rw [if_neg (show ¬ z.1 = (newC y).key from (clt_ne hz).symm), if_pos (show (acc, false).2 = false ∧ ltS (newC y).key z.1 = true from ⟨rfl, hz⟩)]
      rfl
    rw [List.foldl_cons, e, do_post (c := newC y) a _ (fun p hp => h2 p (List.mem_cons_of_mem _ hp))]
    rw [if_pos rfl]
    simp
theorem do_new {pre a : List RowV} {y : RowV} (h1 : ∀ p ∈ pre, ltS p.1 y.1 = true) (h2 : ∀ p ∈ a, ltS y.1 p.1 = true) : doOne (pre ++ a) (newC y) = pre ++ y :: a := by
  have e : doL (newC y) (pre ++ a) = a.foldl (doF (newC y)) (pre, false) := by
    unfold doL
    rw [List.foldl_append, do_pre (c := newC y) pre [] _ h1]
    rfl
  have h := do_late (acc := pre) h2
  unfold doOne
  rw [e]
  exact h
theorem do_over {pre a : List RowV} {x y : RowV} (he : x.1 = y.1) (h1 : ∀ p ∈ pre, ltS p.1 y.1 = true) (h2 : ∀ p ∈ a, ltS y.1 p.1 = true) : doOne (pre ++ x :: a) (newC y) = pre ++ y :: a := by
  have e : doL (newC y) (pre ++ x :: a) = a.foldl (doF (newC y)) (pre, false) := by
    unfold doL
    rw [List.foldl_append, do_pre (c := newC y) pre [] _ h1, List.foldl_cons, do_skip (newC y) _ x he]
    rfl
  have h := do_late (acc := pre) h2
  unfold doOne
  rw [e]
  exact h
theorem moves_pre : ∀ (a b pre : List RowV), Up a → Up b → (∀ p ∈ pre, ∀ z ∈ a, ltS p.1 z.1 = true) → (∀ p ∈ pre, ∀ z ∈ b, ltS p.1 z.1 = true) → (mergeC a b).foldl doOne (pre ++ a) = pre ++ b := by
  intro a b
  induction a, b using mergeC.induct with
  | case1 => intro pre _ _ _ _; rw [mergeC]; rfl
  | case2 x a ih =>
    intro pre ha hb h1 h2
    rw [mergeC, List.foldl_cons, do_gone (fun p hp => h1 p hp x (by simp)) ha.head]
    exact ih pre ha.tail hb (fun p hp z hz => h1 p hp z (List.mem_cons_of_mem _ hz)) h2
  | case3 y b ih =>
    intro pre ha hb h1 h2
    rw [mergeC, List.foldl_cons, do_new (fun p hp => h2 p hp y (by simp)) (by simp)]
    have := ih (pre ++ [y]) ha hb.tail (by simp) (fun p hp z hz => by
      rcases List.mem_append.1 hp with hp | hp
      · exact h2 p hp z (List.mem_cons_of_mem _ hz)
      · obtain rfl : p = y := by simpa using hp
        exact hb.head z hz)
    simpa using this
  | case4 x a y b h ih =>
    intro pre ha hb h1 h2
    rw [mergeC, if_pos h, List.foldl_cons, do_gone (fun p hp => h1 p hp x (by simp)) ha.head]
    exact ih pre ha.tail hb (fun p hp z hz => h1 p hp z (List.mem_cons_of_mem _ hz)) h2
  | case5 x a y b h h3 h4 ih =>
    intro pre ha hb h1 h2
    obtain rfl : x = y := Prod.ext h3 h4
    rw [mergeC, if_neg h, if_pos rfl, if_pos rfl]
    have := ih (pre ++ [x]) ha.tail hb.tail (fun p hp z hz => by
      rcases List.mem_append.1 hp with hp | hp
      · exact h1 p hp z (List.mem_cons_of_mem _ hz)
      · obtain rfl : p = x := by simpa using hp
        exact ha.head z hz) (fun p hp z hz => by
      rcases List.mem_append.1 hp with hp | hp
      · exact h2 p hp z (List.mem_cons_of_mem _ hz)
      · obtain rfl : p = x := by simpa using hp
        exact hb.head z hz)
    simpa using this
  | case6 x a y b h h3 h4 ih =>
    intro pre ha hb h1 h2
    have hya : ∀ z ∈ a, ltS y.1 z.1 = true := fun z hz => by rw [← h3]; exact ha.head z hz
    rw [mergeC, if_neg h, if_pos h3, if_neg h4, List.foldl_cons, do_over h3 (fun p hp => h2 p hp y (by simp)) hya]
    have := ih (pre ++ [y]) ha.tail hb.tail (fun p hp z hz => by
      rcases List.mem_append.1 hp with hp | hp
      · exact h1 p hp z (List.mem_cons_of_mem _ hz)
      · obtain rfl : p = y := by simpa using hp
        exact hya z hz) (fun p hp z hz => by
      rcases List.mem_append.1 hp with hp | hp
      · exact h2 p hp z (List.mem_cons_of_mem _ hz)
      · obtain rfl : p = y := by simpa using hp
        exact hb.head z hz)
    simpa using this
  | case7 x a y b h h3 ih =>
    intro pre ha hb h1 h2
    have hyx : ltS y.1 x.1 = true := clt_tri (by simpa using h) h3
    have hya : ∀ z ∈ x :: a, ltS y.1 z.1 = true := fun z hz => by
      rcases List.mem_cons.1 hz with rfl | hz
      · exact hyx
      · exact clt_trans hyx (ha.head z hz)
    rw [mergeC, if_neg h, if_neg h3, List.foldl_cons, do_new (fun p hp => h2 p hp y (by simp)) hya]
    have := ih (pre ++ [y]) ha hb.tail (fun p hp z hz => by
      rcases List.mem_append.1 hp with hp | hp
      · exact h1 p hp z hz
      · obtain rfl : p = y := by simpa using hp
        exact hya z hz) (fun p hp z hz => by
      rcases List.mem_append.1 hp with hp | hp
      · exact h2 p hp z (List.mem_cons_of_mem _ hz)
      · obtain rfl : p = y := by simpa using hp
        exact hb.head z hz)
    simpa using this
theorem moves {a b : List RowV} (ha : Up a) (hb : Up b) : (mergeC a b).foldl doOne a = b := moves_pre a b [] ha hb (by simp) (by simp)
end Go.Proofs.YthikijlbclckdaaGreat
namespace Go.Proofs.YthikijlbclckdaaGreat
set_option maxRecDepth 100000
set_option maxHeartbeats 40000000
set_option linter.unusedSimpArgs false
set_option linter.unusedVariables false
open Go.RowKit
def noneS : ByteArray := ⟨#[110, 111, 110, 101]⟩
def aS (v : ByteArray) : ByteArray := ⟨#[97]⟩ ++ v
def valD (l : List RowV) (k : ByteArray) : ByteArray := match mlook (α := ByteArray) l k with
  | none => noneS
  | some v => aS v
theorem valD_in {l : List RowV} (h : Up l) {x : RowV} (hx : x ∈ l) : valD l x.1 = aS x.2 := by
  unfold valD
  rw [(mlook_iff h.once x.1 x.2).2 hx]
theorem valD_out {l : List RowV} {k : ByteArray} (h : ∀ x ∈ l, x.1 ≠ k) : valD l k = noneS := by
  unfold valD
  rw [(mlook_none k).2 h]
theorem aS_list (v : ByteArray) : (aS v).data.toList = 97 :: v.data.toList := by
  unfold aS
  rw [ByteArray.data_append, Array.toList_append]
  rfl
theorem aS_inj {u v : ByteArray} (h : aS u = aS v) : u = v := by
  have := congrArg (fun b => b.data.toList) h
  simp only [aS_list, List.cons.injEq, true_and] at this
  exact ByteArray.ext (Array.toList_inj.1 this)
theorem aS_none (v : ByteArray) : aS v ≠ noneS := fun h => by
  have := congrArg (fun b => b.data.toList) h
  simp only [aS_list] at this
  cases this
theorem least {a b : List RowV} (ha : Up a) (hb : Up b) {c : ChgV} (hc : c ∈ mergeC a b) : valD a c.key ≠ valD b c.key ∧ ((c.gone = true ∧ valD b c.key = noneS) ∨ (c.gone = false ∧ valD b c.key = aS c.s)) := by
  rcases (merge_mem a b ha hb c).1 hc with ⟨y, hy, rfl, hn⟩ | ⟨x, hx, rfl, hn⟩
  · have e : valD b y.1 = aS y.2 := valD_in hb hy
    refine ⟨?_, .inr ⟨rfl, e⟩⟩
    show valD a y.1 ≠ valD b y.1
    rw [e]
    unfold valD
    cases hl : mlook (α := ByteArray) a y.1 with
    | none => exact (aS_none _).symm
    | some v =>
      intro h
      have := aS_inj h
      rw [this] at hl
      exact hn ((mlook_iff ha.once y.1 y.2).1 hl)
  · have e : valD b x.1 = noneS := valD_out hn
    refine ⟨?_, .inl ⟨rfl, e⟩⟩
    show valD a x.1 ≠ valD b x.1
    rw [e, valD_in ha hx]
    exact aS_none _
theorem mlook_drop {l : List RowV} {i : Nat} {x : RowV} (hx : l[i]? = some x) (k : ByteArray) : mlook (α := ByteArray) (l.drop i) k = if k = x.1 then some x.2 else mlook (α := ByteArray) (l.drop (i + 1)) k := by
  obtain ⟨h, rfl⟩ := List.getElem?_eq_some_iff.1 hx
  rw [List.drop_eq_getElem_cons h, mlook]
theorem value_any (l : List RowV) (hl : l.length ≤ 4194304) (hsz : RowsSz l) (k : ByteArray) (v : Value) (w : World) (h : rowsF l v w) :
    Calls Tryz.prog 25 #[v, .string k] w fun e w' => e = .returned (.string (valD l k)) ∧ Below w.heap.size w w' := by
  have H := hid h
  have Hsz := hid hsz
  obtain ⟨a, c', rfl, hc1, hcm, -⟩ := h
  unfold maxLen at hcm
  clear hsz
  go_enter Tryz.func25, Tryz.ntmps25
  go_wp2
  go_loopw [5] (fun vi wr => ∃ i : Nat, i ≤ l.length ∧ vi = .int .i64 i ∧ Hid (mlook (α := ByteArray) (l.drop i) k = mlook (α := ByteArray) l k ∧ Below w.heap.size w wr)) (fun vi _ => l.length - (intOf vi).toNat)
  case atStart => exact ⟨0, Nat.zero_le _, rfl, ⟨rfl, Below.refl _ _⟩⟩
  case round =>
    obtain ⟨i, hi, rfl, hR⟩ := hrel
    by_cases hlt : i < l.length
    · obtain ⟨⟨rk, rv⟩, hx⟩ : ∃ x, l[i]? = some x := ⟨_, List.getElem?_eq_getElem hlt⟩
      obtain ⟨b, off, cap', he, d0, d1⟩ := rows_at (rowsF_st _ _ _ _ H.out hR.out.2) hx
      cases he
      dsimp only at d0 d1
      have hrv := (Hsz.out _ (List.mem_of_getElem? hx)).2
      dsimp only at hrv
      have hdr := mlook_drop hx k
      dsimp only at hdr
      clear hx
      by_cases hk : k = rk
      · subst hk
        have hbq := beq_self_eq_true k.toList
        have hv : Hid (valD l k = aS rv) := by
          show _ = _
          unfold valD
          rw [← hR.out.1, hdr, if_pos rfl]
        clear hdr
        go_wp2
        go_ret
        exact ⟨by rw [hv.out]; rfl, hR.out.2⟩
      · have hbn : (rk.toList == k.toList) = false := beq_eq_false_iff_ne.2 fun e => hk (by rw [Lib.toList_data, Lib.toList_data] at e; exact (ByteArray.ext (Array.toList_inj.1 e)).symm)
        have hd : Hid (mlook (α := ByteArray) (l.drop (i + 1)) k = mlook (α := ByteArray) l k ∧ Below w.heap.size w wr) := ⟨by rw [← hR.out.1, hdr, if_neg hk], hR.out.2⟩
        clear hdr hR
        go_wp2
        go_roundw
        case rel => exact ⟨i + 1, by omega, by go_num, hd⟩
        case measure => simp [intOf]; omega
    · obtain rfl : i = l.length := by omega
      have hv : Hid (valD l k = noneS) := by
        show _ = _
        unfold valD
        rw [← hR.out.1, List.drop_length]
        rfl
      go_wp2
      go_ret
      exact ⟨by rw [hv.out]; rfl, hR.out.2⟩
end Go.Proofs.YthikijlbclckdaaGreat
namespace Go.Proofs.YthikijlbclckdaaGreat
set_option maxRecDepth 100000
set_option maxHeartbeats 40000000
set_option linter.unusedSimpArgs false
set_option linter.unusedVariables false
open Go.IntWalk Go.RowKit
theorem noneS_list : noneS.toList = [110, 111, 110, 101] := by rw [Lib.toList_data]; rfl
theorem upc_at {M : List ChgV} (h : UpC M) {j : Nat} {x y : ChgV} (hx : M[j]? = some x) (hy : M[j + 1]? = some y) : ltS x.key y.key = true := by
  obtain ⟨h1, rfl⟩ := List.getElem?_eq_some_iff.1 hx
  obtain ⟨h2, rfl⟩ := List.getElem?_eq_some_iff.1 hy
  exact List.pairwise_iff_getElem.1 h j (j + 1) h1 h2 (Nat.lt_succ_self j)
theorem keepLeast_any (sa sb : StateV) (hoa : StateOk sa) (hob : StateOk sb) (ca cb : List Value) (vp vi vt vj vr vs vk vl vm up ui ut uj ur us uk ul um : Value) (w : World) (ha : StateAt w ca sa vp vi vt vj vr vs vk vl vm) (hb : StateAt w cb sb up ui ut uj ur us uk ul um) :
    Calls Tryz.prog 9 #[.agg ca.toArray, .agg cb.toArray] w fun e w' => e = .returned (.bool true) ∧ Below w.heap.size w w' := by
  have HA := hid ha
  have HB := hid hb
  have Hoa := hid hoa
  have Hob := hid hob
  obtain ⟨hcs, hp, hi, ht, hj, hr, hs, hk, hl, hm⟩ := ha
  obtain ⟨xap, xcp, rfl, -⟩ := hp
  obtain ⟨xai, xci, rfl, -⟩ := hi
  obtain ⟨xat, xct, rfl, -⟩ := ht
  obtain ⟨xaj, xcj, rfl, -⟩ := hj
  obtain ⟨xar, xcr, rfl, -⟩ := hr
  obtain ⟨xas, xcs, rfl, -⟩ := hs
  obtain ⟨xak, xck, rfl, -⟩ := hk
  obtain ⟨xal, xcl, rfl, -⟩ := hl
  obtain ⟨xam, xcm, rfl, -⟩ := hm
  subst hcs
  obtain ⟨hcs, hp, hi, ht, hj, hr, hs, hk, hl, hm⟩ := hb
  obtain ⟨yap, ycp, rfl, -⟩ := hp
  obtain ⟨yai, yci, rfl, -⟩ := hi
  obtain ⟨yat, yct, rfl, -⟩ := ht
  obtain ⟨yaj, ycj, rfl, -⟩ := hj
  obtain ⟨yar, ycr, rfl, -⟩ := hr
  obtain ⟨yas, ycs, rfl, -⟩ := hs
  obtain ⟨yak, yck, rfl, -⟩ := hk
  obtain ⟨yal, ycl, rfl, -⟩ := hl
  obtain ⟨yam, ycm, rfl, -⟩ := hm
  subst hcs
  clear hoa hob
  go_enter Tryz.func9, Tryz.ntmps9
  go_wp2_with fail
  obtain ⟨w0, hw0, g1, g2, bl0, sz0⟩ := alloc2 w (.cells #[U sa.pos, U sa.done, U sa.made, .slice xap sa.procs.length xcp, .slice xai sa.insts.length xci, .slice xat sa.tokens.length xct, .slice xaj sa.jobs.length xcj, .slice xar sa.timers.length xcr, .slice xas sa.subs.length xcs, .slice xak sa.kept.length xck, .slice xal sa.listed.length xcl, .slice xam sa.msgs.length xcm] 33) (.cells #[U sb.pos, U sb.done, U sb.made, .slice yap sb.procs.length ycp, .slice yai sb.insts.length yci, .slice yat sb.tokens.length yct, .slice yaj sb.jobs.length ycj, .slice yar sb.timers.length ycr, .slice yas sb.subs.length ycs, .slice yak sb.kept.length yck, .slice yal sb.listed.length ycl, .slice yam sb.msgs.length ycm] 33)
  try rw [← hw0]
  have X0 := hid g1
  have Y0 := hid g2
  have B0 := hid bl0
  clear g1 g2 bl0 hw0 sz0
  refine (shown_any w0).mono ?_
  rintro e w1 ⟨rfl, b1⟩
  have X1 := hid ((b1.block w.heap.size (heap_lt X0.out)).trans X0.out)
  have Y1 := hid ((b1.block (w.heap.size + 1) (heap_lt Y0.out)).trans Y0.out)
  have B1 := hid (B0.out.trans (b1.mono B0.out.size))
  clear b1 X0 Y0 B0
  have k0 := cell_of X1.out 0
  have k1 := cell_of X1.out 1
  have k2 := cell_of X1.out 2
  have k3 := cell_of X1.out 3
  have k4 := cell_of X1.out 4
  have k5 := cell_of X1.out 5
  have k6 := cell_of X1.out 6
  have k7 := cell_of X1.out 7
  have k8 := cell_of X1.out 8
  have k9 := cell_of X1.out 9
  have k10 := cell_of X1.out 10
  have k11 := cell_of X1.out 11
  have l0 := cell_of Y1.out 0
  have l1 := cell_of Y1.out 1
  have l2 := cell_of Y1.out 2
  have l3 := cell_of Y1.out 3
  have l4 := cell_of Y1.out 4
  have l5 := cell_of Y1.out 5
  have l6 := cell_of Y1.out 6
  have l7 := cell_of Y1.out 7
  have l8 := cell_of Y1.out 8
  have l9 := cell_of Y1.out 9
  have l10 := cell_of Y1.out 10
  have l11 := cell_of Y1.out 11
  go_wp2_with fail
  refine (rsmay_any sa Hoa.out [U sa.pos, U sa.done, U sa.made, .slice xap sa.procs.length xcp, .slice xai sa.insts.length xci, .slice xat sa.tokens.length xct, .slice xaj sa.jobs.length xcj, .slice xar sa.timers.length xcr, .slice xas sa.subs.length xcs, .slice xak sa.kept.length xck, .slice xal sa.listed.length xcl, .slice xam sa.msgs.length xcm] _ _ _ _ _ _ _ _ _ w1 (HA.out.grow B1.out)).mono ?_
  rintro e w2 ⟨rfl, b2⟩
  have X2 := hid ((b2.block w.heap.size (heap_lt X1.out)).trans X1.out)
  have Y2 := hid ((b2.block (w.heap.size + 1) (heap_lt Y1.out)).trans Y1.out)
  have B2 := hid (B1.out.trans (b2.mono B1.out.size))
  clear b2 X1 Y1 B1 k0 k1 k2 k3 k4 k5 k6 k7 k8 k9 k10 k11 l0 l1 l2 l3 l4 l5 l6 l7 l8 l9 l10 l11
  have k0 := cell_of X2.out 0
  have k1 := cell_of X2.out 1
  have k2 := cell_of X2.out 2
  have k3 := cell_of X2.out 3
  have k4 := cell_of X2.out 4
  have k5 := cell_of X2.out 5
  have k6 := cell_of X2.out 6
  have k7 := cell_of X2.out 7
  have k8 := cell_of X2.out 8
  have k9 := cell_of X2.out 9
  have k10 := cell_of X2.out 10
  have k11 := cell_of X2.out 11
  have l0 := cell_of Y2.out 0
  have l1 := cell_of Y2.out 1
  have l2 := cell_of Y2.out 2
  have l3 := cell_of Y2.out 3
  have l4 := cell_of Y2.out 4
  have l5 := cell_of Y2.out 5
  have l6 := cell_of Y2.out 6
  have l7 := cell_of Y2.out 7
  have l8 := cell_of Y2.out 8
  have l9 := cell_of Y2.out 9
  have l10 := cell_of Y2.out 10
  have l11 := cell_of Y2.out 11
  go_wp2_with fail
  refine (rsmay_any sb Hob.out [U sb.pos, U sb.done, U sb.made, .slice yap sb.procs.length ycp, .slice yai sb.insts.length yci, .slice yat sb.tokens.length yct, .slice yaj sb.jobs.length ycj, .slice yar sb.timers.length ycr, .slice yas sb.subs.length ycs, .slice yak sb.kept.length yck, .slice yal sb.listed.length ycl, .slice yam sb.msgs.length ycm] _ _ _ _ _ _ _ _ _ w2 (HB.out.grow B2.out)).mono ?_
  rintro e w3 ⟨rfl, b3⟩
  have X3 := hid ((b3.block w.heap.size (heap_lt X2.out)).trans X2.out)
  have Y3 := hid ((b3.block (w.heap.size + 1) (heap_lt Y2.out)).trans Y2.out)
  have B3 := hid (B2.out.trans (b3.mono B2.out.size))
  clear b3 X2 Y2 B2 k0 k1 k2 k3 k4 k5 k6 k7 k8 k9 k10 k11 l0 l1 l2 l3 l4 l5 l6 l7 l8 l9 l10 l11
  cases hma : mayB sa with
  | false =>
    go_wp2
    go_ret
    exact ⟨rfl, B3.out⟩
  | true =>
  cases hmb : mayB sb with
  | false =>
    go_wp2
    go_ret
    exact ⟨rfl, B3.out⟩
  | true =>
  have hua := up_adj (rows sa) (fun i r q hr hq => rows_rise hma hr hq)
  have hub := up_adj (rows sb) (fun i r q hr hq => rows_rise hmb hr hq)
  have hla : (rows sa).length ≤ 4194304 := rows_len Hoa.out
  have hlb : (rows sb).length ≤ 4194304 := rows_len Hob.out
  have hza := hid (rowsSz sa Hoa.out)
  have hzb := hid (rowsSz sb Hob.out)
  have hch : Hid (chgS (rows sa) sb = mergeC (rows sa) (rows sb)) := by show _ = _; unfold chgS; rw [if_pos hmb, up_ris hua]
  have k0 := cell_of X3.out 0
  have k1 := cell_of X3.out 1
  have k2 := cell_of X3.out 2
  have k3 := cell_of X3.out 3
  have k4 := cell_of X3.out 4
  have k5 := cell_of X3.out 5
  have k6 := cell_of X3.out 6
  have k7 := cell_of X3.out 7
  have k8 := cell_of X3.out 8
  have k9 := cell_of X3.out 9
  have k10 := cell_of X3.out 10
  have k11 := cell_of X3.out 11
  have l0 := cell_of Y3.out 0
  have l1 := cell_of Y3.out 1
  have l2 := cell_of Y3.out 2
  have l3 := cell_of Y3.out 3
  have l4 := cell_of Y3.out 4
  have l5 := cell_of Y3.out 5
  have l6 := cell_of Y3.out 6
  have l7 := cell_of Y3.out 7
  have l8 := cell_of Y3.out 8
  have l9 := cell_of Y3.out 9
  have l10 := cell_of Y3.out 10
  have l11 := cell_of Y3.out 11
  go_wp2_with fail
  refine (srows_any sa Hoa.out [U sa.pos, U sa.done, U sa.made, .slice xap sa.procs.length xcp, .slice xai sa.insts.length xci, .slice xat sa.tokens.length xct, .slice xaj sa.jobs.length xcj, .slice xar sa.timers.length xcr, .slice xas sa.subs.length xcs, .slice xak sa.kept.length xck, .slice xal sa.listed.length xcl, .slice xam sa.msgs.length xcm] _ _ _ _ _ _ _ _ _ w3 (HA.out.grow B3.out)).mono ?_
  rintro e w4 ⟨lc, v, rfl, hlc, hv, b4⟩
  have X4 := hid ((b4.block w.heap.size (heap_lt X3.out)).trans X3.out)
  have Y4 := hid ((b4.block (w.heap.size + 1) (heap_lt Y3.out)).trans Y3.out)
  have B4 := hid (B3.out.trans (b4.mono B3.out.size))
  rw [toldS_yes hma] at hv
  have Hlc := hid hlc
  have Hv := hid hv
  clear b4 hlc hv X3 Y3 B3 k0 k1 k2 k3 k4 k5 k6 k7 k8 k9 k10 k11 l0 l1 l2 l3 l4 l5 l6 l7 l8 l9 l10 l11
  go_wp2_with fail
  refine (told_any lc _ v w4 Hlc.out Hv.out hla).mono ?_
  rintro e w5 ⟨u1, rfl, hf1, b5⟩
  have X5 := hid ((b5.block w.heap.size (heap_lt X4.out)).trans X4.out)
  have Y5 := hid ((b5.block (w.heap.size + 1) (heap_lt Y4.out)).trans Y4.out)
  have B5 := hid (B4.out.trans (b5.mono B4.out.size))
  have F5 := hid hf1
  clear b5 Hlc Hv X4 Y4 B4
  have k0 := cell_of X5.out 0
  have k1 := cell_of X5.out 1
  have k2 := cell_of X5.out 2
  have k3 := cell_of X5.out 3
  have k4 := cell_of X5.out 4
  have k5 := cell_of X5.out 5
  have k6 := cell_of X5.out 6
  have k7 := cell_of X5.out 7
  have k8 := cell_of X5.out 8
  have k9 := cell_of X5.out 9
  have k10 := cell_of X5.out 10
  have k11 := cell_of X5.out 11
  have l0 := cell_of Y5.out 0
  have l1 := cell_of Y5.out 1
  have l2 := cell_of Y5.out 2
  have l3 := cell_of Y5.out 3
  have l4 := cell_of Y5.out 4
  have l5 := cell_of Y5.out 5
  have l6 := cell_of Y5.out 6
  have l7 := cell_of Y5.out 7
  have l8 := cell_of Y5.out 8
  have l9 := cell_of Y5.out 9
  have l10 := cell_of Y5.out 10
  have l11 := cell_of Y5.out 11
  go_wp2_with fail
  refine (srows_any sb Hob.out [U sb.pos, U sb.done, U sb.made, .slice yap sb.procs.length ycp, .slice yai sb.insts.length yci, .slice yat sb.tokens.length yct, .slice yaj sb.jobs.length ycj, .slice yar sb.timers.length ycr, .slice yas sb.subs.length ycs, .slice yak sb.kept.length yck, .slice yal sb.listed.length ycl, .slice yam sb.msgs.length ycm] _ _ _ _ _ _ _ _ _ w5 (HB.out.grow B5.out)).mono ?_
  rintro e w6 ⟨lc, v, rfl, hlc, hv, b6⟩
  have X6 := hid ((b6.block w.heap.size (heap_lt X5.out)).trans X5.out)
  have Y6 := hid ((b6.block (w.heap.size + 1) (heap_lt Y5.out)).trans Y5.out)
  have B6 := hid (B5.out.trans (b6.mono B5.out.size))
  rw [toldS_yes hmb] at hv
  have Hlc := hid hlc
  have Hv := hid hv
  have F6 := hid (rowsF_st _ _ _ _ F5.out b6)
  clear b6 hlc hv X5 Y5 B5 F5 k0 k1 k2 k3 k4 k5 k6 k7 k8 k9 k10 k11 l0 l1 l2 l3 l4 l5 l6 l7 l8 l9 l10 l11
  go_wp2_with fail
  refine (told_any lc _ v w6 Hlc.out Hv.out hlb).mono ?_
  rintro e w7 ⟨u2, rfl, hf2, b7⟩
  have X7 := hid ((b7.block w.heap.size (heap_lt X6.out)).trans X6.out)
  have Y7 := hid ((b7.block (w.heap.size + 1) (heap_lt Y6.out)).trans Y6.out)
  have B7 := hid (B6.out.trans (b7.mono B6.out.size))
  have F7 := hid (rowsF_st _ _ _ _ F6.out b7)
  have G7 := hid hf2
  have hly := heap_lt Y7.out
  clear b7 Hlc Hv X6 Y6 B6 F6 hf2
  have l0 := cell_of Y7.out 0
  have l1 := cell_of Y7.out 1
  have l2 := cell_of Y7.out 2
  have l3 := cell_of Y7.out 3
  have l4 := cell_of Y7.out 4
  have l5 := cell_of Y7.out 5
  have l6 := cell_of Y7.out 6
  have l7 := cell_of Y7.out 7
  have l8 := cell_of Y7.out 8
  have l9 := cell_of Y7.out 9
  have l10 := cell_of Y7.out 10
  have l11 := cell_of Y7.out 11
  go_wp2_with fail
  refine wp_par (fun _ => False) (fun _ => True) (List.replicate 4 false) _ [.fix ?_, .new (fun u W => ∃ kb vb, u = overV kb vb ∧ OverAt W kb vb (rows sa)), .fix ?_, .new (chgF (chgS (rows sa) sb))] (by kernel_rfl) (by kernel_rfl) (by simp only [List.length_replicate, List.drop_succ_cons, List.drop_zero, List.drop_nil]; with_reducible rfl) rfl (fun _ _ _ _ _ => ⟨fun h => h, fun h => h⟩) (fun _ _ h _ => h) trivial ?_
  rotate_left 2
  iterate 1
    first
      | (refine par_skip (a' := ?_) (by rfl) (by rfl) ?_ ?_ ?_; rotate_left 1; with_reducible rfl; (simp only [Act.put, List.setIfInBounds_toArray, List.set_cons_zero, List.set_cons_succ]; with_reducible rfl))
      | (refine par_run (a' := ?_) (by rfl) (by rfl) (fun w' hb hn => ?_) ?_ ?_; rotate_left 1; (have hc := hb.cells; first | (go_simp; (try simp (disch := omega) only [IntWalk.i64_in, IntWalk.i32_in, IntWalk.u64_in, IntWalk.u8_in, IntWalk.u32_in, toNatUp, iteOmega]); with_reducible rfl) | (go_simp; (try simp (disch := omega) only [IntWalk.i64_in, IntWalk.i32_in, IntWalk.u64_in, IntWalk.u8_in, IntWalk.u32_in, toNatUp, iteOmega]); go_simp; with_reducible rfl)); (simp only [Act.put, List.setIfInBounds_toArray, List.set_cons_zero, List.set_cons_succ]; with_reducible rfl))
  refine par_callF (a' := ?a244k1) (f := ?f244k1) (args := ?r244k1) (by rfl) (by rfl) (fun w' => ?e244k1) (over_st (rows sa)) (fun w' hb hn => ?h244k1) (fun u => ?p244k1) (fun u => ?g244k1)
  case e244k1 => (go_simp; constructor <;> with_reducible rfl)
  case h244k1 => (exact (over_any (rows sa) (by omega) _ w' (rowsF_st _ _ _ _ F7.out hb.grow)).mono (fun e w2 h => by obtain ⟨kb, vb, he, ho, hb⟩ := h; exact ⟨_, he, ⟨kb, vb, rfl, ho⟩, hb⟩))
  case p244k1 => (simp only [Act.put, List.setIfInBounds_toArray, List.set_cons_zero, List.set_cons_succ]; with_reducible rfl)
  iterate 1
    first
      | (refine par_skip (a' := ?_) (by rfl) (by rfl) ?_ ?_ ?_; rotate_left 1; with_reducible rfl; (simp only [Act.put, List.setIfInBounds_toArray, List.set_cons_zero, List.set_cons_succ]; with_reducible rfl))
      | (refine par_run (a' := ?_) (by rfl) (by rfl) (fun w' hb hn => ?_) ?_ ?_; rotate_left 1; (have hc := hb.cells; first | (go_simp; (try simp (disch := omega) only [IntWalk.i64_in, IntWalk.i32_in, IntWalk.u64_in, IntWalk.u8_in, IntWalk.u32_in, toNatUp, iteOmega]); with_reducible rfl) | (go_simp; (try simp (disch := omega) only [IntWalk.i64_in, IntWalk.i32_in, IntWalk.u64_in, IntWalk.u8_in, IntWalk.u32_in, toNatUp, iteOmega]); go_simp; with_reducible rfl)); (simp only [Act.put, List.setIfInBounds_toArray, List.set_cons_zero, List.set_cons_succ]; with_reducible rfl))
  refine par_callF (a' := ?a252k3) (f := ?f252k3) (args := ?r252k3) (by rfl) (by rfl) (fun w' => ?e252k3) (chgF_st _) (fun w' hb hn => ?h252k3) (fun u => ?p252k3) (fun u => ?g252k3)
  case e252k3 => (go_simp; constructor <;> with_reducible rfl)
  case h252k3 => ((obtain ⟨kb, vb, rfl, ho⟩ := need_head hn (by kernel_rfl); exact schanges_any kb vb (rows sa) hla hza.out sb Hob.out [U sb.pos, U sb.done, U sb.made, .slice yap sb.procs.length ycp, .slice yai sb.insts.length yci, .slice yat sb.tokens.length yct, .slice yaj sb.jobs.length ycj, .slice yar sb.timers.length ycr, .slice yas sb.subs.length ycs, .slice yak sb.kept.length yck, .slice yal sb.listed.length ycl, .slice yam sb.msgs.length ycm] _ _ _ _ _ _ _ _ _ w' ho (HB.out.grow (B7.out.trans (hb.grow.mono B7.out.size)))))
  case p252k3 => (simp only [Act.put, List.setIfInBounds_toArray, List.set_cons_zero, List.set_cons_succ]; with_reducible rfl)
  refine par_end (fun w9 hb9 hf9 _ => ?_)
  replace hb9 := hb9.grow
  try refine wpList_none ?_
  have F9 := hid (rowsF_st _ _ _ _ F7.out hb9)
  have G9 := hid (rowsF_st _ _ _ _ G7.out hb9)
  have B9 := hid (B7.out.trans (hb9.mono B7.out.size))
  simp only [List.forall_mem_cons] at hf9
  obtain ⟨gA, -⟩ := hf9
  rw [hch.out] at gA
  have GA := hid gA
  clear hb9 X7 Y7 F7 G7 B7 hly l0 l1 l2 l3 l4 l5 l6 l7 l8 l9 l10 l11
  obtain ⟨w10, rfl⟩ : ∃ w10 : World, w10 = w9 := ⟨_, rfl⟩
  obtain ⟨aa, cc, rfl, -⟩ := gA
  have hml : (mergeC (rows sa) (rows sb)).length ≤ 8388608 := Nat.le_trans (merge_len _ _) (by omega)
  have hup := merge_up _ _ hua hub
  have hle : Hid (∀ c ∈ mergeC (rows sa) (rows sb), valD (rows sa) c.key ≠ valD (rows sb) c.key ∧ ((c.gone = true ∧ valD (rows sb) c.key = noneS) ∨ (c.gone = false ∧ valD (rows sb) c.key = aS c.s))) := fun c hc => least hua hub hc
  have hks : Hid (∀ c ∈ mergeC (rows sa) (rows sb), c.key.size ≤ 4611686018427387904 ∧ c.s.size ≤ 4611686018427387904) := fun c hc => by
    rcases (merge_mem _ _ hua hub c).1 hc with ⟨y, hy, rfl, -⟩ | ⟨x, hx, rfl, -⟩
    · exact hzb.out y hy
    · exact ⟨(hza.out x hx).1, Nat.zero_le _⟩
  clear hua hub hch
  generalize mergeC (rows sa) (rows sb) = M at GA hml hup hle hks ⊢
  generalize rows sa = A at F9 hla hza hle ⊢
  generalize rows sb = B at G9 hlb hzb hle ⊢
  go_wp2_with fail
  go_loopw [11] (fun vi wr => ∃ i : Nat, i ≤ M.length ∧ vi = .int .i64 i ∧ Hid (Below w10.heap.size w10 wr)) (fun vi _ => M.length - (intOf vi).toNat)
  case atStart => exact ⟨0, Nat.zero_le _, rfl, Below.refl _ _⟩
  case round =>
    obtain ⟨wo, rfl⟩ : ∃ wo : World, wo = wr := ⟨_, rfl⟩
    obtain ⟨i, hi, rfl, hR⟩ := hrel
    by_cases hlt : i < M.length
    · obtain ⟨⟨key, cS, cg⟩, hx⟩ : ∃ x, M[i]? = some x := ⟨_, List.getElem?_eq_getElem hlt⟩
      obtain ⟨b, off, cap', he, d0, d1, d2⟩ := chg_at (GA.out.grow hR.out) hx
      cases he
      dsimp only at d0 d1 d2
      have hb0 := World.block_lt_of_cell? wo _ d0
      dsimp only at hb0
      have hlc := hle.out _ (List.mem_of_getElem? hx)
      have hkc := hks.out _ (List.mem_of_getElem? hx)
      dsimp only at hlc hkc
      obtain ⟨hne, hcase⟩ := hlc
      have hbe : ¬ (valD A key).toList = (valD B key).toList := fun e => hne (by rw [Lib.toList_data, Lib.toList_data] at e; exact ByteArray.ext (Array.toList_inj.1 e))
      have HBE := hid hbe
      have HCA := hid hcase
      have HX := hid hx
      clear hne hcase hbe hx
      by_cases h0 : i = 0
      · subst h0
        simp only [Nat.zero_mul, Nat.add_zero] at d0 d1 d2
        go_wp2_with fail
        refine wp_par (fun _ => False) (fun _ => True) (List.replicate 17 false) _ [.fix ?_, .fix ?_, .fix ?_, .fix ?_, .fix ?_, .fix ?_, .fix ?_, .fix ?_, .fix ?_, .fix ?_, .fix ?_, .fix ?_, .fix ?_, .fix ?_, .fix ?_, .fix ?_, .fix ?_] (by kernel_rfl) (by kernel_rfl) (by simp only [List.length_replicate, List.drop_succ_cons, List.drop_zero, List.drop_nil]; with_reducible rfl) rfl (fun _ _ _ _ _ => ⟨fun h => h, fun h => h⟩) (fun _ _ h _ => h) trivial ?_
        rotate_left 17
        iterate 17
          first
            | (refine par_skip (a' := ?_) (by rfl) (by rfl) ?_ ?_ ?_; rotate_left 1; with_reducible rfl; (simp only [Act.put, List.setIfInBounds_toArray, List.set_cons_zero, List.set_cons_succ]; with_reducible rfl))
            | (refine par_run (a' := ?_) (by rfl) (by rfl) (fun w' hb hn => ?_) ?_ ?_; rotate_left 1; (have hc := hb.cells; first | (go_simp; (try simp (disch := omega) only [IntWalk.i64_in, IntWalk.i32_in, IntWalk.u64_in, IntWalk.u8_in, IntWalk.u32_in, toNatUp, iteOmega]); with_reducible rfl) | (go_simp; (try simp (disch := omega) only [IntWalk.i64_in, IntWalk.i32_in, IntWalk.u64_in, IntWalk.u8_in, IntWalk.u32_in, toNatUp, iteOmega]); go_simp; with_reducible rfl)); (simp only [Act.put, List.setIfInBounds_toArray, List.set_cons_zero, List.set_cons_succ]; with_reducible rfl))
        refine par_end (fun w9 hb9 hf9 _ => ?_)
        replace hb9 := hb9.grow
        try refine wpList_none ?_
        replace d0 := (hb9.cell (p := ⟨b, off, none⟩) hb0).trans d0
        replace d1 := (hb9.cell (p := ⟨b, off + 1, none⟩) hb0).trans d1
        replace d2 := (hb9.cell (p := ⟨b, off + 2, none⟩) hb0).trans d2
        have R11 := hid (hR.out.trans (hb9.mono hR.out.size))
        replace hb0 := Nat.lt_of_lt_of_le hb0 hb9.size
        clear hb9 HX
        obtain ⟨w11, rfl⟩ : ∃ w11 : World, w11 = w9 := ⟨_, rfl⟩
        go_wp2_with fail
        refine (value_any A hla hza.out key u1 w11 (rowsF_st _ _ _ _ F9.out R11.out)).mono ?_
        rintro e w12 ⟨rfl, b12⟩
        replace d0 := (b12.cell (p := ⟨b, off, none⟩) hb0).trans d0
        replace d1 := (b12.cell (p := ⟨b, off + 1, none⟩) hb0).trans d1
        replace d2 := (b12.cell (p := ⟨b, off + 2, none⟩) hb0).trans d2
        replace hb0 := Nat.lt_of_lt_of_le hb0 b12.size
        have R12 := hid (R11.out.trans (b12.mono R11.out.size))
        clear b12
        go_wp2_with fail
        refine (value_any B hlb hzb.out key u2 w12 (rowsF_st _ _ _ _ G9.out R12.out)).mono ?_
        rintro e w13 ⟨rfl, b13⟩
        replace d0 := (b13.cell (p := ⟨b, off, none⟩) hb0).trans d0
        replace d1 := (b13.cell (p := ⟨b, off + 1, none⟩) hb0).trans d1
        replace d2 := (b13.cell (p := ⟨b, off + 2, none⟩) hb0).trans d2
        replace hb0 := Nat.lt_of_lt_of_le hb0 b13.size
        have R13 := hid (R12.out.trans (b13.mono R12.out.size))
        clear b13
        rcases HCA.out with ⟨rfl, hv⟩ | ⟨rfl, hv⟩
        · have hbe := HBE.out
          rw [hv] at hbe ⊢
          rw [noneS_list] at hbe
          replace hbe := beq_eq_false_iff_ne.2 hbe
          unfold noneS
          generalize valD A key = was at hbe ⊢
          go_wp2
          go_roundw
          case rel => exact ⟨0 + 1, by omega, by go_num, R13.out⟩
          case measure => simp [intOf]; omega
        · have hbe := HBE.out
          rw [hv] at hbe ⊢
          have hbn : ¬ (aS cS).toList = [110, 111, 110, 101] := fun e => aS_none cS (by rw [← noneS_list] at e; rw [Lib.toList_data, Lib.toList_data] at e; exact ByteArray.ext (Array.toList_inj.1 e))
          have hcs := hkc.2
          replace hbe := beq_eq_false_iff_ne.2 hbe
          replace hbn := beq_eq_false_iff_ne.2 hbn
          unfold aS at hbe hbn ⊢
          generalize valD A key = was at hbe ⊢
          go_wp2
          go_roundw
          case rel => exact ⟨0 + 1, by omega, by go_num, R13.out⟩
          case measure => simp [intOf]; omega
      · obtain ⟨j, rfl⟩ : ∃ j, i = j + 1 := ⟨i - 1, by omega⟩
        obtain ⟨⟨pkey, pS, pg⟩, hy⟩ : ∃ x, M[j]? = some x := ⟨_, List.getElem?_eq_getElem (show j < M.length by omega)⟩
        obtain ⟨b2, off2, cap2, he, e0, -, -⟩ := chg_at (GA.out.grow hR.out) hy
        cases he
        dsimp only at e0
        have hpk := (hks.out _ (List.mem_of_getElem? hy)).1
        have hlts : ltS pkey key = true := upc_at hup hy HX.out
        have hless : ∀ W, Calls Tryz.prog 17 #[.string pkey, .string key] W fun e w' => e = .returned (.bool true) ∧ Below W.heap.size W w' := fun W => (less_any pkey key W hpk).mono (fun e w2 h => by obtain ⟨he, n, hn⟩ := h; subst hn; exact ⟨by rw [he, hlts], below_drewN (Below.refl _ _) n⟩)
        have Hless := hid hless
        have q0 : decide ((((j + 1 : Nat) : Int)) > 0) = true := decide_eq_true (by omega)
        have wj : wrap64 (((j + 1 : Nat) : Int) - 1) = (j : Int) := by unfold wrap64; omega
        clear hless hlts hy
        go_wp2_with fail
        refine wp_par (fun _ => False) (fun _ => True) (List.replicate 17 false) _ [.fix ?_, .fix ?_, .fix ?_, .fix ?_, .fix ?_, .fix ?_, .fix ?_, .fix ?_, .fix ?_, .fix ?_, .fix ?_, .fix ?_, .fix ?_, .fix ?_, .fix ?_, .fix ?_, .fix ?_] (by kernel_rfl) (by kernel_rfl) (by simp only [List.length_replicate, List.drop_succ_cons, List.drop_zero, List.drop_nil]; with_reducible rfl) rfl (fun _ _ _ _ _ => ⟨fun h => h, fun h => h⟩) (fun _ _ h _ => h) trivial ?_
        rotate_left 17
        iterate 14
          first
            | (refine par_skip (a' := ?_) (by rfl) (by rfl) ?_ ?_ ?_; rotate_left 1; with_reducible rfl; (simp only [Act.put, List.setIfInBounds_toArray, List.set_cons_zero, List.set_cons_succ]; with_reducible rfl))
            | (refine par_run (a' := ?_) (by rfl) (by rfl) (fun w' hb hn => ?_) ?_ ?_; rotate_left 1; (have hc := hb.cells; first | (go_simp; (try simp (disch := omega) only [IntWalk.i64_in, IntWalk.i32_in, IntWalk.u64_in, IntWalk.u8_in, IntWalk.u32_in, toNatUp, iteOmega]); with_reducible rfl) | (go_simp; (try simp (disch := omega) only [IntWalk.i64_in, IntWalk.i32_in, IntWalk.u64_in, IntWalk.u8_in, IntWalk.u32_in, toNatUp, iteOmega]); go_simp; with_reducible rfl)); (simp only [Act.put, List.setIfInBounds_toArray, List.set_cons_zero, List.set_cons_succ]; with_reducible rfl))
        refine par_call (a' := ?_) (f := ?_) (args := ?_) (by rfl) (by rfl) (fun w' => ?_) (fun w' hb hn => ?_) ?_ ?_; rotate_left 3; (go_simp; constructor <;> with_reducible rfl); (exact Hless.out w'); (simp only [Act.put, List.setIfInBounds_toArray, List.set_cons_zero, List.set_cons_succ]; with_reducible rfl)
        iterate 2
          first
            | (refine par_skip (a' := ?_) (by rfl) (by rfl) ?_ ?_ ?_; rotate_left 1; with_reducible rfl; (simp only [Act.put, List.setIfInBounds_toArray, List.set_cons_zero, List.set_cons_succ]; with_reducible rfl))
            | (refine par_run (a' := ?_) (by rfl) (by rfl) (fun w' hb hn => ?_) ?_ ?_; rotate_left 1; (have hc := hb.cells; first | (go_simp; (try simp (disch := omega) only [IntWalk.i64_in, IntWalk.i32_in, IntWalk.u64_in, IntWalk.u8_in, IntWalk.u32_in, toNatUp, iteOmega]); with_reducible rfl) | (go_simp; (try simp (disch := omega) only [IntWalk.i64_in, IntWalk.i32_in, IntWalk.u64_in, IntWalk.u8_in, IntWalk.u32_in, toNatUp, iteOmega]); go_simp; with_reducible rfl)); (simp only [Act.put, List.setIfInBounds_toArray, List.set_cons_zero, List.set_cons_succ]; with_reducible rfl))
        refine par_end (fun w9 hb9 hf9 _ => ?_)
        replace hb9 := hb9.grow
        try refine wpList_none ?_
        clear e0
        replace d0 := (hb9.cell (p := ⟨b, off + (j + 1) * 3, none⟩) hb0).trans d0
        replace d1 := (hb9.cell (p := ⟨b, off + (j + 1) * 3 + 1, none⟩) hb0).trans d1
        replace d2 := (hb9.cell (p := ⟨b, off + (j + 1) * 3 + 2, none⟩) hb0).trans d2
        have R11 := hid (hR.out.trans (hb9.mono hR.out.size))
        replace hb0 := Nat.lt_of_lt_of_le hb0 hb9.size
        clear hb9 HX
        obtain ⟨w11, rfl⟩ : ∃ w11 : World, w11 = w9 := ⟨_, rfl⟩
        go_wp2_with fail
        refine (value_any A hla hza.out key u1 w11 (rowsF_st _ _ _ _ F9.out R11.out)).mono ?_
        rintro e w12 ⟨rfl, b12⟩
        replace d0 := (b12.cell (p := ⟨b, off + (j + 1) * 3, none⟩) hb0).trans d0
        replace d1 := (b12.cell (p := ⟨b, off + (j + 1) * 3 + 1, none⟩) hb0).trans d1
        replace d2 := (b12.cell (p := ⟨b, off + (j + 1) * 3 + 2, none⟩) hb0).trans d2
        replace hb0 := Nat.lt_of_lt_of_le hb0 b12.size
        have R12 := hid (R11.out.trans (b12.mono R11.out.size))
        clear b12
        go_wp2_with fail
        refine (value_any B hlb hzb.out key u2 w12 (rowsF_st _ _ _ _ G9.out R12.out)).mono ?_
        rintro e w13 ⟨rfl, b13⟩
        replace d0 := (b13.cell (p := ⟨b, off + (j + 1) * 3, none⟩) hb0).trans d0
        replace d1 := (b13.cell (p := ⟨b, off + (j + 1) * 3 + 1, none⟩) hb0).trans d1
        replace d2 := (b13.cell (p := ⟨b, off + (j + 1) * 3 + 2, none⟩) hb0).trans d2
        replace hb0 := Nat.lt_of_lt_of_le hb0 b13.size
        have R13 := hid (R12.out.trans (b13.mono R12.out.size))
        clear b13
        rcases HCA.out with ⟨rfl, hv⟩ | ⟨rfl, hv⟩
        · have hbe := HBE.out
          rw [hv] at hbe ⊢
          rw [noneS_list] at hbe
          replace hbe := beq_eq_false_iff_ne.2 hbe
          unfold noneS
          generalize valD A key = was at hbe ⊢
          go_wp2
          go_roundw
          case rel => exact ⟨(j + 1) + 1, by omega, by go_num, R13.out⟩
          case measure => simp [intOf]; omega
        · have hbe := HBE.out
          rw [hv] at hbe ⊢
          have hbn : ¬ (aS cS).toList = [110, 111, 110, 101] := fun e => aS_none cS (by rw [← noneS_list] at e; rw [Lib.toList_data, Lib.toList_data] at e; exact ByteArray.ext (Array.toList_inj.1 e))
          have hcs := hkc.2
          replace hbe := beq_eq_false_iff_ne.2 hbe
          replace hbn := beq_eq_false_iff_ne.2 hbn
          unfold aS at hbe hbn ⊢
          generalize valD A key = was at hbe ⊢
          go_wp2
          go_roundw
          case rel => exact ⟨(j + 1) + 1, by omega, by go_num, R13.out⟩
          case measure => simp [intOf]; omega
    · obtain rfl : i = M.length := by omega
      have hB9 := hid (B9.out.trans (hR.out.mono B9.out.size))
      go_wp2
      go_ret
      exact ⟨rfl, hB9.out⟩
end Go.Proofs.YthikijlbclckdaaGreat
namespace Go.Proofs.YthikijlbclckdaaGreat
set_option maxRecDepth 100000
set_option maxHeartbeats 40000000
set_option linter.unusedSimpArgs false
set_option linter.unusedVariables false
open Go.RowKit
theorem keepLeast_law (s t : StateV) (c d : Array Value) (w : World) {S S' : Nat → Prop} (h : rdState.R S w (Value.agg c).cells.toList s) (hb : rdState.bulk s ≤ 2097152) (h2 : rdState.R S' w (Value.agg d).cells.toList t) (hb2 : rdState.bulk t ≤ 2097152) :
    Calls Tryz.prog 9 #[.agg c, .agg d] w fun e w' => e = .returned (.bool true) ∧ Below w.heap.size w w' := by
  obtain ⟨⟨vp, vi, vt, vj, vr, vs, vk, vl, vm, hst⟩, hok⟩ := rdState_at h hb
  obtain ⟨⟨up, ui, ut, uj, ur, us, uk, ul, um, hst2⟩, hok2⟩ := rdState_at h2 hb2
  exact keepLeast_any s t hok hok2 c.toList d.toList vp vi vt vj vr vs vk vl vm up ui ut uj ur us uk ul um w hst hst2
end Go.Proofs.YthikijlbclckdaaGreat
