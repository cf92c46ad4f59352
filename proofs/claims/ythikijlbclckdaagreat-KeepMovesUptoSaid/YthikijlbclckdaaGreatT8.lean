/- Keep: contracts (Kj). -/
import Derived.Test.YthikijlbclckdaaGreatT7
namespace Go.Proofs.YthikijlbclckdaaGreat
set_option maxRecDepth 100000
set_option maxHeartbeats 40000000
set_option linter.unusedSimpArgs false
set_option linter.unusedVariables false
open Go.IntWalk Go.RowKit
def rowC (r : RowV) : List Value := [.string r.1, .string r.2]
def rowsC (l : List RowV) : List Value := l.flatMap rowC
theorem rowsC_snoc (l : List RowV) (r : RowV) : rowsC (l ++ [r]) = rowsC l ++ rowC r := by simp [rowsC]
theorem rowsC_add (l m : List RowV) : rowsC (l ++ m) = rowsC l ++ rowsC m := by simp [rowsC]
theorem rowsC_one (l : List RowV) : ∀ u ∈ rowsC l, u.oneCell' = true := by
 intro u hu
 simp only [rowsC, List.mem_flatMap] at hu
 obtain ⟨r, -, hr⟩ := hu
 simp [rowC] at hr
 rcases hr with rfl | rfl <;> rfl
theorem info_row : (Tryz.prog.info? 69).map (fun i => (i.zero, i.size, i.bytes)) = some (some (.agg #[.string ⟨#[]⟩, .string ⟨#[]⟩]), 2, 32) := by kernel_rfl
theorem own_grow {w w' : World} {base e size n : Nat} {v : Value} {vs : List Value} (h : w.ownsRow base e size v n vs) (hb : Below w.heap.size w w') : w'.ownsRow base e size v n vs :=
 own_but (F := fun _ => False) h (But.of hb) (fun _ _ => id)
theorem take_map_snoc {α β : Type} (f : α → β) (l : List α) (i : Nat) (x : α) (h : l[i]? = some x) : (l.take (i + 1)).map f = (l.take i).map f ++ [f x] := by
 rw [List.take_add_one, h]; simp
theorem rows6_any (x : DepV) (hx : DepOk x) (cs : List Value) (w : World) (h : x.at_ w cs) : Calls Tryz.prog 65 #[.agg cs.toArray] w fun e w' => e = .returned (rowV (rowP x)) ∧ Below w.heap.size w w' := by
 obtain rfl := h
 obtain ⟨id, bytes⟩ := x
 obtain ⟨hid, hbytes⟩ := hx
 dsimp only at hid hbytes
 have z0 : (catS txS [bytes]).size ≤ 2097162 := cat1_le (txS_le hbytes)
 have H0 := Lib.hid (all1 (P := Sz) hbytes)
 have z1 : id.size ≤ 2097152 := hid
 have z2 : (c1 112).size = 1 := rfl
 have E : Hid (rowV (rowP ⟨id, bytes⟩) = .agg #[.string (c1 112 ++ id), .string (catS txS [bytes])]) := by
  show _ = _
  unfold rowV rowP
  simp only [cat_one]
 clear hid hbytes
 go_enter Tryz.func65, Tryz.ntmps65
 go_wp2_with fail
 have h1 := Lib.hid ((Below.refl _ w).alloc (Nat.le_refl _) (.cells #[.string id, .string bytes] 95))
 have h2 := Lib.hid (h1.out.alloc h1.out.size (.cells #[.string ⟨#[]⟩, .string ⟨#[]⟩] 69))
 refine wp_par (fun _ => False) (fun _ => True) (List.replicate 8 false) _ [.fix ?_, .fix ?_, .fix ?_, .fix ?_, .fix ?_, .new (rowF 1 ?_ ?_), .fix ?_, .fix ?_] (by kernel_rfl) (by kernel_rfl) (by simp only [List.length_replicate, List.drop_succ_cons, List.drop_zero, List.drop_nil]; with_reducible rfl) rfl (fun _ _ _ _ _ => ⟨fun h => h, fun h => h⟩) (fun _ _ h _ => h) trivial ?_
 rotate_left 9
 iterate 5
  first
   | (refine par_skip (a' := ?_) (by rfl) (by rfl) ?_ ?_ ?_; rotate_left 1; with_reducible rfl; (simp only [lays]; with_reducible rfl))
   | (refine par_run (a' := ?_) (by rfl) (by rfl) (fun w' hb hn => ?_) ?_ ?_; rotate_left 1; (have hc := hb.cells; go_simp; (try simp (disch := omega) only [nrm, toNatUp, iteOmega]); first | with_reducible rfl | (go_simp; with_reducible rfl)); (simp only [lays]; with_reducible rfl))
 refine par_row (a' := ?a49k5) (m := ?m49k5) (T := ?T49k5) (cs := ?c49k5) (r := ?r49k5) (by rfl) (by rfl) (fun w' hb hn => ?h49k5) (fun w' => ?e49k5) ?n49k5 ?v49k5 ?l49k5 ?x49k5 (fun u => ?p49k5) (fun u => ?g49k5)
 case h49k5 => (have hc := hb.cells; go_simp; (try simp (disch := omega) only [nrm, toNatUp, iteOmega]); with_reducible rfl)
 case e49k5 => with_reducible rfl
 case n49k5 => with_reducible rfl
 case v49k5 => with_reducible rfl
 case l49k5 => simp only [List.length_cons, List.length_nil]
 case x49k5 => (unfold maxLen; omega)
 case p49k5 => (simp only [lays]; with_reducible rfl)
 refine par_call (a' := ?_) (f := ?_) (args := ?_) (by rfl) (by rfl) (fun w' => ?_) (fun w' hb hn => ?_) ?_ ?_; rotate_left 3; (go_simp; constructor <;> with_reducible rfl); (exact t_any _ [bytes] w' (FlatAt.slr (need_head hn (by kernel_rfl))) (by simp) H0.out); (simp only [lays]; with_reducible rfl)
 iterate 1
  first
   | (refine par_skip (a' := ?_) (by rfl) (by rfl) ?_ ?_ ?_; rotate_left 1; with_reducible rfl; (simp only [lays]; with_reducible rfl))
   | (refine par_run (a' := ?_) (by rfl) (by rfl) (fun w' hb hn => ?_) ?_ ?_; rotate_left 1; (have hc := hb.cells; go_simp; (try simp (disch := omega) only [nrm, toNatUp, iteOmega]); first | with_reducible rfl | (go_simp; with_reducible rfl)); (simp only [lays]; with_reducible rfl))
 refine par_end (fun w9 hb9 hf9 _ => ?_)
 replace hb9 := hb9.grow
 try refine wpList_none ?_
 have h9 := Lib.hid (h2.out.trans (hb9.mono h2.out.size))
 have hr := (hb9.block (w.heap.size + 1) (by simp)).trans (alloc_new2 w _ _)
 have k0 := cell_of hr 0
 have k1 := cell_of hr 1
 have f0 := free_of hr 0
 have f1 := free_of hr 1
 have hz9 : w.heap.size + 1 < w9.heap.size := heap_lt hr
 clear hb9 hf9 hr
 go_wp2
 exact bodyPost_ret (v := .agg #[.string (c1 112 ++ id), .string (catS txS [bytes])]) (by simp [results, Tryz.results65, go_sem, k0, k1, f0, f1, c1]) rfl ⟨by rw [E.out], (h9.out.setCell (p := ⟨w.heap.size + 1, 0, none⟩) (by simp) _).setCell (p := ⟨w.heap.size + 1, 1, none⟩) (by simp) _⟩
theorem of1_any (v : Value) (l : List MsgV) (w : World) (hok : ∀ x ∈ l, MsgOk x) (hl : l.length ≤ 2097152) (h : ListAt MsgV.at_ 7 w v l) :
  Calls Tryz.prog 50 #[v, .func (.func 51) #[] #[]] w fun e w' => ∃ u, e = .returned u ∧ FlatAt 2 w' u l.length (rowsC (l.map rowG)) ∧ Below w.heap.size w w' := by
 have H := Lib.hid h
 obtain ⟨a, cap, rfl, h1, h2, -⟩ := h
 unfold maxLen at h2
 have Hok := Lib.hid hok
 clear hok
 go_enter Tryz.func50, Tryz.ntmps50
 go_wp2
 go_loopw [5, 10] (fun vo vi wr => ∃ i : Nat, i ≤ l.length ∧ vi = .int .i64 i ∧ w.heap.size ≤ wr.heap.size ∧ Hid (wr.ownsRow w.heap.size 69 2 vo i (rowsC ((l.take i).map rowG)) ∧ Below w.heap.size w wr)) (fun _ vi _ => l.length - (intOf vi).toNat)
 case atStart => exact ⟨0, Nat.zero_le _, rfl, Nat.le_refl _, ⟨rfl, .inl ⟨rfl, rfl⟩⟩, Below.refl _ _⟩
 case round =>
  obtain ⟨i, hi, rfl, hws, hR⟩ := hrel
  by_cases hlt : i < l.length
  ·
   obtain ⟨x, hx⟩ : ∃ x, l[i]? = some x := ⟨_, List.getElem?_eq_getElem hlt⟩
   obtain ⟨a', cap', hv, -, -, hcell⟩ := H.out.grow MsgV.st hR.out.2
   cases hv
   obtain ⟨b, off, cs, rfl, hcl, hat, hc⟩ := hcell i x hx
   have Hat := Lib.hid hat
   obtain ⟨v3, v4, rfl, hv3, hv4⟩ := hat
   obtain ⟨a3, c3, rfl, -⟩ := hv3
   obtain ⟨a4, c4, hv4, -⟩ := hv4
   rw [show (natsV x.insts).length = x.insts.length by simp [natsV]] at hv4
   subst hv4
   have k0 := hc 0 _ rfl
   simp only [Nat.add_zero] at k0
   have k1 := hc 1 _ rfl
   have k2 := hc 2 _ rfl
   have k3 := hc 3 _ rfl
   have k4 := hc 4 _ rfl
   have k5 := hc 5 _ rfl
   have k6 := hc 6 _ rfl
   have Hx := Lib.hid hx
   have hox := Lib.hid (Hok.out x (List.mem_of_getElem? hx))
   have hst := Lib.hid (take_map_snoc rowG l i x hx)
   obtain ⟨ao, co, rfl⟩ := own_slice hR.out.1
   clear hcell hx hc hcl
   go_wp2_with fail
   have hB := (Below.refl wr.heap.size wr).alloc (Nat.le_refl _) (.cells #[U x.key, .string x.name, .string x.for_, .string x.id, I x.till, .slice a3 x.vars.length c3, .slice a4 x.insts.length c4] 118)
   have hat2 := MsgV.st _ _ _ _ Hat.out hB
   refine (rows1_any x hox.out [U x.key, .string x.name, .string x.for_, .string x.id, I x.till, .slice a3 x.vars.length c3, .slice a4 x.insts.length c4] _ hat2).mono ?_
   rintro e w1 ⟨rfl, b1⟩
   have hB1 := hB.trans (b1.mono (by simp))
   have hown := Lib.hid (own_grow hR.out.1 hB1)
   have hbel := Lib.hid (hR.out.2.trans (hB1.mono hR.out.2.size))
   have hz1 : w.heap.size ≤ w1.heap.size := hbel.out.size
   clear hB hat2 b1 hB1
   generalize hrow : rowG x = r
   obtain ⟨rk, rv⟩ := r
   have hst2 : Hid ((l.take (i + 1)).map rowG = (l.take i).map rowG ++ [(rk, rv)]) := by rw [← hrow]; exact hst.out
   clear hrow hst
   unfold rowV
   dsimp only
   go_wp2_with (at_builtin; refine app1 66 69 Tryz.underlying66 info_row rfl (by decide) hown.out hz1 (by unfold maxLen; omega) (by omega) rfl rfl rfl rfl rfl (by simp [Value.oneCell']) ?_; intro v' w2 hown2 hb2)
   have hown3 : Hid (w2.ownsRow w.heap.size 69 2 v' (i + 1) (rowsC ((l.take (i + 1)).map rowG))) := by show w2.ownsRow _ _ _ _ _ _; rw [hst2.out, rowsC_snoc]; exact hown2
   have hbel3 := Lib.hid (hbel.out.trans hb2)
   have hz2 : w.heap.size ≤ w2.heap.size := hbel3.out.size
   clear hown2 hb2
   go_wp2
   go_roundw
   case rel => exact ⟨i + 1, by omega, by go_num, hz2, hown3.out, hbel3.out⟩
   case measure => simp [intOf]; omega
  ·
   have hin : i = l.length := by omega
   subst hin
   have hfin : Hid (FlatAt 2 wr u5 l.length (rowsC (l.map rowG))) := by
    have := FlatAt.of_own hR.out.1
    rwa [List.take_length] at this
   go_wp2
   go_ret
   exact ⟨_, rfl, hfin.out, hR.out.2⟩
theorem of2_any (v : Value) (l : List InstV) (w : World) (hok : ∀ x ∈ l, InstOk x) (hl : l.length ≤ 2097152) (h : ListAt InstV.at_ 3 w v l) :
  Calls Tryz.prog 56 #[v, .func (.func 57) #[] #[]] w fun e w' => ∃ u, e = .returned u ∧ FlatAt 2 w' u l.length (rowsC (l.map rowI)) ∧ Below w.heap.size w w' := by
 have H := Lib.hid h
 obtain ⟨a, cap, rfl, h1, h2, -⟩ := h
 unfold maxLen at h2
 have Hok := Lib.hid hok
 clear hok
 go_enter Tryz.func56, Tryz.ntmps56
 go_wp2
 go_loopw [5, 10] (fun vo vi wr => ∃ i : Nat, i ≤ l.length ∧ vi = .int .i64 i ∧ w.heap.size ≤ wr.heap.size ∧ Hid (wr.ownsRow w.heap.size 69 2 vo i (rowsC ((l.take i).map rowI)) ∧ Below w.heap.size w wr)) (fun _ vi _ => l.length - (intOf vi).toNat)
 case atStart => exact ⟨0, Nat.zero_le _, rfl, Nat.le_refl _, ⟨rfl, .inl ⟨rfl, rfl⟩⟩, Below.refl _ _⟩
 case round =>
  obtain ⟨i, hi, rfl, hws, hR⟩ := hrel
  by_cases hlt : i < l.length
  ·
   obtain ⟨x, hx⟩ : ∃ x, l[i]? = some x := ⟨_, List.getElem?_eq_getElem hlt⟩
   obtain ⟨a', cap', hv, -, -, hcell⟩ := H.out.grow InstV.st hR.out.2
   cases hv
   obtain ⟨b, off, cs, rfl, hcl, hat, hc⟩ := hcell i x hx
   have Hat := Lib.hid hat
   obtain ⟨v3, rfl, hv3⟩ := hat
   obtain ⟨a3, c3, rfl, -⟩ := hv3
   have k0 := hc 0 _ rfl
   simp only [Nat.add_zero] at k0
   have k1 := hc 1 _ rfl
   have k2 := hc 2 _ rfl
   have Hx := Lib.hid hx
   have hox := Lib.hid (Hok.out x (List.mem_of_getElem? hx))
   have hst := Lib.hid (take_map_snoc rowI l i x hx)
   obtain ⟨ao, co, rfl⟩ := own_slice hR.out.1
   clear hcell hx hc hcl
   go_wp2_with fail
   have hB := (Below.refl wr.heap.size wr).alloc (Nat.le_refl _) (.cells #[U x.key, .string x.id, .slice a3 x.vars.length c3] 103)
   have hat2 := InstV.st _ _ _ _ Hat.out hB
   refine (rows2_any x hox.out [U x.key, .string x.id, .slice a3 x.vars.length c3] _ hat2).mono ?_
   rintro e w1 ⟨rfl, b1⟩
   have hB1 := hB.trans (b1.mono (by simp))
   have hown := Lib.hid (own_grow hR.out.1 hB1)
   have hbel := Lib.hid (hR.out.2.trans (hB1.mono hR.out.2.size))
   have hz1 : w.heap.size ≤ w1.heap.size := hbel.out.size
   clear hB hat2 b1 hB1
   generalize hrow : rowI x = r
   obtain ⟨rk, rv⟩ := r
   have hst2 : Hid ((l.take (i + 1)).map rowI = (l.take i).map rowI ++ [(rk, rv)]) := by rw [← hrow]; exact hst.out
   clear hrow hst
   unfold rowV
   dsimp only
   go_wp2_with (at_builtin; refine app1 66 69 Tryz.underlying66 info_row rfl (by decide) hown.out hz1 (by unfold maxLen; omega) (by omega) rfl rfl rfl rfl rfl (by simp [Value.oneCell']) ?_; intro v' w2 hown2 hb2)
   have hown3 : Hid (w2.ownsRow w.heap.size 69 2 v' (i + 1) (rowsC ((l.take (i + 1)).map rowI))) := by show w2.ownsRow _ _ _ _ _ _; rw [hst2.out, rowsC_snoc]; exact hown2
   have hbel3 := Lib.hid (hbel.out.trans hb2)
   have hz2 : w.heap.size ≤ w2.heap.size := hbel3.out.size
   clear hown2 hb2
   go_wp2
   go_roundw
   case rel => exact ⟨i + 1, by omega, by go_num, hz2, hown3.out, hbel3.out⟩
   case measure => simp [intOf]; omega
  ·
   have hin : i = l.length := by omega
   subst hin
   have hfin : Hid (FlatAt 2 wr u5 l.length (rowsC (l.map rowI))) := by
    have := FlatAt.of_own hR.out.1
    rwa [List.take_length] at this
   go_wp2
   go_ret
   exact ⟨_, rfl, hfin.out, hR.out.2⟩
theorem of3_any (v : Value) (l : List JobV) (w : World) (hok : ∀ x ∈ l, JobOk x) (hl : l.length ≤ 2097152) (h : ListAt JobV.at_ 6 w v l) :
  Calls Tryz.prog 58 #[v, .func (.func 59) #[] #[]] w fun e w' => ∃ u, e = .returned u ∧ FlatAt 2 w' u l.length (rowsC (l.map rowJ)) ∧ Below w.heap.size w w' := by
 have H := Lib.hid h
 obtain ⟨a, cap, rfl, h1, h2, -⟩ := h
 unfold maxLen at h2
 have Hok := Lib.hid hok
 clear hok
 go_enter Tryz.func58, Tryz.ntmps58
 go_wp2
 go_loopw [5, 10] (fun vo vi wr => ∃ i : Nat, i ≤ l.length ∧ vi = .int .i64 i ∧ w.heap.size ≤ wr.heap.size ∧ Hid (wr.ownsRow w.heap.size 69 2 vo i (rowsC ((l.take i).map rowJ)) ∧ Below w.heap.size w wr)) (fun _ vi _ => l.length - (intOf vi).toNat)
 case atStart => exact ⟨0, Nat.zero_le _, rfl, Nat.le_refl _, ⟨rfl, .inl ⟨rfl, rfl⟩⟩, Below.refl _ _⟩
 case round =>
  obtain ⟨i, hi, rfl, hws, hR⟩ := hrel
  by_cases hlt : i < l.length
  ·
   obtain ⟨x, hx⟩ : ∃ x, l[i]? = some x := ⟨_, List.getElem?_eq_getElem hlt⟩
   obtain ⟨a', cap', hv, -, -, hcell⟩ := H.out.grow JobV.st hR.out.2
   cases hv
   obtain ⟨b, off, cs, rfl, hcl, hat, hc⟩ := hcell i x hx
   have Hat := Lib.hid hat
   obtain rfl := hat
   have k0 := hc 0 _ rfl
   simp only [Nat.add_zero] at k0
   have k1 := hc 1 _ rfl
   have k2 := hc 2 _ rfl
   have k3 := hc 3 _ rfl
   have k4 := hc 4 _ rfl
   have k5 := hc 5 _ rfl
   have Hx := Lib.hid hx
   have hox := Lib.hid (Hok.out x (List.mem_of_getElem? hx))
   have hst := Lib.hid (take_map_snoc rowJ l i x hx)
   obtain ⟨ao, co, rfl⟩ := own_slice hR.out.1
   clear hcell hx hc hcl
   go_wp2_with fail
   have hB := (Below.refl wr.heap.size wr).alloc (Nat.le_refl _) (.cells #[U x.key, U x.token, .string x.type, I x.retries, .string x.worker, I x.till] 107)
   have hat2 := JobV.st _ _ _ _ Hat.out hB
   refine (rows3_any x hox.out [U x.key, U x.token, .string x.type, I x.retries, .string x.worker, I x.till] _ hat2).mono ?_
   rintro e w1 ⟨rfl, b1⟩
   have hB1 := hB.trans (b1.mono (by simp))
   have hown := Lib.hid (own_grow hR.out.1 hB1)
   have hbel := Lib.hid (hR.out.2.trans (hB1.mono hR.out.2.size))
   have hz1 : w.heap.size ≤ w1.heap.size := hbel.out.size
   clear hB hat2 b1 hB1
   generalize hrow : rowJ x = r
   obtain ⟨rk, rv⟩ := r
   have hst2 : Hid ((l.take (i + 1)).map rowJ = (l.take i).map rowJ ++ [(rk, rv)]) := by rw [← hrow]; exact hst.out
   clear hrow hst
   unfold rowV
   dsimp only
   go_wp2_with (at_builtin; refine app1 66 69 Tryz.underlying66 info_row rfl (by decide) hown.out hz1 (by unfold maxLen; omega) (by omega) rfl rfl rfl rfl rfl (by simp [Value.oneCell']) ?_; intro v' w2 hown2 hb2)
   have hown3 : Hid (w2.ownsRow w.heap.size 69 2 v' (i + 1) (rowsC ((l.take (i + 1)).map rowJ))) := by show w2.ownsRow _ _ _ _ _ _; rw [hst2.out, rowsC_snoc]; exact hown2
   have hbel3 := Lib.hid (hbel.out.trans hb2)
   have hz2 : w.heap.size ≤ w2.heap.size := hbel3.out.size
   clear hown2 hb2
   go_wp2
   go_roundw
   case rel => exact ⟨i + 1, by omega, by go_num, hz2, hown3.out, hbel3.out⟩
   case measure => simp [intOf]; omega
  ·
   have hin : i = l.length := by omega
   subst hin
   have hfin : Hid (FlatAt 2 wr u5 l.length (rowsC (l.map rowJ))) := by
    have := FlatAt.of_own hR.out.1
    rwa [List.take_length] at this
   go_wp2
   go_ret
   exact ⟨_, rfl, hfin.out, hR.out.2⟩
theorem of4_any (v : Value) (l : List KeptV) (w : World) (hok : ∀ x ∈ l, KeptOk x) (hl : l.length ≤ 2097152) (h : ListAt KeptV.at_ 3 w v l) :
  Calls Tryz.prog 60 #[v, .func (.func 61) #[] #[]] w fun e w' => ∃ u, e = .returned u ∧ FlatAt 2 w' u l.length (rowsC (l.map rowK)) ∧ Below w.heap.size w w' := by
 have H := Lib.hid h
 obtain ⟨a, cap, rfl, h1, h2, -⟩ := h
 unfold maxLen at h2
 have Hok := Lib.hid hok
 clear hok
 go_enter Tryz.func60, Tryz.ntmps60
 go_wp2
 go_loopw [5, 10] (fun vo vi wr => ∃ i : Nat, i ≤ l.length ∧ vi = .int .i64 i ∧ w.heap.size ≤ wr.heap.size ∧ Hid (wr.ownsRow w.heap.size 69 2 vo i (rowsC ((l.take i).map rowK)) ∧ Below w.heap.size w wr)) (fun _ vi _ => l.length - (intOf vi).toNat)
 case atStart => exact ⟨0, Nat.zero_le _, rfl, Nat.le_refl _, ⟨rfl, .inl ⟨rfl, rfl⟩⟩, Below.refl _ _⟩
 case round =>
  obtain ⟨i, hi, rfl, hws, hR⟩ := hrel
  by_cases hlt : i < l.length
  ·
   obtain ⟨x, hx⟩ : ∃ x, l[i]? = some x := ⟨_, List.getElem?_eq_getElem hlt⟩
   obtain ⟨a', cap', hv, -, -, hcell⟩ := H.out.grow KeptV.st hR.out.2
   cases hv
   obtain ⟨b, off, cs, rfl, hcl, hat, hc⟩ := hcell i x hx
   have Hat := Lib.hid hat
   obtain rfl := hat
   have k0 := hc 0 _ rfl
   simp only [Nat.add_zero] at k0
   have k1 := hc 1 _ rfl
   have k2 := hc 2 _ rfl
   have Hx := Lib.hid hx
   have hox := Lib.hid (Hok.out x (List.mem_of_getElem? hx))
   have hst := Lib.hid (take_map_snoc rowK l i x hx)
   obtain ⟨ao, co, rfl⟩ := own_slice hR.out.1
   clear hcell hx hc hcl
   go_wp2_with fail
   have hB := (Below.refl wr.heap.size wr).alloc (Nat.le_refl _) (.cells #[U x.token, U x.msg, I x.node] 113)
   have hat2 := KeptV.st _ _ _ _ Hat.out hB
   refine (rows4_any x hox.out [U x.token, U x.msg, I x.node] _ hat2).mono ?_
   rintro e w1 ⟨rfl, b1⟩
   have hB1 := hB.trans (b1.mono (by simp))
   have hown := Lib.hid (own_grow hR.out.1 hB1)
   have hbel := Lib.hid (hR.out.2.trans (hB1.mono hR.out.2.size))
   have hz1 : w.heap.size ≤ w1.heap.size := hbel.out.size
   clear hB hat2 b1 hB1
   generalize hrow : rowK x = r
   obtain ⟨rk, rv⟩ := r
   have hst2 : Hid ((l.take (i + 1)).map rowK = (l.take i).map rowK ++ [(rk, rv)]) := by rw [← hrow]; exact hst.out
   clear hrow hst
   unfold rowV
   dsimp only
   go_wp2_with (at_builtin; refine app1 66 69 Tryz.underlying66 info_row rfl (by decide) hown.out hz1 (by unfold maxLen; omega) (by omega) rfl rfl rfl rfl rfl (by simp [Value.oneCell']) ?_; intro v' w2 hown2 hb2)
   have hown3 : Hid (w2.ownsRow w.heap.size 69 2 v' (i + 1) (rowsC ((l.take (i + 1)).map rowK))) := by show w2.ownsRow _ _ _ _ _ _; rw [hst2.out, rowsC_snoc]; exact hown2
   have hbel3 := Lib.hid (hbel.out.trans hb2)
   have hz2 : w.heap.size ≤ w2.heap.size := hbel3.out.size
   clear hown2 hb2
   go_wp2
   go_roundw
   case rel => exact ⟨i + 1, by omega, by go_num, hz2, hown3.out, hbel3.out⟩
   case measure => simp [intOf]; omega
  ·
   have hin : i = l.length := by omega
   subst hin
   have hfin : Hid (FlatAt 2 wr u5 l.length (rowsC (l.map rowK))) := by
    have := FlatAt.of_own hR.out.1
    rwa [List.take_length] at this
   go_wp2
   go_ret
   exact ⟨_, rfl, hfin.out, hR.out.2⟩
theorem of5_any (v : Value) (l : List LisV) (w : World) (hok : ∀ x ∈ l, LisOk x) (hl : l.length ≤ 2097152) (h : ListAt LisV.at_ 7 w v l) :
  Calls Tryz.prog 62 #[v, .func (.func 63) #[] #[]] w fun e w' => ∃ u, e = .returned u ∧ FlatAt 2 w' u l.length (rowsC (l.map rowL)) ∧ Below w.heap.size w w' := by
 have H := Lib.hid h
 obtain ⟨a, cap, rfl, h1, h2, -⟩ := h
 unfold maxLen at h2
 have Hok := Lib.hid hok
 clear hok
 go_enter Tryz.func62, Tryz.ntmps62
 go_wp2
 go_loopw [5, 10] (fun vo vi wr => ∃ i : Nat, i ≤ l.length ∧ vi = .int .i64 i ∧ w.heap.size ≤ wr.heap.size ∧ Hid (wr.ownsRow w.heap.size 69 2 vo i (rowsC ((l.take i).map rowL)) ∧ Below w.heap.size w wr)) (fun _ vi _ => l.length - (intOf vi).toNat)
 case atStart => exact ⟨0, Nat.zero_le _, rfl, Nat.le_refl _, ⟨rfl, .inl ⟨rfl, rfl⟩⟩, Below.refl _ _⟩
 case round =>
  obtain ⟨i, hi, rfl, hws, hR⟩ := hrel
  by_cases hlt : i < l.length
  ·
   obtain ⟨x, hx⟩ : ∃ x, l[i]? = some x := ⟨_, List.getElem?_eq_getElem hlt⟩
   obtain ⟨a', cap', hv, -, -, hcell⟩ := H.out.grow LisV.st hR.out.2
   cases hv
   obtain ⟨b, off, cs, rfl, hcl, hat, hc⟩ := hcell i x hx
   have Hat := Lib.hid hat
   obtain ⟨v3, rfl, hv3⟩ := hat
   obtain ⟨a3, c3, rfl, -⟩ := hv3
   have k0 := hc 0 _ rfl
   simp only [Nat.add_zero] at k0
   have k1 := hc 1 _ rfl
   have k2 := hc 2 _ rfl
   have k3 := hc 3 _ rfl
   have k4 := hc 4 _ rfl
   have k5 := hc 5 _ rfl
   have k6 := hc 6 _ rfl
   have Hx := Lib.hid hx
   have hox := Lib.hid (Hok.out x (List.mem_of_getElem? hx))
   have hst := Lib.hid (take_map_snoc rowL l i x hx)
   obtain ⟨ao, co, rfl⟩ := own_slice hR.out.1
   clear hcell hx hc hcl
   go_wp2_with fail
   have hB := (Below.refl wr.heap.size wr).alloc (Nat.le_refl _) (.cells #[U x.token, U x.inst, I x.node, .string x.name, .string x.key, U x.msg, .slice a3 x.vars.length c3] 115)
   have hat2 := LisV.st _ _ _ _ Hat.out hB
   refine (rows5_any x hox.out [U x.token, U x.inst, I x.node, .string x.name, .string x.key, U x.msg, .slice a3 x.vars.length c3] _ hat2).mono ?_
   rintro e w1 ⟨rfl, b1⟩
   have hB1 := hB.trans (b1.mono (by simp))
   have hown := Lib.hid (own_grow hR.out.1 hB1)
   have hbel := Lib.hid (hR.out.2.trans (hB1.mono hR.out.2.size))
   have hz1 : w.heap.size ≤ w1.heap.size := hbel.out.size
   clear hB hat2 b1 hB1
   generalize hrow : rowL x = r
   obtain ⟨rk, rv⟩ := r
   have hst2 : Hid ((l.take (i + 1)).map rowL = (l.take i).map rowL ++ [(rk, rv)]) := by rw [← hrow]; exact hst.out
   clear hrow hst
   unfold rowV
   dsimp only
   go_wp2_with (at_builtin; refine app1 66 69 Tryz.underlying66 info_row rfl (by decide) hown.out hz1 (by unfold maxLen; omega) (by omega) rfl rfl rfl rfl rfl (by simp [Value.oneCell']) ?_; intro v' w2 hown2 hb2)
   have hown3 : Hid (w2.ownsRow w.heap.size 69 2 v' (i + 1) (rowsC ((l.take (i + 1)).map rowL))) := by show w2.ownsRow _ _ _ _ _ _; rw [hst2.out, rowsC_snoc]; exact hown2
   have hbel3 := Lib.hid (hbel.out.trans hb2)
   have hz2 : w.heap.size ≤ w2.heap.size := hbel3.out.size
   clear hown2 hb2
   go_wp2
   go_roundw
   case rel => exact ⟨i + 1, by omega, by go_num, hz2, hown3.out, hbel3.out⟩
   case measure => simp [intOf]; omega
  ·
   have hin : i = l.length := by omega
   subst hin
   have hfin : Hid (FlatAt 2 wr u5 l.length (rowsC (l.map rowL))) := by
    have := FlatAt.of_own hR.out.1
    rwa [List.take_length] at this
   go_wp2
   go_ret
   exact ⟨_, rfl, hfin.out, hR.out.2⟩
theorem of6_any (v : Value) (l : List DepV) (w : World) (hok : ∀ x ∈ l, DepOk x) (hl : l.length ≤ 2097152) (h : ListAt DepV.at_ 2 w v l) :
  Calls Tryz.prog 64 #[v, .func (.func 65) #[] #[]] w fun e w' => ∃ u, e = .returned u ∧ FlatAt 2 w' u l.length (rowsC (l.map rowP)) ∧ Below w.heap.size w w' := by
 have H := Lib.hid h
 obtain ⟨a, cap, rfl, h1, h2, -⟩ := h
 unfold maxLen at h2
 have Hok := Lib.hid hok
 clear hok
 go_enter Tryz.func64, Tryz.ntmps64
 go_wp2
 go_loopw [5, 10] (fun vo vi wr => ∃ i : Nat, i ≤ l.length ∧ vi = .int .i64 i ∧ w.heap.size ≤ wr.heap.size ∧ Hid (wr.ownsRow w.heap.size 69 2 vo i (rowsC ((l.take i).map rowP)) ∧ Below w.heap.size w wr)) (fun _ vi _ => l.length - (intOf vi).toNat)
 case atStart => exact ⟨0, Nat.zero_le _, rfl, Nat.le_refl _, ⟨rfl, .inl ⟨rfl, rfl⟩⟩, Below.refl _ _⟩
 case round =>
  obtain ⟨i, hi, rfl, hws, hR⟩ := hrel
  by_cases hlt : i < l.length
  ·
   obtain ⟨x, hx⟩ : ∃ x, l[i]? = some x := ⟨_, List.getElem?_eq_getElem hlt⟩
   obtain ⟨a', cap', hv, -, -, hcell⟩ := H.out.grow DepV.st hR.out.2
   cases hv
   obtain ⟨b, off, cs, rfl, hcl, hat, hc⟩ := hcell i x hx
   have Hat := Lib.hid hat
   obtain rfl := hat
   have k0 := hc 0 _ rfl
   simp only [Nat.add_zero] at k0
   have k1 := hc 1 _ rfl
   have Hx := Lib.hid hx
   have hox := Lib.hid (Hok.out x (List.mem_of_getElem? hx))
   have hst := Lib.hid (take_map_snoc rowP l i x hx)
   obtain ⟨ao, co, rfl⟩ := own_slice hR.out.1
   clear hcell hx hc hcl
   go_wp2_with fail
   have hB := (Below.refl wr.heap.size wr).alloc (Nat.le_refl _) (.cells #[.string x.id, .string x.bytes] 95)
   have hat2 := DepV.st _ _ _ _ Hat.out hB
   refine (rows6_any x hox.out [.string x.id, .string x.bytes] _ hat2).mono ?_
   rintro e w1 ⟨rfl, b1⟩
   have hB1 := hB.trans (b1.mono (by simp))
   have hown := Lib.hid (own_grow hR.out.1 hB1)
   have hbel := Lib.hid (hR.out.2.trans (hB1.mono hR.out.2.size))
   have hz1 : w.heap.size ≤ w1.heap.size := hbel.out.size
   clear hB hat2 b1 hB1
   generalize hrow : rowP x = r
   obtain ⟨rk, rv⟩ := r
   have hst2 : Hid ((l.take (i + 1)).map rowP = (l.take i).map rowP ++ [(rk, rv)]) := by rw [← hrow]; exact hst.out
   clear hrow hst
   unfold rowV
   dsimp only
   go_wp2_with (at_builtin; refine app1 66 69 Tryz.underlying66 info_row rfl (by decide) hown.out hz1 (by unfold maxLen; omega) (by omega) rfl rfl rfl rfl rfl (by simp [Value.oneCell']) ?_; intro v' w2 hown2 hb2)
   have hown3 : Hid (w2.ownsRow w.heap.size 69 2 v' (i + 1) (rowsC ((l.take (i + 1)).map rowP))) := by show w2.ownsRow _ _ _ _ _ _; rw [hst2.out, rowsC_snoc]; exact hown2
   have hbel3 := Lib.hid (hbel.out.trans hb2)
   have hz2 : w.heap.size ≤ w2.heap.size := hbel3.out.size
   clear hown2 hb2
   go_wp2
   go_roundw
   case rel => exact ⟨i + 1, by omega, by go_num, hz2, hown3.out, hbel3.out⟩
   case measure => simp [intOf]; omega
  ·
   have hin : i = l.length := by omega
   subst hin
   have hfin : Hid (FlatAt 2 wr u5 l.length (rowsC (l.map rowP))) := by
    have := FlatAt.of_own hR.out.1
    rwa [List.take_length] at this
   go_wp2
   go_ret
   exact ⟨_, rfl, hfin.out, hR.out.2⟩
theorem of7_any (v : Value) (l : List TimV) (w : World) (hok : ∀ x ∈ l, TimOk x) (hl : l.length ≤ 2097152) (h : ListAt TimV.at_ 3 w v l) :
  Calls Tryz.prog 66 #[v, .func (.func 67) #[] #[]] w fun e w' => ∃ u, e = .returned u ∧ FlatAt 2 w' u l.length (rowsC (l.map rowR)) ∧ Below w.heap.size w w' := by
 have H := Lib.hid h
 obtain ⟨a, cap, rfl, h1, h2, -⟩ := h
 unfold maxLen at h2
 have Hok := Lib.hid hok
 clear hok
 go_enter Tryz.func66, Tryz.ntmps66
 go_wp2
 go_loopw [5, 10] (fun vo vi wr => ∃ i : Nat, i ≤ l.length ∧ vi = .int .i64 i ∧ w.heap.size ≤ wr.heap.size ∧ Hid (wr.ownsRow w.heap.size 69 2 vo i (rowsC ((l.take i).map rowR)) ∧ Below w.heap.size w wr)) (fun _ vi _ => l.length - (intOf vi).toNat)
 case atStart => exact ⟨0, Nat.zero_le _, rfl, Nat.le_refl _, ⟨rfl, .inl ⟨rfl, rfl⟩⟩, Below.refl _ _⟩
 case round =>
  obtain ⟨i, hi, rfl, hws, hR⟩ := hrel
  by_cases hlt : i < l.length
  ·
   obtain ⟨x, hx⟩ : ∃ x, l[i]? = some x := ⟨_, List.getElem?_eq_getElem hlt⟩
   obtain ⟨a', cap', hv, -, -, hcell⟩ := H.out.grow TimV.st hR.out.2
   cases hv
   obtain ⟨b, off, cs, rfl, hcl, hat, hc⟩ := hcell i x hx
   have Hat := Lib.hid hat
   obtain rfl := hat
   have k0 := hc 0 _ rfl
   simp only [Nat.add_zero] at k0
   have k1 := hc 1 _ rfl
   have k2 := hc 2 _ rfl
   have Hx := Lib.hid hx
   have hox := Lib.hid (Hok.out x (List.mem_of_getElem? hx))
   have hst := Lib.hid (take_map_snoc rowR l i x hx)
   obtain ⟨ao, co, rfl⟩ := own_slice hR.out.1
   clear hcell hx hc hcl
   go_wp2_with fail
   have hB := (Below.refl wr.heap.size wr).alloc (Nat.le_refl _) (.cells #[U x.token, I x.node, I x.when_] 109)
   have hat2 := TimV.st _ _ _ _ Hat.out hB
   refine (rows7_any x hox.out [U x.token, I x.node, I x.when_] _ hat2).mono ?_
   rintro e w1 ⟨rfl, b1⟩
   have hB1 := hB.trans (b1.mono (by simp))
   have hown := Lib.hid (own_grow hR.out.1 hB1)
   have hbel := Lib.hid (hR.out.2.trans (hB1.mono hR.out.2.size))
   have hz1 : w.heap.size ≤ w1.heap.size := hbel.out.size
   clear hB hat2 b1 hB1
   generalize hrow : rowR x = r
   obtain ⟨rk, rv⟩ := r
   have hst2 : Hid ((l.take (i + 1)).map rowR = (l.take i).map rowR ++ [(rk, rv)]) := by rw [← hrow]; exact hst.out
   clear hrow hst
   unfold rowV
   dsimp only
   go_wp2_with (at_builtin; refine app1 66 69 Tryz.underlying66 info_row rfl (by decide) hown.out hz1 (by unfold maxLen; omega) (by omega) rfl rfl rfl rfl rfl (by simp [Value.oneCell']) ?_; intro v' w2 hown2 hb2)
   have hown3 : Hid (w2.ownsRow w.heap.size 69 2 v' (i + 1) (rowsC ((l.take (i + 1)).map rowR))) := by show w2.ownsRow _ _ _ _ _ _; rw [hst2.out, rowsC_snoc]; exact hown2
   have hbel3 := Lib.hid (hbel.out.trans hb2)
   have hz2 : w.heap.size ≤ w2.heap.size := hbel3.out.size
   clear hown2 hb2
   go_wp2
   go_roundw
   case rel => exact ⟨i + 1, by omega, by go_num, hz2, hown3.out, hbel3.out⟩
   case measure => simp [intOf]; omega
  ·
   have hin : i = l.length := by omega
   subst hin
   have hfin : Hid (FlatAt 2 wr u5 l.length (rowsC (l.map rowR))) := by
    have := FlatAt.of_own hR.out.1
    rwa [List.take_length] at this
   go_wp2
   go_ret
   exact ⟨_, rfl, hfin.out, hR.out.2⟩
theorem of8_any (v : Value) (l : List SubV) (w : World) (hok : ∀ x ∈ l, SubOk x) (hl : l.length ≤ 2097152) (h : ListAt SubV.at_ 6 w v l) :
  Calls Tryz.prog 68 #[v, .func (.func 69) #[] #[]] w fun e w' => ∃ u, e = .returned u ∧ FlatAt 2 w' u l.length (rowsC (l.map rowS)) ∧ Below w.heap.size w w' := by
 have H := Lib.hid h
 obtain ⟨a, cap, rfl, h1, h2, -⟩ := h
 unfold maxLen at h2
 have Hok := Lib.hid hok
 clear hok
 go_enter Tryz.func68, Tryz.ntmps68
 go_wp2
 go_loopw [5, 10] (fun vo vi wr => ∃ i : Nat, i ≤ l.length ∧ vi = .int .i64 i ∧ w.heap.size ≤ wr.heap.size ∧ Hid (wr.ownsRow w.heap.size 69 2 vo i (rowsC ((l.take i).map rowS)) ∧ Below w.heap.size w wr)) (fun _ vi _ => l.length - (intOf vi).toNat)
 case atStart => exact ⟨0, Nat.zero_le _, rfl, Nat.le_refl _, ⟨rfl, .inl ⟨rfl, rfl⟩⟩, Below.refl _ _⟩
 case round =>
  obtain ⟨i, hi, rfl, hws, hR⟩ := hrel
  by_cases hlt : i < l.length
  ·
   obtain ⟨x, hx⟩ : ∃ x, l[i]? = some x := ⟨_, List.getElem?_eq_getElem hlt⟩
   obtain ⟨a', cap', hv, -, -, hcell⟩ := H.out.grow SubV.st hR.out.2
   cases hv
   obtain ⟨b, off, cs, rfl, hcl, hat, hc⟩ := hcell i x hx
   have Hat := Lib.hid hat
   obtain rfl := hat
   have k0 := hc 0 _ rfl
   simp only [Nat.add_zero] at k0
   have k1 := hc 1 _ rfl
   have k2 := hc 2 _ rfl
   have k3 := hc 3 _ rfl
   have k4 := hc 4 _ rfl
   have k5 := hc 5 _ rfl
   have Hx := Lib.hid hx
   have hox := Lib.hid (Hok.out x (List.mem_of_getElem? hx))
   have hst := Lib.hid (take_map_snoc rowS l i x hx)
   obtain ⟨ao, co, rfl⟩ := own_slice hR.out.1
   clear hcell hx hc hcl
   go_wp2_with fail
   have hB := (Below.refl wr.heap.size wr).alloc (Nat.le_refl _) (.cells #[U x.token, U x.inst, I x.node, .string x.name, .string x.key, .bool x.is] 111)
   have hat2 := SubV.st _ _ _ _ Hat.out hB
   refine (rows8_any x hox.out [U x.token, U x.inst, I x.node, .string x.name, .string x.key, .bool x.is] _ hat2).mono ?_
   rintro e w1 ⟨rfl, b1⟩
   have hB1 := hB.trans (b1.mono (by simp))
   have hown := Lib.hid (own_grow hR.out.1 hB1)
   have hbel := Lib.hid (hR.out.2.trans (hB1.mono hR.out.2.size))
   have hz1 : w.heap.size ≤ w1.heap.size := hbel.out.size
   clear hB hat2 b1 hB1
   generalize hrow : rowS x = r
   obtain ⟨rk, rv⟩ := r
   have hst2 : Hid ((l.take (i + 1)).map rowS = (l.take i).map rowS ++ [(rk, rv)]) := by rw [← hrow]; exact hst.out
   clear hrow hst
   unfold rowV
   dsimp only
   go_wp2_with (at_builtin; refine app1 66 69 Tryz.underlying66 info_row rfl (by decide) hown.out hz1 (by unfold maxLen; omega) (by omega) rfl rfl rfl rfl rfl (by simp [Value.oneCell']) ?_; intro v' w2 hown2 hb2)
   have hown3 : Hid (w2.ownsRow w.heap.size 69 2 v' (i + 1) (rowsC ((l.take (i + 1)).map rowS))) := by show w2.ownsRow _ _ _ _ _ _; rw [hst2.out, rowsC_snoc]; exact hown2
   have hbel3 := Lib.hid (hbel.out.trans hb2)
   have hz2 : w.heap.size ≤ w2.heap.size := hbel3.out.size
   clear hown2 hb2
   go_wp2
   go_roundw
   case rel => exact ⟨i + 1, by omega, by go_num, hz2, hown3.out, hbel3.out⟩
   case measure => simp [intOf]; omega
  ·
   have hin : i = l.length := by omega
   subst hin
   have hfin : Hid (FlatAt 2 wr u5 l.length (rowsC (l.map rowS))) := by
    have := FlatAt.of_own hR.out.1
    rwa [List.take_length] at this
   go_wp2
   go_ret
   exact ⟨_, rfl, hfin.out, hR.out.2⟩
theorem of9_any (v : Value) (l : List TokV) (w : World) (hok : ∀ x ∈ l, TokOk x) (hl : l.length ≤ 2097152) (h : ListAt TokV.at_ 6 w v l) :
  Calls Tryz.prog 71 #[v, .func (.func 72) #[] #[]] w fun e w' => ∃ u, e = .returned u ∧ FlatAt 2 w' u l.length (rowsC (l.map rowT)) ∧ Below w.heap.size w w' := by
 have H := Lib.hid h
 obtain ⟨a, cap, rfl, h1, h2, -⟩ := h
 unfold maxLen at h2
 have Hok := Lib.hid hok
 clear hok
 go_enter Tryz.func71, Tryz.ntmps71
 go_wp2
 go_loopw [5, 10] (fun vo vi wr => ∃ i : Nat, i ≤ l.length ∧ vi = .int .i64 i ∧ w.heap.size ≤ wr.heap.size ∧ Hid (wr.ownsRow w.heap.size 69 2 vo i (rowsC ((l.take i).map rowT)) ∧ Below w.heap.size w wr)) (fun _ vi _ => l.length - (intOf vi).toNat)
 case atStart => exact ⟨0, Nat.zero_le _, rfl, Nat.le_refl _, ⟨rfl, .inl ⟨rfl, rfl⟩⟩, Below.refl _ _⟩
 case round =>
  obtain ⟨i, hi, rfl, hws, hR⟩ := hrel
  by_cases hlt : i < l.length
  ·
   obtain ⟨x, hx⟩ : ∃ x, l[i]? = some x := ⟨_, List.getElem?_eq_getElem hlt⟩
   obtain ⟨a', cap', hv, -, -, hcell⟩ := H.out.grow TokV.st hR.out.2
   cases hv
   obtain ⟨b, off, cs, rfl, hcl, hat, hc⟩ := hcell i x hx
   have Hat := Lib.hid hat
   obtain rfl := hat
   have k0 := hc 0 _ rfl
   simp only [Nat.add_zero] at k0
   have k1 := hc 1 _ rfl
   have k2 := hc 2 _ rfl
   have k3 := hc 3 _ rfl
   have k4 := hc 4 _ rfl
   have k5 := hc 5 _ rfl
   have Hx := Lib.hid hx
   have hox := Lib.hid (Hok.out x (List.mem_of_getElem? hx))
   have hst := Lib.hid (take_map_snoc rowT l i x hx)
   obtain ⟨ao, co, rfl⟩ := own_slice hR.out.1
   clear hcell hx hc hcl
   go_wp2_with fail
   have hB := (Below.refl wr.heap.size wr).alloc (Nat.le_refl _) (.cells #[U x.key, U x.inst, U x.scope, I x.node, I x.by_, .string x.stuck] 105)
   have hat2 := TokV.st _ _ _ _ Hat.out hB
   refine (rows9_any x hox.out [U x.key, U x.inst, U x.scope, I x.node, I x.by_, .string x.stuck] _ hat2).mono ?_
   rintro e w1 ⟨rfl, b1⟩
   have hB1 := hB.trans (b1.mono (by simp))
   have hown := Lib.hid (own_grow hR.out.1 hB1)
   have hbel := Lib.hid (hR.out.2.trans (hB1.mono hR.out.2.size))
   have hz1 : w.heap.size ≤ w1.heap.size := hbel.out.size
   clear hB hat2 b1 hB1
   generalize hrow : rowT x = r
   obtain ⟨rk, rv⟩ := r
   have hst2 : Hid ((l.take (i + 1)).map rowT = (l.take i).map rowT ++ [(rk, rv)]) := by rw [← hrow]; exact hst.out
   clear hrow hst
   unfold rowV
   dsimp only
   go_wp2_with (at_builtin; refine app1 66 69 Tryz.underlying66 info_row rfl (by decide) hown.out hz1 (by unfold maxLen; omega) (by omega) rfl rfl rfl rfl rfl (by simp [Value.oneCell']) ?_; intro v' w2 hown2 hb2)
   have hown3 : Hid (w2.ownsRow w.heap.size 69 2 v' (i + 1) (rowsC ((l.take (i + 1)).map rowT))) := by show w2.ownsRow _ _ _ _ _ _; rw [hst2.out, rowsC_snoc]; exact hown2
   have hbel3 := Lib.hid (hbel.out.trans hb2)
   have hz2 : w.heap.size ≤ w2.heap.size := hbel3.out.size
   clear hown2 hb2
   go_wp2
   go_roundw
   case rel => exact ⟨i + 1, by omega, by go_num, hz2, hown3.out, hbel3.out⟩
   case measure => simp [intOf]; omega
  ·
   have hin : i = l.length := by omega
   subst hin
   have hfin : Hid (FlatAt 2 wr u5 l.length (rowsC (l.map rowT))) := by
    have := FlatAt.of_own hR.out.1
    rwa [List.take_length] at this
   go_wp2
   go_ret
   exact ⟨_, rfl, hfin.out, hR.out.2⟩
end Go.Proofs.YthikijlbclckdaaGreat
