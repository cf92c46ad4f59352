/- Keep: contracts (Ki2). -/
import Derived.Test.YthikijlbclckdaaGreatT6
namespace Go.Proofs.YthikijlbclckdaaGreat
set_option maxRecDepth 100000
set_option maxHeartbeats 40000000
set_option linter.unusedSimpArgs false
set_option linter.unusedVariables false
open Go.IntWalk Go.RowKit
theorem truth_any (b : Bool) (w : World) : Calls Tryz.prog 70 #[.bool b] w fun e w' => e = .returned (I (b01 b)) ∧ Below w.heap.size w w' := by
 cases b <;> (go_enter Tryz.func70, Tryz.ntmps70; go_wp2; go_ret; exact ⟨rfl, Below.refl _ _⟩)
theorem all1 {α : Type} {P : α → Prop} {a : α} (h : P a) : ∀ x ∈ [a], P x := by intro x hx; simp at hx; subst hx; exact h
theorem all2 {α : Type} {P : α → Prop} {a b : α} (h : P a) (h2 : P b) : ∀ x ∈ [a, b], P x := by intro x hx; simp at hx; rcases hx with rfl | rfl <;> assumption
theorem cat1_le {α : Type} {f : α → ByteArray} {a : α} {m : Nat} (h : (f a).size ≤ m) : (catS f [a]).size ≤ m := by rw [cat_one]; exact h
theorem cat2_le {α : Type} {f : α → ByteArray} {a b : α} {m : Nat} (h : (f a).size ≤ m) (h2 : (f b).size ≤ m) : (catS f [a, b]).size ≤ 2 * m := by rw [cat_two, ByteArray.size_append]; omega
theorem truth_in (b : Bool) : I64 (b01 b) := by cases b <;> (unfold I64 b01; decide)
theorem rows2_any (x : InstV) (hx : InstOk x) (cs : List Value) (w : World) (h : x.at_ w cs) : Calls Tryz.prog 57 #[.agg cs.toArray] w fun e w' => e = .returned (rowV (rowI x)) ∧ Below w.heap.size w w' := by
 obtain ⟨v, rfl, hv⟩ := h
 obtain ⟨key, id, vars⟩ := x
 obtain ⟨hkey, hid, hvars⟩ := hx
 dsimp only at hkey hid hvars hv
 have HV := Lib.hid hv
 have Hk := Lib.hid hkey
 have z0 : (catS txS [id]).size ≤ 2097162 := cat1_le (txS_le hid)
 have H0 := Lib.hid (all1 (P := Sz) hid)
 have z1 := varsS_le hvars
 have Hvars := Lib.hid hvars
 have E : Hid (rowV (rowI ⟨key, id, vars⟩) = .agg #[.string (keyS (c1 105) key []), .string (catS txS [id] ++ varsS vars)]) := by
  show _ = _
  unfold rowV rowI
  simp only [cat_one, cat_two, ByteArray.append_assoc]
 clear hkey hid hvars hv
 go_enter Tryz.func57, Tryz.ntmps57
 go_wp2_with fail
 have h1 := Lib.hid ((Below.refl _ w).alloc (Nat.le_refl _) (.cells #[U key, .string id, v] 103))
 have h2 := Lib.hid (h1.out.alloc h1.out.size (.cells #[.string ⟨#[]⟩, .string ⟨#[]⟩] 69))
 refine wp_par (fun _ => False) (fun _ => True) (List.replicate 12 false) _ [.fix ?_, .fix ?_, .fix ?_, .fix ?_, .fix ?_, .new (rowF 1 ?_ ?_), .fix ?_, .fix ?_, .fix ?_, .fix ?_, .fix ?_, .fix ?_] (by kernel_rfl) (by kernel_rfl) (by simp only [List.length_replicate, List.drop_succ_cons, List.drop_zero, List.drop_nil]; with_reducible rfl) rfl (fun _ _ _ _ _ => ⟨fun h => h, fun h => h⟩) (fun _ _ h _ => h) trivial ?_
 rotate_left 13
 iterate 2
  first
   | (refine par_skip (a' := ?_) (by rfl) (by rfl) ?_ ?_ ?_; rotate_left 1; with_reducible rfl; (simp only [lays]; with_reducible rfl))
   | (refine par_run (a' := ?_) (by rfl) (by rfl) (fun w' hb hn => ?_) ?_ ?_; rotate_left 1; (have hc := hb.cells; go_simp; (try simp (disch := omega) only [nrm, toNatUp, iteOmega]); first | with_reducible rfl | (go_simp; with_reducible rfl)); (simp only [lays]; with_reducible rfl))
 refine par_call (a' := ?_) (f := ?_) (args := ?_) (by rfl) (by rfl) (fun w' => ?_) (fun w' hb hn => ?_) ?_ ?_; rotate_left 3; (go_simp; constructor <;> with_reducible rfl); (exact key_any (c1 105) key _ [] w' (SlR.nil w') (by simp) (by decide) Hk.out); (simp only [lays]; with_reducible rfl)
 iterate 2
  first
   | (refine par_skip (a' := ?_) (by rfl) (by rfl) ?_ ?_ ?_; rotate_left 1; with_reducible rfl; (simp only [lays]; with_reducible rfl))
   | (refine par_run (a' := ?_) (by rfl) (by rfl) (fun w' hb hn => ?_) ?_ ?_; rotate_left 1; (have hc := hb.cells; go_simp; (try simp (disch := omega) only [nrm, toNatUp, iteOmega]); first | with_reducible rfl | (go_simp; with_reducible rfl)); (simp only [lays]; with_reducible rfl))
 refine par_row (a' := ?a45k5) (m := ?m45k5) (T := ?T45k5) (cs := ?c45k5) (r := ?r45k5) (by rfl) (by rfl) (fun w' hb hn => ?h45k5) (fun w' => ?e45k5) ?n45k5 ?v45k5 ?l45k5 ?x45k5 (fun u => ?p45k5) (fun u => ?g45k5)
 case h45k5 => (have hc := hb.cells; go_simp; (try simp (disch := omega) only [nrm, toNatUp, iteOmega]); with_reducible rfl)
 case e45k5 => with_reducible rfl
 case n45k5 => with_reducible rfl
 case v45k5 => with_reducible rfl
 case l45k5 => simp only [List.length_cons, List.length_nil]
 case x45k5 => (unfold maxLen; omega)
 case p45k5 => (simp only [lays]; with_reducible rfl)
 refine par_call (a' := ?_) (f := ?_) (args := ?_) (by rfl) (by rfl) (fun w' => ?_) (fun w' hb hn => ?_) ?_ ?_; rotate_left 3; (go_simp; constructor <;> with_reducible rfl); (exact t_any _ [id] w' (FlatAt.slr (need_head hn (by kernel_rfl))) (by simp) H0.out); (simp only [lays]; with_reducible rfl)
 iterate 2
  first
   | (refine par_skip (a' := ?_) (by rfl) (by rfl) ?_ ?_ ?_; rotate_left 1; with_reducible rfl; (simp only [lays]; with_reducible rfl))
   | (refine par_run (a' := ?_) (by rfl) (by rfl) (fun w' hb hn => ?_) ?_ ?_; rotate_left 1; (have hc := hb.cells; go_simp; (try simp (disch := omega) only [nrm, toNatUp, iteOmega]); first | with_reducible rfl | (go_simp; with_reducible rfl)); (simp only [lays]; with_reducible rfl))
 refine par_call (a' := ?_) (f := ?_) (args := ?_) (by rfl) (by rfl) (fun w' => ?_) (fun w' hb hn => ?_) ?_ ?_; rotate_left 3; (go_simp; constructor <;> with_reducible rfl); (exact varsBytes_any v vars w' Hvars.out (HV.out.below (h2.out.trans (hb.grow.mono h2.out.size)))); (simp only [lays]; with_reducible rfl)
 iterate 2
  first
   | (refine par_skip (a' := ?_) (by rfl) (by rfl) ?_ ?_ ?_; rotate_left 1; with_reducible rfl; (simp only [lays]; with_reducible rfl))
   | (refine par_run (a' := ?_) (by rfl) (by rfl) (fun w' hb hn => ?_) ?_ ?_; rotate_left 1; (have hc := hb.cells; go_simp; (try simp (disch := omega) only [nrm, toNatUp, iteOmega]); first | with_reducible rfl | (go_simp; with_reducible rfl)); (simp only [lays]; with_reducible rfl))
 refine par_end (fun w9 hb9 hf9 _ => ?_)
 replace hb9 := hb9.grow
 try refine wpList_none ?_
 have h9 := Lib.hid (h2.out.trans (hb9.mono h2.out.size))
 have hr := (hb9.block (w.heap.size + 1) (by simp)).trans (alloc_new2 w _ _)
 have k0 := cell_of hr 0
 have k1 := cell_of hr 1
 have f0 := free_of hr 0
 have f1 := free_of hr 1
 have hz9 : w.heap.size + 1 < w9.heap.size := heap_lt hr
 clear hb9 hf9 hr
 go_wp2
 exact bodyPost_ret (v := .agg #[.string (keyS (c1 105) key []), .string (catS txS [id] ++ varsS vars)]) (by simp [results, Tryz.results57, go_sem, k0, k1, f0, f1]) rfl ⟨by rw [E.out], (h9.out.setCell (p := ⟨w.heap.size + 1, 0, none⟩) (by simp) _).setCell (p := ⟨w.heap.size + 1, 1, none⟩) (by simp) _⟩
theorem rows3_any (x : JobV) (hx : JobOk x) (cs : List Value) (w : World) (h : x.at_ w cs) : Calls Tryz.prog 59 #[.agg cs.toArray] w fun e w' => e = .returned (rowV (rowJ x)) ∧ Below w.heap.size w w' := by
 obtain rfl := h
 obtain ⟨key, token, type, retries, worker, till⟩ := x
 obtain ⟨hkey, htoken, htype, hretries, hworker, htill⟩ := hx
 dsimp only at hkey htoken htype hretries hworker htill
 have Hk := Lib.hid hkey
 have z0 : (catS uvS [token]).size ≤ 10 := cat1_le (uvS_le htoken)
 have H0 := Lib.hid (all1 (P := U64) htoken)
 have z1 : (catS txS [type]).size ≤ 2097162 := cat1_le (txS_le htype)
 have H1 := Lib.hid (all1 (P := Sz) htype)
 have z2 : (catS inS [retries]).size ≤ 10 := cat1_le (inS_le hretries)
 have H2 := Lib.hid (all1 (P := I64) hretries)
 have z3 : (catS txS [worker]).size ≤ 2097162 := cat1_le (txS_le hworker)
 have H3 := Lib.hid (all1 (P := Sz) hworker)
 have z4 : (catS inS [till]).size ≤ 10 := cat1_le (inS_le htill)
 have H4 := Lib.hid (all1 (P := I64) htill)
 have E : Hid (rowV (rowJ ⟨key, token, type, retries, worker, till⟩) = .agg #[.string (keyS (c1 106) key []), .string (catS uvS [token] ++ catS txS [type] ++ catS inS [retries] ++ catS txS [worker] ++ catS inS [till])]) := by
  show _ = _
  unfold rowV rowJ
  simp only [cat_one, cat_two, ByteArray.append_assoc]
 clear hkey htoken htype hretries hworker htill
 go_enter Tryz.func59, Tryz.ntmps59
 go_wp2_with fail
 have h1 := Lib.hid ((Below.refl _ w).alloc (Nat.le_refl _) (.cells #[U key, U token, .string type, I retries, .string worker, I till] 107))
 have h2 := Lib.hid (h1.out.alloc h1.out.size (.cells #[.string ⟨#[]⟩, .string ⟨#[]⟩] 69))
 refine wp_par (fun _ => False) (fun _ => True) (List.replicate 28 false) _ [.fix ?_, .fix ?_, .fix ?_, .fix ?_, .fix ?_, .new (rowF 1 ?_ ?_), .fix ?_, .fix ?_, .fix ?_, .new (rowF 1 ?_ ?_), .fix ?_, .fix ?_, .fix ?_, .fix ?_, .new (rowF 1 ?_ ?_), .fix ?_, .fix ?_, .fix ?_, .fix ?_, .new (rowF 1 ?_ ?_), .fix ?_, .fix ?_, .fix ?_, .fix ?_, .new (rowF 1 ?_ ?_), .fix ?_, .fix ?_, .fix ?_] (by kernel_rfl) (by kernel_rfl) (by simp only [List.length_replicate, List.drop_succ_cons, List.drop_zero, List.drop_nil]; with_reducible rfl) rfl (fun _ _ _ _ _ => ⟨fun h => h, fun h => h⟩) (fun _ _ h _ => h) trivial ?_
 rotate_left 33
 iterate 2
  first
   | (refine par_skip (a' := ?_) (by rfl) (by rfl) ?_ ?_ ?_; rotate_left 1; with_reducible rfl; (simp only [lays]; with_reducible rfl))
   | (refine par_run (a' := ?_) (by rfl) (by rfl) (fun w' hb hn => ?_) ?_ ?_; rotate_left 1; (have hc := hb.cells; go_simp; (try simp (disch := omega) only [nrm, toNatUp, iteOmega]); first | with_reducible rfl | (go_simp; with_reducible rfl)); (simp only [lays]; with_reducible rfl))
 refine par_call (a' := ?_) (f := ?_) (args := ?_) (by rfl) (by rfl) (fun w' => ?_) (fun w' hb hn => ?_) ?_ ?_; rotate_left 3; (go_simp; constructor <;> with_reducible rfl); (exact key_any (c1 106) key _ [] w' (SlR.nil w') (by simp) (by decide) Hk.out); (simp only [lays]; with_reducible rfl)
 iterate 2
  first
   | (refine par_skip (a' := ?_) (by rfl) (by rfl) ?_ ?_ ?_; rotate_left 1; with_reducible rfl; (simp only [lays]; with_reducible rfl))
   | (refine par_run (a' := ?_) (by rfl) (by rfl) (fun w' hb hn => ?_) ?_ ?_; rotate_left 1; (have hc := hb.cells; go_simp; (try simp (disch := omega) only [nrm, toNatUp, iteOmega]); first | with_reducible rfl | (go_simp; with_reducible rfl)); (simp only [lays]; with_reducible rfl))
 refine par_row (a' := ?a114k5) (m := ?m114k5) (T := ?T114k5) (cs := ?c114k5) (r := ?r114k5) (by rfl) (by rfl) (fun w' hb hn => ?h114k5) (fun w' => ?e114k5) ?n114k5 ?v114k5 ?l114k5 ?x114k5 (fun u => ?p114k5) (fun u => ?g114k5)
 case h114k5 => (have hc := hb.cells; go_simp; (try simp (disch := omega) only [nrm, toNatUp, iteOmega]); with_reducible rfl)
 case e114k5 => with_reducible rfl
 case n114k5 => with_reducible rfl
 case v114k5 => with_reducible rfl
 case l114k5 => simp only [List.length_cons, List.length_nil]
 case x114k5 => (unfold maxLen; omega)
 case p114k5 => (simp only [lays]; with_reducible rfl)
 refine par_call (a' := ?_) (f := ?_) (args := ?_) (by rfl) (by rfl) (fun w' => ?_) (fun w' hb hn => ?_) ?_ ?_; rotate_left 3; (go_simp; constructor <;> with_reducible rfl); (exact u_any _ [token] w' (FlatAt.slr (need_head hn (by kernel_rfl))) (by simp) H0.out); (simp only [lays]; with_reducible rfl)
 iterate 2
  first
   | (refine par_skip (a' := ?_) (by rfl) (by rfl) ?_ ?_ ?_; rotate_left 1; with_reducible rfl; (simp only [lays]; with_reducible rfl))
   | (refine par_run (a' := ?_) (by rfl) (by rfl) (fun w' hb hn => ?_) ?_ ?_; rotate_left 1; (have hc := hb.cells; go_simp; (try simp (disch := omega) only [nrm, toNatUp, iteOmega]); first | with_reducible rfl | (go_simp; with_reducible rfl)); (simp only [lays]; with_reducible rfl))
 refine par_row (a' := ?a127k9) (m := ?m127k9) (T := ?T127k9) (cs := ?c127k9) (r := ?r127k9) (by rfl) (by rfl) (fun w' hb hn => ?h127k9) (fun w' => ?e127k9) ?n127k9 ?v127k9 ?l127k9 ?x127k9 (fun u => ?p127k9) (fun u => ?g127k9)
 case h127k9 => (have hc := hb.cells; go_simp; (try simp (disch := omega) only [nrm, toNatUp, iteOmega]); with_reducible rfl)
 case e127k9 => with_reducible rfl
 case n127k9 => with_reducible rfl
 case v127k9 => with_reducible rfl
 case l127k9 => simp only [List.length_cons, List.length_nil]
 case x127k9 => (unfold maxLen; omega)
 case p127k9 => (simp only [lays]; with_reducible rfl)
 refine par_call (a' := ?_) (f := ?_) (args := ?_) (by rfl) (by rfl) (fun w' => ?_) (fun w' hb hn => ?_) ?_ ?_; rotate_left 3; (go_simp; constructor <;> with_reducible rfl); (exact t_any _ [type] w' (FlatAt.slr (need_head hn (by kernel_rfl))) (by simp) H1.out); (simp only [lays]; with_reducible rfl)
 iterate 3
  first
   | (refine par_skip (a' := ?_) (by rfl) (by rfl) ?_ ?_ ?_; rotate_left 1; with_reducible rfl; (simp only [lays]; with_reducible rfl))
   | (refine par_run (a' := ?_) (by rfl) (by rfl) (fun w' hb hn => ?_) ?_ ?_; rotate_left 1; (have hc := hb.cells; go_simp; (try simp (disch := omega) only [nrm, toNatUp, iteOmega]); first | with_reducible rfl | (go_simp; with_reducible rfl)); (simp only [lays]; with_reducible rfl))
 refine par_row (a' := ?a140k14) (m := ?m140k14) (T := ?T140k14) (cs := ?c140k14) (r := ?r140k14) (by rfl) (by rfl) (fun w' hb hn => ?h140k14) (fun w' => ?e140k14) ?n140k14 ?v140k14 ?l140k14 ?x140k14 (fun u => ?p140k14) (fun u => ?g140k14)
 case h140k14 => (have hc := hb.cells; go_simp; (try simp (disch := omega) only [nrm, toNatUp, iteOmega]); with_reducible rfl)
 case e140k14 => with_reducible rfl
 case n140k14 => with_reducible rfl
 case v140k14 => with_reducible rfl
 case l140k14 => simp only [List.length_cons, List.length_nil]
 case x140k14 => (unfold maxLen; omega)
 case p140k14 => (simp only [lays]; with_reducible rfl)
 refine par_call (a' := ?_) (f := ?_) (args := ?_) (by rfl) (by rfl) (fun w' => ?_) (fun w' hb hn => ?_) ?_ ?_; rotate_left 3; (go_simp; constructor <;> with_reducible rfl); (exact i_any _ [retries] w' (FlatAt.slr (need_head hn (by kernel_rfl))) (by simp) H2.out); (simp only [lays]; with_reducible rfl)
 iterate 3
  first
   | (refine par_skip (a' := ?_) (by rfl) (by rfl) ?_ ?_ ?_; rotate_left 1; with_reducible rfl; (simp only [lays]; with_reducible rfl))
   | (refine par_run (a' := ?_) (by rfl) (by rfl) (fun w' hb hn => ?_) ?_ ?_; rotate_left 1; (have hc := hb.cells; go_simp; (try simp (disch := omega) only [nrm, toNatUp, iteOmega]); first | with_reducible rfl | (go_simp; with_reducible rfl)); (simp only [lays]; with_reducible rfl))
 refine par_row (a' := ?a153k19) (m := ?m153k19) (T := ?T153k19) (cs := ?c153k19) (r := ?r153k19) (by rfl) (by rfl) (fun w' hb hn => ?h153k19) (fun w' => ?e153k19) ?n153k19 ?v153k19 ?l153k19 ?x153k19 (fun u => ?p153k19) (fun u => ?g153k19)
 case h153k19 => (have hc := hb.cells; go_simp; (try simp (disch := omega) only [nrm, toNatUp, iteOmega]); with_reducible rfl)
 case e153k19 => with_reducible rfl
 case n153k19 => with_reducible rfl
 case v153k19 => with_reducible rfl
 case l153k19 => simp only [List.length_cons, List.length_nil]
 case x153k19 => (unfold maxLen; omega)
 case p153k19 => (simp only [lays]; with_reducible rfl)
 refine par_call (a' := ?_) (f := ?_) (args := ?_) (by rfl) (by rfl) (fun w' => ?_) (fun w' hb hn => ?_) ?_ ?_; rotate_left 3; (go_simp; constructor <;> with_reducible rfl); (exact t_any _ [worker] w' (FlatAt.slr (need_head hn (by kernel_rfl))) (by simp) H3.out); (simp only [lays]; with_reducible rfl)
 iterate 3
  first
   | (refine par_skip (a' := ?_) (by rfl) (by rfl) ?_ ?_ ?_; rotate_left 1; with_reducible rfl; (simp only [lays]; with_reducible rfl))
   | (refine par_run (a' := ?_) (by rfl) (by rfl) (fun w' hb hn => ?_) ?_ ?_; rotate_left 1; (have hc := hb.cells; go_simp; (try simp (disch := omega) only [nrm, toNatUp, iteOmega]); first | with_reducible rfl | (go_simp; with_reducible rfl)); (simp only [lays]; with_reducible rfl))
 refine par_row (a' := ?a166k24) (m := ?m166k24) (T := ?T166k24) (cs := ?c166k24) (r := ?r166k24) (by rfl) (by rfl) (fun w' hb hn => ?h166k24) (fun w' => ?e166k24) ?n166k24 ?v166k24 ?l166k24 ?x166k24 (fun u => ?p166k24) (fun u => ?g166k24)
 case h166k24 => (have hc := hb.cells; go_simp; (try simp (disch := omega) only [nrm, toNatUp, iteOmega]); with_reducible rfl)
 case e166k24 => with_reducible rfl
 case n166k24 => with_reducible rfl
 case v166k24 => with_reducible rfl
 case l166k24 => simp only [List.length_cons, List.length_nil]
 case x166k24 => (unfold maxLen; omega)
 case p166k24 => (simp only [lays]; with_reducible rfl)
 refine par_call (a' := ?_) (f := ?_) (args := ?_) (by rfl) (by rfl) (fun w' => ?_) (fun w' hb hn => ?_) ?_ ?_; rotate_left 3; (go_simp; constructor <;> with_reducible rfl); (exact i_any _ [till] w' (FlatAt.slr (need_head hn (by kernel_rfl))) (by simp) H4.out); (simp only [lays]; with_reducible rfl)
 iterate 2
  first
   | (refine par_skip (a' := ?_) (by rfl) (by rfl) ?_ ?_ ?_; rotate_left 1; with_reducible rfl; (simp only [lays]; with_reducible rfl))
   | (refine par_run (a' := ?_) (by rfl) (by rfl) (fun w' hb hn => ?_) ?_ ?_; rotate_left 1; (have hc := hb.cells; go_simp; (try simp (disch := omega) only [nrm, toNatUp, iteOmega]); first | with_reducible rfl | (go_simp; with_reducible rfl)); (simp only [lays]; with_reducible rfl))
 refine par_end (fun w9 hb9 hf9 _ => ?_)
 replace hb9 := hb9.grow
 try refine wpList_none ?_
 have h9 := Lib.hid (h2.out.trans (hb9.mono h2.out.size))
 have hr := (hb9.block (w.heap.size + 1) (by simp)).trans (alloc_new2 w _ _)
 have k0 := cell_of hr 0
 have k1 := cell_of hr 1
 have f0 := free_of hr 0
 have f1 := free_of hr 1
 have hz9 : w.heap.size + 1 < w9.heap.size := heap_lt hr
 clear hb9 hf9 hr
 go_wp2
 exact bodyPost_ret (v := .agg #[.string (keyS (c1 106) key []), .string (catS uvS [token] ++ catS txS [type] ++ catS inS [retries] ++ catS txS [worker] ++ catS inS [till])]) (by simp [results, Tryz.results59, go_sem, k0, k1, f0, f1]) rfl ⟨by rw [E.out], (h9.out.setCell (p := ⟨w.heap.size + 1, 0, none⟩) (by simp) _).setCell (p := ⟨w.heap.size + 1, 1, none⟩) (by simp) _⟩
theorem rows4_any (x : KeptV) (hx : KeptOk x) (cs : List Value) (w : World) (h : x.at_ w cs) : Calls Tryz.prog 61 #[.agg cs.toArray] w fun e w' => e = .returned (rowV (rowK x)) ∧ Below w.heap.size w w' := by
 obtain rfl := h
 obtain ⟨token, msg, node⟩ := x
 obtain ⟨htoken, hmsg, hnode⟩ := hx
 dsimp only at htoken hmsg hnode
 have Hk := Lib.hid htoken
 have z0 : (catS uvS [msg]).size ≤ 10 := cat1_le (uvS_le hmsg)
 have H0 := Lib.hid (all1 (P := U64) hmsg)
 have E : Hid (rowV (rowK ⟨token, msg, node⟩) = .agg #[.string (keyS (c1 107) token [node]), .string (catS uvS [msg])]) := by
  show _ = _
  unfold rowV rowK
  simp only [cat_one, cat_two, ByteArray.append_assoc]
 clear htoken hmsg hnode
 go_enter Tryz.func61, Tryz.ntmps61
 go_wp2_with fail
 have h1 := Lib.hid ((Below.refl _ w).alloc (Nat.le_refl _) (.cells #[U token, U msg, I node] 113))
 have h2 := Lib.hid (h1.out.alloc h1.out.size (.cells #[.string ⟨#[]⟩, .string ⟨#[]⟩] 69))
 refine wp_par (fun _ => False) (fun _ => True) (List.replicate 11 false) _ [.fix ?_, .fix ?_, .fix ?_, .fix ?_, .new (rowF 1 ?_ ?_), .fix ?_, .fix ?_, .fix ?_, .new (rowF 1 ?_ ?_), .fix ?_, .fix ?_] (by kernel_rfl) (by kernel_rfl) (by simp only [List.length_replicate, List.drop_succ_cons, List.drop_zero, List.drop_nil]; with_reducible rfl) rfl (fun _ _ _ _ _ => ⟨fun h => h, fun h => h⟩) (fun _ _ h _ => h) trivial ?_
 rotate_left 13
 iterate 4
  first
   | (refine par_skip (a' := ?_) (by rfl) (by rfl) ?_ ?_ ?_; rotate_left 1; with_reducible rfl; (simp only [lays]; with_reducible rfl))
   | (refine par_run (a' := ?_) (by rfl) (by rfl) (fun w' hb hn => ?_) ?_ ?_; rotate_left 1; (have hc := hb.cells; go_simp; (try simp (disch := omega) only [nrm, toNatUp, iteOmega]); first | with_reducible rfl | (go_simp; with_reducible rfl)); (simp only [lays]; with_reducible rfl))
 refine par_row (a' := ?a217k4) (m := ?m217k4) (T := ?T217k4) (cs := ?c217k4) (r := ?r217k4) (by rfl) (by rfl) (fun w' hb hn => ?h217k4) (fun w' => ?e217k4) ?n217k4 ?v217k4 ?l217k4 ?x217k4 (fun u => ?p217k4) (fun u => ?g217k4)
 case h217k4 => (have hc := hb.cells; go_simp; (try simp (disch := omega) only [nrm, toNatUp, iteOmega]); with_reducible rfl)
 case e217k4 => with_reducible rfl
 case n217k4 => with_reducible rfl
 case v217k4 => with_reducible rfl
 case l217k4 => simp only [List.length_cons, List.length_nil]
 case x217k4 => (unfold maxLen; omega)
 case p217k4 => (simp only [lays]; with_reducible rfl)
 refine par_call (a' := ?_) (f := ?_) (args := ?_) (by rfl) (by rfl) (fun w' => ?_) (fun w' hb hn => ?_) ?_ ?_; rotate_left 3; (go_simp; constructor <;> with_reducible rfl); (exact key_any (c1 107) token _ [node] w' (FlatAt.slr (need_head hn (by kernel_rfl))) (by simp) (by decide) Hk.out); (simp only [lays]; with_reducible rfl)
 iterate 2
  first
   | (refine par_skip (a' := ?_) (by rfl) (by rfl) ?_ ?_ ?_; rotate_left 1; with_reducible rfl; (simp only [lays]; with_reducible rfl))
   | (refine par_run (a' := ?_) (by rfl) (by rfl) (fun w' hb hn => ?_) ?_ ?_; rotate_left 1; (have hc := hb.cells; go_simp; (try simp (disch := omega) only [nrm, toNatUp, iteOmega]); first | with_reducible rfl | (go_simp; with_reducible rfl)); (simp only [lays]; with_reducible rfl))
 refine par_row (a' := ?a230k8) (m := ?m230k8) (T := ?T230k8) (cs := ?c230k8) (r := ?r230k8) (by rfl) (by rfl) (fun w' hb hn => ?h230k8) (fun w' => ?e230k8) ?n230k8 ?v230k8 ?l230k8 ?x230k8 (fun u => ?p230k8) (fun u => ?g230k8)
 case h230k8 => (have hc := hb.cells; go_simp; (try simp (disch := omega) only [nrm, toNatUp, iteOmega]); with_reducible rfl)
 case e230k8 => with_reducible rfl
 case n230k8 => with_reducible rfl
 case v230k8 => with_reducible rfl
 case l230k8 => simp only [List.length_cons, List.length_nil]
 case x230k8 => (unfold maxLen; omega)
 case p230k8 => (simp only [lays]; with_reducible rfl)
 refine par_call (a' := ?_) (f := ?_) (args := ?_) (by rfl) (by rfl) (fun w' => ?_) (fun w' hb hn => ?_) ?_ ?_; rotate_left 3; (go_simp; constructor <;> with_reducible rfl); (exact u_any _ [msg] w' (FlatAt.slr (need_head hn (by kernel_rfl))) (by simp) H0.out); (simp only [lays]; with_reducible rfl)
 iterate 1
  first
   | (refine par_skip (a' := ?_) (by rfl) (by rfl) ?_ ?_ ?_; rotate_left 1; with_reducible rfl; (simp only [lays]; with_reducible rfl))
   | (refine par_run (a' := ?_) (by rfl) (by rfl) (fun w' hb hn => ?_) ?_ ?_; rotate_left 1; (have hc := hb.cells; go_simp; (try simp (disch := omega) only [nrm, toNatUp, iteOmega]); first | with_reducible rfl | (go_simp; with_reducible rfl)); (simp only [lays]; with_reducible rfl))
 refine par_end (fun w9 hb9 hf9 _ => ?_)
 replace hb9 := hb9.grow
 try refine wpList_none ?_
 have h9 := Lib.hid (h2.out.trans (hb9.mono h2.out.size))
 have hr := (hb9.block (w.heap.size + 1) (by simp)).trans (alloc_new2 w _ _)
 have k0 := cell_of hr 0
 have k1 := cell_of hr 1
 have f0 := free_of hr 0
 have f1 := free_of hr 1
 have hz9 : w.heap.size + 1 < w9.heap.size := heap_lt hr
 clear hb9 hf9 hr
 go_wp2
 exact bodyPost_ret (v := .agg #[.string (keyS (c1 107) token [node]), .string (catS uvS [msg])]) (by simp [results, Tryz.results61, go_sem, k0, k1, f0, f1]) rfl ⟨by rw [E.out], (h9.out.setCell (p := ⟨w.heap.size + 1, 0, none⟩) (by simp) _).setCell (p := ⟨w.heap.size + 1, 1, none⟩) (by simp) _⟩
theorem rows5_any (x : LisV) (hx : LisOk x) (cs : List Value) (w : World) (h : x.at_ w cs) : Calls Tryz.prog 63 #[.agg cs.toArray] w fun e w' => e = .returned (rowV (rowL x)) ∧ Below w.heap.size w w' := by
 obtain ⟨v, rfl, hv⟩ := h
 obtain ⟨token, inst, node, name, key, msg, vars⟩ := x
 obtain ⟨htoken, hinst, hnode, hname, hkey, hmsg, hvars⟩ := hx
 dsimp only at htoken hinst hnode hname hkey hmsg hvars hv
 have HV := Lib.hid hv
 have Hk := Lib.hid htoken
 have z0 : (catS uvS [inst]).size ≤ 10 := cat1_le (uvS_le hinst)
 have H0 := Lib.hid (all1 (P := U64) hinst)
 have z1 : (catS txS [name, key]).size ≤ 4194324 := cat2_le (txS_le hname) (txS_le hkey)
 have H1 := Lib.hid (all2 (P := Sz) hname hkey)
 have z2 : (catS uvS [msg]).size ≤ 10 := cat1_le (uvS_le hmsg)
 have H2 := Lib.hid (all1 (P := U64) hmsg)
 have z3 := varsS_le hvars
 have Hvars := Lib.hid hvars
 have E : Hid (rowV (rowL ⟨token, inst, node, name, key, msg, vars⟩) = .agg #[.string (keyS (c1 108) token [node]), .string (catS uvS [inst] ++ catS txS [name, key] ++ catS uvS [msg] ++ varsS vars)]) := by
  show _ = _
  unfold rowV rowL
  simp only [cat_one, cat_two, ByteArray.append_assoc]
 clear htoken hinst hnode hname hkey hmsg hvars hv
 go_enter Tryz.func63, Tryz.ntmps63
 go_wp2_with fail
 have h1 := Lib.hid ((Below.refl _ w).alloc (Nat.le_refl _) (.cells #[U token, U inst, I node, .string name, .string key, U msg, v] 115))
 have h2 := Lib.hid (h1.out.alloc h1.out.size (.cells #[.string ⟨#[]⟩, .string ⟨#[]⟩] 69))
 refine wp_par (fun _ => False) (fun _ => True) (List.replicate 27 false) _ [.fix ?_, .fix ?_, .fix ?_, .fix ?_, .new (rowF 1 ?_ ?_), .fix ?_, .fix ?_, .fix ?_, .new (rowF 1 ?_ ?_), .fix ?_, .fix ?_, .fix ?_, .fix ?_, .fix ?_, .new (rowF 1 ?_ ?_), .fix ?_, .fix ?_, .fix ?_, .fix ?_, .new (rowF 1 ?_ ?_), .fix ?_, .fix ?_, .fix ?_, .fix ?_, .fix ?_, .fix ?_, .fix ?_] (by kernel_rfl) (by kernel_rfl) (by simp only [List.length_replicate, List.drop_succ_cons, List.drop_zero, List.drop_nil]; with_reducible rfl) rfl (fun _ _ _ _ _ => ⟨fun h => h, fun h => h⟩) (fun _ _ h _ => h) trivial ?_
 rotate_left 31
 iterate 4
  first
   | (refine par_skip (a' := ?_) (by rfl) (by rfl) ?_ ?_ ?_; rotate_left 1; with_reducible rfl; (simp only [lays]; with_reducible rfl))
   | (refine par_run (a' := ?_) (by rfl) (by rfl) (fun w' hb hn => ?_) ?_ ?_; rotate_left 1; (have hc := hb.cells; go_simp; (try simp (disch := omega) only [nrm, toNatUp, iteOmega]); first | with_reducible rfl | (go_simp; with_reducible rfl)); (simp only [lays]; with_reducible rfl))
 refine par_row (a' := ?a288k4) (m := ?m288k4) (T := ?T288k4) (cs := ?c288k4) (r := ?r288k4) (by rfl) (by rfl) (fun w' hb hn => ?h288k4) (fun w' => ?e288k4) ?n288k4 ?v288k4 ?l288k4 ?x288k4 (fun u => ?p288k4) (fun u => ?g288k4)
 case h288k4 => (have hc := hb.cells; go_simp; (try simp (disch := omega) only [nrm, toNatUp, iteOmega]); with_reducible rfl)
 case e288k4 => with_reducible rfl
 case n288k4 => with_reducible rfl
 case v288k4 => with_reducible rfl
 case l288k4 => simp only [List.length_cons, List.length_nil]
 case x288k4 => (unfold maxLen; omega)
 case p288k4 => (simp only [lays]; with_reducible rfl)
 refine par_call (a' := ?_) (f := ?_) (args := ?_) (by rfl) (by rfl) (fun w' => ?_) (fun w' hb hn => ?_) ?_ ?_; rotate_left 3; (go_simp; constructor <;> with_reducible rfl); (exact key_any (c1 108) token _ [node] w' (FlatAt.slr (need_head hn (by kernel_rfl))) (by simp) (by decide) Hk.out); (simp only [lays]; with_reducible rfl)
 iterate 2
  first
   | (refine par_skip (a' := ?_) (by rfl) (by rfl) ?_ ?_ ?_; rotate_left 1; with_reducible rfl; (simp only [lays]; with_reducible rfl))
   | (refine par_run (a' := ?_) (by rfl) (by rfl) (fun w' hb hn => ?_) ?_ ?_; rotate_left 1; (have hc := hb.cells; go_simp; (try simp (disch := omega) only [nrm, toNatUp, iteOmega]); first | with_reducible rfl | (go_simp; with_reducible rfl)); (simp only [lays]; with_reducible rfl))
 refine par_row (a' := ?a301k8) (m := ?m301k8) (T := ?T301k8) (cs := ?c301k8) (r := ?r301k8) (by rfl) (by rfl) (fun w' hb hn => ?h301k8) (fun w' => ?e301k8) ?n301k8 ?v301k8 ?l301k8 ?x301k8 (fun u => ?p301k8) (fun u => ?g301k8)
 case h301k8 => (have hc := hb.cells; go_simp; (try simp (disch := omega) only [nrm, toNatUp, iteOmega]); with_reducible rfl)
 case e301k8 => with_reducible rfl
 case n301k8 => with_reducible rfl
 case v301k8 => with_reducible rfl
 case l301k8 => simp only [List.length_cons, List.length_nil]
 case x301k8 => (unfold maxLen; omega)
 case p301k8 => (simp only [lays]; with_reducible rfl)
 refine par_call (a' := ?_) (f := ?_) (args := ?_) (by rfl) (by rfl) (fun w' => ?_) (fun w' hb hn => ?_) ?_ ?_; rotate_left 3; (go_simp; constructor <;> with_reducible rfl); (exact u_any _ [inst] w' (FlatAt.slr (need_head hn (by kernel_rfl))) (by simp) H0.out); (simp only [lays]; with_reducible rfl)
 iterate 4
  first
   | (refine par_skip (a' := ?_) (by rfl) (by rfl) ?_ ?_ ?_; rotate_left 1; with_reducible rfl; (simp only [lays]; with_reducible rfl))
   | (refine par_run (a' := ?_) (by rfl) (by rfl) (fun w' hb hn => ?_) ?_ ?_; rotate_left 1; (have hc := hb.cells; go_simp; (try simp (disch := omega) only [nrm, toNatUp, iteOmega]); first | with_reducible rfl | (go_simp; with_reducible rfl)); (simp only [lays]; with_reducible rfl))
 refine par_row (a' := ?a314k14) (m := ?m314k14) (T := ?T314k14) (cs := ?c314k14) (r := ?r314k14) (by rfl) (by rfl) (fun w' hb hn => ?h314k14) (fun w' => ?e314k14) ?n314k14 ?v314k14 ?l314k14 ?x314k14 (fun u => ?p314k14) (fun u => ?g314k14)
 case h314k14 => (have hc := hb.cells; go_simp; (try simp (disch := omega) only [nrm, toNatUp, iteOmega]); with_reducible rfl)
 case e314k14 => with_reducible rfl
 case n314k14 => with_reducible rfl
 case v314k14 => with_reducible rfl
 case l314k14 => simp only [List.length_cons, List.length_nil]
 case x314k14 => (unfold maxLen; omega)
 case p314k14 => (simp only [lays]; with_reducible rfl)
 refine par_call (a' := ?_) (f := ?_) (args := ?_) (by rfl) (by rfl) (fun w' => ?_) (fun w' hb hn => ?_) ?_ ?_; rotate_left 3; (go_simp; constructor <;> with_reducible rfl); (exact t_any _ [name, key] w' (FlatAt.slr (need_head hn (by kernel_rfl))) (by simp) H1.out); (simp only [lays]; with_reducible rfl)
 iterate 3
  first
   | (refine par_skip (a' := ?_) (by rfl) (by rfl) ?_ ?_ ?_; rotate_left 1; with_reducible rfl; (simp only [lays]; with_reducible rfl))
   | (refine par_run (a' := ?_) (by rfl) (by rfl) (fun w' hb hn => ?_) ?_ ?_; rotate_left 1; (have hc := hb.cells; go_simp; (try simp (disch := omega) only [nrm, toNatUp, iteOmega]); first | with_reducible rfl | (go_simp; with_reducible rfl)); (simp only [lays]; with_reducible rfl))
 refine par_row (a' := ?a327k19) (m := ?m327k19) (T := ?T327k19) (cs := ?c327k19) (r := ?r327k19) (by rfl) (by rfl) (fun w' hb hn => ?h327k19) (fun w' => ?e327k19) ?n327k19 ?v327k19 ?l327k19 ?x327k19 (fun u => ?p327k19) (fun u => ?g327k19)
 case h327k19 => (have hc := hb.cells; go_simp; (try simp (disch := omega) only [nrm, toNatUp, iteOmega]); with_reducible rfl)
 case e327k19 => with_reducible rfl
 case n327k19 => with_reducible rfl
 case v327k19 => with_reducible rfl
 case l327k19 => simp only [List.length_cons, List.length_nil]
 case x327k19 => (unfold maxLen; omega)
 case p327k19 => (simp only [lays]; with_reducible rfl)
 refine par_call (a' := ?_) (f := ?_) (args := ?_) (by rfl) (by rfl) (fun w' => ?_) (fun w' hb hn => ?_) ?_ ?_; rotate_left 3; (go_simp; constructor <;> with_reducible rfl); (exact u_any _ [msg] w' (FlatAt.slr (need_head hn (by kernel_rfl))) (by simp) H2.out); (simp only [lays]; with_reducible rfl)
 iterate 3
  first
   | (refine par_skip (a' := ?_) (by rfl) (by rfl) ?_ ?_ ?_; rotate_left 1; with_reducible rfl; (simp only [lays]; with_reducible rfl))
   | (refine par_run (a' := ?_) (by rfl) (by rfl) (fun w' hb hn => ?_) ?_ ?_; rotate_left 1; (have hc := hb.cells; go_simp; (try simp (disch := omega) only [nrm, toNatUp, iteOmega]); first | with_reducible rfl | (go_simp; with_reducible rfl)); (simp only [lays]; with_reducible rfl))
 refine par_call (a' := ?_) (f := ?_) (args := ?_) (by rfl) (by rfl) (fun w' => ?_) (fun w' hb hn => ?_) ?_ ?_; rotate_left 3; (go_simp; constructor <;> with_reducible rfl); (exact varsBytes_any v vars w' Hvars.out (HV.out.below (h2.out.trans (hb.grow.mono h2.out.size)))); (simp only [lays]; with_reducible rfl)
 iterate 2
  first
   | (refine par_skip (a' := ?_) (by rfl) (by rfl) ?_ ?_ ?_; rotate_left 1; with_reducible rfl; (simp only [lays]; with_reducible rfl))
   | (refine par_run (a' := ?_) (by rfl) (by rfl) (fun w' hb hn => ?_) ?_ ?_; rotate_left 1; (have hc := hb.cells; go_simp; (try simp (disch := omega) only [nrm, toNatUp, iteOmega]); first | with_reducible rfl | (go_simp; with_reducible rfl)); (simp only [lays]; with_reducible rfl))
 refine par_end (fun w9 hb9 hf9 _ => ?_)
 replace hb9 := hb9.grow
 try refine wpList_none ?_
 have h9 := Lib.hid (h2.out.trans (hb9.mono h2.out.size))
 have hr := (hb9.block (w.heap.size + 1) (by simp)).trans (alloc_new2 w _ _)
 have k0 := cell_of hr 0
 have k1 := cell_of hr 1
 have f0 := free_of hr 0
 have f1 := free_of hr 1
 have hz9 : w.heap.size + 1 < w9.heap.size := heap_lt hr
 clear hb9 hf9 hr
 go_wp2
 exact bodyPost_ret (v := .agg #[.string (keyS (c1 108) token [node]), .string (catS uvS [inst] ++ catS txS [name, key] ++ catS uvS [msg] ++ varsS vars)]) (by simp [results, Tryz.results63, go_sem, k0, k1, f0, f1]) rfl ⟨by rw [E.out], (h9.out.setCell (p := ⟨w.heap.size + 1, 0, none⟩) (by simp) _).setCell (p := ⟨w.heap.size + 1, 1, none⟩) (by simp) _⟩
theorem rows7_any (x : TimV) (hx : TimOk x) (cs : List Value) (w : World) (h : x.at_ w cs) : Calls Tryz.prog 67 #[.agg cs.toArray] w fun e w' => e = .returned (rowV (rowR x)) ∧ Below w.heap.size w w' := by
 obtain rfl := h
 obtain ⟨token, node, when_⟩ := x
 obtain ⟨htoken, hnode, hwhen⟩ := hx
 dsimp only at htoken hnode hwhen
 have Hk := Lib.hid htoken
 have z0 : (catS inS [when_]).size ≤ 10 := cat1_le (inS_le hwhen)
 have H0 := Lib.hid (all1 (P := I64) hwhen)
 have E : Hid (rowV (rowR ⟨token, node, when_⟩) = .agg #[.string (keyS (c1 114) token [node]), .string (catS inS [when_])]) := by
  show _ = _
  unfold rowV rowR
  simp only [cat_one, cat_two, ByteArray.append_assoc]
 clear htoken hnode hwhen
 go_enter Tryz.func67, Tryz.ntmps67
 go_wp2_with fail
 have h1 := Lib.hid ((Below.refl _ w).alloc (Nat.le_refl _) (.cells #[U token, I node, I when_] 109))
 have h2 := Lib.hid (h1.out.alloc h1.out.size (.cells #[.string ⟨#[]⟩, .string ⟨#[]⟩] 69))
 refine wp_par (fun _ => False) (fun _ => True) (List.replicate 11 false) _ [.fix ?_, .fix ?_, .fix ?_, .fix ?_, .new (rowF 1 ?_ ?_), .fix ?_, .fix ?_, .fix ?_, .new (rowF 1 ?_ ?_), .fix ?_, .fix ?_] (by kernel_rfl) (by kernel_rfl) (by simp only [List.length_replicate, List.drop_succ_cons, List.drop_zero, List.drop_nil]; with_reducible rfl) rfl (fun _ _ _ _ _ => ⟨fun h => h, fun h => h⟩) (fun _ _ h _ => h) trivial ?_
 rotate_left 13
 iterate 4
  first
   | (refine par_skip (a' := ?_) (by rfl) (by rfl) ?_ ?_ ?_; rotate_left 1; with_reducible rfl; (simp only [lays]; with_reducible rfl))
   | (refine par_run (a' := ?_) (by rfl) (by rfl) (fun w' hb hn => ?_) ?_ ?_; rotate_left 1; (have hc := hb.cells; go_simp; (try simp (disch := omega) only [nrm, toNatUp, iteOmega]); first | with_reducible rfl | (go_simp; with_reducible rfl)); (simp only [lays]; with_reducible rfl))
 refine par_row (a' := ?a383k4) (m := ?m383k4) (T := ?T383k4) (cs := ?c383k4) (r := ?r383k4) (by rfl) (by rfl) (fun w' hb hn => ?h383k4) (fun w' => ?e383k4) ?n383k4 ?v383k4 ?l383k4 ?x383k4 (fun u => ?p383k4) (fun u => ?g383k4)
 case h383k4 => (have hc := hb.cells; go_simp; (try simp (disch := omega) only [nrm, toNatUp, iteOmega]); with_reducible rfl)
 case e383k4 => with_reducible rfl
 case n383k4 => with_reducible rfl
 case v383k4 => with_reducible rfl
 case l383k4 => simp only [List.length_cons, List.length_nil]
 case x383k4 => (unfold maxLen; omega)
 case p383k4 => (simp only [lays]; with_reducible rfl)
 refine par_call (a' := ?_) (f := ?_) (args := ?_) (by rfl) (by rfl) (fun w' => ?_) (fun w' hb hn => ?_) ?_ ?_; rotate_left 3; (go_simp; constructor <;> with_reducible rfl); (exact key_any (c1 114) token _ [node] w' (FlatAt.slr (need_head hn (by kernel_rfl))) (by simp) (by decide) Hk.out); (simp only [lays]; with_reducible rfl)
 iterate 2
  first
   | (refine par_skip (a' := ?_) (by rfl) (by rfl) ?_ ?_ ?_; rotate_left 1; with_reducible rfl; (simp only [lays]; with_reducible rfl))
   | (refine par_run (a' := ?_) (by rfl) (by rfl) (fun w' hb hn => ?_) ?_ ?_; rotate_left 1; (have hc := hb.cells; go_simp; (try simp (disch := omega) only [nrm, toNatUp, iteOmega]); first | with_reducible rfl | (go_simp; with_reducible rfl)); (simp only [lays]; with_reducible rfl))
 refine par_row (a' := ?a396k8) (m := ?m396k8) (T := ?T396k8) (cs := ?c396k8) (r := ?r396k8) (by rfl) (by rfl) (fun w' hb hn => ?h396k8) (fun w' => ?e396k8) ?n396k8 ?v396k8 ?l396k8 ?x396k8 (fun u => ?p396k8) (fun u => ?g396k8)
 case h396k8 => (have hc := hb.cells; go_simp; (try simp (disch := omega) only [nrm, toNatUp, iteOmega]); with_reducible rfl)
 case e396k8 => with_reducible rfl
 case n396k8 => with_reducible rfl
 case v396k8 => with_reducible rfl
 case l396k8 => simp only [List.length_cons, List.length_nil]
 case x396k8 => (unfold maxLen; omega)
 case p396k8 => (simp only [lays]; with_reducible rfl)
 refine par_call (a' := ?_) (f := ?_) (args := ?_) (by rfl) (by rfl) (fun w' => ?_) (fun w' hb hn => ?_) ?_ ?_; rotate_left 3; (go_simp; constructor <;> with_reducible rfl); (exact i_any _ [when_] w' (FlatAt.slr (need_head hn (by kernel_rfl))) (by simp) H0.out); (simp only [lays]; with_reducible rfl)
 iterate 1
  first
   | (refine par_skip (a' := ?_) (by rfl) (by rfl) ?_ ?_ ?_; rotate_left 1; with_reducible rfl; (simp only [lays]; with_reducible rfl))
   | (refine par_run (a' := ?_) (by rfl) (by rfl) (fun w' hb hn => ?_) ?_ ?_; rotate_left 1; (have hc := hb.cells; go_simp; (try simp (disch := omega) only [nrm, toNatUp, iteOmega]); first | with_reducible rfl | (go_simp; with_reducible rfl)); (simp only [lays]; with_reducible rfl))
 refine par_end (fun w9 hb9 hf9 _ => ?_)
 replace hb9 := hb9.grow
 try refine wpList_none ?_
 have h9 := Lib.hid (h2.out.trans (hb9.mono h2.out.size))
 have hr := (hb9.block (w.heap.size + 1) (by simp)).trans (alloc_new2 w _ _)
 have k0 := cell_of hr 0
 have k1 := cell_of hr 1
 have f0 := free_of hr 0
 have f1 := free_of hr 1
 have hz9 : w.heap.size + 1 < w9.heap.size := heap_lt hr
 clear hb9 hf9 hr
 go_wp2
 exact bodyPost_ret (v := .agg #[.string (keyS (c1 114) token [node]), .string (catS inS [when_])]) (by simp [results, Tryz.results67, go_sem, k0, k1, f0, f1]) rfl ⟨by rw [E.out], (h9.out.setCell (p := ⟨w.heap.size + 1, 0, none⟩) (by simp) _).setCell (p := ⟨w.heap.size + 1, 1, none⟩) (by simp) _⟩
theorem rows8_any (x : SubV) (hx : SubOk x) (cs : List Value) (w : World) (h : x.at_ w cs) : Calls Tryz.prog 69 #[.agg cs.toArray] w fun e w' => e = .returned (rowV (rowS x)) ∧ Below w.heap.size w w' := by
 obtain rfl := h
 obtain ⟨token, inst, node, name, key, is⟩ := x
 obtain ⟨htoken, hinst, hnode, hname, hkey⟩ := hx
 dsimp only at htoken hinst hnode hname hkey
 have Hk := Lib.hid htoken
 have z0 : (catS uvS [inst]).size ≤ 10 := cat1_le (uvS_le hinst)
 have H0 := Lib.hid (all1 (P := U64) hinst)
 have z1 : (catS txS [name, key]).size ≤ 4194324 := cat2_le (txS_le hname) (txS_le hkey)
 have H1 := Lib.hid (all2 (P := Sz) hname hkey)
 have z2 : (catS inS [(b01 is)]).size ≤ 10 := cat1_le (inS_le (truth_in is))
 have H2 := Lib.hid (all1 (P := I64) (truth_in is))
 have E : Hid (rowV (rowS ⟨token, inst, node, name, key, is⟩) = .agg #[.string (keyS (c1 115) token [node]), .string (catS uvS [inst] ++ catS txS [name, key] ++ catS inS [(b01 is)])]) := by
  show _ = _
  unfold rowV rowS
  simp only [cat_one, cat_two, ByteArray.append_assoc]
 clear htoken hinst hnode hname hkey
 go_enter Tryz.func69, Tryz.ntmps69
 go_wp2_with fail
 have h1 := Lib.hid ((Below.refl _ w).alloc (Nat.le_refl _) (.cells #[U token, U inst, I node, .string name, .string key, .bool is] 111))
 have h2 := Lib.hid (h1.out.alloc h1.out.size (.cells #[.string ⟨#[]⟩, .string ⟨#[]⟩] 69))
 refine wp_par (fun _ => False) (fun _ => True) (List.replicate 24 false) _ [.fix ?_, .fix ?_, .fix ?_, .fix ?_, .new (rowF 1 ?_ ?_), .fix ?_, .fix ?_, .fix ?_, .new (rowF 1 ?_ ?_), .fix ?_, .fix ?_, .fix ?_, .fix ?_, .fix ?_, .new (rowF 1 ?_ ?_), .fix ?_, .fix ?_, .fix ?_, .fix ?_, .fix ?_, .new (rowF 1 ?_ ?_), .fix ?_, .fix ?_, .fix ?_] (by kernel_rfl) (by kernel_rfl) (by simp only [List.length_replicate, List.drop_succ_cons, List.drop_zero, List.drop_nil]; with_reducible rfl) rfl (fun _ _ _ _ _ => ⟨fun h => h, fun h => h⟩) (fun _ _ h _ => h) trivial ?_
 rotate_left 28
 iterate 4
  first
   | (refine par_skip (a' := ?_) (by rfl) (by rfl) ?_ ?_ ?_; rotate_left 1; with_reducible rfl; (simp only [lays]; with_reducible rfl))
   | (refine par_run (a' := ?_) (by rfl) (by rfl) (fun w' hb hn => ?_) ?_ ?_; rotate_left 1; (have hc := hb.cells; go_simp; (try simp (disch := omega) only [nrm, toNatUp, iteOmega]); first | with_reducible rfl | (go_simp; with_reducible rfl)); (simp only [lays]; with_reducible rfl))
 refine par_row (a' := ?a451k4) (m := ?m451k4) (T := ?T451k4) (cs := ?c451k4) (r := ?r451k4) (by rfl) (by rfl) (fun w' hb hn => ?h451k4) (fun w' => ?e451k4) ?n451k4 ?v451k4 ?l451k4 ?x451k4 (fun u => ?p451k4) (fun u => ?g451k4)
 case h451k4 => (have hc := hb.cells; go_simp; (try simp (disch := omega) only [nrm, toNatUp, iteOmega]); with_reducible rfl)
 case e451k4 => with_reducible rfl
 case n451k4 => with_reducible rfl
 case v451k4 => with_reducible rfl
 case l451k4 => simp only [List.length_cons, List.length_nil]
 case x451k4 => (unfold maxLen; omega)
 case p451k4 => (simp only [lays]; with_reducible rfl)
 refine par_call (a' := ?_) (f := ?_) (args := ?_) (by rfl) (by rfl) (fun w' => ?_) (fun w' hb hn => ?_) ?_ ?_; rotate_left 3; (go_simp; constructor <;> with_reducible rfl); (exact key_any (c1 115) token _ [node] w' (FlatAt.slr (need_head hn (by kernel_rfl))) (by simp) (by decide) Hk.out); (simp only [lays]; with_reducible rfl)
 iterate 2
  first
   | (refine par_skip (a' := ?_) (by rfl) (by rfl) ?_ ?_ ?_; rotate_left 1; with_reducible rfl; (simp only [lays]; with_reducible rfl))
   | (refine par_run (a' := ?_) (by rfl) (by rfl) (fun w' hb hn => ?_) ?_ ?_; rotate_left 1; (have hc := hb.cells; go_simp; (try simp (disch := omega) only [nrm, toNatUp, iteOmega]); first | with_reducible rfl | (go_simp; with_reducible rfl)); (simp only [lays]; with_reducible rfl))
 refine par_row (a' := ?a464k8) (m := ?m464k8) (T := ?T464k8) (cs := ?c464k8) (r := ?r464k8) (by rfl) (by rfl) (fun w' hb hn => ?h464k8) (fun w' => ?e464k8) ?n464k8 ?v464k8 ?l464k8 ?x464k8 (fun u => ?p464k8) (fun u => ?g464k8)
 case h464k8 => (have hc := hb.cells; go_simp; (try simp (disch := omega) only [nrm, toNatUp, iteOmega]); with_reducible rfl)
 case e464k8 => with_reducible rfl
 case n464k8 => with_reducible rfl
 case v464k8 => with_reducible rfl
 case l464k8 => simp only [List.length_cons, List.length_nil]
 case x464k8 => (unfold maxLen; omega)
 case p464k8 => (simp only [lays]; with_reducible rfl)
 refine par_call (a' := ?_) (f := ?_) (args := ?_) (by rfl) (by rfl) (fun w' => ?_) (fun w' hb hn => ?_) ?_ ?_; rotate_left 3; (go_simp; constructor <;> with_reducible rfl); (exact u_any _ [inst] w' (FlatAt.slr (need_head hn (by kernel_rfl))) (by simp) H0.out); (simp only [lays]; with_reducible rfl)
 iterate 4
  first
   | (refine par_skip (a' := ?_) (by rfl) (by rfl) ?_ ?_ ?_; rotate_left 1; with_reducible rfl; (simp only [lays]; with_reducible rfl))
   | (refine par_run (a' := ?_) (by rfl) (by rfl) (fun w' hb hn => ?_) ?_ ?_; rotate_left 1; (have hc := hb.cells; go_simp; (try simp (disch := omega) only [nrm, toNatUp, iteOmega]); first | with_reducible rfl | (go_simp; with_reducible rfl)); (simp only [lays]; with_reducible rfl))
 refine par_row (a' := ?a477k14) (m := ?m477k14) (T := ?T477k14) (cs := ?c477k14) (r := ?r477k14) (by rfl) (by rfl) (fun w' hb hn => ?h477k14) (fun w' => ?e477k14) ?n477k14 ?v477k14 ?l477k14 ?x477k14 (fun u => ?p477k14) (fun u => ?g477k14)
 case h477k14 => (have hc := hb.cells; go_simp; (try simp (disch := omega) only [nrm, toNatUp, iteOmega]); with_reducible rfl)
 case e477k14 => with_reducible rfl
 case n477k14 => with_reducible rfl
 case v477k14 => with_reducible rfl
 case l477k14 => simp only [List.length_cons, List.length_nil]
 case x477k14 => (unfold maxLen; omega)
 case p477k14 => (simp only [lays]; with_reducible rfl)
 refine par_call (a' := ?_) (f := ?_) (args := ?_) (by rfl) (by rfl) (fun w' => ?_) (fun w' hb hn => ?_) ?_ ?_; rotate_left 3; (go_simp; constructor <;> with_reducible rfl); (exact t_any _ [name, key] w' (FlatAt.slr (need_head hn (by kernel_rfl))) (by simp) H1.out); (simp only [lays]; with_reducible rfl)
 iterate 3
  first
   | (refine par_skip (a' := ?_) (by rfl) (by rfl) ?_ ?_ ?_; rotate_left 1; with_reducible rfl; (simp only [lays]; with_reducible rfl))
   | (refine par_run (a' := ?_) (by rfl) (by rfl) (fun w' hb hn => ?_) ?_ ?_; rotate_left 1; (have hc := hb.cells; go_simp; (try simp (disch := omega) only [nrm, toNatUp, iteOmega]); first | with_reducible rfl | (go_simp; with_reducible rfl)); (simp only [lays]; with_reducible rfl))
 refine par_call (a' := ?_) (f := ?_) (args := ?_) (by rfl) (by rfl) (fun w' => ?_) (fun w' hb hn => ?_) ?_ ?_; rotate_left 3; (go_simp; constructor <;> with_reducible rfl); (exact truth_any is w'); (simp only [lays]; with_reducible rfl)
 refine par_row (a' := ?a491k20) (m := ?m491k20) (T := ?T491k20) (cs := ?c491k20) (r := ?r491k20) (by rfl) (by rfl) (fun w' hb hn => ?h491k20) (fun w' => ?e491k20) ?n491k20 ?v491k20 ?l491k20 ?x491k20 (fun u => ?p491k20) (fun u => ?g491k20)
 case h491k20 => (have hc := hb.cells; go_simp; (try simp (disch := omega) only [nrm, toNatUp, iteOmega]); with_reducible rfl)
 case e491k20 => with_reducible rfl
 case n491k20 => with_reducible rfl
 case v491k20 => with_reducible rfl
 case l491k20 => simp only [List.length_cons, List.length_nil]
 case x491k20 => (unfold maxLen; omega)
 case p491k20 => (simp only [lays]; with_reducible rfl)
 refine par_call (a' := ?_) (f := ?_) (args := ?_) (by rfl) (by rfl) (fun w' => ?_) (fun w' hb hn => ?_) ?_ ?_; rotate_left 3; (go_simp; constructor <;> with_reducible rfl); (exact i_any _ [(b01 is)] w' (FlatAt.slr (need_head hn (by kernel_rfl))) (by simp) H2.out); (simp only [lays]; with_reducible rfl)
 iterate 2
  first
   | (refine par_skip (a' := ?_) (by rfl) (by rfl) ?_ ?_ ?_; rotate_left 1; with_reducible rfl; (simp only [lays]; with_reducible rfl))
   | (refine par_run (a' := ?_) (by rfl) (by rfl) (fun w' hb hn => ?_) ?_ ?_; rotate_left 1; (have hc := hb.cells; go_simp; (try simp (disch := omega) only [nrm, toNatUp, iteOmega]); first | with_reducible rfl | (go_simp; with_reducible rfl)); (simp only [lays]; with_reducible rfl))
 refine par_end (fun w9 hb9 hf9 _ => ?_)
 replace hb9 := hb9.grow
 try refine wpList_none ?_
 have h9 := Lib.hid (h2.out.trans (hb9.mono h2.out.size))
 have hr := (hb9.block (w.heap.size + 1) (by simp)).trans (alloc_new2 w _ _)
 have k0 := cell_of hr 0
 have k1 := cell_of hr 1
 have f0 := free_of hr 0
 have f1 := free_of hr 1
 have hz9 : w.heap.size + 1 < w9.heap.size := heap_lt hr
 clear hb9 hf9 hr
 go_wp2
 exact bodyPost_ret (v := .agg #[.string (keyS (c1 115) token [node]), .string (catS uvS [inst] ++ catS txS [name, key] ++ catS inS [(b01 is)])]) (by simp [results, Tryz.results69, go_sem, k0, k1, f0, f1]) rfl ⟨by rw [E.out], (h9.out.setCell (p := ⟨w.heap.size + 1, 0, none⟩) (by simp) _).setCell (p := ⟨w.heap.size + 1, 1, none⟩) (by simp) _⟩
theorem rows9_any (x : TokV) (hx : TokOk x) (cs : List Value) (w : World) (h : x.at_ w cs) : Calls Tryz.prog 72 #[.agg cs.toArray] w fun e w' => e = .returned (rowV (rowT x)) ∧ Below w.heap.size w w' := by
 obtain rfl := h
 obtain ⟨key, inst, scope, node, by_, stuck⟩ := x
 obtain ⟨hkey, hinst, hscope, hnode, hby, hstuck⟩ := hx
 dsimp only at hkey hinst hscope hnode hby hstuck
 have Hk := Lib.hid hkey
 have z0 : (catS uvS [inst, scope]).size ≤ 20 := cat2_le (uvS_le hinst) (uvS_le hscope)
 have H0 := Lib.hid (all2 (P := U64) hinst hscope)
 have z1 : (catS inS [node, by_]).size ≤ 20 := cat2_le (inS_le hnode) (inS_le hby)
 have H1 := Lib.hid (all2 (P := I64) hnode hby)
 have z2 : (catS txS [stuck]).size ≤ 2097162 := cat1_le (txS_le hstuck)
 have H2 := Lib.hid (all1 (P := Sz) hstuck)
 have E : Hid (rowV (rowT ⟨key, inst, scope, node, by_, stuck⟩) = .agg #[.string (keyS (c1 116) key []), .string (catS uvS [inst, scope] ++ catS inS [node, by_] ++ catS txS [stuck])]) := by
  show _ = _
  unfold rowV rowT
  simp only [cat_one, cat_two, ByteArray.append_assoc]
 clear hkey hinst hscope hnode hby hstuck
 go_enter Tryz.func72, Tryz.ntmps72
 go_wp2_with fail
 have h1 := Lib.hid ((Below.refl _ w).alloc (Nat.le_refl _) (.cells #[U key, U inst, U scope, I node, I by_, .string stuck] 105))
 have h2 := Lib.hid (h1.out.alloc h1.out.size (.cells #[.string ⟨#[]⟩, .string ⟨#[]⟩] 69))
 refine wp_par (fun _ => False) (fun _ => True) (List.replicate 22 false) _ [.fix ?_, .fix ?_, .fix ?_, .fix ?_, .fix ?_, .fix ?_, .fix ?_, .new (rowF 1 ?_ ?_), .fix ?_, .fix ?_, .fix ?_, .fix ?_, .fix ?_, .new (rowF 1 ?_ ?_), .fix ?_, .fix ?_, .fix ?_, .fix ?_, .new (rowF 1 ?_ ?_), .fix ?_, .fix ?_, .fix ?_] (by kernel_rfl) (by kernel_rfl) (by simp only [List.length_replicate, List.drop_succ_cons, List.drop_zero, List.drop_nil]; with_reducible rfl) rfl (fun _ _ _ _ _ => ⟨fun h => h, fun h => h⟩) (fun _ _ h _ => h) trivial ?_
 rotate_left 25
 iterate 2
  first
   | (refine par_skip (a' := ?_) (by rfl) (by rfl) ?_ ?_ ?_; rotate_left 1; with_reducible rfl; (simp only [lays]; with_reducible rfl))
   | (refine par_run (a' := ?_) (by rfl) (by rfl) (fun w' hb hn => ?_) ?_ ?_; rotate_left 1; (have hc := hb.cells; go_simp; (try simp (disch := omega) only [nrm, toNatUp, iteOmega]); first | with_reducible rfl | (go_simp; with_reducible rfl)); (simp only [lays]; with_reducible rfl))
 refine par_call (a' := ?_) (f := ?_) (args := ?_) (by rfl) (by rfl) (fun w' => ?_) (fun w' hb hn => ?_) ?_ ?_; rotate_left 3; (go_simp; constructor <;> with_reducible rfl); (exact key_any (c1 116) key _ [] w' (SlR.nil w') (by simp) (by decide) Hk.out); (simp only [lays]; with_reducible rfl)
 iterate 4
  first
   | (refine par_skip (a' := ?_) (by rfl) (by rfl) ?_ ?_ ?_; rotate_left 1; with_reducible rfl; (simp only [lays]; with_reducible rfl))
   | (refine par_run (a' := ?_) (by rfl) (by rfl) (fun w' hb hn => ?_) ?_ ?_; rotate_left 1; (have hc := hb.cells; go_simp; (try simp (disch := omega) only [nrm, toNatUp, iteOmega]); first | with_reducible rfl | (go_simp; with_reducible rfl)); (simp only [lays]; with_reducible rfl))
 refine par_row (a' := ?a551k7) (m := ?m551k7) (T := ?T551k7) (cs := ?c551k7) (r := ?r551k7) (by rfl) (by rfl) (fun w' hb hn => ?h551k7) (fun w' => ?e551k7) ?n551k7 ?v551k7 ?l551k7 ?x551k7 (fun u => ?p551k7) (fun u => ?g551k7)
 case h551k7 => (have hc := hb.cells; go_simp; (try simp (disch := omega) only [nrm, toNatUp, iteOmega]); with_reducible rfl)
 case e551k7 => with_reducible rfl
 case n551k7 => with_reducible rfl
 case v551k7 => with_reducible rfl
 case l551k7 => simp only [List.length_cons, List.length_nil]
 case x551k7 => (unfold maxLen; omega)
 case p551k7 => (simp only [lays]; with_reducible rfl)
 refine par_call (a' := ?_) (f := ?_) (args := ?_) (by rfl) (by rfl) (fun w' => ?_) (fun w' hb hn => ?_) ?_ ?_; rotate_left 3; (go_simp; constructor <;> with_reducible rfl); (exact u_any _ [inst, scope] w' (FlatAt.slr (need_head hn (by kernel_rfl))) (by simp) H0.out); (simp only [lays]; with_reducible rfl)
 iterate 4
  first
   | (refine par_skip (a' := ?_) (by rfl) (by rfl) ?_ ?_ ?_; rotate_left 1; with_reducible rfl; (simp only [lays]; with_reducible rfl))
   | (refine par_run (a' := ?_) (by rfl) (by rfl) (fun w' hb hn => ?_) ?_ ?_; rotate_left 1; (have hc := hb.cells; go_simp; (try simp (disch := omega) only [nrm, toNatUp, iteOmega]); first | with_reducible rfl | (go_simp; with_reducible rfl)); (simp only [lays]; with_reducible rfl))
 refine par_row (a' := ?a564k13) (m := ?m564k13) (T := ?T564k13) (cs := ?c564k13) (r := ?r564k13) (by rfl) (by rfl) (fun w' hb hn => ?h564k13) (fun w' => ?e564k13) ?n564k13 ?v564k13 ?l564k13 ?x564k13 (fun u => ?p564k13) (fun u => ?g564k13)
 case h564k13 => (have hc := hb.cells; go_simp; (try simp (disch := omega) only [nrm, toNatUp, iteOmega]); with_reducible rfl)
 case e564k13 => with_reducible rfl
 case n564k13 => with_reducible rfl
 case v564k13 => with_reducible rfl
 case l564k13 => simp only [List.length_cons, List.length_nil]
 case x564k13 => (unfold maxLen; omega)
 case p564k13 => (simp only [lays]; with_reducible rfl)
 refine par_call (a' := ?_) (f := ?_) (args := ?_) (by rfl) (by rfl) (fun w' => ?_) (fun w' hb hn => ?_) ?_ ?_; rotate_left 3; (go_simp; constructor <;> with_reducible rfl); (exact i_any _ [node, by_] w' (FlatAt.slr (need_head hn (by kernel_rfl))) (by simp) H1.out); (simp only [lays]; with_reducible rfl)
 iterate 3
  first
   | (refine par_skip (a' := ?_) (by rfl) (by rfl) ?_ ?_ ?_; rotate_left 1; with_reducible rfl; (simp only [lays]; with_reducible rfl))
   | (refine par_run (a' := ?_) (by rfl) (by rfl) (fun w' hb hn => ?_) ?_ ?_; rotate_left 1; (have hc := hb.cells; go_simp; (try simp (disch := omega) only [nrm, toNatUp, iteOmega]); first | with_reducible rfl | (go_simp; with_reducible rfl)); (simp only [lays]; with_reducible rfl))
 refine par_row (a' := ?a577k18) (m := ?m577k18) (T := ?T577k18) (cs := ?c577k18) (r := ?r577k18) (by rfl) (by rfl) (fun w' hb hn => ?h577k18) (fun w' => ?e577k18) ?n577k18 ?v577k18 ?l577k18 ?x577k18 (fun u => ?p577k18) (fun u => ?g577k18)
 case h577k18 => (have hc := hb.cells; go_simp; (try simp (disch := omega) only [nrm, toNatUp, iteOmega]); with_reducible rfl)
 case e577k18 => with_reducible rfl
 case n577k18 => with_reducible rfl
 case v577k18 => with_reducible rfl
 case l577k18 => simp only [List.length_cons, List.length_nil]
 case x577k18 => (unfold maxLen; omega)
 case p577k18 => (simp only [lays]; with_reducible rfl)
 refine par_call (a' := ?_) (f := ?_) (args := ?_) (by rfl) (by rfl) (fun w' => ?_) (fun w' hb hn => ?_) ?_ ?_; rotate_left 3; (go_simp; constructor <;> with_reducible rfl); (exact t_any _ [stuck] w' (FlatAt.slr (need_head hn (by kernel_rfl))) (by simp) H2.out); (simp only [lays]; with_reducible rfl)
 iterate 2
  first
   | (refine par_skip (a' := ?_) (by rfl) (by rfl) ?_ ?_ ?_; rotate_left 1; with_reducible rfl; (simp only [lays]; with_reducible rfl))
   | (refine par_run (a' := ?_) (by rfl) (by rfl) (fun w' hb hn => ?_) ?_ ?_; rotate_left 1; (have hc := hb.cells; go_simp; (try simp (disch := omega) only [nrm, toNatUp, iteOmega]); first | with_reducible rfl | (go_simp; with_reducible rfl)); (simp only [lays]; with_reducible rfl))
 refine par_end (fun w9 hb9 hf9 _ => ?_)
 replace hb9 := hb9.grow
 try refine wpList_none ?_
 have h9 := Lib.hid (h2.out.trans (hb9.mono h2.out.size))
 have hr := (hb9.block (w.heap.size + 1) (by simp)).trans (alloc_new2 w _ _)
 have k0 := cell_of hr 0
 have k1 := cell_of hr 1
 have f0 := free_of hr 0
 have f1 := free_of hr 1
 have hz9 : w.heap.size + 1 < w9.heap.size := heap_lt hr
 clear hb9 hf9 hr
 go_wp2
 exact bodyPost_ret (v := .agg #[.string (keyS (c1 116) key []), .string (catS uvS [inst, scope] ++ catS inS [node, by_] ++ catS txS [stuck])]) (by simp [results, Tryz.results72, go_sem, k0, k1, f0, f1]) rfl ⟨by rw [E.out], (h9.out.setCell (p := ⟨w.heap.size + 1, 0, none⟩) (by simp) _).setCell (p := ⟨w.heap.size + 1, 1, none⟩) (by simp) _⟩
end Go.Proofs.YthikijlbclckdaaGreat
