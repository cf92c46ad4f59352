/- All rows of a state. -/
import Derived.Test.YthikijlbclckdaaGreatKk
namespace Go.Proofs.YthikijlbclckdaaGreat
set_option linter.unusedSimpArgs false
set_option linter.unusedVariables false
open Go.RowKit
def rowA (s : StateV) : RowV := (c1 97, uvS s.pos ++ uvS s.done ++ uvS s.made)
def lists (s : StateV) : List (List RowV) := [[rowA s], s.msgs.map rowG, s.insts.map rowI, s.jobs.map rowJ, s.kept.map rowK, s.listed.map rowL, s.procs.map rowP, s.timers.map rowR, s.subs.map rowS, s.tokens.map rowT]
def rows (s : StateV) : List RowV := (lists s).flatten
def rowsF (l : List RowV) : Value → World → Prop := fun u w => FlatAt 2 w u l.length (rowsC l)
theorem rowsF_st (l : List RowV) (u : Value) (w w' : World) (h : rowsF l u w) (hb : Below w.heap.size w w') : rowsF l u w' := FlatAt.grow h hb
theorem rows_many {s : StateV} (h : StateOk s) : totL (lists s) 10 ≤ 4194304 := by
  have := h.many
  simp [totL, lists]
  omega
def stateC (s : StateV) (vp vi vt vj vr vs vk vl vm : Value) : List Value := [U s.pos, U s.done, U s.made, vp, vi, vt, vj, vr, vs, vk, vl, vm]
theorem of_map {α : Type} {f : α → RowV} {l : List α} {u : Value} {w : World} (h : FlatAt 2 w u l.length (rowsC (l.map f))) : rowsF (l.map f) u w := by
  show FlatAt 2 w u (l.map f).length _
  rw [List.length_map]; exact h
set_option maxRecDepth 100000 in
set_option maxHeartbeats 8000000 in
theorem rows_any (s : StateV) (hok : StateOk s) (cs : List Value) (vp vi vt vj vr vs vk vl vm : Value) (w : World) (h : StateAt w cs s vp vi vt vj vr vs vk vl vm) :
    Calls Tryz.prog 26 #[.agg cs.toArray] w fun e w' => ∃ u, e = .returned u ∧ rowsF (rows s) u w' ∧ Below w.heap.size w w' := by
  have H := Lib.hid h
  have Hok := Lib.hid hok
  obtain ⟨rfl, hp, hi, ht, hj, hr, hs, hk, hl, hm⟩ := h
  obtain ⟨ap, cp, rfl, -⟩ := hp
  obtain ⟨ai, ci, rfl, -⟩ := hi
  obtain ⟨at_, ct, rfl, -⟩ := ht
  obtain ⟨aj, cj, rfl, -⟩ := hj
  obtain ⟨ar, cr, rfl, -⟩ := hr
  obtain ⟨as_, cs_, rfl, -⟩ := hs
  obtain ⟨ak, ck, rfl, -⟩ := hk
  obtain ⟨al, cl, rfl, -⟩ := hl
  obtain ⟨am, cm, rfl, -⟩ := hm
  have Hmany := Lib.hid hok.many
  clear hok
  have hE : Hid (catS uvS [s.pos, s.done, s.made] = (rowA s).2) := cat_three uvS _ _ _
  go_enter Tryz.func26, Tryz.ntmps26
  go_wp2_with fail
  have hB1 := Lib.hid ((Below.refl _ w).alloc (Nat.le_refl _) (.cells #[U s.pos, U s.done, U s.made, .slice ap s.procs.length cp, .slice ai s.insts.length ci, .slice at_ s.tokens.length ct, .slice aj s.jobs.length cj, .slice ar s.timers.length cr, .slice as_ s.subs.length cs_, .slice ak s.kept.length ck, .slice al s.listed.length cl, .slice am s.msgs.length cm] 33))
  have hst := Lib.hid (alloc_new w (.cells #[U s.pos, U s.done, U s.made, .slice ap s.procs.length cp, .slice ai s.insts.length ci, .slice at_ s.tokens.length ct, .slice aj s.jobs.length cj, .slice ar s.timers.length cr, .slice as_ s.subs.length cs_, .slice ak s.kept.length ck, .slice al s.listed.length cl, .slice am s.msgs.length cm] 33))
  have hsz1 : (w.alloc (.cells #[U s.pos, U s.done, U s.made, .slice ap s.procs.length cp, .slice ai s.insts.length ci, .slice at_ s.tokens.length ct, .slice aj s.jobs.length cj, .slice ar s.timers.length cr, .slice as_ s.subs.length cs_, .slice ak s.kept.length ck, .slice al s.listed.length cl, .slice am s.msgs.length cm] 33)).heap.size = w.heap.size + 1 := by simp
  rw [← hsz1]
  generalize w.alloc (.cells #[U s.pos, U s.done, U s.made, .slice ap s.procs.length cp, .slice ai s.insts.length ci, .slice at_ s.tokens.length ct, .slice aj s.jobs.length cj, .slice ar s.timers.length cr, .slice as_ s.subs.length cs_, .slice ak s.kept.length ck, .slice al s.listed.length cl, .slice am s.msgs.length cm] 33) = w1 at hB1 hst hsz1 ⊢
  refine (u_any _ [s.pos, s.done, s.made] _ (FlatAt.slr (FlatAt.made (n := 3) w1 [U s.pos, U s.done, U s.made] _ rfl (by unfold maxLen; omega))) (by simp) (by intro x hx; simp at hx; have h1 := Hok.out.pos; have h2 := Hok.out.done; have h3 := Hok.out.made; rcases hx with rfl | rfl | rfl <;> assumption)).mono ?_
  rintro e w2 ⟨rfl, b2⟩
  rw [hE.out]
  have hB2 := Lib.hid (((Below.refl _ w1).alloc (Nat.le_refl _) (.cells #[U s.pos, U s.done, U s.made] 22)).trans (b2.mono (by simp)))
  have hz2 := b2.size
  simp only [World.size_alloc] at hz2
  clear b2
  go_wp2_with fail
  have hB3 := Lib.hid (hB2.out.trans ((Below.refl _ w2).alloc hB2.out.size (.cells #[.string ⟨#[97]⟩, .string (rowA s).2] 69)))
  have hout := Lib.hid (FlatAt.made (size := 2) (n := 1) w2 (rowsC [rowA s]) 69 rfl (by unfold maxLen; omega))
  have hsz3 : (w2.alloc (.cells #[.string ⟨#[97]⟩, .string (rowA s).2] 69)).heap.size = w2.heap.size + 1 := by simp
  change Hid (FlatAt 2 (w2.alloc (.cells #[.string ⟨#[97]⟩, .string (rowA s).2] 69)) _ _ _) at hout
  generalize w2.alloc (.cells #[.string ⟨#[97]⟩, .string (rowA s).2] 69) = w3 at hB3 hout hsz3 ⊢
  have hst3 := (hB3.out.block w.heap.size (by omega)).trans hst.out
  have HB := Lib.hid (hB1.out.trans (hB3.out.mono hB1.out.size))
  have HS := Lib.hid (H.out.grow HB.out)
  have k3 := cell_of hst3 3
  have k4 := cell_of hst3 4
  have k5 := cell_of hst3 5
  have k6 := cell_of hst3 6
  have k7 := cell_of hst3 7
  have k8 := cell_of hst3 8
  have k9 := cell_of hst3 9
  have k10 := cell_of hst3 10
  have k11 := cell_of hst3 11
  clear hst3 hst
  have hlt : w.heap.size < w3.heap.size := by omega
  have Hsz := Lib.hid (And.intro hsz1 hsz3)
  clear hsz1 hsz3
  refine wp_par (fun _ => False) (fun _ => True) (List.replicate 28 false) _ [.fix ?_, .fix ?_, .fix ?_, .new (rowsF (s.msgs.map rowG)), .fix ?_, .fix ?_, .new (rowsF (s.insts.map rowI)), .fix ?_, .fix ?_, .new (rowsF (s.jobs.map rowJ)), .fix ?_, .fix ?_, .new (rowsF (s.kept.map rowK)), .fix ?_, .fix ?_, .new (rowsF (s.listed.map rowL)), .fix ?_, .fix ?_, .new (rowsF (s.procs.map rowP)), .fix ?_, .fix ?_, .new (rowsF (s.timers.map rowR)), .fix ?_, .fix ?_, .new (rowsF (s.subs.map rowS)), .fix ?_, .fix ?_, .new (rowsF (s.tokens.map rowT))] (by kernel_rfl) (by kernel_rfl) (by simp only [List.length_replicate, List.drop_succ_cons, List.drop_zero, List.drop_nil]; with_reducible rfl) rfl (fun _ _ _ _ _ => ⟨fun h => h, fun h => h⟩) (fun _ _ h _ => h) trivial ?_
  rotate_left 19
  iterate 3
    first
      | (refine par_skip (a' := ?_) (by rfl) (by rfl) ?_ ?_ ?_; rotate_left 1; with_reducible rfl; (simp only [Act.put, List.setIfInBounds_toArray, List.set_cons_zero, List.set_cons_succ]; with_reducible rfl))
      | (refine par_run (a' := ?_) (by rfl) (by rfl) (fun w' hb hn => ?_) ?_ ?_; rotate_left 1; (have hc := hb.cells; first | (go_simp; (try simp (disch := omega) only [IntWalk.i64_in, IntWalk.i32_in, IntWalk.u64_in, IntWalk.u8_in, IntWalk.u32_in, IntWalk.toNatUp, IntWalk.iteOmega]); with_reducible rfl) | (go_simp; (try simp (disch := omega) only [IntWalk.i64_in, IntWalk.i32_in, IntWalk.u64_in, IntWalk.u8_in, IntWalk.u32_in, IntWalk.toNatUp, IntWalk.iteOmega]); go_simp; with_reducible rfl)); (simp only [Act.put, List.setIfInBounds_toArray, List.set_cons_zero, List.set_cons_succ]; with_reducible rfl))
  refine par_callF (a' := ?a78k3) (f := ?f78k3) (args := ?r78k3) (by rfl) (by rfl) (fun w' => ?e78k3) (rowsF_st _) (fun w' hb hn => ?h78k3) (fun u => ?p78k3) (fun u => ?g78k3)
  case e78k3 => (go_simp; constructor <;> with_reducible rfl)
  case h78k3 => (exact (of1_any _ s.msgs w' Hok.out.msgs (by have := Hmany.out; omega) (HS.out.msgs.grow MsgV.st hb.grow)).mono (fun e w2 h => by obtain ⟨u, he, hf, hb⟩ := h; exact ⟨u, he, of_map hf, hb⟩))
  case p78k3 => (simp only [Act.put, List.setIfInBounds_toArray, List.set_cons_zero, List.set_cons_succ]; with_reducible rfl)
  iterate 2
    first
      | (refine par_skip (a' := ?_) (by rfl) (by rfl) ?_ ?_ ?_; rotate_left 1; with_reducible rfl; (simp only [Act.put, List.setIfInBounds_toArray, List.set_cons_zero, List.set_cons_succ]; with_reducible rfl))
      | (refine par_run (a' := ?_) (by rfl) (by rfl) (fun w' hb hn => ?_) ?_ ?_; rotate_left 1; (have hc := hb.cells; first | (go_simp; (try simp (disch := omega) only [IntWalk.i64_in, IntWalk.i32_in, IntWalk.u64_in, IntWalk.u8_in, IntWalk.u32_in, IntWalk.toNatUp, IntWalk.iteOmega]); with_reducible rfl) | (go_simp; (try simp (disch := omega) only [IntWalk.i64_in, IntWalk.i32_in, IntWalk.u64_in, IntWalk.u8_in, IntWalk.u32_in, IntWalk.toNatUp, IntWalk.iteOmega]); go_simp; with_reducible rfl)); (simp only [Act.put, List.setIfInBounds_toArray, List.set_cons_zero, List.set_cons_succ]; with_reducible rfl))
  refine par_callF (a' := ?a86k6) (f := ?f86k6) (args := ?r86k6) (by rfl) (by rfl) (fun w' => ?e86k6) (rowsF_st _) (fun w' hb hn => ?h86k6) (fun u => ?p86k6) (fun u => ?g86k6)
  case e86k6 => (go_simp; constructor <;> with_reducible rfl)
  case h86k6 => (exact (of2_any _ s.insts w' Hok.out.insts (by have := Hmany.out; omega) (HS.out.insts.grow InstV.st hb.grow)).mono (fun e w2 h => by obtain ⟨u, he, hf, hb⟩ := h; exact ⟨u, he, of_map hf, hb⟩))
  case p86k6 => (simp only [Act.put, List.setIfInBounds_toArray, List.set_cons_zero, List.set_cons_succ]; with_reducible rfl)
  iterate 2
    first
      | (refine par_skip (a' := ?_) (by rfl) (by rfl) ?_ ?_ ?_; rotate_left 1; with_reducible rfl; (simp only [Act.put, List.setIfInBounds_toArray, List.set_cons_zero, List.set_cons_succ]; with_reducible rfl))
      | (refine par_run (a' := ?_) (by rfl) (by rfl) (fun w' hb hn => ?_) ?_ ?_; rotate_left 1; (have hc := hb.cells; first | (go_simp; (try simp (disch := omega) only [IntWalk.i64_in, IntWalk.i32_in, IntWalk.u64_in, IntWalk.u8_in, IntWalk.u32_in, IntWalk.toNatUp, IntWalk.iteOmega]); with_reducible rfl) | (go_simp; (try simp (disch := omega) only [IntWalk.i64_in, IntWalk.i32_in, IntWalk.u64_in, IntWalk.u8_in, IntWalk.u32_in, IntWalk.toNatUp, IntWalk.iteOmega]); go_simp; with_reducible rfl)); (simp only [Act.put, List.setIfInBounds_toArray, List.set_cons_zero, List.set_cons_succ]; with_reducible rfl))
  refine par_callF (a' := ?a94k9) (f := ?f94k9) (args := ?r94k9) (by rfl) (by rfl) (fun w' => ?e94k9) (rowsF_st _) (fun w' hb hn => ?h94k9) (fun u => ?p94k9) (fun u => ?g94k9)
  case e94k9 => (go_simp; constructor <;> with_reducible rfl)
  case h94k9 => (exact (of3_any _ s.jobs w' Hok.out.jobs (by have := Hmany.out; omega) (HS.out.jobs.grow JobV.st hb.grow)).mono (fun e w2 h => by obtain ⟨u, he, hf, hb⟩ := h; exact ⟨u, he, of_map hf, hb⟩))
  case p94k9 => (simp only [Act.put, List.setIfInBounds_toArray, List.set_cons_zero, List.set_cons_succ]; with_reducible rfl)
  iterate 2
    first
      | (refine par_skip (a' := ?_) (by rfl) (by rfl) ?_ ?_ ?_; rotate_left 1; with_reducible rfl; (simp only [Act.put, List.setIfInBounds_toArray, List.set_cons_zero, List.set_cons_succ]; with_reducible rfl))
      | (refine par_run (a' := ?_) (by rfl) (by rfl) (fun w' hb hn => ?_) ?_ ?_; rotate_left 1; (have hc := hb.cells; first | (go_simp; (try simp (disch := omega) only [IntWalk.i64_in, IntWalk.i32_in, IntWalk.u64_in, IntWalk.u8_in, IntWalk.u32_in, IntWalk.toNatUp, IntWalk.iteOmega]); with_reducible rfl) | (go_simp; (try simp (disch := omega) only [IntWalk.i64_in, IntWalk.i32_in, IntWalk.u64_in, IntWalk.u8_in, IntWalk.u32_in, IntWalk.toNatUp, IntWalk.iteOmega]); go_simp; with_reducible rfl)); (simp only [Act.put, List.setIfInBounds_toArray, List.set_cons_zero, List.set_cons_succ]; with_reducible rfl))
  refine par_callF (a' := ?a102k12) (f := ?f102k12) (args := ?r102k12) (by rfl) (by rfl) (fun w' => ?e102k12) (rowsF_st _) (fun w' hb hn => ?h102k12) (fun u => ?p102k12) (fun u => ?g102k12)
  case e102k12 => (go_simp; constructor <;> with_reducible rfl)
  case h102k12 => (exact (of4_any _ s.kept w' Hok.out.kept (by have := Hmany.out; omega) (HS.out.kept.grow KeptV.st hb.grow)).mono (fun e w2 h => by obtain ⟨u, he, hf, hb⟩ := h; exact ⟨u, he, of_map hf, hb⟩))
  case p102k12 => (simp only [Act.put, List.setIfInBounds_toArray, List.set_cons_zero, List.set_cons_succ]; with_reducible rfl)
  iterate 2
    first
      | (refine par_skip (a' := ?_) (by rfl) (by rfl) ?_ ?_ ?_; rotate_left 1; with_reducible rfl; (simp only [Act.put, List.setIfInBounds_toArray, List.set_cons_zero, List.set_cons_succ]; with_reducible rfl))
      | (refine par_run (a' := ?_) (by rfl) (by rfl) (fun w' hb hn => ?_) ?_ ?_; rotate_left 1; (have hc := hb.cells; first | (go_simp; (try simp (disch := omega) only [IntWalk.i64_in, IntWalk.i32_in, IntWalk.u64_in, IntWalk.u8_in, IntWalk.u32_in, IntWalk.toNatUp, IntWalk.iteOmega]); with_reducible rfl) | (go_simp; (try simp (disch := omega) only [IntWalk.i64_in, IntWalk.i32_in, IntWalk.u64_in, IntWalk.u8_in, IntWalk.u32_in, IntWalk.toNatUp, IntWalk.iteOmega]); go_simp; with_reducible rfl)); (simp only [Act.put, List.setIfInBounds_toArray, List.set_cons_zero, List.set_cons_succ]; with_reducible rfl))
  refine par_callF (a' := ?a110k15) (f := ?f110k15) (args := ?r110k15) (by rfl) (by rfl) (fun w' => ?e110k15) (rowsF_st _) (fun w' hb hn => ?h110k15) (fun u => ?p110k15) (fun u => ?g110k15)
  case e110k15 => (go_simp; constructor <;> with_reducible rfl)
  case h110k15 => (exact (of5_any _ s.listed w' Hok.out.listed (by have := Hmany.out; omega) (HS.out.listed.grow LisV.st hb.grow)).mono (fun e w2 h => by obtain ⟨u, he, hf, hb⟩ := h; exact ⟨u, he, of_map hf, hb⟩))
  case p110k15 => (simp only [Act.put, List.setIfInBounds_toArray, List.set_cons_zero, List.set_cons_succ]; with_reducible rfl)
  iterate 2
    first
      | (refine par_skip (a' := ?_) (by rfl) (by rfl) ?_ ?_ ?_; rotate_left 1; with_reducible rfl; (simp only [Act.put, List.setIfInBounds_toArray, List.set_cons_zero, List.set_cons_succ]; with_reducible rfl))
      | (refine par_run (a' := ?_) (by rfl) (by rfl) (fun w' hb hn => ?_) ?_ ?_; rotate_left 1; (have hc := hb.cells; first | (go_simp; (try simp (disch := omega) only [IntWalk.i64_in, IntWalk.i32_in, IntWalk.u64_in, IntWalk.u8_in, IntWalk.u32_in, IntWalk.toNatUp, IntWalk.iteOmega]); with_reducible rfl) | (go_simp; (try simp (disch := omega) only [IntWalk.i64_in, IntWalk.i32_in, IntWalk.u64_in, IntWalk.u8_in, IntWalk.u32_in, IntWalk.toNatUp, IntWalk.iteOmega]); go_simp; with_reducible rfl)); (simp only [Act.put, List.setIfInBounds_toArray, List.set_cons_zero, List.set_cons_succ]; with_reducible rfl))
  refine par_callF (a' := ?a118k18) (f := ?f118k18) (args := ?r118k18) (by rfl) (by rfl) (fun w' => ?e118k18) (rowsF_st _) (fun w' hb hn => ?h118k18) (fun u => ?p118k18) (fun u => ?g118k18)
  case e118k18 => (go_simp; constructor <;> with_reducible rfl)
  case h118k18 => (exact (of6_any _ s.procs w' Hok.out.procs (by have := Hmany.out; omega) (HS.out.procs.grow DepV.st hb.grow)).mono (fun e w2 h => by obtain ⟨u, he, hf, hb⟩ := h; exact ⟨u, he, of_map hf, hb⟩))
  case p118k18 => (simp only [Act.put, List.setIfInBounds_toArray, List.set_cons_zero, List.set_cons_succ]; with_reducible rfl)
  iterate 2
    first
      | (refine par_skip (a' := ?_) (by rfl) (by rfl) ?_ ?_ ?_; rotate_left 1; with_reducible rfl; (simp only [Act.put, List.setIfInBounds_toArray, List.set_cons_zero, List.set_cons_succ]; with_reducible rfl))
      | (refine par_run (a' := ?_) (by rfl) (by rfl) (fun w' hb hn => ?_) ?_ ?_; rotate_left 1; (have hc := hb.cells; first | (go_simp; (try simp (disch := omega) only [IntWalk.i64_in, IntWalk.i32_in, IntWalk.u64_in, IntWalk.u8_in, IntWalk.u32_in, IntWalk.toNatUp, IntWalk.iteOmega]); with_reducible rfl) | (go_simp; (try simp (disch := omega) only [IntWalk.i64_in, IntWalk.i32_in, IntWalk.u64_in, IntWalk.u8_in, IntWalk.u32_in, IntWalk.toNatUp, IntWalk.iteOmega]); go_simp; with_reducible rfl)); (simp only [Act.put, List.setIfInBounds_toArray, List.set_cons_zero, List.set_cons_succ]; with_reducible rfl))
  refine par_callF (a' := ?a126k21) (f := ?f126k21) (args := ?r126k21) (by rfl) (by rfl) (fun w' => ?e126k21) (rowsF_st _) (fun w' hb hn => ?h126k21) (fun u => ?p126k21) (fun u => ?g126k21)
  case e126k21 => (go_simp; constructor <;> with_reducible rfl)
  case h126k21 => (exact (of7_any _ s.timers w' Hok.out.timers (by have := Hmany.out; omega) (HS.out.timers.grow TimV.st hb.grow)).mono (fun e w2 h => by obtain ⟨u, he, hf, hb⟩ := h; exact ⟨u, he, of_map hf, hb⟩))
  case p126k21 => (simp only [Act.put, List.setIfInBounds_toArray, List.set_cons_zero, List.set_cons_succ]; with_reducible rfl)
  iterate 2
    first
      | (refine par_skip (a' := ?_) (by rfl) (by rfl) ?_ ?_ ?_; rotate_left 1; with_reducible rfl; (simp only [Act.put, List.setIfInBounds_toArray, List.set_cons_zero, List.set_cons_succ]; with_reducible rfl))
      | (refine par_run (a' := ?_) (by rfl) (by rfl) (fun w' hb hn => ?_) ?_ ?_; rotate_left 1; (have hc := hb.cells; first | (go_simp; (try simp (disch := omega) only [IntWalk.i64_in, IntWalk.i32_in, IntWalk.u64_in, IntWalk.u8_in, IntWalk.u32_in, IntWalk.toNatUp, IntWalk.iteOmega]); with_reducible rfl) | (go_simp; (try simp (disch := omega) only [IntWalk.i64_in, IntWalk.i32_in, IntWalk.u64_in, IntWalk.u8_in, IntWalk.u32_in, IntWalk.toNatUp, IntWalk.iteOmega]); go_simp; with_reducible rfl)); (simp only [Act.put, List.setIfInBounds_toArray, List.set_cons_zero, List.set_cons_succ]; with_reducible rfl))
  refine par_callF (a' := ?a134k24) (f := ?f134k24) (args := ?r134k24) (by rfl) (by rfl) (fun w' => ?e134k24) (rowsF_st _) (fun w' hb hn => ?h134k24) (fun u => ?p134k24) (fun u => ?g134k24)
  case e134k24 => (go_simp; constructor <;> with_reducible rfl)
  case h134k24 => (exact (of8_any _ s.subs w' Hok.out.subs (by have := Hmany.out; omega) (HS.out.subs.grow SubV.st hb.grow)).mono (fun e w2 h => by obtain ⟨u, he, hf, hb⟩ := h; exact ⟨u, he, of_map hf, hb⟩))
  case p134k24 => (simp only [Act.put, List.setIfInBounds_toArray, List.set_cons_zero, List.set_cons_succ]; with_reducible rfl)
  iterate 2
    first
      | (refine par_skip (a' := ?_) (by rfl) (by rfl) ?_ ?_ ?_; rotate_left 1; with_reducible rfl; (simp only [Act.put, List.setIfInBounds_toArray, List.set_cons_zero, List.set_cons_succ]; with_reducible rfl))
      | (refine par_run (a' := ?_) (by rfl) (by rfl) (fun w' hb hn => ?_) ?_ ?_; rotate_left 1; (have hc := hb.cells; first | (go_simp; (try simp (disch := omega) only [IntWalk.i64_in, IntWalk.i32_in, IntWalk.u64_in, IntWalk.u8_in, IntWalk.u32_in, IntWalk.toNatUp, IntWalk.iteOmega]); with_reducible rfl) | (go_simp; (try simp (disch := omega) only [IntWalk.i64_in, IntWalk.i32_in, IntWalk.u64_in, IntWalk.u8_in, IntWalk.u32_in, IntWalk.toNatUp, IntWalk.iteOmega]); go_simp; with_reducible rfl)); (simp only [Act.put, List.setIfInBounds_toArray, List.set_cons_zero, List.set_cons_succ]; with_reducible rfl))
  refine par_callF (a' := ?a142k27) (f := ?f142k27) (args := ?r142k27) (by rfl) (by rfl) (fun w' => ?e142k27) (rowsF_st _) (fun w' hb hn => ?h142k27) (fun u => ?p142k27) (fun u => ?g142k27)
  case e142k27 => (go_simp; constructor <;> with_reducible rfl)
  case h142k27 => (exact (of9_any _ s.tokens w' Hok.out.tokens (by have := Hmany.out; omega) (HS.out.tokens.grow TokV.st hb.grow)).mono (fun e w2 h => by obtain ⟨u, he, hf, hb⟩ := h; exact ⟨u, he, of_map hf, hb⟩))
  case p142k27 => (simp only [Act.put, List.setIfInBounds_toArray, List.set_cons_zero, List.set_cons_succ]; with_reducible rfl)
  refine par_end (fun w9 hb9 hf9 _ => ?_)
  replace hb9 := hb9.grow
  try refine wpList_none ?_
  have HB9 := Lib.hid (HB.out.trans (hb9.mono HB.out.size))
  have hout9 := Lib.hid (hout.out.grow hb9)
  simp only [List.forall_mem_cons] at hf9
  obtain ⟨gT, gS, gR, gP, gL, gK, gJ, gI, gG, -⟩ := hf9
  have GT := Lib.hid gT
  have GS := Lib.hid gS
  have GR := Lib.hid gR
  have GP := Lib.hid gP
  have GL := Lib.hid gL
  have GK := Lib.hid gK
  have GJ := Lib.hid gJ
  have GI := Lib.hid gI
  have GG := Lib.hid gG
  obtain ⟨aT, cT, rfl, -⟩ := gT
  obtain ⟨aS, cS, rfl, -⟩ := gS
  obtain ⟨aR, cR, rfl, -⟩ := gR
  obtain ⟨aP, cP, rfl, -⟩ := gP
  obtain ⟨aL, cL, rfl, -⟩ := gL
  obtain ⟨aK, cK, rfl, -⟩ := gK
  obtain ⟨aJ, cJ, rfl, -⟩ := gJ
  obtain ⟨aI, cI, rfl, -⟩ := gI
  obtain ⟨aG, cG, rfl, -⟩ := gG
  clear hb9 k3 k4 k5 k6 k7 k8 k9 k10 k11
  simp only [List.length_map] at *
  go_wp2_with fail
  have hB10 := (Below.refl _ w9).alloc (Nat.le_refl _) (.cells #[.slice (some ⟨w2.heap.size, 0, none⟩) 1 1, .slice aG s.msgs.length cG, .slice aI s.insts.length cI, .slice aJ s.jobs.length cJ, .slice aK s.kept.length cK, .slice aL s.listed.length cL, .slice aP s.procs.length cP, .slice aR s.timers.length cR, .slice aS s.subs.length cS, .slice aT s.tokens.length cT] 66)
  have hL : ListsAt (w9.alloc (.cells #[.slice (some ⟨w2.heap.size, 0, none⟩) 1 1, .slice aG s.msgs.length cG, .slice aI s.insts.length cI, .slice aJ s.jobs.length cJ, .slice aK s.kept.length cK, .slice aL s.listed.length cL, .slice aP s.procs.length cP, .slice aR s.timers.length cR, .slice aS s.subs.length cS, .slice aT s.tokens.length cT] 66)) [.slice (some ⟨w2.heap.size, 0, none⟩) 1 1, .slice aG s.msgs.length cG, .slice aI s.insts.length cI, .slice aJ s.jobs.length cJ, .slice aK s.kept.length cK, .slice aL s.listed.length cL, .slice aP s.procs.length cP, .slice aR s.timers.length cR, .slice aS s.subs.length cS, .slice aT s.tokens.length cT] (lists s) := by
    refine ⟨rfl, fun i u l hu hl => ?_⟩
    match i, hu, hl with
    | 0, hu, hl => cases hu; cases hl; exact hout9.out.grow hB10
    | 1, hu, hl => cases hu; cases hl; exact rowsF_st _ _ _ _ GG.out hB10
    | 2, hu, hl => cases hu; cases hl; exact rowsF_st _ _ _ _ GI.out hB10
    | 3, hu, hl => cases hu; cases hl; exact rowsF_st _ _ _ _ GJ.out hB10
    | 4, hu, hl => cases hu; cases hl; exact rowsF_st _ _ _ _ GK.out hB10
    | 5, hu, hl => cases hu; cases hl; exact rowsF_st _ _ _ _ GL.out hB10
    | 6, hu, hl => cases hu; cases hl; exact rowsF_st _ _ _ _ GP.out hB10
    | 7, hu, hl => cases hu; cases hl; exact rowsF_st _ _ _ _ GR.out hB10
    | 8, hu, hl => cases hu; cases hl; exact rowsF_st _ _ _ _ GS.out hB10
    | 9, hu, hl => cases hu; cases hl; exact rowsF_st _ _ _ _ GT.out hB10
    | n + 10, hu, _ => cases hu
  have hB11 := Lib.hid (HB9.out.trans (hB10.mono HB9.out.size))
  have hmany := Lib.hid (rows_many Hok.out)
  refine (concat_any _ [.slice (some ⟨w2.heap.size, 0, none⟩) 1 1, .slice aG s.msgs.length cG, .slice aI s.insts.length cI, .slice aJ s.jobs.length cJ, .slice aK s.kept.length cK, .slice aL s.listed.length cL, .slice aP s.procs.length cP, .slice aR s.timers.length cR, .slice aS s.subs.length cS, .slice aT s.tokens.length cT] (lists s) _ (FlatAt.slr (FlatAt.made (n := 10) w9 [.slice (some ⟨w2.heap.size, 0, none⟩) 1 1, .slice aG s.msgs.length cG, .slice aI s.insts.length cI, .slice aJ s.jobs.length cJ, .slice aK s.kept.length cK, .slice aL s.listed.length cL, .slice aP s.procs.length cP, .slice aR s.timers.length cR, .slice aS s.subs.length cS, .slice aT s.tokens.length cT] _ rfl (by unfold maxLen; omega))) hL hmany.out (by simp [lists])).mono ?_
  rintro e w11 ⟨u, rfl, hf, hb⟩
  have hfin : Hid (rowsF (rows s) u w11) := by
    show FlatAt 2 w11 u (rows s).length (rowsC (rows s))
    have hlen : totL (lists s) (lists s).length = (rows s).length := by unfold totL rows; rw [List.take_length]
    rw [← hlen]
    exact hf
  have hB12 := Lib.hid (hB11.out.trans (hb.mono hB11.out.size))
  obtain ⟨au, cu, rfl, -⟩ := hf
  clear hb hB10 hL
  go_wp2
  go_ret
  exact ⟨_, rfl, hfin.out, hB12.out⟩
end Go.Proofs.YthikijlbclckdaaGreat
