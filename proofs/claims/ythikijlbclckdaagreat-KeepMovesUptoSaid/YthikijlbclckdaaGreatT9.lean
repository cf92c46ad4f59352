/- Keep: contracts (Kk Kl Km). -/
import Derived.Test.YthikijlbclckdaaGreatT8
import Derived.Lib.AppendZeros
namespace Go.Proofs.YthikijlbclckdaaGreat
set_option maxRecDepth 100000
set_option maxHeartbeats 40000000
set_option linter.unusedSimpArgs false
set_option linter.unusedVariables false
open Go.RowKit
theorem grow_any (n : Nat) (hn : n ≤ 4194304) (w : World) : Calls Tryz.prog 112 #[.slice none 0 0, .int .i64 n] w fun e w' => ∃ u, e = .returned u ∧ w'.ownsRow w.heap.size 69 2 u 0 [] ∧ Below w.heap.size w w' := by
 obtain ⟨i0, hi, hz0, hz1, hz2⟩ := info_parts info_row
 by_cases h0 : n = 0
 ·
  subst h0
  go_enter Tryz.func112, Tryz.ntmps112
  go_wp2
  go_ret
  exact ⟨_, rfl, ⟨rfl, .inl ⟨rfl, rfl⟩⟩, Below.refl _ _⟩
 ·
  have hpos : 0 < n := by omega
  have hrun := Lib.run_append_nil_zeros (P := Tryz.prog) w 66 3 66 69 i0 _ .i64 .i64 Tryz.underlying66 Tryz.underlying3 hi hz0 n hpos (by rw [hz1]; decide) (by omega) (by rw [hz2]; omega)
  go_enter Tryz.func112, Tryz.ntmps112
  have Hrun := hid hrun
  clear hrun
  go_wp2_with (at_builtin; refine app_run rfl rfl rfl rfl Hrun.out ?_)
  have hge := grownCap_ge w n 0 69
  have hle := grownCap_le_maxLen w n 0 69 (by unfold maxLen; omega)
  go_wp2
  go_ret
  refine ⟨_, rfl, ⟨rfl, .inr ⟨w.heap.size, _, _, rfl, Nat.le_refl _, heap_alloc_new w.drew _, Nat.zero_le _, hle, ?_, rfl⟩⟩, ?_⟩
  ·
   rw [Array.size_append, size_zeroCells, size_zeroCells]
   show n * 2 + (grownCap w n 0 69 - n) * 2 = grownCap w n 0 69 * 2
   omega
  ·
   exact ((Below.refl _ w).drew).alloc (Nat.le_refl _) _
def ListsAt (w : World) (vs : List Value) (ls : List (List RowV)) : Prop := vs.length = ls.length ∧ ∀ (i : Nat) (u : Value) (l : List RowV), vs[i]? = some u → ls[i]? = some l → FlatAt 2 w u l.length (rowsC l)
theorem flatten_snoc {α : Type} (ls : List (List α)) (i : Nat) (l : List α) (h : ls[i]? = some l) : (ls.take (i + 1)).flatten = (ls.take i).flatten ++ l := by
 rw [List.take_add_one, h]; simp
theorem flatten_le {α : Type} (ls : List (List α)) (i : Nat) : (ls.take i).flatten.length ≤ ls.flatten.length := by
 induction ls generalizing i with
 | nil => simp
 | cons l ls ih =>
  cases i with
  | zero => simp
  | succ i => have := ih i; simp only [List.take_succ_cons, List.flatten_cons, List.length_append]; omega
def totL (ls : List (List RowV)) (i : Nat) : Nat := (ls.take i).flatten.length
theorem totL_succ (ls : List (List RowV)) (i : Nat) (l : List RowV) (h : ls[i]? = some l) : totL ls (i + 1) = totL ls i + l.length := by unfold totL; rw [flatten_snoc ls i l h, List.length_append]
theorem totL_le (ls : List (List RowV)) (i : Nat) : totL ls i ≤ totL ls ls.length := by
 have := flatten_le ls i
 unfold totL
 rwa [List.take_length]
theorem concat_any (v : Value) (vs : List Value) (ls : List (List RowV)) (w : World) (hv : SlR w v vs) (h : ListsAt w vs ls) (hl : totL ls ls.length ≤ 4194304) (hn : ls.length ≤ 1000) :
  Calls Tryz.prog 49 #[v] w fun e w' => ∃ u, e = .returned u ∧ FlatAt 2 w' u (totL ls ls.length) (rowsC ls.flatten) ∧ Below w.heap.size w w' := by
 have HV := hid hv
 have H := hid h
 obtain ⟨a, cap, hv, h1, h2, -⟩ := hv
 have hlen := h.1
 rw [hlen] at h2 hv h1
 subst hv
 clear h
 unfold maxLen at h1
 go_enter Tryz.func49, Tryz.ntmps49
 go_wp2
 go_loop [3, 5, 11] (fun vz _ vi => ∃ i : Nat, i ≤ ls.length ∧ vi = .int .i64 i ∧ vz = .int .i64 (totL ls i : Nat)) (fun _ _ vi => ls.length - (intOf vi).toNat)
 case atStart => exact ⟨0, Nat.zero_le _, rfl, rfl⟩
 case round =>
  obtain ⟨i, hi, rfl, rfl⟩ := hrel
  by_cases hlt : i < ls.length
  ·
   obtain ⟨l, hl2⟩ : ∃ l, ls[i]? = some l := ⟨_, List.getElem?_eq_getElem hlt⟩
   obtain ⟨u, hu⟩ : ∃ u, vs[i]? = some u := ⟨_, List.getElem?_eq_getElem (by omega)⟩
   obtain ⟨a', cap', he, -, -, hc⟩ := HV.out
   rw [hlen] at he
   cases he
   obtain ⟨b, off, rfl, c0⟩ := hc i u hu
   have hF := H.out.2 i u l hu hl2
   obtain ⟨a2, cap2, rfl, hc2, -, -, -⟩ := hF
   have hsl := totL_succ ls i l hl2
   have hle := totL_le ls (i + 1)
   have hb : totL ls i + l.length ≤ 4194304 := by omega
   have hsl' := hid hsl
   clear hsl hc hu hl2 hle
   generalize l.length = m at hsl' hb hc2 c0 ⊢
   go_wp2
   exact ⟨⟨i + 1, by omega, by go_num, by rw [hsl'.out]; go_num⟩, by simp [intOf]; omega⟩
  ·
   have hin : i = ls.length := by omega
   subst hin
   have hN : Hid (totL ls ls.length = totL ls ls.length) := rfl
   go_wp2_with fail
   refine (grow_any (totL ls ls.length) hl _).mono ?_
   rintro e w1 ⟨u, rfl, hown, hb⟩
   obtain ⟨ao, co, rfl⟩ := own_slice hown
   have B1 := hid hb
   have HO := hid hown
   have hz1 := hb.size
   clear hown hb
   go_wp2
   go_loopw [6, 8, 27] (fun vo _ vi wr => ∃ i : Nat, i ≤ ls.length ∧ vi = .int .i64 i ∧ w.heap.size ≤ wr.heap.size ∧ Hid (wr.ownsRow w.heap.size 69 2 vo (totL ls i) (rowsC (ls.take i).flatten) ∧ Below w.heap.size w wr)) (fun _ _ vi _ => ls.length - (intOf vi).toNat)
   case atStart => exact ⟨0, Nat.zero_le _, rfl, hz1, HO.out, B1.out⟩
   case round =>
    obtain ⟨i, hi2, rfl, hws, hR⟩ := hrel
    by_cases hlt2 : i < ls.length
    ·
     obtain ⟨l, hl2⟩ : ∃ l, ls[i]? = some l := ⟨_, List.getElem?_eq_getElem hlt2⟩
     obtain ⟨u, hu⟩ : ∃ u, vs[i]? = some u := ⟨_, List.getElem?_eq_getElem (by omega)⟩
     obtain ⟨a', cap', he, -, -, hc⟩ := HV.out.below hR.out.2
     rw [hlen] at he
     cases he
     obtain ⟨b, off, rfl, c0⟩ := hc i u hu
     have hF := (H.out.2 i u l hu hl2).grow hR.out.2
     have hsl := totL_succ ls i l hl2
     have hle := totL_le ls (i + 1)
     have hb : totL ls i + l.length ≤ 4194304 := by omega
     have hsl' := hid hsl
     have hfs := hid (flatten_snoc ls i l hl2)
     have hF' := hid hF
     obtain ⟨a2, cap2, rfl, hc2, -, -, -⟩ := hF
     have hone := rowsC_one l
     have Hone := hid hone
     clear hsl hc hu hl2 hle hone
     obtain ⟨ao3, co3, rfl⟩ := own_slice hR.out.1
     go_wp2_with (at_builtin; refine app_flat 66 69 Tryz.underlying66 info_row rfl (by decide) hR.out.1 hws hF'.out (by unfold maxLen; omega) (by omega) Hone.out rfl rfl rfl rfl ?_; intro v' w2 hown2 hb2)
     have hown3 : Hid (w2.ownsRow w.heap.size 69 2 v' (totL ls (i + 1)) (rowsC (ls.take (i + 1)).flatten)) := by show w2.ownsRow _ _ _ _ _ _; rw [hsl'.out, hfs.out, rowsC_add]; exact hown2
     have hbel3 := hid (hR.out.2.trans hb2)
     have hz2 : w.heap.size ≤ w2.heap.size := hbel3.out.size
     clear hown2 hb2
     go_wp2
     go_roundw
     case rel => exact ⟨i + 1, by omega, by go_num, hz2, hown3.out, hbel3.out⟩
     case measure => simp [intOf]; omega
    ·
     have hin2 : i = ls.length := by omega
     subst hin2
     have hfin : Hid (∀ v, wr.ownsRow w.heap.size 69 2 v (totL ls ls.length) (rowsC (ls.take ls.length).flatten) → FlatAt 2 wr v (totL ls ls.length) (rowsC ls.flatten)) := by
      intro v hv
      have := FlatAt.of_own hv
      rwa [List.take_length] at this
     go_wp2
     go_ret
     exact ⟨_, rfl, hfin.out _ hR.out.1, hR.out.2⟩
end Go.Proofs.YthikijlbclckdaaGreat
namespace Go.Proofs.YthikijlbclckdaaGreat
set_option maxRecDepth 100000
set_option maxHeartbeats 40000000
set_option linter.unusedSimpArgs false
set_option linter.unusedVariables false
open Go.IntWalk Go.RowKit
def rowA (s : StateV) : RowV := (c1 97, uvS s.pos ++ uvS s.done ++ uvS s.made)
def lists (s : StateV) : List (List RowV) := [[rowA s], s.msgs.map rowG, s.insts.map rowI, s.jobs.map rowJ, s.kept.map rowK, s.listed.map rowL, s.procs.map rowP, s.timers.map rowR, s.subs.map rowS, s.tokens.map rowT]
def rows (s : StateV) : List RowV := (lists s).flatten
def rowsF (l : List RowV) : Value → World → Prop := fun u w => FlatAt 2 w u l.length (rowsC l)
theorem rowsF_st (l : List RowV) (u : Value) (w w' : World) (h : rowsF l u w) (hb : Below w.heap.size w w') : rowsF l u w' := FlatAt.grow h hb
theorem rows_many {s : StateV} (h : StateOk s) : totL (lists s) 10 ≤ 4194304 := by
 have := h.many
 simp [totL, lists]
 omega
theorem of_map {α : Type} {f : α → RowV} {l : List α} {u : Value} {w : World} (h : FlatAt 2 w u l.length (rowsC (l.map f))) : rowsF (l.map f) u w := by
 show FlatAt 2 w u (l.map f).length _
 rw [List.length_map]; exact h
theorem rows_any (s : StateV) (hok : StateOk s) (cs : List Value) (vp vi vt vj vr vs vk vl vm : Value) (w : World) (h : StateAt w cs s vp vi vt vj vr vs vk vl vm) :
  Calls Tryz.prog 26 #[.agg cs.toArray] w fun e w' => ∃ u, e = .returned u ∧ rowsF (rows s) u w' ∧ Below w.heap.size w w' := by
 have H := hid h
 have Hok := hid hok
 obtain ⟨rfl, hp, hi, ht, hj, hr, hs, hk, hl, hm⟩ := h
 obtain ⟨ap, cp, rfl, -⟩ := hp
 obtain ⟨ai, ci, rfl, -⟩ := hi
 obtain ⟨at_, ct, rfl, -⟩ := ht
 obtain ⟨aj, cj, rfl, -⟩ := hj
 obtain ⟨ar, cr, rfl, -⟩ := hr
 obtain ⟨as_, cs_, rfl, -⟩ := hs
 obtain ⟨ak, ck, rfl, -⟩ := hk
 obtain ⟨al, cl, rfl, -⟩ := hl
 obtain ⟨am, cm, rfl, -⟩ := hm
 have Hmany := hid hok.many
 clear hok
 have hE : Hid (catS uvS [s.pos, s.done, s.made] = (rowA s).2) := cat_three uvS _ _ _
 go_enter Tryz.func26, Tryz.ntmps26
 go_wp2_with fail
 have hB1 := hid ((Below.refl _ w).alloc (Nat.le_refl _) (.cells #[U s.pos, U s.done, U s.made, .slice ap s.procs.length cp, .slice ai s.insts.length ci, .slice at_ s.tokens.length ct, .slice aj s.jobs.length cj, .slice ar s.timers.length cr, .slice as_ s.subs.length cs_, .slice ak s.kept.length ck, .slice al s.listed.length cl, .slice am s.msgs.length cm] 33))
 have hst := hid (alloc_new w (.cells #[U s.pos, U s.done, U s.made, .slice ap s.procs.length cp, .slice ai s.insts.length ci, .slice at_ s.tokens.length ct, .slice aj s.jobs.length cj, .slice ar s.timers.length cr, .slice as_ s.subs.length cs_, .slice ak s.kept.length ck, .slice al s.listed.length cl, .slice am s.msgs.length cm] 33))
 have hsz1 : (w.alloc (.cells #[U s.pos, U s.done, U s.made, .slice ap s.procs.length cp, .slice ai s.insts.length ci, .slice at_ s.tokens.length ct, .slice aj s.jobs.length cj, .slice ar s.timers.length cr, .slice as_ s.subs.length cs_, .slice ak s.kept.length ck, .slice al s.listed.length cl, .slice am s.msgs.length cm] 33)).heap.size = w.heap.size + 1 := by simp
 rw [← hsz1]
 generalize w.alloc (.cells #[U s.pos, U s.done, U s.made, .slice ap s.procs.length cp, .slice ai s.insts.length ci, .slice at_ s.tokens.length ct, .slice aj s.jobs.length cj, .slice ar s.timers.length cr, .slice as_ s.subs.length cs_, .slice ak s.kept.length ck, .slice al s.listed.length cl, .slice am s.msgs.length cm] 33) = w1 at hB1 hst hsz1 ⊢
 refine (u_any _ [s.pos, s.done, s.made] _ (FlatAt.slr (FlatAt.made (n := 3) w1 [U s.pos, U s.done, U s.made] _ rfl (by unfold maxLen; omega))) (by simp) (by intro x hx; simp at hx; have h1 := Hok.out.pos; have h2 := Hok.out.done; have h3 := Hok.out.made; rcases hx with rfl | rfl | rfl <;> assumption)).mono ?_
 rintro e w2 ⟨rfl, b2⟩
 rw [hE.out]
 have hB2 := hid (((Below.refl _ w1).alloc (Nat.le_refl _) (.cells #[U s.pos, U s.done, U s.made] 22)).trans (b2.mono (by simp)))
 have hz2 := b2.size
 simp only [World.size_alloc] at hz2
 clear b2
 go_wp2_with fail
 have hB3 := hid (hB2.out.trans ((Below.refl _ w2).alloc hB2.out.size (.cells #[.string ⟨#[97]⟩, .string (rowA s).2] 69)))
 have hout := hid (FlatAt.made (size := 2) (n := 1) w2 (rowsC [rowA s]) 69 rfl (by unfold maxLen; omega))
 have hsz3 : (w2.alloc (.cells #[.string ⟨#[97]⟩, .string (rowA s).2] 69)).heap.size = w2.heap.size + 1 := by simp
 change Hid (FlatAt 2 (w2.alloc (.cells #[.string ⟨#[97]⟩, .string (rowA s).2] 69)) _ _ _) at hout
 generalize w2.alloc (.cells #[.string ⟨#[97]⟩, .string (rowA s).2] 69) = w3 at hB3 hout hsz3 ⊢
 have hst3 := (hB3.out.block w.heap.size (by omega)).trans hst.out
 have HB := hid (hB1.out.trans (hB3.out.mono hB1.out.size))
 have HS := hid (H.out.grow HB.out)
 have k3 := cell_of hst3 3
 have k4 := cell_of hst3 4
 have k5 := cell_of hst3 5
 have k6 := cell_of hst3 6
 have k7 := cell_of hst3 7
 have k8 := cell_of hst3 8
 have k9 := cell_of hst3 9
 have k10 := cell_of hst3 10
 have k11 := cell_of hst3 11
 clear hst3 hst
 have hlt : w.heap.size < w3.heap.size := by omega
 have Hsz := hid (And.intro hsz1 hsz3)
 clear hsz1 hsz3
 refine wp_par (fun _ => False) (fun _ => True) (List.replicate 28 false) _ [.fix ?_, .fix ?_, .fix ?_, .new (rowsF (s.msgs.map rowG)), .fix ?_, .fix ?_, .new (rowsF (s.insts.map rowI)), .fix ?_, .fix ?_, .new (rowsF (s.jobs.map rowJ)), .fix ?_, .fix ?_, .new (rowsF (s.kept.map rowK)), .fix ?_, .fix ?_, .new (rowsF (s.listed.map rowL)), .fix ?_, .fix ?_, .new (rowsF (s.procs.map rowP)), .fix ?_, .fix ?_, .new (rowsF (s.timers.map rowR)), .fix ?_, .fix ?_, .new (rowsF (s.subs.map rowS)), .fix ?_, .fix ?_, .new (rowsF (s.tokens.map rowT))] (by kernel_rfl) (by kernel_rfl) (by simp only [List.length_replicate, List.drop_succ_cons, List.drop_zero, List.drop_nil]; with_reducible rfl) rfl (fun _ _ _ _ _ => ⟨fun h => h, fun h => h⟩) (fun _ _ h _ => h) trivial ?_
 rotate_left 19
 iterate 3
  first
   | (refine par_skip (a' := ?_) (by rfl) (by rfl) ?_ ?_ ?_; rotate_left 1; with_reducible rfl; (simp only [lays]; with_reducible rfl))
   | (refine par_run (a' := ?_) (by rfl) (by rfl) (fun w' hb hn => ?_) ?_ ?_; rotate_left 1; (have hc := hb.cells; go_simp; (try simp (disch := omega) only [nrm, toNatUp, iteOmega]); first | with_reducible rfl | (go_simp; with_reducible rfl)); (simp only [lays]; with_reducible rfl))
 refine par_callF (a' := ?a78k3) (f := ?f78k3) (args := ?r78k3) (by rfl) (by rfl) (fun w' => ?e78k3) (rowsF_st _) (fun w' hb hn => ?h78k3) (fun u => ?p78k3) (fun u => ?g78k3)
 case e78k3 => (go_simp; constructor <;> with_reducible rfl)
 case h78k3 => (exact (of1_any _ s.msgs w' Hok.out.msgs (by have := Hmany.out; omega) (HS.out.msgs.grow MsgV.st hb.grow)).mono (fun e w2 h => by obtain ⟨u, he, hf, hb⟩ := h; exact ⟨u, he, of_map hf, hb⟩))
 case p78k3 => (simp only [lays]; with_reducible rfl)
 iterate 2
  first
   | (refine par_skip (a' := ?_) (by rfl) (by rfl) ?_ ?_ ?_; rotate_left 1; with_reducible rfl; (simp only [lays]; with_reducible rfl))
   | (refine par_run (a' := ?_) (by rfl) (by rfl) (fun w' hb hn => ?_) ?_ ?_; rotate_left 1; (have hc := hb.cells; go_simp; (try simp (disch := omega) only [nrm, toNatUp, iteOmega]); first | with_reducible rfl | (go_simp; with_reducible rfl)); (simp only [lays]; with_reducible rfl))
 refine par_callF (a' := ?a86k6) (f := ?f86k6) (args := ?r86k6) (by rfl) (by rfl) (fun w' => ?e86k6) (rowsF_st _) (fun w' hb hn => ?h86k6) (fun u => ?p86k6) (fun u => ?g86k6)
 case e86k6 => (go_simp; constructor <;> with_reducible rfl)
 case h86k6 => (exact (of2_any _ s.insts w' Hok.out.insts (by have := Hmany.out; omega) (HS.out.insts.grow InstV.st hb.grow)).mono (fun e w2 h => by obtain ⟨u, he, hf, hb⟩ := h; exact ⟨u, he, of_map hf, hb⟩))
 case p86k6 => (simp only [lays]; with_reducible rfl)
 iterate 2
  first
   | (refine par_skip (a' := ?_) (by rfl) (by rfl) ?_ ?_ ?_; rotate_left 1; with_reducible rfl; (simp only [lays]; with_reducible rfl))
   | (refine par_run (a' := ?_) (by rfl) (by rfl) (fun w' hb hn => ?_) ?_ ?_; rotate_left 1; (have hc := hb.cells; go_simp; (try simp (disch := omega) only [nrm, toNatUp, iteOmega]); first | with_reducible rfl | (go_simp; with_reducible rfl)); (simp only [lays]; with_reducible rfl))
 refine par_callF (a' := ?a94k9) (f := ?f94k9) (args := ?r94k9) (by rfl) (by rfl) (fun w' => ?e94k9) (rowsF_st _) (fun w' hb hn => ?h94k9) (fun u => ?p94k9) (fun u => ?g94k9)
 case e94k9 => (go_simp; constructor <;> with_reducible rfl)
 case h94k9 => (exact (of3_any _ s.jobs w' Hok.out.jobs (by have := Hmany.out; omega) (HS.out.jobs.grow JobV.st hb.grow)).mono (fun e w2 h => by obtain ⟨u, he, hf, hb⟩ := h; exact ⟨u, he, of_map hf, hb⟩))
 case p94k9 => (simp only [lays]; with_reducible rfl)
 iterate 2
  first
   | (refine par_skip (a' := ?_) (by rfl) (by rfl) ?_ ?_ ?_; rotate_left 1; with_reducible rfl; (simp only [lays]; with_reducible rfl))
   | (refine par_run (a' := ?_) (by rfl) (by rfl) (fun w' hb hn => ?_) ?_ ?_; rotate_left 1; (have hc := hb.cells; go_simp; (try simp (disch := omega) only [nrm, toNatUp, iteOmega]); first | with_reducible rfl | (go_simp; with_reducible rfl)); (simp only [lays]; with_reducible rfl))
 refine par_callF (a' := ?a102k12) (f := ?f102k12) (args := ?r102k12) (by rfl) (by rfl) (fun w' => ?e102k12) (rowsF_st _) (fun w' hb hn => ?h102k12) (fun u => ?p102k12) (fun u => ?g102k12)
 case e102k12 => (go_simp; constructor <;> with_reducible rfl)
 case h102k12 => (exact (of4_any _ s.kept w' Hok.out.kept (by have := Hmany.out; omega) (HS.out.kept.grow KeptV.st hb.grow)).mono (fun e w2 h => by obtain ⟨u, he, hf, hb⟩ := h; exact ⟨u, he, of_map hf, hb⟩))
 case p102k12 => (simp only [lays]; with_reducible rfl)
 iterate 2
  first
   | (refine par_skip (a' := ?_) (by rfl) (by rfl) ?_ ?_ ?_; rotate_left 1; with_reducible rfl; (simp only [lays]; with_reducible rfl))
   | (refine par_run (a' := ?_) (by rfl) (by rfl) (fun w' hb hn => ?_) ?_ ?_; rotate_left 1; (have hc := hb.cells; go_simp; (try simp (disch := omega) only [nrm, toNatUp, iteOmega]); first | with_reducible rfl | (go_simp; with_reducible rfl)); (simp only [lays]; with_reducible rfl))
 refine par_callF (a' := ?a110k15) (f := ?f110k15) (args := ?r110k15) (by rfl) (by rfl) (fun w' => ?e110k15) (rowsF_st _) (fun w' hb hn => ?h110k15) (fun u => ?p110k15) (fun u => ?g110k15)
 case e110k15 => (go_simp; constructor <;> with_reducible rfl)
 case h110k15 => (exact (of5_any _ s.listed w' Hok.out.listed (by have := Hmany.out; omega) (HS.out.listed.grow LisV.st hb.grow)).mono (fun e w2 h => by obtain ⟨u, he, hf, hb⟩ := h; exact ⟨u, he, of_map hf, hb⟩))
 case p110k15 => (simp only [lays]; with_reducible rfl)
 iterate 2
  first
   | (refine par_skip (a' := ?_) (by rfl) (by rfl) ?_ ?_ ?_; rotate_left 1; with_reducible rfl; (simp only [lays]; with_reducible rfl))
   | (refine par_run (a' := ?_) (by rfl) (by rfl) (fun w' hb hn => ?_) ?_ ?_; rotate_left 1; (have hc := hb.cells; go_simp; (try simp (disch := omega) only [nrm, toNatUp, iteOmega]); first | with_reducible rfl | (go_simp; with_reducible rfl)); (simp only [lays]; with_reducible rfl))
 refine par_callF (a' := ?a118k18) (f := ?f118k18) (args := ?r118k18) (by rfl) (by rfl) (fun w' => ?e118k18) (rowsF_st _) (fun w' hb hn => ?h118k18) (fun u => ?p118k18) (fun u => ?g118k18)
 case e118k18 => (go_simp; constructor <;> with_reducible rfl)
 case h118k18 => (exact (of6_any _ s.procs w' Hok.out.procs (by have := Hmany.out; omega) (HS.out.procs.grow DepV.st hb.grow)).mono (fun e w2 h => by obtain ⟨u, he, hf, hb⟩ := h; exact ⟨u, he, of_map hf, hb⟩))
 case p118k18 => (simp only [lays]; with_reducible rfl)
 iterate 2
  first
   | (refine par_skip (a' := ?_) (by rfl) (by rfl) ?_ ?_ ?_; rotate_left 1; with_reducible rfl; (simp only [lays]; with_reducible rfl))
   | (refine par_run (a' := ?_) (by rfl) (by rfl) (fun w' hb hn => ?_) ?_ ?_; rotate_left 1; (have hc := hb.cells; go_simp; (try simp (disch := omega) only [nrm, toNatUp, iteOmega]); first | with_reducible rfl | (go_simp; with_reducible rfl)); (simp only [lays]; with_reducible rfl))
 refine par_callF (a' := ?a126k21) (f := ?f126k21) (args := ?r126k21) (by rfl) (by rfl) (fun w' => ?e126k21) (rowsF_st _) (fun w' hb hn => ?h126k21) (fun u => ?p126k21) (fun u => ?g126k21)
 case e126k21 => (go_simp; constructor <;> with_reducible rfl)
 case h126k21 => (exact (of7_any _ s.timers w' Hok.out.timers (by have := Hmany.out; omega) (HS.out.timers.grow TimV.st hb.grow)).mono (fun e w2 h => by obtain ⟨u, he, hf, hb⟩ := h; exact ⟨u, he, of_map hf, hb⟩))
 case p126k21 => (simp only [lays]; with_reducible rfl)
 iterate 2
  first
   | (refine par_skip (a' := ?_) (by rfl) (by rfl) ?_ ?_ ?_; rotate_left 1; with_reducible rfl; (simp only [lays]; with_reducible rfl))
   | (refine par_run (a' := ?_) (by rfl) (by rfl) (fun w' hb hn => ?_) ?_ ?_; rotate_left 1; (have hc := hb.cells; go_simp; (try simp (disch := omega) only [nrm, toNatUp, iteOmega]); first | with_reducible rfl | (go_simp; with_reducible rfl)); (simp only [lays]; with_reducible rfl))
 refine par_callF (a' := ?a134k24) (f := ?f134k24) (args := ?r134k24) (by rfl) (by rfl) (fun w' => ?e134k24) (rowsF_st _) (fun w' hb hn => ?h134k24) (fun u => ?p134k24) (fun u => ?g134k24)
 case e134k24 => (go_simp; constructor <;> with_reducible rfl)
 case h134k24 => (exact (of8_any _ s.subs w' Hok.out.subs (by have := Hmany.out; omega) (HS.out.subs.grow SubV.st hb.grow)).mono (fun e w2 h => by obtain ⟨u, he, hf, hb⟩ := h; exact ⟨u, he, of_map hf, hb⟩))
 case p134k24 => (simp only [lays]; with_reducible rfl)
 iterate 2
  first
   | (refine par_skip (a' := ?_) (by rfl) (by rfl) ?_ ?_ ?_; rotate_left 1; with_reducible rfl; (simp only [lays]; with_reducible rfl))
   | (refine par_run (a' := ?_) (by rfl) (by rfl) (fun w' hb hn => ?_) ?_ ?_; rotate_left 1; (have hc := hb.cells; go_simp; (try simp (disch := omega) only [nrm, toNatUp, iteOmega]); first | with_reducible rfl | (go_simp; with_reducible rfl)); (simp only [lays]; with_reducible rfl))
 refine par_callF (a' := ?a142k27) (f := ?f142k27) (args := ?r142k27) (by rfl) (by rfl) (fun w' => ?e142k27) (rowsF_st _) (fun w' hb hn => ?h142k27) (fun u => ?p142k27) (fun u => ?g142k27)
 case e142k27 => (go_simp; constructor <;> with_reducible rfl)
 case h142k27 => (exact (of9_any _ s.tokens w' Hok.out.tokens (by have := Hmany.out; omega) (HS.out.tokens.grow TokV.st hb.grow)).mono (fun e w2 h => by obtain ⟨u, he, hf, hb⟩ := h; exact ⟨u, he, of_map hf, hb⟩))
 case p142k27 => (simp only [lays]; with_reducible rfl)
 refine par_end (fun w9 hb9 hf9 _ => ?_)
 replace hb9 := hb9.grow
 try refine wpList_none ?_
 have HB9 := hid (HB.out.trans (hb9.mono HB.out.size))
 have hout9 := hid (hout.out.grow hb9)
 simp only [List.forall_mem_cons] at hf9
 obtain ⟨gT, gS, gR, gP, gL, gK, gJ, gI, gG, -⟩ := hf9
 have GT := hid gT
 have GS := hid gS
 have GR := hid gR
 have GP := hid gP
 have GL := hid gL
 have GK := hid gK
 have GJ := hid gJ
 have GI := hid gI
 have GG := hid gG
 obtain ⟨aT, cT, rfl, -⟩ := gT
 obtain ⟨aS, cS, rfl, -⟩ := gS
 obtain ⟨aR, cR, rfl, -⟩ := gR
 obtain ⟨aP, cP, rfl, -⟩ := gP
 obtain ⟨aL, cL, rfl, -⟩ := gL
 obtain ⟨aK, cK, rfl, -⟩ := gK
 obtain ⟨aJ, cJ, rfl, -⟩ := gJ
 obtain ⟨aI, cI, rfl, -⟩ := gI
 obtain ⟨aG, cG, rfl, -⟩ := gG
 clear hb9 k3 k4 k5 k6 k7 k8 k9 k10 k11
 simp only [List.length_map] at *
 go_wp2_with fail
 have hB10 := (Below.refl _ w9).alloc (Nat.le_refl _) (.cells #[.slice (some ⟨w2.heap.size, 0, none⟩) 1 1, .slice aG s.msgs.length cG, .slice aI s.insts.length cI, .slice aJ s.jobs.length cJ, .slice aK s.kept.length cK, .slice aL s.listed.length cL, .slice aP s.procs.length cP, .slice aR s.timers.length cR, .slice aS s.subs.length cS, .slice aT s.tokens.length cT] 66)
 have hL : ListsAt (w9.alloc (.cells #[.slice (some ⟨w2.heap.size, 0, none⟩) 1 1, .slice aG s.msgs.length cG, .slice aI s.insts.length cI, .slice aJ s.jobs.length cJ, .slice aK s.kept.length cK, .slice aL s.listed.length cL, .slice aP s.procs.length cP, .slice aR s.timers.length cR, .slice aS s.subs.length cS, .slice aT s.tokens.length cT] 66)) [.slice (some ⟨w2.heap.size, 0, none⟩) 1 1, .slice aG s.msgs.length cG, .slice aI s.insts.length cI, .slice aJ s.jobs.length cJ, .slice aK s.kept.length cK, .slice aL s.listed.length cL, .slice aP s.procs.length cP, .slice aR s.timers.length cR, .slice aS s.subs.length cS, .slice aT s.tokens.length cT] (lists s) := by
  refine ⟨rfl, fun i u l hu hl => ?_⟩
  match i, hu, hl with
  | 0, hu, hl => cases hu; cases hl; exact hout9.out.grow hB10
  | 1, hu, hl => cases hu; cases hl; exact rowsF_st _ _ _ _ GG.out hB10
  | 2, hu, hl => cases hu; cases hl; exact rowsF_st _ _ _ _ GI.out hB10
  | 3, hu, hl => cases hu; cases hl; exact rowsF_st _ _ _ _ GJ.out hB10
  | 4, hu, hl => cases hu; cases hl; exact rowsF_st _ _ _ _ GK.out hB10
  | 5, hu, hl => cases hu; cases hl; exact rowsF_st _ _ _ _ GL.out hB10
  | 6, hu, hl => cases hu; cases hl; exact rowsF_st _ _ _ _ GP.out hB10
  | 7, hu, hl => cases hu; cases hl; exact rowsF_st _ _ _ _ GR.out hB10
  | 8, hu, hl => cases hu; cases hl; exact rowsF_st _ _ _ _ GS.out hB10
  | 9, hu, hl => cases hu; cases hl; exact rowsF_st _ _ _ _ GT.out hB10
  | n + 10, hu, _ => cases hu
 have hB11 := hid (HB9.out.trans (hB10.mono HB9.out.size))
 have hmany := hid (rows_many Hok.out)
 refine (concat_any _ [.slice (some ⟨w2.heap.size, 0, none⟩) 1 1, .slice aG s.msgs.length cG, .slice aI s.insts.length cI, .slice aJ s.jobs.length cJ, .slice aK s.kept.length cK, .slice aL s.listed.length cL, .slice aP s.procs.length cP, .slice aR s.timers.length cR, .slice aS s.subs.length cS, .slice aT s.tokens.length cT] (lists s) _ (FlatAt.slr (FlatAt.made (n := 10) w9 [.slice (some ⟨w2.heap.size, 0, none⟩) 1 1, .slice aG s.msgs.length cG, .slice aI s.insts.length cI, .slice aJ s.jobs.length cJ, .slice aK s.kept.length cK, .slice aL s.listed.length cL, .slice aP s.procs.length cP, .slice aR s.timers.length cR, .slice aS s.subs.length cS, .slice aT s.tokens.length cT] _ rfl (by unfold maxLen; omega))) hL hmany.out (by simp [lists])).mono ?_
 rintro e w11 ⟨u, rfl, hf, hb⟩
 have hfin : Hid (rowsF (rows s) u w11) := by
  show FlatAt 2 w11 u (rows s).length (rowsC (rows s))
  have hlen : totL (lists s) (lists s).length = (rows s).length := by unfold totL rows; rw [List.take_length]
  rw [← hlen]
  exact hf
 have hB12 := hid (hB11.out.trans (hb.mono hB11.out.size))
 obtain ⟨au, cu, rfl, -⟩ := hf
 clear hb hB10 hL
 go_wp2
 go_ret
 exact ⟨_, rfl, hfin.out, hB12.out⟩
end Go.Proofs.YthikijlbclckdaaGreat
namespace Go.Proofs.YthikijlbclckdaaGreat
set_option maxRecDepth 100000
set_option maxHeartbeats 40000000
set_option linter.unusedSimpArgs false
set_option linter.unusedVariables false
open Go.RowKit
def OkAt (w : World) (ob : Nat) (b : Bool) : Prop := w.heap[ob]? = some (.cells #[.bool b] 4 (0, 0))
theorem OkAt.cell {w : World} {ob : Nat} {b : Bool} (h : OkAt w ob b) : w.cell? ⟨ob, 0, none⟩ = some (.bool b) := cell_of h 0
theorem OkAt.free {w : World} {ob : Nat} {b : Bool} (h : OkAt w ob b) : w.frozen? ⟨ob, 0, none⟩ = false := free_of h 0
theorem OkAt.set {w : World} {ob : Nat} {b : Bool} (h : OkAt w ob b) (c : Bool) : OkAt (w.setCell ⟨ob, 0, none⟩ (.bool c)) ob c := setCell_at h 0 _
theorem OkAt.grow {w w' : World} {ob : Nat} {b : Bool} (h : OkAt w ob b) (hb : Below w.heap.size w w') : OkAt w' ob b := (hb.block ob (heap_lt h)).trans h
theorem OkAt.lt {w : World} {ob : Nat} {b : Bool} (h : OkAt w ob b) : ob < w.heap.size := heap_lt h
abbrev Ob (ob : Nat) : World → World → Prop := But (fun k => k = ob)
theorem But.set1 {w : World} (ob : Nat) (v : Value) : Ob ob w (w.setCell ⟨ob, 0, none⟩ v) := But.setCell (F := fun k => k = ob) (But.refl _ w) (p := ⟨ob, 0, none⟩) (fun _ => rfl) v
def smallB (least n : Int) : Bool := decide (least ≤ n) && decide (n ≤ 30000)
def clockB (n : Int) : Bool := decide (0 ≤ n) && decide (n ≤ 4611686018427387904)
def textB (most : Nat) (s : ByteArray) : Bool := decide (s.size ≤ most)
theorem SlR.butOb {w W : World} {v : Value} {vs : List Value} {ob : Nat} (h : SlR w v vs) (hb : Ob ob w W) (hn : ∀ a n cap, v = .slice (some a) n cap → a.block ≠ ob) : SlR W v vs := h.but hb hn
theorem clock_any (n : Int) (ob : Nat) (b : Bool) (w : World) (h : OkAt w ob b) : Calls Tryz.prog 79 #[.int .i64 n, .pointer (some ⟨ob, 0, none⟩)] w fun e w' => e = .returned (.tuple #[]) ∧ OkAt w' ob (b && clockB n) ∧ Ob ob w w' := by
 have hc := h.cell
 have hf := h.free
 have H := hid h
 clear h
 cases b with
 | false =>
  go_enter Tryz.func79, Tryz.ntmps79
  go_wp2
  go_end0
  exact ⟨rfl, H.out.set false, But.set1 ob _⟩
 | true =>
  by_cases h0 : 0 ≤ n
  ·
   by_cases h1 : n ≤ 4611686018427387904
   ·
    have E : Hid (clockB n = true) := by show _ = _; simp [clockB, h0, h1]
    have q0 : decide (0 ≤ n) = true := decide_eq_true h0
    have q1 : decide (n ≤ 4611686018427387904) = true := decide_eq_true h1
    go_enter Tryz.func79, Tryz.ntmps79
    go_wp2
    go_end0
    rw [E.out]
    exact ⟨rfl, H.out.set true, But.set1 ob _⟩
   ·
    have E : Hid (clockB n = false) := by show _ = _; simp [clockB, h1]
    have q0 : decide (0 ≤ n) = true := decide_eq_true h0
    have q1 : decide (n ≤ 4611686018427387904) = false := decide_eq_false h1
    go_enter Tryz.func79, Tryz.ntmps79
    go_wp2
    go_end0
    rw [E.out]
    exact ⟨rfl, H.out.set false, But.set1 ob _⟩
  ·
   have E : Hid (clockB n = false) := by show _ = _; simp [clockB, h0]
   have q0 : decide (0 ≤ n) = false := decide_eq_false h0
   go_enter Tryz.func79, Tryz.ntmps79
   go_wp2
   go_end0
   rw [E.out]
   exact ⟨rfl, H.out.set false, But.set1 ob _⟩
theorem vars_any (v : Value) (l : List VarV) (ob : Nat) (b : Bool) (w : World) (h : OkAt w ob b) (hv : VarsAt w v l) : Calls Tryz.prog 81 #[v, .pointer (some ⟨ob, 0, none⟩)] w fun e w' => e = .returned (.tuple #[]) ∧ OkAt w' ob (b && rightV l) ∧ Ob ob w w' := by
 have hc := h.cell
 have hf := h.free
 have H := hid h
 have HV := hid hv
 obtain ⟨a, cap, rfl, -⟩ := hv
 clear h
 cases b with
 | false =>
  go_enter Tryz.func81, Tryz.ntmps81
  go_wp2_with fail
  go_wp2
  go_end0
  exact ⟨rfl, H.out.set false, But.set1 ob _⟩
 | true =>
  go_enter Tryz.func81, Tryz.ntmps81
  go_wp2_with fail
  refine (right_any _ l _ HV.out).mono ?_
  rintro e w1 ⟨rfl, b1⟩
  have H1 := hid (H.out.grow b1)
  have hc1 := H1.out.cell
  have hf1 := H1.out.free
  have B1 := hid b1
  clear b1
  go_wp2
  go_end0
  exact ⟨rfl, H1.out.set _, (But.of B1.out).trans (But.set1 ob _)⟩
theorem all_snoc {α : Type} (p : α → Bool) (l : List α) (i : Nat) (x : α) (h : l[i]? = some x) : (l.take (i + 1)).all p = ((l.take i).all p && p x) := by
 rw [List.take_add_one, h]; simp
theorem small_any (least : Int) (v : Value) (l : List Int) (ob : Nat) (b : Bool) (w : World) (h : OkAt w ob b) (hv : SlR w v (l.map (Value.int .i64))) (hl : l.length ≤ 1000) (hn : ∀ a n cap, v = .slice (some a) n cap → a.block ≠ ob) :
  Calls Tryz.prog 78 #[.int .i64 least, v, .pointer (some ⟨ob, 0, none⟩)] w fun e w' => e = .returned (.tuple #[]) ∧ OkAt w' ob (b && l.all (smallB least)) ∧ Ob ob w w' := by
 have HV := hid hv
 have HN := hid hn
 have H := hid h
 obtain ⟨a, cap, hv, -⟩ := hv
 have hlen : (l.map (Value.int .i64)).length = l.length := List.length_map _
 rw [hlen] at hv
 subst hv
 have Hlen := hid hlen
 clear h hn hlen
 go_enter Tryz.func78, Tryz.ntmps78
 go_wp2
 go_loopw [6, 9] (fun _ vi wr => ∃ i : Nat, i ≤ l.length ∧ vi = .int .i64 i ∧ Hid (OkAt wr ob (b && (l.take i).all (smallB least)) ∧ Ob ob w wr)) (fun _ vi _ => l.length - (intOf vi).toNat)
 case atStart => exact ⟨0, Nat.zero_le _, rfl, by simpa using H.out, But.refl _ _⟩
 case round =>
  obtain ⟨i, hi, rfl, hR⟩ := hrel
  by_cases hlt : i < l.length
  ·
   obtain ⟨x, hx⟩ : ∃ x, l[i]? = some x := ⟨_, List.getElem?_eq_getElem hlt⟩
   obtain ⟨a', cap', he, -, -, hcell⟩ := HV.out.butOb hR.out.2 HN.out
   rw [Hlen.out] at he
   cases he
   obtain ⟨bb, off, rfl, c0⟩ := hcell i (.int .i64 x) (by simp [hx])
   have hst := hid (all_snoc (smallB least) l i x hx)
   have hc := hR.out.1.cell
   have hf := hR.out.1.free
   clear hcell hx
   have hfin : ∀ c : Bool, ((b && (l.take i).all (smallB least)) && smallB least x) = c → Hid (OkAt (wr.setCell ⟨ob, 0, none⟩ (.bool c)) ob (b && (l.take (i + 1)).all (smallB least)) ∧ Ob ob w (wr.setCell ⟨ob, 0, none⟩ (.bool c))) := by
    intro c hcc
    refine ⟨?_, hR.out.2.trans (But.set1 ob _)⟩
    rw [hst.out, ← Bool.and_assoc, hcc]
    exact hR.out.1.set c
   have Hfin := hid hfin
   clear hfin
   generalize (b && (l.take i).all (smallB least)) = ok at hc Hfin
   cases ok with
   | false =>
    have HF := Hfin.out false rfl
    clear Hfin
    go_wp2
    go_roundw
    case rel => exact ⟨i + 1, by omega, by go_num, HF.out⟩
    case measure => simp [intOf]; omega
   | true =>
    by_cases h0 : least ≤ x
    ·
     by_cases h1 : x ≤ 30000
     ·
      have q0 : decide (least ≤ x) = true := decide_eq_true h0
      have q1 : decide (x ≤ 30000) = true := decide_eq_true h1
      have HF := Hfin.out true (by simp [smallB, h0, h1])
      clear Hfin
      go_wp2
      go_roundw
      case rel => exact ⟨i + 1, by omega, by go_num, HF.out⟩
      case measure => simp [intOf]; omega
     ·
      have q0 : decide (least ≤ x) = true := decide_eq_true h0
      have q1 : decide (x ≤ 30000) = false := decide_eq_false h1
      have HF := Hfin.out false (by simp [smallB, h1])
      clear Hfin
      go_wp2
      go_roundw
      case rel => exact ⟨i + 1, by omega, by go_num, HF.out⟩
      case measure => simp [intOf]; omega
    ·
     have q0 : decide (least ≤ x) = false := decide_eq_false h0
     have HF := Hfin.out false (by simp [smallB, h0])
     clear Hfin
     go_wp2
     go_roundw
     case rel => exact ⟨i + 1, by omega, by go_num, HF.out⟩
     case measure => simp [intOf]; omega
  ·
   have hin : i = l.length := by omega
   subst hin
   have hfin : Hid (OkAt wr ob (b && l.all (smallB least)) ∧ Ob ob w wr) := by have := hR.out; rwa [List.take_length] at this
   go_wp2
   go_end0
   exact ⟨rfl, hfin.out.1, hfin.out.2⟩
theorem text_any (most : Nat) (v : Value) (l : List ByteArray) (ob : Nat) (b : Bool) (w : World) (h : OkAt w ob b) (hv : SlR w v (l.map Value.string)) (hl : l.length ≤ 1000) (hm : most ≤ 1000000) (hs : ∀ x ∈ l, x.size ≤ 2097152) (hn : ∀ a n cap, v = .slice (some a) n cap → a.block ≠ ob) :
  Calls Tryz.prog 80 #[.int .i64 most, v, .pointer (some ⟨ob, 0, none⟩)] w fun e w' => e = .returned (.tuple #[]) ∧ OkAt w' ob (b && l.all (textB most)) ∧ Ob ob w w' := by
 have HV := hid hv
 have HN := hid hn
 have H := hid h
 have HS := hid hs
 obtain ⟨a, cap, hv, -⟩ := hv
 have hlen : (l.map Value.string).length = l.length := List.length_map _
 rw [hlen] at hv
 subst hv
 have Hlen := hid hlen
 clear h hn hlen hs
 go_enter Tryz.func80, Tryz.ntmps80
 go_wp2
 go_loopw [6, 9] (fun _ vi wr => ∃ i : Nat, i ≤ l.length ∧ vi = .int .i64 i ∧ Hid (OkAt wr ob (b && (l.take i).all (textB most)) ∧ Ob ob w wr)) (fun _ vi _ => l.length - (intOf vi).toNat)
 case atStart => exact ⟨0, Nat.zero_le _, rfl, by simpa using H.out, But.refl _ _⟩
 case round =>
  obtain ⟨i, hi, rfl, hR⟩ := hrel
  by_cases hlt : i < l.length
  ·
   obtain ⟨x, hx⟩ : ∃ x, l[i]? = some x := ⟨_, List.getElem?_eq_getElem hlt⟩
   obtain ⟨a', cap', he, -, -, hcell⟩ := HV.out.butOb hR.out.2 HN.out
   rw [Hlen.out] at he
   cases he
   obtain ⟨bb, off, rfl, c0⟩ := hcell i (.string x) (by simp [hx])
   have hst := hid (all_snoc (textB most) l i x hx)
   have hxs := HS.out x (List.mem_of_getElem? hx)
   have hc := hR.out.1.cell
   have hf := hR.out.1.free
   clear hcell hx
   have hfin : ∀ c : Bool, ((b && (l.take i).all (textB most)) && textB most x) = c → Hid (OkAt (wr.setCell ⟨ob, 0, none⟩ (.bool c)) ob (b && (l.take (i + 1)).all (textB most)) ∧ Ob ob w (wr.setCell ⟨ob, 0, none⟩ (.bool c))) := by
    intro c hcc
    refine ⟨?_, hR.out.2.trans (But.set1 ob _)⟩
    rw [hst.out, ← Bool.and_assoc, hcc]
    exact hR.out.1.set c
   have Hfin := hid hfin
   clear hfin
   generalize (b && (l.take i).all (textB most)) = ok at hc Hfin
   cases ok with
   | false =>
    have HF := Hfin.out false rfl
    clear Hfin
    go_wp2
    go_roundw
    case rel => exact ⟨i + 1, by omega, by go_num, HF.out⟩
    case measure => simp [intOf]; omega
   | true =>
    by_cases h0 : x.size ≤ most
    ·
     have q0 : decide (x.size ≤ most) = true := decide_eq_true h0
     have q1 : decide ((x.size : Int) ≤ most) = true := decide_eq_true (by omega)
     have HF := Hfin.out true (by simp [textB, h0])
     clear Hfin
     go_wp2
     go_roundw
     case rel => exact ⟨i + 1, by omega, by go_num, HF.out⟩
     case measure => simp [intOf]; omega
    ·
     have q0 : decide (x.size ≤ most) = false := decide_eq_false h0
     have q1 : decide ((x.size : Int) ≤ most) = false := decide_eq_false (by omega)
     have HF := Hfin.out false (by simp [textB, h0])
     clear Hfin
     go_wp2
     go_roundw
     case rel => exact ⟨i + 1, by omega, by go_num, HF.out⟩
     case measure => simp [intOf]; omega
  ·
   have hin : i = l.length := by omega
   subst hin
   have hfin : Hid (OkAt wr ob (b && l.all (textB most)) ∧ Ob ob w wr) := by have := hR.out; rwa [List.take_length] at this
   go_wp2
   go_end0
   exact ⟨rfl, hfin.out.1, hfin.out.2⟩
end Go.Proofs.YthikijlbclckdaaGreat
