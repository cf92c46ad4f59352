/- Keep: contracts (Kp). -/
import Derived.Test.YthikijlbclckdaaGreatT11
namespace Go.Proofs.YthikijlbclckdaaGreat
set_option maxRecDepth 100000
set_option maxHeartbeats 40000000
set_option linter.unusedSimpArgs false
set_option linter.unusedVariables false
open Go.IntWalk Go.RowKit
theorem info_rrow : (Tryz.prog.info? 70).map (fun i => (i.zero, i.size, i.bytes)) = some (some (.agg #[.string ⟨#[]⟩, .string ⟨#[]⟩]), 2, 32) := by kernel_rfl
structure AI (w : World) (cs : Array Value) (rs : List RowV) (v : Value) (wr : World) : Prop where
 below : Below w.heap.size w wr
 box : wr.heap[w.heap.size]? = some (.cells cs 33 (0, 0))
 own : wr.ownsRow (w.heap.size + 1) 70 2 v rs.length (rowsC rs)
theorem AI.grow {w : World} {cs : Array Value} {rs : List RowV} {v : Value} {wr w' : World} (h : AI w cs rs v wr) (hb : Below wr.heap.size wr w') : AI w cs rs v w' :=
 ⟨h.below.trans (hb.mono h.below.size), (hb.block _ (heap_lt h.box)).trans h.box, own_grow h.own hb⟩
theorem AI.step {w : World} {cs : Array Value} {rs : List RowV} {v v' : Value} {wr w' : World} {r : RowV} (h : AI w cs rs v wr) (ho : w'.ownsRow (w.heap.size + 1) 70 2 v' (rs.length + 1) (rowsC rs ++ rowC r)) (hb : Below (w.heap.size + 1) wr w') : AI w cs (rs ++ [r]) v' w' :=
 ⟨h.below.trans (hb.mono (by omega)), (hb.block _ (by omega)).trans h.box, by rw [rowsC_snoc, List.length_append]; exact ho⟩
theorem AI.lt {w : World} {cs : Array Value} {rs : List RowV} {v : Value} {wr : World} (h : AI w cs rs v wr) : w.heap.size + 1 ≤ wr.heap.size := heap_lt h.box
theorem AI.snoc {α : Type} {w : World} {cs : Array Value} {pre : List RowV} {l : List α} {f : α → RowV} {i : Nat} {x : α} {v : Value} {wr : World} (hx : l[i]? = some x) (h : AI w cs ((pre ++ (l.take i).map f) ++ [f x]) v wr) : AI w cs (pre ++ (l.take (i + 1)).map f) v wr := by
 rw [take_map_snoc f l i x hx, ← List.append_assoc]; exact h
theorem own_slice' {w : World} {base e size n : Nat} {v : Value} {xs : List Value} (h : w.ownsRow base e size v n xs) : ∃ a m c, v = .slice a m c := by
 obtain ⟨a, c, e⟩ := own_slice h
 exact ⟨a, _, c, e⟩
theorem bigS_le (v m : Nat) : (bigS v m).size ≤ m := by rw [bigS_size]; omega
theorem rall_any (s : StateV) (hok : StateOk s) (cs : List Value) (vp vi vt vj vr vs vk vl vm : Value) (w : World) (h : StateAt w cs s vp vi vt vj vr vs vk vl vm) :
  Calls Tryz.prog 28 #[.agg cs.toArray] w fun e w' => ∃ u, e = .returned u ∧ rowsF (rows s) u w' ∧ Below w.heap.size w w' := by
 have H := hid h
 have Hok := hid hok
 have Hmany := hid hok.many
 obtain ⟨rfl, hp, hi, ht, hj, hr, hs, hk, hl, hm⟩ := h
 obtain ⟨ap, cp, rfl, -, np, -⟩ := hp
 obtain ⟨ai, ci, rfl, -, ni, -⟩ := hi
 obtain ⟨at_, ct, rfl, -, nt, -⟩ := ht
 obtain ⟨aj, cj, rfl, -, nj, -⟩ := hj
 obtain ⟨ar, cr, rfl, -, nr, -⟩ := hr
 obtain ⟨as_, cs_, rfl, -, ns, -⟩ := hs
 obtain ⟨ak, ck, rfl, -, nk, -⟩ := hk
 obtain ⟨al, cl, rfl, -, nl, -⟩ := hl
 obtain ⟨am, cm, rfl, -, nm, -⟩ := hm
 unfold maxLen at np ni nt nj nr ns nk nl nm
 clear hok
 obtain ⟨CS, hCS⟩ : ∃ CS : Array Value, CS = #[U s.pos, U s.done, U s.made, .slice ap s.procs.length cp, .slice ai s.insts.length ci, .slice at_ s.tokens.length ct, .slice aj s.jobs.length cj, .slice ar s.timers.length cr, .slice as_ s.subs.length cs_, .slice ak s.kept.length ck, .slice al s.listed.length cl, .slice am s.msgs.length cm] := ⟨_, rfl⟩
 have HCS := hid hCS
 clear hCS
 have zp := uvS_le Hok.out.pos
 have zd := uvS_le Hok.out.done
 have zm := uvS_le Hok.out.made
 go_enter Tryz.func28, Tryz.ntmps28
 go_wp2_with fail
 have B0 := hid ((Below.refl _ w).alloc (Nat.le_refl _) (.cells #[U s.pos, U s.done, U s.made, .slice ap s.procs.length cp, .slice ai s.insts.length ci, .slice at_ s.tokens.length ct, .slice aj s.jobs.length cj, .slice ar s.timers.length cr, .slice as_ s.subs.length cs_, .slice ak s.kept.length ck, .slice al s.listed.length cl, .slice am s.msgs.length cm] 33))
 have X0 := hid (alloc_new w (.cells #[U s.pos, U s.done, U s.made, .slice ap s.procs.length cp, .slice ai s.insts.length ci, .slice at_ s.tokens.length ct, .slice aj s.jobs.length cj, .slice ar s.timers.length cr, .slice as_ s.subs.length cs_, .slice ak s.kept.length ck, .slice al s.listed.length cl, .slice am s.msgs.length cm] 33))
 have hlt0 : w.heap.size < (w.alloc (.cells #[U s.pos, U s.done, U s.made, .slice ap s.procs.length cp, .slice ai s.insts.length ci, .slice at_ s.tokens.length ct, .slice aj s.jobs.length cj, .slice ar s.timers.length cr, .slice as_ s.subs.length cs_, .slice ak s.kept.length ck, .slice al s.listed.length cl, .slice am s.msgs.length cm] 33)).heap.size := by simp
 generalize w.alloc (.cells #[U s.pos, U s.done, U s.made, .slice ap s.procs.length cp, .slice ai s.insts.length ci, .slice at_ s.tokens.length ct, .slice aj s.jobs.length cj, .slice ar s.timers.length cr, .slice as_ s.subs.length cs_, .slice ak s.kept.length ck, .slice al s.listed.length cl, .slice am s.msgs.length cm] 33) = w0 at B0 X0 hlt0 ⊢
 have k0 := cell_of X0.out 0
 have k1 := cell_of X0.out 1
 have k2 := cell_of X0.out 2
 refine wp_par (fun _ => False) (fun _ => True) (List.replicate 12 false) _ [.fix ?_, .fix ?_, .fix ?_, .fix ?_, .fix ?_, .fix ?_, .fix ?_, .fix ?_, .fix ?_, .fix ?_, .fix ?_, .fix ?_] (by kernel_rfl) (by kernel_rfl) (by simp only [List.length_replicate, List.drop_succ_cons, List.drop_zero, List.drop_nil]; with_reducible rfl) rfl (fun _ _ _ _ _ => ⟨fun h => h, fun h => h⟩) (fun _ _ h _ => h) trivial ?_
 rotate_left 12
 iterate 2
  first
   | (refine par_skip (a' := ?_) (by rfl) (by rfl) ?_ ?_ ?_; rotate_left 1; with_reducible rfl; (simp only [lays]; with_reducible rfl))
   | (refine par_run (a' := ?_) (by rfl) (by rfl) (fun w' hb hn => ?_) ?_ ?_; rotate_left 1; (have hc := hb.cells; go_simp; (try simp (disch := omega) only [nrm, toNatUp, iteOmega]); first | with_reducible rfl | (go_simp; with_reducible rfl)); (simp only [lays]; with_reducible rfl))
 refine par_call (a' := ?_) (f := ?_) (args := ?_) (by rfl) (by rfl) (fun w' => ?_) (fun w' hb hn => ?_) ?_ ?_; rotate_left 3; (go_simp; constructor <;> with_reducible rfl); (exact r14u_any s.pos Hok.out.pos w'); (simp only [lays]; with_reducible rfl)
 iterate 2
  first
   | (refine par_skip (a' := ?_) (by rfl) (by rfl) ?_ ?_ ?_; rotate_left 1; with_reducible rfl; (simp only [lays]; with_reducible rfl))
   | (refine par_run (a' := ?_) (by rfl) (by rfl) (fun w' hb hn => ?_) ?_ ?_; rotate_left 1; (have hc := hb.cells; go_simp; (try simp (disch := omega) only [nrm, toNatUp, iteOmega]); first | with_reducible rfl | (go_simp; with_reducible rfl)); (simp only [lays]; with_reducible rfl))
 refine par_call (a' := ?_) (f := ?_) (args := ?_) (by rfl) (by rfl) (fun w' => ?_) (fun w' hb hn => ?_) ?_ ?_; rotate_left 3; (go_simp; constructor <;> with_reducible rfl); (exact r14u_any s.done Hok.out.done w'); (simp only [lays]; with_reducible rfl)
 iterate 3
  first
   | (refine par_skip (a' := ?_) (by rfl) (by rfl) ?_ ?_ ?_; rotate_left 1; with_reducible rfl; (simp only [lays]; with_reducible rfl))
   | (refine par_run (a' := ?_) (by rfl) (by rfl) (fun w' hb hn => ?_) ?_ ?_; rotate_left 1; (have hc := hb.cells; go_simp; (try simp (disch := omega) only [nrm, toNatUp, iteOmega]); first | with_reducible rfl | (go_simp; with_reducible rfl)); (simp only [lays]; with_reducible rfl))
 refine par_call (a' := ?_) (f := ?_) (args := ?_) (by rfl) (by rfl) (fun w' => ?_) (fun w' hb hn => ?_) ?_ ?_; rotate_left 3; (go_simp; constructor <;> with_reducible rfl); (exact r14u_any s.made Hok.out.made w'); (simp only [lays]; with_reducible rfl)
 iterate 2
  first
   | (refine par_skip (a' := ?_) (by rfl) (by rfl) ?_ ?_ ?_; rotate_left 1; with_reducible rfl; (simp only [lays]; with_reducible rfl))
   | (refine par_run (a' := ?_) (by rfl) (by rfl) (fun w' hb hn => ?_) ?_ ?_; rotate_left 1; (have hc := hb.cells; go_simp; (try simp (disch := omega) only [nrm, toNatUp, iteOmega]); first | with_reducible rfl | (go_simp; with_reducible rfl)); (simp only [lays]; with_reducible rfl))
 refine par_end (fun w9 hb9 hf9 _ => ?_)
 replace hb9 := hb9.grow
 try refine wpList_none ?_
 have hz9 := hb9.size
 have X9 := hid ((hb9.block w.heap.size hlt0).trans X0.out)
 have B9 := hid (B0.out.trans (hb9.mono B0.out.size))
 clear hb9 k0 k1 k2
 go_wp2_with fail
 have I0 : Hid (AI w CS [rowA s] (.slice (some ⟨w9.heap.size, 0, none⟩) 1 1) (w9.alloc (.cells #[.string ⟨#[97]⟩, .string (uvS s.pos ++ uvS s.done ++ uvS s.made)] 70))) := by
  rw [HCS.out]
  exact ⟨B9.out.alloc B9.out.size _, (alloc_old _ (heap_lt X9.out)).trans X9.out, ⟨rfl, .inr ⟨w9.heap.size, 1, _, rfl, by omega, alloc_new _ _, by simp, by unfold maxLen; omega, rfl, rfl⟩⟩⟩
 clear zp zd zm
 go_loopw [3, 4] (fun vl vi wr => ∃ i : Nat, i ≤ s.msgs.length ∧ vi = .int .i64 i ∧ Hid (AI w CS ([rowA s] ++ (s.msgs.take i).map rowG) vl wr)) (fun _ vi _ => s.msgs.length - (intOf vi).toNat)
 case atStart => exact ⟨0, Nat.zero_le _, rfl, (show AI w CS ([rowA s] ++ []) _ _ by rw [List.append_nil]; exact I0.out)⟩
 case round =>
  obtain ⟨i, hi, rfl, hR⟩ := hrel
  have kk : wr.cell? ⟨w.heap.size, 11, none⟩ = some (.slice am s.msgs.length cm) := by rw [cell_of hR.out.box 11, HCS.out]; rfl
  by_cases hlt : i < s.msgs.length
  ·
   as_aux_lemma =>
    obtain ⟨x, hx⟩ : ∃ x, s.msgs[i]? = some x := ⟨_, List.getElem?_eq_getElem hlt⟩
    obtain ⟨a', cap', hv, -, -, hcell⟩ := H.out.msgs
    cases hv
    obtain ⟨b, off, cs, rfl, hcl, hat, hc⟩ := hcell i x hx
    obtain ⟨v3, v4, rfl, hv3, hv4⟩ := hat
    have HV3 := hid hv3
    have HV4 := hid hv4
    obtain ⟨a3, c30, rfl, -⟩ := hv3
    obtain ⟨a4, c40, hv4, -⟩ := hv4
    have hl4 : (natsV x.insts).length = x.insts.length := by simp [natsV]
    rw [hl4] at hv4
    subst hv4
    have Hl4 := hid hl4
    clear hl4
    have k0 := kc hR.out.below (hc 0 _ rfl)
    have k1 := kc hR.out.below (hc 1 _ rfl)
    have k2 := kc hR.out.below (hc 2 _ rfl)
    have k3 := kc hR.out.below (hc 3 _ rfl)
    have k4 := kc hR.out.below (hc 4 _ rfl)
    have k5 := kc hR.out.below (hc 5 _ rfl)
    have k6 := kc hR.out.below (hc 6 _ rfl)
    simp only [Nat.add_zero] at k0
    have hox := hid (Hok.out.msgs x (List.mem_of_getElem? hx))
    have Hx := hid hx
    have hbl := World.block_lt_of_cell? wr _ k0
    dsimp only at hbl
    have hlt1 := hR.out.lt
    have hlen : Hid (([rowA s] ++ (s.msgs.take i).map rowG).length + 1 ≤ 4194304) := by show _ ≤ _; have := Hmany.out; simp; omega
    obtain ⟨al3, nl3, cl3, rfl⟩ := own_slice' hR.out.own
    clear hcell hx hc hcl
    go_wp2_with fail
    have J0 := hid (hR.out.grow ((Below.refl _ wr).alloc (Nat.le_refl _) (.cells #[U x.key, .string x.name, .string x.for_, .string x.id, I x.till, .slice a3 x.vars.length c30, .slice a4 x.insts.length c40] 118)))
    have X0 := hid (alloc_new wr (.cells #[U x.key, .string x.name, .string x.for_, .string x.id, I x.till, .slice a3 x.vars.length c30, .slice a4 x.insts.length c40] 118))
    have hzz : wr.heap.size < (wr.alloc (.cells #[U x.key, .string x.name, .string x.for_, .string x.id, I x.till, .slice a3 x.vars.length c30, .slice a4 x.insts.length c40] 118)).heap.size := by simp
    generalize wr.alloc (.cells #[U x.key, .string x.name, .string x.for_, .string x.id, I x.till, .slice a3 x.vars.length c30, .slice a4 x.insts.length c40] 118) = v0 at J0 X0 hzz ⊢
    clear k0 k1 k2 k3 k4 k5 k6
    have k1 := cell_of X0.out 1
    have k2 := cell_of X0.out 2
    have k3 := cell_of X0.out 3
    have k4 := cell_of X0.out 4
    have k5 := cell_of X0.out 5
    have k6 := cell_of X0.out 6
    have z1 := txS_le hox.out.name
    have z2 := txS_le hox.out.for_
    have z3 := txS_le hox.out.id
    have z4 := inS_le hox.out.till
    have z5 := varsS_le hox.out.vars
    have z7 := hox.out.many
    have z6 : (uvS x.insts.length).size ≤ 10 := uvS_le (by unfold U64; omega)
    refine wp_par (fun _ => False) (fun _ => True) (List.replicate 26 false) _ [.fix ?_, .fix ?_, .fix ?_, .fix ?_, .fix ?_, .fix ?_, .fix ?_, .fix ?_, .fix ?_, .fix ?_, .fix ?_, .fix ?_, .fix ?_, .fix ?_, .fix ?_, .fix ?_, .fix ?_, .fix ?_, .fix ?_, .fix ?_, .fix ?_, .fix ?_, .fix ?_, .fix ?_, .fix ?_, .fix ?_] (by kernel_rfl) (by kernel_rfl) (by simp only [List.length_replicate, List.drop_succ_cons, List.drop_zero, List.drop_nil]; with_reducible rfl) rfl (fun _ _ _ _ _ => ⟨fun h => h, fun h => h⟩) (fun _ _ h _ => h) trivial ?_
    rotate_left 26
    iterate 2
     first
      | (refine par_skip (a' := ?_) (by rfl) (by rfl) ?_ ?_ ?_; rotate_left 1; with_reducible rfl; (simp only [lays]; with_reducible rfl))
      | (refine par_run (a' := ?_) (by rfl) (by rfl) (fun w' hb hn => ?_) ?_ ?_; rotate_left 1; (have hc := hb.cells; go_simp; (try simp (disch := omega) only [nrm, toNatUp, iteOmega]); first | with_reducible rfl | (go_simp; with_reducible rfl)); (simp only [lays]; with_reducible rfl))
    refine par_call (a' := ?_) (f := ?_) (args := ?_) (by rfl) (by rfl) (fun w' => ?_) (fun w' hb hn => ?_) ?_ ?_; rotate_left 3; (go_simp; constructor <;> with_reducible rfl); (exact r14t_any x.name (Nat.le_trans hox.out.name (by decide)) w'); (simp only [lays]; with_reducible rfl)
    iterate 2
     first
      | (refine par_skip (a' := ?_) (by rfl) (by rfl) ?_ ?_ ?_; rotate_left 1; with_reducible rfl; (simp only [lays]; with_reducible rfl))
      | (refine par_run (a' := ?_) (by rfl) (by rfl) (fun w' hb hn => ?_) ?_ ?_; rotate_left 1; (have hc := hb.cells; go_simp; (try simp (disch := omega) only [nrm, toNatUp, iteOmega]); first | with_reducible rfl | (go_simp; with_reducible rfl)); (simp only [lays]; with_reducible rfl))
    refine par_call (a' := ?_) (f := ?_) (args := ?_) (by rfl) (by rfl) (fun w' => ?_) (fun w' hb hn => ?_) ?_ ?_; rotate_left 3; (go_simp; constructor <;> with_reducible rfl); (exact r14t_any x.for_ (Nat.le_trans hox.out.for_ (by decide)) w'); (simp only [lays]; with_reducible rfl)
    iterate 3
     first
      | (refine par_skip (a' := ?_) (by rfl) (by rfl) ?_ ?_ ?_; rotate_left 1; with_reducible rfl; (simp only [lays]; with_reducible rfl))
      | (refine par_run (a' := ?_) (by rfl) (by rfl) (fun w' hb hn => ?_) ?_ ?_; rotate_left 1; (have hc := hb.cells; go_simp; (try simp (disch := omega) only [nrm, toNatUp, iteOmega]); first | with_reducible rfl | (go_simp; with_reducible rfl)); (simp only [lays]; with_reducible rfl))
    refine par_call (a' := ?_) (f := ?_) (args := ?_) (by rfl) (by rfl) (fun w' => ?_) (fun w' hb hn => ?_) ?_ ?_; rotate_left 3; (go_simp; constructor <;> with_reducible rfl); (exact r14t_any x.id (Nat.le_trans hox.out.id (by decide)) w'); (simp only [lays]; with_reducible rfl)
    iterate 3
     first
      | (refine par_skip (a' := ?_) (by rfl) (by rfl) ?_ ?_ ?_; rotate_left 1; with_reducible rfl; (simp only [lays]; with_reducible rfl))
      | (refine par_run (a' := ?_) (by rfl) (by rfl) (fun w' hb hn => ?_) ?_ ?_; rotate_left 1; (have hc := hb.cells; go_simp; (try simp (disch := omega) only [nrm, toNatUp, iteOmega]); first | with_reducible rfl | (go_simp; with_reducible rfl)); (simp only [lays]; with_reducible rfl))
    refine par_call (a' := ?_) (f := ?_) (args := ?_) (by rfl) (by rfl) (fun w' => ?_) (fun w' hb hn => ?_) ?_ ?_; rotate_left 3; (go_simp; constructor <;> with_reducible rfl); (exact rn_in x.till hox.out.till.1 hox.out.till.2 w'); (simp only [lays]; with_reducible rfl)
    iterate 3
     first
      | (refine par_skip (a' := ?_) (by rfl) (by rfl) ?_ ?_ ?_; rotate_left 1; with_reducible rfl; (simp only [lays]; with_reducible rfl))
      | (refine par_run (a' := ?_) (by rfl) (by rfl) (fun w' hb hn => ?_) ?_ ?_; rotate_left 1; (have hc := hb.cells; go_simp; (try simp (disch := omega) only [nrm, toNatUp, iteOmega]); first | with_reducible rfl | (go_simp; with_reducible rfl)); (simp only [lays]; with_reducible rfl))
    refine par_call (a' := ?_) (f := ?_) (args := ?_) (by rfl) (by rfl) (fun w' => ?_) (fun w' hb hn => ?_) ?_ ?_; rotate_left 3; (go_simp; constructor <;> with_reducible rfl); (exact rvarsBytes_any _ x.vars w' hox.out.vars (HV3.out.below (J0.out.below.trans (hb.grow.mono J0.out.below.size)))); (simp only [lays]; with_reducible rfl)
    iterate 5
     first
      | (refine par_skip (a' := ?_) (by rfl) (by rfl) ?_ ?_ ?_; rotate_left 1; with_reducible rfl; (simp only [lays]; with_reducible rfl))
      | (refine par_run (a' := ?_) (by rfl) (by rfl) (fun w' hb hn => ?_) ?_ ?_; rotate_left 1; (have hc := hb.cells; go_simp; (try simp (disch := omega) only [nrm, toNatUp, iteOmega]); first | with_reducible rfl | (go_simp; with_reducible rfl)); (simp only [lays]; with_reducible rfl))
    refine par_call (a' := ?_) (f := ?_) (args := ?_) (by rfl) (by rfl) (fun w' => ?_) (fun w' hb hn => ?_) ?_ ?_; rotate_left 3; (go_simp; constructor <;> with_reducible rfl); (exact r14u_any x.insts.length (by omega) w'); (simp only [lays]; with_reducible rfl)
    iterate 2
     first
      | (refine par_skip (a' := ?_) (by rfl) (by rfl) ?_ ?_ ?_; rotate_left 1; with_reducible rfl; (simp only [lays]; with_reducible rfl))
      | (refine par_run (a' := ?_) (by rfl) (by rfl) (fun w' hb hn => ?_) ?_ ?_; rotate_left 1; (have hc := hb.cells; go_simp; (try simp (disch := omega) only [nrm, toNatUp, iteOmega]); first | with_reducible rfl | (go_simp; with_reducible rfl)); (simp only [lays]; with_reducible rfl))
    refine par_end (fun w9 hb9 hf9 _ => ?_)
    replace hb9 := hb9.grow
    try refine wpList_none ?_
    have J9 := hid (J0.out.grow hb9)
    have X9 := hid ((hb9.block wr.heap.size hzz).trans X0.out)
    clear hb9 k1 k2 k3 k4 k5 k6 X0 J0
    have hbase : (txS x.name ++ txS x.for_ ++ txS x.id ++ inS x.till ++ varsS x.vars ++ uvS x.insts.length).size ≤ 100000000 := by simp only [ByteArray.size_append]; omega
    clear z1 z2 z3 z4 z5 z6
    go_wp2
    obtain ⟨wo, rfl⟩ : ∃ wo : World, wo = wr := ⟨_, rfl⟩
    go_loopw [6, 7] (fun vs vk wk => ∃ (k : Nat) (t : ByteArray), k ≤ x.insts.length ∧ vk = .int .i64 k ∧ vs = .string t ∧ t.size ≤ 100000000 + k * 10 ∧ Hid (t = foldS uvS (txS x.name ++ txS x.for_ ++ txS x.id ++ inS x.till ++ varsS x.vars ++ uvS x.insts.length) (x.insts.take k) ∧ AI w CS ([rowA s] ++ (s.msgs.take i).map rowG) (.slice al3 nl3 cl3) wk ∧ wk.heap[wo.heap.size]? = some (.cells #[U x.key, .string x.name, .string x.for_, .string x.id, I x.till, .slice a3 x.vars.length c30, .slice a4 x.insts.length c40] 118 (0, 0)))) (fun _ vk _ => x.insts.length - (intOf vk).toNat)
    case atStart => exact ⟨0, _, Nat.zero_le _, rfl, rfl, by omega, rfl, J9.out, X9.out⟩
    case round =>
     obtain ⟨k, t, hk, rfl, rfl, ht, hK⟩ := hrel
     have j6 := cell_of hK.out.2.2 6
     by_cases hkl : k < x.insts.length
     ·
      obtain ⟨y, hy⟩ : ∃ y, x.insts[k]? = some y := ⟨_, List.getElem?_eq_getElem hkl⟩
      obtain ⟨a', cap', he, -, -, hc4⟩ := HV4.out.below hK.out.2.1.below
      rw [Hl4.out] at he
      cases he
      obtain ⟨b4, off4, rfl, c0⟩ := hc4 k (U y) (by simp [natsV, hy])
      have hyo := hox.out.insts y (List.mem_of_getElem? hy)
      have hzy := uvS_le hyo
      have Hyo := hid hyo
      have hst := hid (app_snoc uvS x.insts k y hy (txS x.name ++ txS x.for_ ++ txS x.id ++ inS x.till ++ varsS x.vars ++ uvS x.insts.length))
      clear hc4 hy hyo
      go_wp2_with fail
      refine (r14u_any y Hyo.out _).mono ?_
      rintro e w4 ⟨rfl, b4'⟩
      have K4 := hid (And.intro (hK.out.2.1.grow b4') ((b4'.block _ (heap_lt hK.out.2.2)).trans hK.out.2.2))
      have hsz4 : (t ++ uvS y).size ≤ 100000000 + (k + 1) * 10 := by rw [ByteArray.size_append]; omega
      clear b4'
      go_wp2
      go_roundw
      case rel => exact ⟨k + 1, t ++ uvS y, by omega, by go_num, rfl, hsz4, by unfold foldS; rw [hst.out, hK.out.1]; rfl, K4.out⟩
      case measure => simp [intOf]; omega
     ·
      have hkk : k = x.insts.length := by omega
      subst hkk
      have HT : Hid (t = (rowG x).2) := by have := hK.out.1; rw [List.take_length] at this; exact this
      have j0 := cell_of hK.out.2.2 0
      have zk := bigS_le x.key 8
      have hz8 := hK.out.2.1.lt
      go_wp2_with fail
      refine (rbig_any x.key 8 hox.out.key (by decide) _).mono ?_
      rintro e w5 ⟨rfl, b5⟩
      have K5 := hid (hK.out.2.1.grow b5)
      have hz5 := K5.out.lt
      clear b5 j0 j6
      go_wp2_with (at_builtin; refine app1 41 70 Tryz.underlying41 info_rrow rfl (by decide) K5.out.own hz5 (by have := hlen.out; unfold maxLen; omega) (by have := hlen.out; omega) rfl rfl rfl rfl rfl (by simp [Value.oneCell']) ?_; intro v' w10 hown10 hb10)
      have J10 : Hid (AI w CS ([rowA s] ++ (s.msgs.take (i + 1)).map rowG) v' w10) := AI.snoc Hx.out (K5.out.step (r := rowG x) (by have h := hown10; rw [HT.out] at h; exact h) hb10)
      clear hown10 hb10 zk
      go_wp2
      go_roundw
      case rel => exact ⟨i + 1, by omega, by go_num, J10.out⟩
      case measure => simp [intOf]; omega
  ·
   have hin : i = s.msgs.length := by omega
   subst hin
   have I1 : Hid (∀ v, AI w CS ([rowA s] ++ (s.msgs.take s.msgs.length).map rowG) v wr → AI w CS ([rowA s] ++ s.msgs.map rowG) v wr) := by intro v hv; rwa [List.take_length] at hv
   have I1 := hid (I1.out _ hR.out)
   clear hR hi hlt
   go_wp2_with fail
   clear kk
   obtain ⟨wo, rfl⟩ : ∃ wo : World, wo = wr := ⟨_, rfl⟩
   go_loopw [3, 8] (fun vl vi wr => ∃ i : Nat, i ≤ s.insts.length ∧ vi = .int .i64 i ∧ Hid (AI w CS (([rowA s] ++ s.msgs.map rowG) ++ (s.insts.take i).map rowI) vl wr)) (fun _ vi _ => s.insts.length - (intOf vi).toNat)
   case atStart => exact ⟨0, Nat.zero_le _, rfl, (show AI w CS (([rowA s] ++ s.msgs.map rowG) ++ []) _ _ by rw [List.append_nil]; exact I1.out)⟩
   case round =>
    obtain ⟨i, hi, rfl, hR⟩ := hrel
    have kk : wr.cell? ⟨w.heap.size, 4, none⟩ = some (.slice ai s.insts.length ci) := by rw [cell_of hR.out.box 4, HCS.out]; rfl
    by_cases hlt : i < s.insts.length
    ·
     as_aux_lemma =>
      obtain ⟨x, hx⟩ : ∃ x, s.insts[i]? = some x := ⟨_, List.getElem?_eq_getElem hlt⟩
      obtain ⟨a', cap', hv, -, -, hcell⟩ := H.out.insts
      cases hv
      obtain ⟨b, off, cs, rfl, hcl, hat, hc⟩ := hcell i x hx
      obtain ⟨v3, rfl, hv3⟩ := hat
      have HV3 := hid hv3
      obtain ⟨a3, c30, rfl, -⟩ := hv3
      have k0 := kc hR.out.below (hc 0 _ rfl)
      have k1 := kc hR.out.below (hc 1 _ rfl)
      have k2 := kc hR.out.below (hc 2 _ rfl)
      simp only [Nat.add_zero] at k0
      have hox := hid (Hok.out.insts x (List.mem_of_getElem? hx))
      have Hx := hid hx
      have hbl := World.block_lt_of_cell? wr _ k0
      dsimp only at hbl
      have hlt1 := hR.out.lt
      have hlen : Hid ((([rowA s] ++ s.msgs.map rowG) ++ (s.insts.take i).map rowI).length + 1 ≤ 4194304) := by show _ ≤ _; have := Hmany.out; simp; omega
      obtain ⟨al3, nl3, cl3, rfl⟩ := own_slice' hR.out.own
      clear hcell hx hc hcl
      go_wp2_with fail
      have J0 := hid (hR.out.grow ((Below.refl _ wr).alloc (Nat.le_refl _) (.cells #[U x.key, .string x.id, .slice a3 x.vars.length c30] 103)))
      have X0 := hid (alloc_new wr (.cells #[U x.key, .string x.id, .slice a3 x.vars.length c30] 103))
      have hzz : wr.heap.size < (wr.alloc (.cells #[U x.key, .string x.id, .slice a3 x.vars.length c30] 103)).heap.size := by simp
      generalize wr.alloc (.cells #[U x.key, .string x.id, .slice a3 x.vars.length c30] 103) = v0 at J0 X0 hzz ⊢
      clear k0 k1 k2
      have k0 := cell_of X0.out 0
      have k1 := cell_of X0.out 1
      have k2 := cell_of X0.out 2
      have z0 := txS_le hox.out.id
      have z1 := varsS_le hox.out.vars
      have zk := bigS_le x.key 8
      refine wp_par (fun _ => False) (fun _ => True) (List.replicate 14 false) _ [.fix ?_, .fix ?_, .fix ?_, .fix ?_, .fix ?_, .fix ?_, .fix ?_, .fix ?_, .fix ?_, .fix ?_, .fix ?_, .fix ?_, .fix ?_, .new (rowF 2 ?_ ?_)] (by kernel_rfl) (by kernel_rfl) (by simp only [List.length_replicate, List.drop_succ_cons, List.drop_zero, List.drop_nil]; with_reducible rfl) rfl (fun _ _ _ _ _ => ⟨fun h => h, fun h => h⟩) (fun _ _ h _ => h) trivial ?_
      rotate_left 15
      iterate 3
       first
        | (refine par_skip (a' := ?_) (by rfl) (by rfl) ?_ ?_ ?_; rotate_left 1; with_reducible rfl; (simp only [lays]; with_reducible rfl))
        | (refine par_run (a' := ?_) (by rfl) (by rfl) (fun w' hb hn => ?_) ?_ ?_; rotate_left 1; (have hc := hb.cells; go_simp; (try simp (disch := omega) only [nrm, toNatUp, iteOmega]); first | with_reducible rfl | (go_simp; with_reducible rfl)); (simp only [lays]; with_reducible rfl))
      refine par_call (a' := ?_) (f := ?_) (args := ?_) (by rfl) (by rfl) (fun w' => ?_) (fun w' hb hn => ?_) ?_ ?_; rotate_left 3; (go_simp; constructor <;> with_reducible rfl); (exact rbig_any x.key 8 hox.out.key (by decide) w'); (simp only [lays]; with_reducible rfl)
      iterate 3
       first
        | (refine par_skip (a' := ?_) (by rfl) (by rfl) ?_ ?_ ?_; rotate_left 1; with_reducible rfl; (simp only [lays]; with_reducible rfl))
        | (refine par_run (a' := ?_) (by rfl) (by rfl) (fun w' hb hn => ?_) ?_ ?_; rotate_left 1; (have hc := hb.cells; go_simp; (try simp (disch := omega) only [nrm, toNatUp, iteOmega]); first | with_reducible rfl | (go_simp; with_reducible rfl)); (simp only [lays]; with_reducible rfl))
      refine par_call (a' := ?_) (f := ?_) (args := ?_) (by rfl) (by rfl) (fun w' => ?_) (fun w' hb hn => ?_) ?_ ?_; rotate_left 3; (go_simp; constructor <;> with_reducible rfl); (exact r14t_any x.id (Nat.le_trans hox.out.id (by decide)) w'); (simp only [lays]; with_reducible rfl)
      iterate 2
       first
        | (refine par_skip (a' := ?_) (by rfl) (by rfl) ?_ ?_ ?_; rotate_left 1; with_reducible rfl; (simp only [lays]; with_reducible rfl))
        | (refine par_run (a' := ?_) (by rfl) (by rfl) (fun w' hb hn => ?_) ?_ ?_; rotate_left 1; (have hc := hb.cells; go_simp; (try simp (disch := omega) only [nrm, toNatUp, iteOmega]); first | with_reducible rfl | (go_simp; with_reducible rfl)); (simp only [lays]; with_reducible rfl))
      refine par_call (a' := ?_) (f := ?_) (args := ?_) (by rfl) (by rfl) (fun w' => ?_) (fun w' hb hn => ?_) ?_ ?_; rotate_left 3; (go_simp; constructor <;> with_reducible rfl); (exact rvarsBytes_any _ x.vars w' hox.out.vars (HV3.out.below (J0.out.below.trans (hb.grow.mono J0.out.below.size)))); (simp only [lays]; with_reducible rfl)
      iterate 2
       first
        | (refine par_skip (a' := ?_) (by rfl) (by rfl) ?_ ?_ ?_; rotate_left 1; with_reducible rfl; (simp only [lays]; with_reducible rfl))
        | (refine par_run (a' := ?_) (by rfl) (by rfl) (fun w' hb hn => ?_) ?_ ?_; rotate_left 1; (have hc := hb.cells; go_simp; (try simp (disch := omega) only [nrm, toNatUp, iteOmega]); first | with_reducible rfl | (go_simp; with_reducible rfl)); (simp only [lays]; with_reducible rfl))
      refine par_row (a' := ?a302k13) (m := ?m302k13) (T := ?T302k13) (cs := ?c302k13) (r := ?r302k13) (by rfl) (by rfl) (fun w' hb hn => ?h302k13) (fun w' => ?e302k13) ?n302k13 ?v302k13 ?l302k13 ?x302k13 (fun u => ?p302k13) (fun u => ?g302k13)
      case h302k13 => (have hc := hb.cells; go_simp; (try simp (disch := omega) only [nrm, toNatUp, iteOmega]); with_reducible rfl)
      case e302k13 => with_reducible rfl
      case n302k13 => with_reducible rfl
      case v302k13 => with_reducible rfl
      case l302k13 => simp only [List.length_cons, List.length_nil]
      case x302k13 => (unfold maxLen; omega)
      case p302k13 => (simp only [lays]; with_reducible rfl)
      refine par_end (fun w9 hb9 hf9 _ => ?_)
      replace hb9 := hb9.grow
      try refine wpList_none ?_
      have J9 := hid (J0.out.grow hb9)
      simp only [List.forall_mem_cons] at hf9
      obtain ⟨gF, -⟩ := hf9
      have GF := hid gF
      obtain ⟨aF, cF, rfl, -⟩ := gF
      have hz9 := J9.out.lt
      clear hb9 k0 k1 k2
      go_wp2_with (at_builtin; refine app_flat 41 70 Tryz.underlying41 info_rrow rfl (by decide) J9.out.own hz9 GF.out (by have := hlen.out; unfold maxLen; omega) (by have := hlen.out; omega) (rowsC_one [((⟨#[105]⟩ : ByteArray) ++ bigS x.key 8, txS x.id ++ varsS x.vars)]) rfl rfl rfl rfl ?_; intro v' w10 hown10 hb10)
      have J10 : Hid (AI w CS (([rowA s] ++ s.msgs.map rowG) ++ (s.insts.take (i + 1)).map rowI) v' w10) := AI.snoc Hx.out (J9.out.step (r := rowI x) (by have h := hown10; exact h) hb10)
      clear hown10 hb10 z0 z1 zk
      go_wp2
      go_roundw
      case rel => exact ⟨i + 1, by omega, by go_num, J10.out⟩
      case measure => simp [intOf]; omega
    ·
     have hin : i = s.insts.length := by omega
     subst hin
     have I2 : Hid (∀ v, AI w CS (([rowA s] ++ s.msgs.map rowG) ++ (s.insts.take s.insts.length).map rowI) v wr → AI w CS (([rowA s] ++ s.msgs.map rowG) ++ s.insts.map rowI) v wr) := by intro v hv; rwa [List.take_length] at hv
     have I2 := hid (I2.out _ hR.out)
     clear hR hi hlt
     go_wp2_with fail
     clear kk
     obtain ⟨wo, rfl⟩ : ∃ wo : World, wo = wr := ⟨_, rfl⟩
     go_loopw [3, 10] (fun vl vi wr => ∃ i : Nat, i ≤ s.jobs.length ∧ vi = .int .i64 i ∧ Hid (AI w CS ((([rowA s] ++ s.msgs.map rowG) ++ s.insts.map rowI) ++ (s.jobs.take i).map rowJ) vl wr)) (fun _ vi _ => s.jobs.length - (intOf vi).toNat)
     case atStart => exact ⟨0, Nat.zero_le _, rfl, (show AI w CS ((([rowA s] ++ s.msgs.map rowG) ++ s.insts.map rowI) ++ []) _ _ by rw [List.append_nil]; exact I2.out)⟩
     case round =>
      obtain ⟨i, hi, rfl, hR⟩ := hrel
      have kk : wr.cell? ⟨w.heap.size, 6, none⟩ = some (.slice aj s.jobs.length cj) := by rw [cell_of hR.out.box 6, HCS.out]; rfl
      by_cases hlt : i < s.jobs.length
      ·
       as_aux_lemma =>
        obtain ⟨x, hx⟩ : ∃ x, s.jobs[i]? = some x := ⟨_, List.getElem?_eq_getElem hlt⟩
        obtain ⟨a', cap', hv, -, -, hcell⟩ := H.out.jobs
        cases hv
        obtain ⟨b, off, cs, rfl, hcl, hat, hc⟩ := hcell i x hx
        obtain rfl := hat
        have k0 := kc hR.out.below (hc 0 _ rfl)
        have k1 := kc hR.out.below (hc 1 _ rfl)
        have k2 := kc hR.out.below (hc 2 _ rfl)
        have k3 := kc hR.out.below (hc 3 _ rfl)
        have k4 := kc hR.out.below (hc 4 _ rfl)
        have k5 := kc hR.out.below (hc 5 _ rfl)
        simp only [Nat.add_zero] at k0
        have hox := hid (Hok.out.jobs x (List.mem_of_getElem? hx))
        have Hx := hid hx
        have hbl := World.block_lt_of_cell? wr _ k0
        dsimp only at hbl
        have hlt1 := hR.out.lt
        have hlen : Hid (((([rowA s] ++ s.msgs.map rowG) ++ s.insts.map rowI) ++ (s.jobs.take i).map rowJ).length + 1 ≤ 4194304) := by show _ ≤ _; have := Hmany.out; simp; omega
        obtain ⟨al3, nl3, cl3, rfl⟩ := own_slice' hR.out.own
        clear hcell hx hc hcl
        go_wp2_with fail
        have J0 := hid (hR.out.grow ((Below.refl _ wr).alloc (Nat.le_refl _) (.cells #[U x.key, U x.token, .string x.type, I x.retries, .string x.worker, I x.till] 107)))
        have X0 := hid (alloc_new wr (.cells #[U x.key, U x.token, .string x.type, I x.retries, .string x.worker, I x.till] 107))
        have hzz : wr.heap.size < (wr.alloc (.cells #[U x.key, U x.token, .string x.type, I x.retries, .string x.worker, I x.till] 107)).heap.size := by simp
        generalize wr.alloc (.cells #[U x.key, U x.token, .string x.type, I x.retries, .string x.worker, I x.till] 107) = v0 at J0 X0 hzz ⊢
        clear k0 k1 k2 k3 k4 k5
        have k0 := cell_of X0.out 0
        have k1 := cell_of X0.out 1
        have k2 := cell_of X0.out 2
        have k3 := cell_of X0.out 3
        have k4 := cell_of X0.out 4
        have k5 := cell_of X0.out 5
        have z0 := uvS_le hox.out.token
        have z1 := txS_le hox.out.type
        have z2 := inS_le hox.out.retries
        have z3 := txS_le hox.out.worker
        have z4 := inS_le hox.out.till
        have zk := bigS_le x.key 8
        refine wp_par (fun _ => False) (fun _ => True) (List.replicate 26 false) _ [.fix ?_, .fix ?_, .fix ?_, .fix ?_, .fix ?_, .fix ?_, .fix ?_, .fix ?_, .fix ?_, .fix ?_, .fix ?_, .fix ?_, .fix ?_, .fix ?_, .fix ?_, .fix ?_, .fix ?_, .fix ?_, .fix ?_, .fix ?_, .fix ?_, .fix ?_, .fix ?_, .fix ?_, .fix ?_, .new (rowF 2 ?_ ?_)] (by kernel_rfl) (by kernel_rfl) (by simp only [List.length_replicate, List.drop_succ_cons, List.drop_zero, List.drop_nil]; with_reducible rfl) rfl (fun _ _ _ _ _ => ⟨fun h => h, fun h => h⟩) (fun _ _ h _ => h) trivial ?_
        rotate_left 27
        iterate 3
         first
          | (refine par_skip (a' := ?_) (by rfl) (by rfl) ?_ ?_ ?_; rotate_left 1; with_reducible rfl; (simp only [lays]; with_reducible rfl))
          | (refine par_run (a' := ?_) (by rfl) (by rfl) (fun w' hb hn => ?_) ?_ ?_; rotate_left 1; (have hc := hb.cells; go_simp; (try simp (disch := omega) only [nrm, toNatUp, iteOmega]); first | with_reducible rfl | (go_simp; with_reducible rfl)); (simp only [lays]; with_reducible rfl))
        refine par_call (a' := ?_) (f := ?_) (args := ?_) (by rfl) (by rfl) (fun w' => ?_) (fun w' hb hn => ?_) ?_ ?_; rotate_left 3; (go_simp; constructor <;> with_reducible rfl); (exact rbig_any x.key 8 hox.out.key (by decide) w'); (simp only [lays]; with_reducible rfl)
        iterate 3
         first
          | (refine par_skip (a' := ?_) (by rfl) (by rfl) ?_ ?_ ?_; rotate_left 1; with_reducible rfl; (simp only [lays]; with_reducible rfl))
          | (refine par_run (a' := ?_) (by rfl) (by rfl) (fun w' hb hn => ?_) ?_ ?_; rotate_left 1; (have hc := hb.cells; go_simp; (try simp (disch := omega) only [nrm, toNatUp, iteOmega]); first | with_reducible rfl | (go_simp; with_reducible rfl)); (simp only [lays]; with_reducible rfl))
        refine par_call (a' := ?_) (f := ?_) (args := ?_) (by rfl) (by rfl) (fun w' => ?_) (fun w' hb hn => ?_) ?_ ?_; rotate_left 3; (go_simp; constructor <;> with_reducible rfl); (exact r14u_any x.token hox.out.token w'); (simp only [lays]; with_reducible rfl)
        iterate 2
         first
          | (refine par_skip (a' := ?_) (by rfl) (by rfl) ?_ ?_ ?_; rotate_left 1; with_reducible rfl; (simp only [lays]; with_reducible rfl))
          | (refine par_run (a' := ?_) (by rfl) (by rfl) (fun w' hb hn => ?_) ?_ ?_; rotate_left 1; (have hc := hb.cells; go_simp; (try simp (disch := omega) only [nrm, toNatUp, iteOmega]); first | with_reducible rfl | (go_simp; with_reducible rfl)); (simp only [lays]; with_reducible rfl))
        refine par_call (a' := ?_) (f := ?_) (args := ?_) (by rfl) (by rfl) (fun w' => ?_) (fun w' hb hn => ?_) ?_ ?_; rotate_left 3; (go_simp; constructor <;> with_reducible rfl); (exact r14t_any x.type (Nat.le_trans hox.out.type (by decide)) w'); (simp only [lays]; with_reducible rfl)
        iterate 3
         first
          | (refine par_skip (a' := ?_) (by rfl) (by rfl) ?_ ?_ ?_; rotate_left 1; with_reducible rfl; (simp only [lays]; with_reducible rfl))
          | (refine par_run (a' := ?_) (by rfl) (by rfl) (fun w' hb hn => ?_) ?_ ?_; rotate_left 1; (have hc := hb.cells; go_simp; (try simp (disch := omega) only [nrm, toNatUp, iteOmega]); first | with_reducible rfl | (go_simp; with_reducible rfl)); (simp only [lays]; with_reducible rfl))
        refine par_call (a' := ?_) (f := ?_) (args := ?_) (by rfl) (by rfl) (fun w' => ?_) (fun w' hb hn => ?_) ?_ ?_; rotate_left 3; (go_simp; constructor <;> with_reducible rfl); (exact rn_in x.retries hox.out.retries.1 hox.out.retries.2 w'); (simp only [lays]; with_reducible rfl)
        iterate 3
         first
          | (refine par_skip (a' := ?_) (by rfl) (by rfl) ?_ ?_ ?_; rotate_left 1; with_reducible rfl; (simp only [lays]; with_reducible rfl))
          | (refine par_run (a' := ?_) (by rfl) (by rfl) (fun w' hb hn => ?_) ?_ ?_; rotate_left 1; (have hc := hb.cells; go_simp; (try simp (disch := omega) only [nrm, toNatUp, iteOmega]); first | with_reducible rfl | (go_simp; with_reducible rfl)); (simp only [lays]; with_reducible rfl))
        refine par_call (a' := ?_) (f := ?_) (args := ?_) (by rfl) (by rfl) (fun w' => ?_) (fun w' hb hn => ?_) ?_ ?_; rotate_left 3; (go_simp; constructor <;> with_reducible rfl); (exact r14t_any x.worker (Nat.le_trans hox.out.worker (by decide)) w'); (simp only [lays]; with_reducible rfl)
        iterate 3
         first
          | (refine par_skip (a' := ?_) (by rfl) (by rfl) ?_ ?_ ?_; rotate_left 1; with_reducible rfl; (simp only [lays]; with_reducible rfl))
          | (refine par_run (a' := ?_) (by rfl) (by rfl) (fun w' hb hn => ?_) ?_ ?_; rotate_left 1; (have hc := hb.cells; go_simp; (try simp (disch := omega) only [nrm, toNatUp, iteOmega]); first | with_reducible rfl | (go_simp; with_reducible rfl)); (simp only [lays]; with_reducible rfl))
        refine par_call (a' := ?_) (f := ?_) (args := ?_) (by rfl) (by rfl) (fun w' => ?_) (fun w' hb hn => ?_) ?_ ?_; rotate_left 3; (go_simp; constructor <;> with_reducible rfl); (exact rn_in x.till hox.out.till.1 hox.out.till.2 w'); (simp only [lays]; with_reducible rfl)
        iterate 2
         first
          | (refine par_skip (a' := ?_) (by rfl) (by rfl) ?_ ?_ ?_; rotate_left 1; with_reducible rfl; (simp only [lays]; with_reducible rfl))
          | (refine par_run (a' := ?_) (by rfl) (by rfl) (fun w' hb hn => ?_) ?_ ?_; rotate_left 1; (have hc := hb.cells; go_simp; (try simp (disch := omega) only [nrm, toNatUp, iteOmega]); first | with_reducible rfl | (go_simp; with_reducible rfl)); (simp only [lays]; with_reducible rfl))
        refine par_row (a' := ?a416k25) (m := ?m416k25) (T := ?T416k25) (cs := ?c416k25) (r := ?r416k25) (by rfl) (by rfl) (fun w' hb hn => ?h416k25) (fun w' => ?e416k25) ?n416k25 ?v416k25 ?l416k25 ?x416k25 (fun u => ?p416k25) (fun u => ?g416k25)
        case h416k25 => (have hc := hb.cells; go_simp; (try simp (disch := omega) only [nrm, toNatUp, iteOmega]); with_reducible rfl)
        case e416k25 => with_reducible rfl
        case n416k25 => with_reducible rfl
        case v416k25 => with_reducible rfl
        case l416k25 => simp only [List.length_cons, List.length_nil]
        case x416k25 => (unfold maxLen; omega)
        case p416k25 => (simp only [lays]; with_reducible rfl)
        refine par_end (fun w9 hb9 hf9 _ => ?_)
        replace hb9 := hb9.grow
        try refine wpList_none ?_
        have J9 := hid (J0.out.grow hb9)
        simp only [List.forall_mem_cons] at hf9
        obtain ⟨gF, -⟩ := hf9
        have GF := hid gF
        obtain ⟨aF, cF, rfl, -⟩ := gF
        have hz9 := J9.out.lt
        clear hb9 k0 k1 k2 k3 k4 k5
        go_wp2_with (at_builtin; refine app_flat 41 70 Tryz.underlying41 info_rrow rfl (by decide) J9.out.own hz9 GF.out (by have := hlen.out; unfold maxLen; omega) (by have := hlen.out; omega) (rowsC_one [((⟨#[106]⟩ : ByteArray) ++ bigS x.key 8, uvS x.token ++ txS x.type ++ inS x.retries ++ txS x.worker ++ inS x.till)]) rfl rfl rfl rfl ?_; intro v' w10 hown10 hb10)
        have J10 : Hid (AI w CS ((([rowA s] ++ s.msgs.map rowG) ++ s.insts.map rowI) ++ (s.jobs.take (i + 1)).map rowJ) v' w10) := AI.snoc Hx.out (J9.out.step (r := rowJ x) (by have h := hown10; exact h) hb10)
        clear hown10 hb10 z0 z1 z2 z3 z4 zk
        go_wp2
        go_roundw
        case rel => exact ⟨i + 1, by omega, by go_num, J10.out⟩
        case measure => simp [intOf]; omega
      ·
       have hin : i = s.jobs.length := by omega
       subst hin
       have I3 : Hid (∀ v, AI w CS ((([rowA s] ++ s.msgs.map rowG) ++ s.insts.map rowI) ++ (s.jobs.take s.jobs.length).map rowJ) v wr → AI w CS ((([rowA s] ++ s.msgs.map rowG) ++ s.insts.map rowI) ++ s.jobs.map rowJ) v wr) := by intro v hv; rwa [List.take_length] at hv
       have I3 := hid (I3.out _ hR.out)
       clear hR hi hlt
       go_wp2_with fail
       clear kk
       obtain ⟨wo, rfl⟩ : ∃ wo : World, wo = wr := ⟨_, rfl⟩
       go_loopw [3, 12] (fun vl vi wr => ∃ i : Nat, i ≤ s.kept.length ∧ vi = .int .i64 i ∧ Hid (AI w CS (((([rowA s] ++ s.msgs.map rowG) ++ s.insts.map rowI) ++ s.jobs.map rowJ) ++ (s.kept.take i).map rowK) vl wr)) (fun _ vi _ => s.kept.length - (intOf vi).toNat)
       case atStart => exact ⟨0, Nat.zero_le _, rfl, (show AI w CS (((([rowA s] ++ s.msgs.map rowG) ++ s.insts.map rowI) ++ s.jobs.map rowJ) ++ []) _ _ by rw [List.append_nil]; exact I3.out)⟩
       case round =>
        obtain ⟨i, hi, rfl, hR⟩ := hrel
        have kk : wr.cell? ⟨w.heap.size, 9, none⟩ = some (.slice ak s.kept.length ck) := by rw [cell_of hR.out.box 9, HCS.out]; rfl
        by_cases hlt : i < s.kept.length
        ·
         as_aux_lemma =>
          obtain ⟨x, hx⟩ : ∃ x, s.kept[i]? = some x := ⟨_, List.getElem?_eq_getElem hlt⟩
          obtain ⟨a', cap', hv, -, -, hcell⟩ := H.out.kept
          cases hv
          obtain ⟨b, off, cs, rfl, hcl, hat, hc⟩ := hcell i x hx
          obtain rfl := hat
          have k0 := kc hR.out.below (hc 0 _ rfl)
          have k1 := kc hR.out.below (hc 1 _ rfl)
          have k2 := kc hR.out.below (hc 2 _ rfl)
          simp only [Nat.add_zero] at k0
          have hox := hid (Hok.out.kept x (List.mem_of_getElem? hx))
          have Hx := hid hx
          have hbl := World.block_lt_of_cell? wr _ k0
          dsimp only at hbl
          have hlt1 := hR.out.lt
          have hlen : Hid ((((([rowA s] ++ s.msgs.map rowG) ++ s.insts.map rowI) ++ s.jobs.map rowJ) ++ (s.kept.take i).map rowK).length + 1 ≤ 4194304) := by show _ ≤ _; have := Hmany.out; simp; omega
          obtain ⟨al3, nl3, cl3, rfl⟩ := own_slice' hR.out.own
          clear hcell hx hc hcl
          go_wp2_with fail
          have J0 := hid (hR.out.grow ((Below.refl _ wr).alloc (Nat.le_refl _) (.cells #[U x.token, U x.msg, I x.node] 113)))
          have X0 := hid (alloc_new wr (.cells #[U x.token, U x.msg, I x.node] 113))
          have hzz : wr.heap.size < (wr.alloc (.cells #[U x.token, U x.msg, I x.node] 113)).heap.size := by simp
          generalize wr.alloc (.cells #[U x.token, U x.msg, I x.node] 113) = v0 at J0 X0 hzz ⊢
          clear k0 k1 k2
          have k0 := cell_of X0.out 0
          have k1 := cell_of X0.out 1
          have k2 := cell_of X0.out 2
          have z0 := uvS_le hox.out.msg
          have zk := bigS_le x.token 8
          have zn := bigS_le (Go.Proofs.YthikijlbclckdaaGreat.u64 x.node) 2
          have hw := u64_wrap x.node
          refine wp_par (fun _ => False) (fun _ => True) (List.replicate 15 false) _ [.fix ?_, .fix ?_, .fix ?_, .fix ?_, .fix ?_, .fix ?_, .fix ?_, .fix ?_, .fix ?_, .fix ?_, .fix ?_, .fix ?_, .fix ?_, .fix ?_, .new (rowF 2 ?_ ?_)] (by kernel_rfl) (by kernel_rfl) (by simp only [List.length_replicate, List.drop_succ_cons, List.drop_zero, List.drop_nil]; with_reducible rfl) rfl (fun _ _ _ _ _ => ⟨fun h => h, fun h => h⟩) (fun _ _ h _ => h) trivial ?_
          rotate_left 16
          iterate 3
           first
            | (refine par_skip (a' := ?_) (by rfl) (by rfl) ?_ ?_ ?_; rotate_left 1; with_reducible rfl; (simp only [lays]; with_reducible rfl))
            | (refine par_run (a' := ?_) (by rfl) (by rfl) (fun w' hb hn => ?_) ?_ ?_; rotate_left 1; (have hc := hb.cells; go_simp; (try simp (disch := omega) only [nrm, toNatUp, iteOmega]); first | with_reducible rfl | (go_simp; with_reducible rfl)); (simp only [lays]; with_reducible rfl))
          refine par_call (a' := ?_) (f := ?_) (args := ?_) (by rfl) (by rfl) (fun w' => ?_) (fun w' hb hn => ?_) ?_ ?_; rotate_left 3; (go_simp; constructor <;> with_reducible rfl); (exact rbig_any x.token 8 hox.out.token (by decide) w'); (simp only [lays]; with_reducible rfl)
          iterate 4
           first
            | (refine par_skip (a' := ?_) (by rfl) (by rfl) ?_ ?_ ?_; rotate_left 1; with_reducible rfl; (simp only [lays]; with_reducible rfl))
            | (refine par_run (a' := ?_) (by rfl) (by rfl) (fun w' hb hn => ?_) ?_ ?_; rotate_left 1; (have hc := hb.cells; go_simp; (try simp (disch := omega) only [nrm, toNatUp, iteOmega]); first | with_reducible rfl | (go_simp; with_reducible rfl)); (simp only [lays]; with_reducible rfl))
          refine par_call (a' := ?_) (f := ?_) (args := ?_) (by rfl) (by rfl) (fun w' => ?_) (fun w' hb hn => ?_) ?_ ?_; rotate_left 3; (go_simp; constructor <;> with_reducible rfl); (exact rbig_any (Go.Proofs.YthikijlbclckdaaGreat.u64 x.node) 2 (u64_lt _) (by decide) w'); (simp only [lays]; with_reducible rfl)
          iterate 3
           first
            | (refine par_skip (a' := ?_) (by rfl) (by rfl) ?_ ?_ ?_; rotate_left 1; with_reducible rfl; (simp only [lays]; with_reducible rfl))
            | (refine par_run (a' := ?_) (by rfl) (by rfl) (fun w' hb hn => ?_) ?_ ?_; rotate_left 1; (have hc := hb.cells; go_simp; (try simp (disch := omega) only [nrm, toNatUp, iteOmega]); first | with_reducible rfl | (go_simp; with_reducible rfl)); (simp only [lays]; with_reducible rfl))
          refine par_call (a' := ?_) (f := ?_) (args := ?_) (by rfl) (by rfl) (fun w' => ?_) (fun w' hb hn => ?_) ?_ ?_; rotate_left 3; (go_simp; constructor <;> with_reducible rfl); (exact r14u_any x.msg hox.out.msg w'); (simp only [lays]; with_reducible rfl)
          iterate 1
           first
            | (refine par_skip (a' := ?_) (by rfl) (by rfl) ?_ ?_ ?_; rotate_left 1; with_reducible rfl; (simp only [lays]; with_reducible rfl))
            | (refine par_run (a' := ?_) (by rfl) (by rfl) (fun w' hb hn => ?_) ?_ ?_; rotate_left 1; (have hc := hb.cells; go_simp; (try simp (disch := omega) only [nrm, toNatUp, iteOmega]); first | with_reducible rfl | (go_simp; with_reducible rfl)); (simp only [lays]; with_reducible rfl))
          refine par_row (a' := ?a507k14) (m := ?m507k14) (T := ?T507k14) (cs := ?c507k14) (r := ?r507k14) (by rfl) (by rfl) (fun w' hb hn => ?h507k14) (fun w' => ?e507k14) ?n507k14 ?v507k14 ?l507k14 ?x507k14 (fun u => ?p507k14) (fun u => ?g507k14)
          case h507k14 => (have hc := hb.cells; go_simp; (try simp (disch := omega) only [nrm, toNatUp, iteOmega]); with_reducible rfl)
          case e507k14 => with_reducible rfl
          case n507k14 => with_reducible rfl
          case v507k14 => with_reducible rfl
          case l507k14 => simp only [List.length_cons, List.length_nil]
          case x507k14 => (unfold maxLen; omega)
          case p507k14 => (simp only [lays]; with_reducible rfl)
          refine par_end (fun w9 hb9 hf9 _ => ?_)
          replace hb9 := hb9.grow
          try refine wpList_none ?_
          clear hw
          have J9 := hid (J0.out.grow hb9)
          simp only [List.forall_mem_cons] at hf9
          obtain ⟨gF, -⟩ := hf9
          have GF := hid gF
          obtain ⟨aF, cF, rfl, -⟩ := gF
          have hz9 := J9.out.lt
          clear hb9 k0 k1 k2
          go_wp2_with (at_builtin; refine app_flat 41 70 Tryz.underlying41 info_rrow rfl (by decide) J9.out.own hz9 GF.out (by have := hlen.out; unfold maxLen; omega) (by have := hlen.out; omega) (rowsC_one [((⟨#[107]⟩ : ByteArray) ++ bigS x.token 8 ++ bigS (Go.Proofs.YthikijlbclckdaaGreat.u64 x.node) 2, uvS x.msg)]) rfl rfl rfl rfl ?_; intro v' w10 hown10 hb10)
          have J10 : Hid (AI w CS (((([rowA s] ++ s.msgs.map rowG) ++ s.insts.map rowI) ++ s.jobs.map rowJ) ++ (s.kept.take (i + 1)).map rowK) v' w10) := AI.snoc Hx.out (J9.out.step (r := rowK x) (by have h := hown10; exact h) hb10)
          clear hown10 hb10 z0 zk zn
          go_wp2
          go_roundw
          case rel => exact ⟨i + 1, by omega, by go_num, J10.out⟩
          case measure => simp [intOf]; omega
        ·
         have hin : i = s.kept.length := by omega
         subst hin
         have I4 : Hid (∀ v, AI w CS (((([rowA s] ++ s.msgs.map rowG) ++ s.insts.map rowI) ++ s.jobs.map rowJ) ++ (s.kept.take s.kept.length).map rowK) v wr → AI w CS (((([rowA s] ++ s.msgs.map rowG) ++ s.insts.map rowI) ++ s.jobs.map rowJ) ++ s.kept.map rowK) v wr) := by intro v hv; rwa [List.take_length] at hv
         have I4 := hid (I4.out _ hR.out)
         clear hR hi hlt
         go_wp2_with fail
         clear kk
         obtain ⟨wo, rfl⟩ : ∃ wo : World, wo = wr := ⟨_, rfl⟩
         go_loopw [3, 14] (fun vl vi wr => ∃ i : Nat, i ≤ s.listed.length ∧ vi = .int .i64 i ∧ Hid (AI w CS ((((([rowA s] ++ s.msgs.map rowG) ++ s.insts.map rowI) ++ s.jobs.map rowJ) ++ s.kept.map rowK) ++ (s.listed.take i).map rowL) vl wr)) (fun _ vi _ => s.listed.length - (intOf vi).toNat)
         case atStart => exact ⟨0, Nat.zero_le _, rfl, (show AI w CS ((((([rowA s] ++ s.msgs.map rowG) ++ s.insts.map rowI) ++ s.jobs.map rowJ) ++ s.kept.map rowK) ++ []) _ _ by rw [List.append_nil]; exact I4.out)⟩
         case round =>
          obtain ⟨i, hi, rfl, hR⟩ := hrel
          have kk : wr.cell? ⟨w.heap.size, 10, none⟩ = some (.slice al s.listed.length cl) := by rw [cell_of hR.out.box 10, HCS.out]; rfl
          by_cases hlt : i < s.listed.length
          ·
           as_aux_lemma =>
            obtain ⟨x, hx⟩ : ∃ x, s.listed[i]? = some x := ⟨_, List.getElem?_eq_getElem hlt⟩
            obtain ⟨a', cap', hv, -, -, hcell⟩ := H.out.listed
            cases hv
            obtain ⟨b, off, cs, rfl, hcl, hat, hc⟩ := hcell i x hx
            obtain ⟨v3, rfl, hv3⟩ := hat
            have HV3 := hid hv3
            obtain ⟨a3, c30, rfl, -⟩ := hv3
            have k0 := kc hR.out.below (hc 0 _ rfl)
            have k1 := kc hR.out.below (hc 1 _ rfl)
            have k2 := kc hR.out.below (hc 2 _ rfl)
            have k3 := kc hR.out.below (hc 3 _ rfl)
            have k4 := kc hR.out.below (hc 4 _ rfl)
            have k5 := kc hR.out.below (hc 5 _ rfl)
            have k6 := kc hR.out.below (hc 6 _ rfl)
            simp only [Nat.add_zero] at k0
            have hox := hid (Hok.out.listed x (List.mem_of_getElem? hx))
            have Hx := hid hx
            have hbl := World.block_lt_of_cell? wr _ k0
            dsimp only at hbl
            have hlt1 := hR.out.lt
            have hlen : Hid (((((([rowA s] ++ s.msgs.map rowG) ++ s.insts.map rowI) ++ s.jobs.map rowJ) ++ s.kept.map rowK) ++ (s.listed.take i).map rowL).length + 1 ≤ 4194304) := by show _ ≤ _; have := Hmany.out; simp; omega
            obtain ⟨al3, nl3, cl3, rfl⟩ := own_slice' hR.out.own
            clear hcell hx hc hcl
            go_wp2_with fail
            have J0 := hid (hR.out.grow ((Below.refl _ wr).alloc (Nat.le_refl _) (.cells #[U x.token, U x.inst, I x.node, .string x.name, .string x.key, U x.msg, .slice a3 x.vars.length c30] 115)))
            have X0 := hid (alloc_new wr (.cells #[U x.token, U x.inst, I x.node, .string x.name, .string x.key, U x.msg, .slice a3 x.vars.length c30] 115))
            have hzz : wr.heap.size < (wr.alloc (.cells #[U x.token, U x.inst, I x.node, .string x.name, .string x.key, U x.msg, .slice a3 x.vars.length c30] 115)).heap.size := by simp
            generalize wr.alloc (.cells #[U x.token, U x.inst, I x.node, .string x.name, .string x.key, U x.msg, .slice a3 x.vars.length c30] 115) = v0 at J0 X0 hzz ⊢
            clear k0 k1 k2 k3 k4 k5 k6
            have k0 := cell_of X0.out 0
            have k1 := cell_of X0.out 1
            have k2 := cell_of X0.out 2
            have k3 := cell_of X0.out 3
            have k4 := cell_of X0.out 4
            have k5 := cell_of X0.out 5
            have k6 := cell_of X0.out 6
            have z0 := uvS_le hox.out.inst
            have z1 := txS_le hox.out.name
            have z2 := txS_le hox.out.key
            have z3 := uvS_le hox.out.msg
            have z4 := varsS_le hox.out.vars
            have zk := bigS_le x.token 8
            have zn := bigS_le (Go.Proofs.YthikijlbclckdaaGreat.u64 x.node) 2
            have hw := u64_wrap x.node
            refine wp_par (fun _ => False) (fun _ => True) (List.replicate 31 false) _ [.fix ?_, .fix ?_, .fix ?_, .fix ?_, .fix ?_, .fix ?_, .fix ?_, .fix ?_, .fix ?_, .fix ?_, .fix ?_, .fix ?_, .fix ?_, .fix ?_, .fix ?_, .fix ?_, .fix ?_, .fix ?_, .fix ?_, .fix ?_, .fix ?_, .fix ?_, .fix ?_, .fix ?_, .fix ?_, .fix ?_, .fix ?_, .fix ?_, .fix ?_, .fix ?_, .new (rowF 2 ?_ ?_)] (by kernel_rfl) (by kernel_rfl) (by simp only [List.length_replicate, List.drop_succ_cons, List.drop_zero, List.drop_nil]; with_reducible rfl) rfl (fun _ _ _ _ _ => ⟨fun h => h, fun h => h⟩) (fun _ _ h _ => h) trivial ?_
            rotate_left 32
            iterate 3
             first
              | (refine par_skip (a' := ?_) (by rfl) (by rfl) ?_ ?_ ?_; rotate_left 1; with_reducible rfl; (simp only [lays]; with_reducible rfl))
              | (refine par_run (a' := ?_) (by rfl) (by rfl) (fun w' hb hn => ?_) ?_ ?_; rotate_left 1; (have hc := hb.cells; go_simp; (try simp (disch := omega) only [nrm, toNatUp, iteOmega]); first | with_reducible rfl | (go_simp; with_reducible rfl)); (simp only [lays]; with_reducible rfl))
            refine par_call (a' := ?_) (f := ?_) (args := ?_) (by rfl) (by rfl) (fun w' => ?_) (fun w' hb hn => ?_) ?_ ?_; rotate_left 3; (go_simp; constructor <;> with_reducible rfl); (exact rbig_any x.token 8 hox.out.token (by decide) w'); (simp only [lays]; with_reducible rfl)
            iterate 4
             first
              | (refine par_skip (a' := ?_) (by rfl) (by rfl) ?_ ?_ ?_; rotate_left 1; with_reducible rfl; (simp only [lays]; with_reducible rfl))
              | (refine par_run (a' := ?_) (by rfl) (by rfl) (fun w' hb hn => ?_) ?_ ?_; rotate_left 1; (have hc := hb.cells; go_simp; (try simp (disch := omega) only [nrm, toNatUp, iteOmega]); first | with_reducible rfl | (go_simp; with_reducible rfl)); (simp only [lays]; with_reducible rfl))
            refine par_call (a' := ?_) (f := ?_) (args := ?_) (by rfl) (by rfl) (fun w' => ?_) (fun w' hb hn => ?_) ?_ ?_; rotate_left 3; (go_simp; constructor <;> with_reducible rfl); (exact rbig_any (Go.Proofs.YthikijlbclckdaaGreat.u64 x.node) 2 (u64_lt _) (by decide) w'); (simp only [lays]; with_reducible rfl)
            iterate 3
             first
              | (refine par_skip (a' := ?_) (by rfl) (by rfl) ?_ ?_ ?_; rotate_left 1; with_reducible rfl; (simp only [lays]; with_reducible rfl))
              | (refine par_run (a' := ?_) (by rfl) (by rfl) (fun w' hb hn => ?_) ?_ ?_; rotate_left 1; (have hc := hb.cells; go_simp; (try simp (disch := omega) only [nrm, toNatUp, iteOmega]); first | with_reducible rfl | (go_simp; with_reducible rfl)); (simp only [lays]; with_reducible rfl))
            refine par_call (a' := ?_) (f := ?_) (args := ?_) (by rfl) (by rfl) (fun w' => ?_) (fun w' hb hn => ?_) ?_ ?_; rotate_left 3; (go_simp; constructor <;> with_reducible rfl); (exact r14u_any x.inst hox.out.inst w'); (simp only [lays]; with_reducible rfl)
            iterate 2
             first
              | (refine par_skip (a' := ?_) (by rfl) (by rfl) ?_ ?_ ?_; rotate_left 1; with_reducible rfl; (simp only [lays]; with_reducible rfl))
              | (refine par_run (a' := ?_) (by rfl) (by rfl) (fun w' hb hn => ?_) ?_ ?_; rotate_left 1; (have hc := hb.cells; go_simp; (try simp (disch := omega) only [nrm, toNatUp, iteOmega]); first | with_reducible rfl | (go_simp; with_reducible rfl)); (simp only [lays]; with_reducible rfl))
            refine par_call (a' := ?_) (f := ?_) (args := ?_) (by rfl) (by rfl) (fun w' => ?_) (fun w' hb hn => ?_) ?_ ?_; rotate_left 3; (go_simp; constructor <;> with_reducible rfl); (exact r14t_any x.name (Nat.le_trans hox.out.name (by decide)) w'); (simp only [lays]; with_reducible rfl)
            iterate 3
             first
              | (refine par_skip (a' := ?_) (by rfl) (by rfl) ?_ ?_ ?_; rotate_left 1; with_reducible rfl; (simp only [lays]; with_reducible rfl))
              | (refine par_run (a' := ?_) (by rfl) (by rfl) (fun w' hb hn => ?_) ?_ ?_; rotate_left 1; (have hc := hb.cells; go_simp; (try simp (disch := omega) only [nrm, toNatUp, iteOmega]); first | with_reducible rfl | (go_simp; with_reducible rfl)); (simp only [lays]; with_reducible rfl))
            refine par_call (a' := ?_) (f := ?_) (args := ?_) (by rfl) (by rfl) (fun w' => ?_) (fun w' hb hn => ?_) ?_ ?_; rotate_left 3; (go_simp; constructor <;> with_reducible rfl); (exact r14t_any x.key (Nat.le_trans hox.out.key (by decide)) w'); (simp only [lays]; with_reducible rfl)
            iterate 3
             first
              | (refine par_skip (a' := ?_) (by rfl) (by rfl) ?_ ?_ ?_; rotate_left 1; with_reducible rfl; (simp only [lays]; with_reducible rfl))
              | (refine par_run (a' := ?_) (by rfl) (by rfl) (fun w' hb hn => ?_) ?_ ?_; rotate_left 1; (have hc := hb.cells; go_simp; (try simp (disch := omega) only [nrm, toNatUp, iteOmega]); first | with_reducible rfl | (go_simp; with_reducible rfl)); (simp only [lays]; with_reducible rfl))
            refine par_call (a' := ?_) (f := ?_) (args := ?_) (by rfl) (by rfl) (fun w' => ?_) (fun w' hb hn => ?_) ?_ ?_; rotate_left 3; (go_simp; constructor <;> with_reducible rfl); (exact r14u_any x.msg hox.out.msg w'); (simp only [lays]; with_reducible rfl)
            iterate 3
             first
              | (refine par_skip (a' := ?_) (by rfl) (by rfl) ?_ ?_ ?_; rotate_left 1; with_reducible rfl; (simp only [lays]; with_reducible rfl))
              | (refine par_run (a' := ?_) (by rfl) (by rfl) (fun w' hb hn => ?_) ?_ ?_; rotate_left 1; (have hc := hb.cells; go_simp; (try simp (disch := omega) only [nrm, toNatUp, iteOmega]); first | with_reducible rfl | (go_simp; with_reducible rfl)); (simp only [lays]; with_reducible rfl))
            refine par_call (a' := ?_) (f := ?_) (args := ?_) (by rfl) (by rfl) (fun w' => ?_) (fun w' hb hn => ?_) ?_ ?_; rotate_left 3; (go_simp; constructor <;> with_reducible rfl); (exact rvarsBytes_any _ x.vars w' hox.out.vars (HV3.out.below (J0.out.below.trans (hb.grow.mono J0.out.below.size)))); (simp only [lays]; with_reducible rfl)
            iterate 2
             first
              | (refine par_skip (a' := ?_) (by rfl) (by rfl) ?_ ?_ ?_; rotate_left 1; with_reducible rfl; (simp only [lays]; with_reducible rfl))
              | (refine par_run (a' := ?_) (by rfl) (by rfl) (fun w' hb hn => ?_) ?_ ?_; rotate_left 1; (have hc := hb.cells; go_simp; (try simp (disch := omega) only [nrm, toNatUp, iteOmega]); first | with_reducible rfl | (go_simp; with_reducible rfl)); (simp only [lays]; with_reducible rfl))
            refine par_row (a' := ?a633k30) (m := ?m633k30) (T := ?T633k30) (cs := ?c633k30) (r := ?r633k30) (by rfl) (by rfl) (fun w' hb hn => ?h633k30) (fun w' => ?e633k30) ?n633k30 ?v633k30 ?l633k30 ?x633k30 (fun u => ?p633k30) (fun u => ?g633k30)
            case h633k30 => (have hc := hb.cells; go_simp; (try simp (disch := omega) only [nrm, toNatUp, iteOmega]); with_reducible rfl)
            case e633k30 => with_reducible rfl
            case n633k30 => with_reducible rfl
            case v633k30 => with_reducible rfl
            case l633k30 => simp only [List.length_cons, List.length_nil]
            case x633k30 => (unfold maxLen; omega)
            case p633k30 => (simp only [lays]; with_reducible rfl)
            refine par_end (fun w9 hb9 hf9 _ => ?_)
            replace hb9 := hb9.grow
            try refine wpList_none ?_
            clear hw
            have J9 := hid (J0.out.grow hb9)
            simp only [List.forall_mem_cons] at hf9
            obtain ⟨gF, -⟩ := hf9
            have GF := hid gF
            obtain ⟨aF, cF, rfl, -⟩ := gF
            have hz9 := J9.out.lt
            clear hb9 k0 k1 k2 k3 k4 k5 k6
            go_wp2_with (at_builtin; refine app_flat 41 70 Tryz.underlying41 info_rrow rfl (by decide) J9.out.own hz9 GF.out (by have := hlen.out; unfold maxLen; omega) (by have := hlen.out; omega) (rowsC_one [((⟨#[108]⟩ : ByteArray) ++ bigS x.token 8 ++ bigS (Go.Proofs.YthikijlbclckdaaGreat.u64 x.node) 2, uvS x.inst ++ txS x.name ++ txS x.key ++ uvS x.msg ++ varsS x.vars)]) rfl rfl rfl rfl ?_; intro v' w10 hown10 hb10)
            have J10 : Hid (AI w CS ((((([rowA s] ++ s.msgs.map rowG) ++ s.insts.map rowI) ++ s.jobs.map rowJ) ++ s.kept.map rowK) ++ (s.listed.take (i + 1)).map rowL) v' w10) := AI.snoc Hx.out (J9.out.step (r := rowL x) (by have h := hown10; exact h) hb10)
            clear hown10 hb10 z0 z1 z2 z3 z4 zk zn
            go_wp2
            go_roundw
            case rel => exact ⟨i + 1, by omega, by go_num, J10.out⟩
            case measure => simp [intOf]; omega
          ·
           have hin : i = s.listed.length := by omega
           subst hin
           have I5 : Hid (∀ v, AI w CS ((((([rowA s] ++ s.msgs.map rowG) ++ s.insts.map rowI) ++ s.jobs.map rowJ) ++ s.kept.map rowK) ++ (s.listed.take s.listed.length).map rowL) v wr → AI w CS ((((([rowA s] ++ s.msgs.map rowG) ++ s.insts.map rowI) ++ s.jobs.map rowJ) ++ s.kept.map rowK) ++ s.listed.map rowL) v wr) := by intro v hv; rwa [List.take_length] at hv
           have I5 := hid (I5.out _ hR.out)
           clear hR hi hlt
           go_wp2_with fail
           clear kk
           obtain ⟨wo, rfl⟩ : ∃ wo : World, wo = wr := ⟨_, rfl⟩
           go_loopw [3, 16] (fun vl vi wr => ∃ i : Nat, i ≤ s.procs.length ∧ vi = .int .i64 i ∧ Hid (AI w CS (((((([rowA s] ++ s.msgs.map rowG) ++ s.insts.map rowI) ++ s.jobs.map rowJ) ++ s.kept.map rowK) ++ s.listed.map rowL) ++ (s.procs.take i).map rowP) vl wr)) (fun _ vi _ => s.procs.length - (intOf vi).toNat)
           case atStart => exact ⟨0, Nat.zero_le _, rfl, (show AI w CS (((((([rowA s] ++ s.msgs.map rowG) ++ s.insts.map rowI) ++ s.jobs.map rowJ) ++ s.kept.map rowK) ++ s.listed.map rowL) ++ []) _ _ by rw [List.append_nil]; exact I5.out)⟩
           case round =>
            obtain ⟨i, hi, rfl, hR⟩ := hrel
            have kk : wr.cell? ⟨w.heap.size, 3, none⟩ = some (.slice ap s.procs.length cp) := by rw [cell_of hR.out.box 3, HCS.out]; rfl
            by_cases hlt : i < s.procs.length
            ·
             as_aux_lemma =>
              obtain ⟨x, hx⟩ : ∃ x, s.procs[i]? = some x := ⟨_, List.getElem?_eq_getElem hlt⟩
              obtain ⟨a', cap', hv, -, -, hcell⟩ := H.out.procs
              cases hv
              obtain ⟨b, off, cs, rfl, hcl, hat, hc⟩ := hcell i x hx
              obtain rfl := hat
              have k0 := kc hR.out.below (hc 0 _ rfl)
              have k1 := kc hR.out.below (hc 1 _ rfl)
              simp only [Nat.add_zero] at k0
              have hox := hid (Hok.out.procs x (List.mem_of_getElem? hx))
              have Hx := hid hx
              have hbl := World.block_lt_of_cell? wr _ k0
              dsimp only at hbl
              have hlt1 := hR.out.lt
              have hlen : Hid ((((((([rowA s] ++ s.msgs.map rowG) ++ s.insts.map rowI) ++ s.jobs.map rowJ) ++ s.kept.map rowK) ++ s.listed.map rowL) ++ (s.procs.take i).map rowP).length + 1 ≤ 4194304) := by show _ ≤ _; have := Hmany.out; simp; omega
              obtain ⟨al3, nl3, cl3, rfl⟩ := own_slice' hR.out.own
              clear hcell hx hc hcl
              go_wp2_with fail
              have J0 := hid hR.out
              have hlt2 : w.heap.size < wr.heap.size := hlt1
              have z0 := txS_le hox.out.bytes
              have zk : x.id.size ≤ 2097152 := hox.out.id
              refine wp_par (fun _ => False) (fun _ => True) (List.replicate 17 false) _ [.fix ?_, .fix ?_, .fix ?_, .fix ?_, .fix ?_, .fix ?_, .fix ?_, .fix ?_, .fix ?_, .fix ?_, .fix ?_, .fix ?_, .fix ?_, .fix ?_, .fix ?_, .fix ?_, .new (rowF 2 ?_ ?_)] (by kernel_rfl) (by kernel_rfl) (by simp only [List.length_replicate, List.drop_succ_cons, List.drop_zero, List.drop_nil]; with_reducible rfl) rfl (fun _ _ _ _ _ => ⟨fun h => h, fun h => h⟩) (fun _ _ h _ => h) trivial ?_
              rotate_left 18
              iterate 14
               first
                | (refine par_skip (a' := ?_) (by rfl) (by rfl) ?_ ?_ ?_; rotate_left 1; with_reducible rfl; (simp only [lays]; with_reducible rfl))
                | (refine par_run (a' := ?_) (by rfl) (by rfl) (fun w' hb hn => ?_) ?_ ?_; rotate_left 1; (have hc := hb.cells; go_simp; (try simp (disch := omega) only [nrm, toNatUp, iteOmega]); first | with_reducible rfl | (go_simp; with_reducible rfl)); (simp only [lays]; with_reducible rfl))
              refine par_call (a' := ?_) (f := ?_) (args := ?_) (by rfl) (by rfl) (fun w' => ?_) (fun w' hb hn => ?_) ?_ ?_; rotate_left 3; (go_simp; constructor <;> with_reducible rfl); (exact r14t_any x.bytes (Nat.le_trans hox.out.bytes (by decide)) w'); (simp only [lays]; with_reducible rfl)
              iterate 1
               first
                | (refine par_skip (a' := ?_) (by rfl) (by rfl) ?_ ?_ ?_; rotate_left 1; with_reducible rfl; (simp only [lays]; with_reducible rfl))
                | (refine par_run (a' := ?_) (by rfl) (by rfl) (fun w' hb hn => ?_) ?_ ?_; rotate_left 1; (have hc := hb.cells; go_simp; (try simp (disch := omega) only [nrm, toNatUp, iteOmega]); first | with_reducible rfl | (go_simp; with_reducible rfl)); (simp only [lays]; with_reducible rfl))
              refine par_row (a' := ?a706k16) (m := ?m706k16) (T := ?T706k16) (cs := ?c706k16) (r := ?r706k16) (by rfl) (by rfl) (fun w' hb hn => ?h706k16) (fun w' => ?e706k16) ?n706k16 ?v706k16 ?l706k16 ?x706k16 (fun u => ?p706k16) (fun u => ?g706k16)
              case h706k16 => (have hc := hb.cells; go_simp; (try simp (disch := omega) only [nrm, toNatUp, iteOmega]); with_reducible rfl)
              case e706k16 => with_reducible rfl
              case n706k16 => with_reducible rfl
              case v706k16 => with_reducible rfl
              case l706k16 => simp only [List.length_cons, List.length_nil]
              case x706k16 => (unfold maxLen; omega)
              case p706k16 => (simp only [lays]; with_reducible rfl)
              refine par_end (fun w9 hb9 hf9 _ => ?_)
              replace hb9 := hb9.grow
              try refine wpList_none ?_
              have J9 := hid (J0.out.grow hb9)
              simp only [List.forall_mem_cons] at hf9
              obtain ⟨gF, -⟩ := hf9
              have GF := hid gF
              obtain ⟨aF, cF, rfl, -⟩ := gF
              have hz9 := J9.out.lt
              clear hb9 k0 k1
              go_wp2_with (at_builtin; refine app_flat 41 70 Tryz.underlying41 info_rrow rfl (by decide) J9.out.own hz9 GF.out (by have := hlen.out; unfold maxLen; omega) (by have := hlen.out; omega) (rowsC_one [((⟨#[112]⟩ : ByteArray) ++ x.id, txS x.bytes)]) rfl rfl rfl rfl ?_; intro v' w10 hown10 hb10)
              have J10 : Hid (AI w CS (((((([rowA s] ++ s.msgs.map rowG) ++ s.insts.map rowI) ++ s.jobs.map rowJ) ++ s.kept.map rowK) ++ s.listed.map rowL) ++ (s.procs.take (i + 1)).map rowP) v' w10) := AI.snoc Hx.out (J9.out.step (r := rowP x) (by have h := hown10; exact h) hb10)
              clear hown10 hb10 z0 zk
              go_wp2
              go_roundw
              case rel => exact ⟨i + 1, by omega, by go_num, J10.out⟩
              case measure => simp [intOf]; omega
            ·
             have hin : i = s.procs.length := by omega
             subst hin
             have I6 : Hid (∀ v, AI w CS (((((([rowA s] ++ s.msgs.map rowG) ++ s.insts.map rowI) ++ s.jobs.map rowJ) ++ s.kept.map rowK) ++ s.listed.map rowL) ++ (s.procs.take s.procs.length).map rowP) v wr → AI w CS (((((([rowA s] ++ s.msgs.map rowG) ++ s.insts.map rowI) ++ s.jobs.map rowJ) ++ s.kept.map rowK) ++ s.listed.map rowL) ++ s.procs.map rowP) v wr) := by intro v hv; rwa [List.take_length] at hv
             have I6 := hid (I6.out _ hR.out)
             clear hR hi hlt
             go_wp2_with fail
             clear kk
             obtain ⟨wo, rfl⟩ : ∃ wo : World, wo = wr := ⟨_, rfl⟩
             go_loopw [3, 17] (fun vl vi wr => ∃ i : Nat, i ≤ s.timers.length ∧ vi = .int .i64 i ∧ Hid (AI w CS ((((((([rowA s] ++ s.msgs.map rowG) ++ s.insts.map rowI) ++ s.jobs.map rowJ) ++ s.kept.map rowK) ++ s.listed.map rowL) ++ s.procs.map rowP) ++ (s.timers.take i).map rowR) vl wr)) (fun _ vi _ => s.timers.length - (intOf vi).toNat)
             case atStart => exact ⟨0, Nat.zero_le _, rfl, (show AI w CS ((((((([rowA s] ++ s.msgs.map rowG) ++ s.insts.map rowI) ++ s.jobs.map rowJ) ++ s.kept.map rowK) ++ s.listed.map rowL) ++ s.procs.map rowP) ++ []) _ _ by rw [List.append_nil]; exact I6.out)⟩
             case round =>
              obtain ⟨i, hi, rfl, hR⟩ := hrel
              have kk : wr.cell? ⟨w.heap.size, 7, none⟩ = some (.slice ar s.timers.length cr) := by rw [cell_of hR.out.box 7, HCS.out]; rfl
              by_cases hlt : i < s.timers.length
              ·
               as_aux_lemma =>
                obtain ⟨x, hx⟩ : ∃ x, s.timers[i]? = some x := ⟨_, List.getElem?_eq_getElem hlt⟩
                obtain ⟨a', cap', hv, -, -, hcell⟩ := H.out.timers
                cases hv
                obtain ⟨b, off, cs, rfl, hcl, hat, hc⟩ := hcell i x hx
                obtain rfl := hat
                have k0 := kc hR.out.below (hc 0 _ rfl)
                have k1 := kc hR.out.below (hc 1 _ rfl)
                have k2 := kc hR.out.below (hc 2 _ rfl)
                simp only [Nat.add_zero] at k0
                have hox := hid (Hok.out.timers x (List.mem_of_getElem? hx))
                have Hx := hid hx
                have hbl := World.block_lt_of_cell? wr _ k0
                dsimp only at hbl
                have hlt1 := hR.out.lt
                have hlen : Hid (((((((([rowA s] ++ s.msgs.map rowG) ++ s.insts.map rowI) ++ s.jobs.map rowJ) ++ s.kept.map rowK) ++ s.listed.map rowL) ++ s.procs.map rowP) ++ (s.timers.take i).map rowR).length + 1 ≤ 4194304) := by show _ ≤ _; have := Hmany.out; simp; omega
                obtain ⟨al3, nl3, cl3, rfl⟩ := own_slice' hR.out.own
                clear hcell hx hc hcl
                go_wp2_with fail
                have J0 := hid (hR.out.grow ((Below.refl _ wr).alloc (Nat.le_refl _) (.cells #[U x.token, I x.node, I x.when_] 109)))
                have X0 := hid (alloc_new wr (.cells #[U x.token, I x.node, I x.when_] 109))
                have hzz : wr.heap.size < (wr.alloc (.cells #[U x.token, I x.node, I x.when_] 109)).heap.size := by simp
                generalize wr.alloc (.cells #[U x.token, I x.node, I x.when_] 109) = v0 at J0 X0 hzz ⊢
                clear k0 k1 k2
                have k0 := cell_of X0.out 0
                have k1 := cell_of X0.out 1
                have k2 := cell_of X0.out 2
                have z0 := inS_le hox.out.when_
                have zk := bigS_le x.token 8
                have zn := bigS_le (Go.Proofs.YthikijlbclckdaaGreat.u64 x.node) 2
                have hw := u64_wrap x.node
                refine wp_par (fun _ => False) (fun _ => True) (List.replicate 15 false) _ [.fix ?_, .fix ?_, .fix ?_, .fix ?_, .fix ?_, .fix ?_, .fix ?_, .fix ?_, .fix ?_, .fix ?_, .fix ?_, .fix ?_, .fix ?_, .fix ?_, .new (rowF 2 ?_ ?_)] (by kernel_rfl) (by kernel_rfl) (by simp only [List.length_replicate, List.drop_succ_cons, List.drop_zero, List.drop_nil]; with_reducible rfl) rfl (fun _ _ _ _ _ => ⟨fun h => h, fun h => h⟩) (fun _ _ h _ => h) trivial ?_
                rotate_left 16
                iterate 3
                 first
                  | (refine par_skip (a' := ?_) (by rfl) (by rfl) ?_ ?_ ?_; rotate_left 1; with_reducible rfl; (simp only [lays]; with_reducible rfl))
                  | (refine par_run (a' := ?_) (by rfl) (by rfl) (fun w' hb hn => ?_) ?_ ?_; rotate_left 1; (have hc := hb.cells; go_simp; (try simp (disch := omega) only [nrm, toNatUp, iteOmega]); first | with_reducible rfl | (go_simp; with_reducible rfl)); (simp only [lays]; with_reducible rfl))
                refine par_call (a' := ?_) (f := ?_) (args := ?_) (by rfl) (by rfl) (fun w' => ?_) (fun w' hb hn => ?_) ?_ ?_; rotate_left 3; (go_simp; constructor <;> with_reducible rfl); (exact rbig_any x.token 8 hox.out.token (by decide) w'); (simp only [lays]; with_reducible rfl)
                iterate 4
                 first
                  | (refine par_skip (a' := ?_) (by rfl) (by rfl) ?_ ?_ ?_; rotate_left 1; with_reducible rfl; (simp only [lays]; with_reducible rfl))
                  | (refine par_run (a' := ?_) (by rfl) (by rfl) (fun w' hb hn => ?_) ?_ ?_; rotate_left 1; (have hc := hb.cells; go_simp; (try simp (disch := omega) only [nrm, toNatUp, iteOmega]); first | with_reducible rfl | (go_simp; with_reducible rfl)); (simp only [lays]; with_reducible rfl))
                refine par_call (a' := ?_) (f := ?_) (args := ?_) (by rfl) (by rfl) (fun w' => ?_) (fun w' hb hn => ?_) ?_ ?_; rotate_left 3; (go_simp; constructor <;> with_reducible rfl); (exact rbig_any (Go.Proofs.YthikijlbclckdaaGreat.u64 x.node) 2 (u64_lt _) (by decide) w'); (simp only [lays]; with_reducible rfl)
                iterate 3
                 first
                  | (refine par_skip (a' := ?_) (by rfl) (by rfl) ?_ ?_ ?_; rotate_left 1; with_reducible rfl; (simp only [lays]; with_reducible rfl))
                  | (refine par_run (a' := ?_) (by rfl) (by rfl) (fun w' hb hn => ?_) ?_ ?_; rotate_left 1; (have hc := hb.cells; go_simp; (try simp (disch := omega) only [nrm, toNatUp, iteOmega]); first | with_reducible rfl | (go_simp; with_reducible rfl)); (simp only [lays]; with_reducible rfl))
                refine par_call (a' := ?_) (f := ?_) (args := ?_) (by rfl) (by rfl) (fun w' => ?_) (fun w' hb hn => ?_) ?_ ?_; rotate_left 3; (go_simp; constructor <;> with_reducible rfl); (exact rn_in x.when_ hox.out.when_.1 hox.out.when_.2 w'); (simp only [lays]; with_reducible rfl)
                iterate 1
                 first
                  | (refine par_skip (a' := ?_) (by rfl) (by rfl) ?_ ?_ ?_; rotate_left 1; with_reducible rfl; (simp only [lays]; with_reducible rfl))
                  | (refine par_run (a' := ?_) (by rfl) (by rfl) (fun w' hb hn => ?_) ?_ ?_; rotate_left 1; (have hc := hb.cells; go_simp; (try simp (disch := omega) only [nrm, toNatUp, iteOmega]); first | with_reducible rfl | (go_simp; with_reducible rfl)); (simp only [lays]; with_reducible rfl))
                refine par_row (a' := ?a797k14) (m := ?m797k14) (T := ?T797k14) (cs := ?c797k14) (r := ?r797k14) (by rfl) (by rfl) (fun w' hb hn => ?h797k14) (fun w' => ?e797k14) ?n797k14 ?v797k14 ?l797k14 ?x797k14 (fun u => ?p797k14) (fun u => ?g797k14)
                case h797k14 => (have hc := hb.cells; go_simp; (try simp (disch := omega) only [nrm, toNatUp, iteOmega]); with_reducible rfl)
                case e797k14 => with_reducible rfl
                case n797k14 => with_reducible rfl
                case v797k14 => with_reducible rfl
                case l797k14 => simp only [List.length_cons, List.length_nil]
                case x797k14 => (unfold maxLen; omega)
                case p797k14 => (simp only [lays]; with_reducible rfl)
                refine par_end (fun w9 hb9 hf9 _ => ?_)
                replace hb9 := hb9.grow
                try refine wpList_none ?_
                clear hw
                have J9 := hid (J0.out.grow hb9)
                simp only [List.forall_mem_cons] at hf9
                obtain ⟨gF, -⟩ := hf9
                have GF := hid gF
                obtain ⟨aF, cF, rfl, -⟩ := gF
                have hz9 := J9.out.lt
                clear hb9 k0 k1 k2
                go_wp2_with (at_builtin; refine app_flat 41 70 Tryz.underlying41 info_rrow rfl (by decide) J9.out.own hz9 GF.out (by have := hlen.out; unfold maxLen; omega) (by have := hlen.out; omega) (rowsC_one [((⟨#[114]⟩ : ByteArray) ++ bigS x.token 8 ++ bigS (Go.Proofs.YthikijlbclckdaaGreat.u64 x.node) 2, inS x.when_)]) rfl rfl rfl rfl ?_; intro v' w10 hown10 hb10)
                have J10 : Hid (AI w CS ((((((([rowA s] ++ s.msgs.map rowG) ++ s.insts.map rowI) ++ s.jobs.map rowJ) ++ s.kept.map rowK) ++ s.listed.map rowL) ++ s.procs.map rowP) ++ (s.timers.take (i + 1)).map rowR) v' w10) := AI.snoc Hx.out (J9.out.step (r := rowR x) (by have h := hown10; exact h) hb10)
                clear hown10 hb10 z0 zk zn
                go_wp2
                go_roundw
                case rel => exact ⟨i + 1, by omega, by go_num, J10.out⟩
                case measure => simp [intOf]; omega
              ·
               have hin : i = s.timers.length := by omega
               subst hin
               have I7 : Hid (∀ v, AI w CS ((((((([rowA s] ++ s.msgs.map rowG) ++ s.insts.map rowI) ++ s.jobs.map rowJ) ++ s.kept.map rowK) ++ s.listed.map rowL) ++ s.procs.map rowP) ++ (s.timers.take s.timers.length).map rowR) v wr → AI w CS ((((((([rowA s] ++ s.msgs.map rowG) ++ s.insts.map rowI) ++ s.jobs.map rowJ) ++ s.kept.map rowK) ++ s.listed.map rowL) ++ s.procs.map rowP) ++ s.timers.map rowR) v wr) := by intro v hv; rwa [List.take_length] at hv
               have I7 := hid (I7.out _ hR.out)
               clear hR hi hlt
               go_wp2_with fail
               clear kk
               obtain ⟨wo, rfl⟩ : ∃ wo : World, wo = wr := ⟨_, rfl⟩
               go_loopw [3, 19] (fun vl vi wr => ∃ i : Nat, i ≤ s.subs.length ∧ vi = .int .i64 i ∧ Hid (AI w CS (((((((([rowA s] ++ s.msgs.map rowG) ++ s.insts.map rowI) ++ s.jobs.map rowJ) ++ s.kept.map rowK) ++ s.listed.map rowL) ++ s.procs.map rowP) ++ s.timers.map rowR) ++ (s.subs.take i).map rowS) vl wr)) (fun _ vi _ => s.subs.length - (intOf vi).toNat)
               case atStart => exact ⟨0, Nat.zero_le _, rfl, (show AI w CS (((((((([rowA s] ++ s.msgs.map rowG) ++ s.insts.map rowI) ++ s.jobs.map rowJ) ++ s.kept.map rowK) ++ s.listed.map rowL) ++ s.procs.map rowP) ++ s.timers.map rowR) ++ []) _ _ by rw [List.append_nil]; exact I7.out)⟩
               case round =>
                obtain ⟨i, hi, rfl, hR⟩ := hrel
                have kk : wr.cell? ⟨w.heap.size, 8, none⟩ = some (.slice as_ s.subs.length cs_) := by rw [cell_of hR.out.box 8, HCS.out]; rfl
                by_cases hlt : i < s.subs.length
                ·
                 as_aux_lemma =>
                  obtain ⟨x, hx⟩ : ∃ x, s.subs[i]? = some x := ⟨_, List.getElem?_eq_getElem hlt⟩
                  obtain ⟨a', cap', hv, -, -, hcell⟩ := H.out.subs
                  cases hv
                  obtain ⟨b, off, cs, rfl, hcl, hat, hc⟩ := hcell i x hx
                  obtain rfl := hat
                  have k0 := kc hR.out.below (hc 0 _ rfl)
                  have k1 := kc hR.out.below (hc 1 _ rfl)
                  have k2 := kc hR.out.below (hc 2 _ rfl)
                  have k3 := kc hR.out.below (hc 3 _ rfl)
                  have k4 := kc hR.out.below (hc 4 _ rfl)
                  have k5 := kc hR.out.below (hc 5 _ rfl)
                  simp only [Nat.add_zero] at k0
                  have hox := hid (Hok.out.subs x (List.mem_of_getElem? hx))
                  have Hx := hid hx
                  have hbl := World.block_lt_of_cell? wr _ k0
                  dsimp only at hbl
                  have hlt1 := hR.out.lt
                  have hlen : Hid ((((((((([rowA s] ++ s.msgs.map rowG) ++ s.insts.map rowI) ++ s.jobs.map rowJ) ++ s.kept.map rowK) ++ s.listed.map rowL) ++ s.procs.map rowP) ++ s.timers.map rowR) ++ (s.subs.take i).map rowS).length + 1 ≤ 4194304) := by show _ ≤ _; have := Hmany.out; simp; omega
                  obtain ⟨al3, nl3, cl3, rfl⟩ := own_slice' hR.out.own
                  clear hcell hx hc hcl
                  cases his : x.is with
                  | true =>
                   rw [his] at k5
                   go_wp2_with fail
                   have J0 := hid (hR.out.grow ((Below.refl _ wr).alloc (Nat.le_refl _) (.cells #[U x.token, U x.inst, I x.node, .string x.name, .string x.key, .bool true] 111)))
                   have X0 := hid (alloc_new wr (.cells #[U x.token, U x.inst, I x.node, .string x.name, .string x.key, .bool true] 111))
                   have hzz : wr.heap.size < (wr.alloc (.cells #[U x.token, U x.inst, I x.node, .string x.name, .string x.key, .bool true] 111)).heap.size := by simp
                   generalize wr.alloc (.cells #[U x.token, U x.inst, I x.node, .string x.name, .string x.key, .bool true] 111) = v0 at J0 X0 hzz ⊢
                   clear k0 k1 k2 k3 k4 k5
                   have k0 := cell_of X0.out 0
                   have k1 := cell_of X0.out 1
                   have k2 := cell_of X0.out 2
                   have k3 := cell_of X0.out 3
                   have k4 := cell_of X0.out 4
                   have k5 := cell_of X0.out 5
                   have z0 := uvS_le hox.out.inst
                   have z1 := txS_le hox.out.name
                   have z2 := txS_le hox.out.key
                   have z3 : (inS 1).size ≤ 10 := inS_le (by unfold I64; decide)
                   have zk := bigS_le x.token 8
                   have zn := bigS_le (Go.Proofs.YthikijlbclckdaaGreat.u64 x.node) 2
                   have hw := u64_wrap x.node
                   refine wp_par (fun _ => False) (fun _ => True) (List.replicate 26 false) _ [.fix ?_, .fix ?_, .fix ?_, .fix ?_, .fix ?_, .fix ?_, .fix ?_, .fix ?_, .fix ?_, .fix ?_, .fix ?_, .fix ?_, .fix ?_, .fix ?_, .fix ?_, .fix ?_, .fix ?_, .fix ?_, .fix ?_, .fix ?_, .fix ?_, .fix ?_, .fix ?_, .fix ?_, .fix ?_, .new (rowF 2 ?_ ?_)] (by kernel_rfl) (by kernel_rfl) (by simp only [List.length_replicate, List.drop_succ_cons, List.drop_zero, List.drop_nil]; with_reducible rfl) rfl (fun _ _ _ _ _ => ⟨fun h => h, fun h => h⟩) (fun _ _ h _ => h) trivial ?_
                   rotate_left 27
                   iterate 3
                    first
                     | (refine par_skip (a' := ?_) (by rfl) (by rfl) ?_ ?_ ?_; rotate_left 1; with_reducible rfl; (simp only [lays]; with_reducible rfl))
                     | (refine par_run (a' := ?_) (by rfl) (by rfl) (fun w' hb hn => ?_) ?_ ?_; rotate_left 1; (have hc := hb.cells; go_simp; (try simp (disch := omega) only [nrm, toNatUp, iteOmega]); first | with_reducible rfl | (go_simp; with_reducible rfl)); (simp only [lays]; with_reducible rfl))
                   refine par_call (a' := ?_) (f := ?_) (args := ?_) (by rfl) (by rfl) (fun w' => ?_) (fun w' hb hn => ?_) ?_ ?_; rotate_left 3; (go_simp; constructor <;> with_reducible rfl); (exact rbig_any x.token 8 hox.out.token (by decide) w'); (simp only [lays]; with_reducible rfl)
                   iterate 4
                    first
                     | (refine par_skip (a' := ?_) (by rfl) (by rfl) ?_ ?_ ?_; rotate_left 1; with_reducible rfl; (simp only [lays]; with_reducible rfl))
                     | (refine par_run (a' := ?_) (by rfl) (by rfl) (fun w' hb hn => ?_) ?_ ?_; rotate_left 1; (have hc := hb.cells; go_simp; (try simp (disch := omega) only [nrm, toNatUp, iteOmega]); first | with_reducible rfl | (go_simp; with_reducible rfl)); (simp only [lays]; with_reducible rfl))
                   refine par_call (a' := ?_) (f := ?_) (args := ?_) (by rfl) (by rfl) (fun w' => ?_) (fun w' hb hn => ?_) ?_ ?_; rotate_left 3; (go_simp; constructor <;> with_reducible rfl); (exact rbig_any (Go.Proofs.YthikijlbclckdaaGreat.u64 x.node) 2 (u64_lt _) (by decide) w'); (simp only [lays]; with_reducible rfl)
                   iterate 3
                    first
                     | (refine par_skip (a' := ?_) (by rfl) (by rfl) ?_ ?_ ?_; rotate_left 1; with_reducible rfl; (simp only [lays]; with_reducible rfl))
                     | (refine par_run (a' := ?_) (by rfl) (by rfl) (fun w' hb hn => ?_) ?_ ?_; rotate_left 1; (have hc := hb.cells; go_simp; (try simp (disch := omega) only [nrm, toNatUp, iteOmega]); first | with_reducible rfl | (go_simp; with_reducible rfl)); (simp only [lays]; with_reducible rfl))
                   refine par_call (a' := ?_) (f := ?_) (args := ?_) (by rfl) (by rfl) (fun w' => ?_) (fun w' hb hn => ?_) ?_ ?_; rotate_left 3; (go_simp; constructor <;> with_reducible rfl); (exact r14u_any x.inst hox.out.inst w'); (simp only [lays]; with_reducible rfl)
                   iterate 2
                    first
                     | (refine par_skip (a' := ?_) (by rfl) (by rfl) ?_ ?_ ?_; rotate_left 1; with_reducible rfl; (simp only [lays]; with_reducible rfl))
                     | (refine par_run (a' := ?_) (by rfl) (by rfl) (fun w' hb hn => ?_) ?_ ?_; rotate_left 1; (have hc := hb.cells; go_simp; (try simp (disch := omega) only [nrm, toNatUp, iteOmega]); first | with_reducible rfl | (go_simp; with_reducible rfl)); (simp only [lays]; with_reducible rfl))
                   refine par_call (a' := ?_) (f := ?_) (args := ?_) (by rfl) (by rfl) (fun w' => ?_) (fun w' hb hn => ?_) ?_ ?_; rotate_left 3; (go_simp; constructor <;> with_reducible rfl); (exact r14t_any x.name (Nat.le_trans hox.out.name (by decide)) w'); (simp only [lays]; with_reducible rfl)
                   iterate 3
                    first
                     | (refine par_skip (a' := ?_) (by rfl) (by rfl) ?_ ?_ ?_; rotate_left 1; with_reducible rfl; (simp only [lays]; with_reducible rfl))
                     | (refine par_run (a' := ?_) (by rfl) (by rfl) (fun w' hb hn => ?_) ?_ ?_; rotate_left 1; (have hc := hb.cells; go_simp; (try simp (disch := omega) only [nrm, toNatUp, iteOmega]); first | with_reducible rfl | (go_simp; with_reducible rfl)); (simp only [lays]; with_reducible rfl))
                   refine par_call (a' := ?_) (f := ?_) (args := ?_) (by rfl) (by rfl) (fun w' => ?_) (fun w' hb hn => ?_) ?_ ?_; rotate_left 3; (go_simp; constructor <;> with_reducible rfl); (exact r14t_any x.key (Nat.le_trans hox.out.key (by decide)) w'); (simp only [lays]; with_reducible rfl)
                   iterate 2
                    first
                     | (refine par_skip (a' := ?_) (by rfl) (by rfl) ?_ ?_ ?_; rotate_left 1; with_reducible rfl; (simp only [lays]; with_reducible rfl))
                     | (refine par_run (a' := ?_) (by rfl) (by rfl) (fun w' hb hn => ?_) ?_ ?_; rotate_left 1; (have hc := hb.cells; go_simp; (try simp (disch := omega) only [nrm, toNatUp, iteOmega]); first | with_reducible rfl | (go_simp; with_reducible rfl)); (simp only [lays]; with_reducible rfl))
                   refine par_call (a' := ?_) (f := ?_) (args := ?_) (by rfl) (by rfl) (fun w' => ?_) (fun w' hb hn => ?_) ?_ ?_; rotate_left 3; (go_simp; constructor <;> with_reducible rfl); (exact rn_in 1 (by decide) (by decide) w'); (simp only [lays]; with_reducible rfl)
                   iterate 2
                    first
                     | (refine par_skip (a' := ?_) (by rfl) (by rfl) ?_ ?_ ?_; rotate_left 1; with_reducible rfl; (simp only [lays]; with_reducible rfl))
                     | (refine par_run (a' := ?_) (by rfl) (by rfl) (fun w' hb hn => ?_) ?_ ?_; rotate_left 1; (have hc := hb.cells; go_simp; (try simp (disch := omega) only [nrm, toNatUp, iteOmega]); first | with_reducible rfl | (go_simp; with_reducible rfl)); (simp only [lays]; with_reducible rfl))
                   refine par_row (a' := ?a916k25) (m := ?m916k25) (T := ?T916k25) (cs := ?c916k25) (r := ?r916k25) (by rfl) (by rfl) (fun w' hb hn => ?h916k25) (fun w' => ?e916k25) ?n916k25 ?v916k25 ?l916k25 ?x916k25 (fun u => ?p916k25) (fun u => ?g916k25)
                   case h916k25 => (have hc := hb.cells; go_simp; (try simp (disch := omega) only [nrm, toNatUp, iteOmega]); with_reducible rfl)
                   case e916k25 => with_reducible rfl
                   case n916k25 => with_reducible rfl
                   case v916k25 => with_reducible rfl
                   case l916k25 => simp only [List.length_cons, List.length_nil]
                   case x916k25 => (unfold maxLen; omega)
                   case p916k25 => (simp only [lays]; with_reducible rfl)
                   refine par_end (fun w9 hb9 hf9 _ => ?_)
                   replace hb9 := hb9.grow
                   try refine wpList_none ?_
                   clear hw
                   have J9 := hid (J0.out.grow hb9)
                   simp only [List.forall_mem_cons] at hf9
                   obtain ⟨gF, -⟩ := hf9
                   have GF := hid gF
                   obtain ⟨aF, cF, rfl, -⟩ := gF
                   have hz9 := J9.out.lt
                   clear hb9 k0 k1 k2 k3 k4 k5
                   go_wp2_with (at_builtin; refine app_flat 41 70 Tryz.underlying41 info_rrow rfl (by decide) J9.out.own hz9 GF.out (by have := hlen.out; unfold maxLen; omega) (by have := hlen.out; omega) (rowsC_one [((⟨#[115]⟩ : ByteArray) ++ bigS x.token 8 ++ bigS (Go.Proofs.YthikijlbclckdaaGreat.u64 x.node) 2, uvS x.inst ++ txS x.name ++ txS x.key ++ inS (1))]) rfl rfl rfl rfl ?_; intro v' w10 hown10 hb10)
                   have J10 : Hid (AI w CS (((((((([rowA s] ++ s.msgs.map rowG) ++ s.insts.map rowI) ++ s.jobs.map rowJ) ++ s.kept.map rowK) ++ s.listed.map rowL) ++ s.procs.map rowP) ++ s.timers.map rowR) ++ (s.subs.take (i + 1)).map rowS) v' w10) := AI.snoc Hx.out (J9.out.step (r := rowS x) (by have h := hown10; unfold rowS; rw [his]; exact h) hb10)
                   clear hown10 hb10 z0 z1 z2 z3 zk zn
                   go_wp2
                   go_roundw
                   case rel => exact ⟨i + 1, by omega, by go_num, J10.out⟩
                   case measure => simp [intOf]; omega
                  | false =>
                   rw [his] at k5
                   go_wp2_with fail
                   have J0 := hid (hR.out.grow ((Below.refl _ wr).alloc (Nat.le_refl _) (.cells #[U x.token, U x.inst, I x.node, .string x.name, .string x.key, .bool false] 111)))
                   have X0 := hid (alloc_new wr (.cells #[U x.token, U x.inst, I x.node, .string x.name, .string x.key, .bool false] 111))
                   have hzz : wr.heap.size < (wr.alloc (.cells #[U x.token, U x.inst, I x.node, .string x.name, .string x.key, .bool false] 111)).heap.size := by simp
                   generalize wr.alloc (.cells #[U x.token, U x.inst, I x.node, .string x.name, .string x.key, .bool false] 111) = v0 at J0 X0 hzz ⊢
                   clear k0 k1 k2 k3 k4 k5
                   have k0 := cell_of X0.out 0
                   have k1 := cell_of X0.out 1
                   have k2 := cell_of X0.out 2
                   have k3 := cell_of X0.out 3
                   have k4 := cell_of X0.out 4
                   have k5 := cell_of X0.out 5
                   have z0 := uvS_le hox.out.inst
                   have z1 := txS_le hox.out.name
                   have z2 := txS_le hox.out.key
                   have z3 : (inS 0).size ≤ 10 := inS_le (by unfold I64; decide)
                   have zk := bigS_le x.token 8
                   have zn := bigS_le (Go.Proofs.YthikijlbclckdaaGreat.u64 x.node) 2
                   have hw := u64_wrap x.node
                   refine wp_par (fun _ => False) (fun _ => True) (List.replicate 26 false) _ [.fix ?_, .fix ?_, .fix ?_, .fix ?_, .fix ?_, .fix ?_, .fix ?_, .fix ?_, .fix ?_, .fix ?_, .fix ?_, .fix ?_, .fix ?_, .fix ?_, .fix ?_, .fix ?_, .fix ?_, .fix ?_, .fix ?_, .fix ?_, .fix ?_, .fix ?_, .fix ?_, .fix ?_, .fix ?_, .new (rowF 2 ?_ ?_)] (by kernel_rfl) (by kernel_rfl) (by simp only [List.length_replicate, List.drop_succ_cons, List.drop_zero, List.drop_nil]; with_reducible rfl) rfl (fun _ _ _ _ _ => ⟨fun h => h, fun h => h⟩) (fun _ _ h _ => h) trivial ?_
                   rotate_left 27
                   iterate 3
                    first
                     | (refine par_skip (a' := ?_) (by rfl) (by rfl) ?_ ?_ ?_; rotate_left 1; with_reducible rfl; (simp only [lays]; with_reducible rfl))
                     | (refine par_run (a' := ?_) (by rfl) (by rfl) (fun w' hb hn => ?_) ?_ ?_; rotate_left 1; (have hc := hb.cells; go_simp; (try simp (disch := omega) only [nrm, toNatUp, iteOmega]); first | with_reducible rfl | (go_simp; with_reducible rfl)); (simp only [lays]; with_reducible rfl))
                   refine par_call (a' := ?_) (f := ?_) (args := ?_) (by rfl) (by rfl) (fun w' => ?_) (fun w' hb hn => ?_) ?_ ?_; rotate_left 3; (go_simp; constructor <;> with_reducible rfl); (exact rbig_any x.token 8 hox.out.token (by decide) w'); (simp only [lays]; with_reducible rfl)
                   iterate 4
                    first
                     | (refine par_skip (a' := ?_) (by rfl) (by rfl) ?_ ?_ ?_; rotate_left 1; with_reducible rfl; (simp only [lays]; with_reducible rfl))
                     | (refine par_run (a' := ?_) (by rfl) (by rfl) (fun w' hb hn => ?_) ?_ ?_; rotate_left 1; (have hc := hb.cells; go_simp; (try simp (disch := omega) only [nrm, toNatUp, iteOmega]); first | with_reducible rfl | (go_simp; with_reducible rfl)); (simp only [lays]; with_reducible rfl))
                   refine par_call (a' := ?_) (f := ?_) (args := ?_) (by rfl) (by rfl) (fun w' => ?_) (fun w' hb hn => ?_) ?_ ?_; rotate_left 3; (go_simp; constructor <;> with_reducible rfl); (exact rbig_any (Go.Proofs.YthikijlbclckdaaGreat.u64 x.node) 2 (u64_lt _) (by decide) w'); (simp only [lays]; with_reducible rfl)
                   iterate 3
                    first
                     | (refine par_skip (a' := ?_) (by rfl) (by rfl) ?_ ?_ ?_; rotate_left 1; with_reducible rfl; (simp only [lays]; with_reducible rfl))
                     | (refine par_run (a' := ?_) (by rfl) (by rfl) (fun w' hb hn => ?_) ?_ ?_; rotate_left 1; (have hc := hb.cells; go_simp; (try simp (disch := omega) only [nrm, toNatUp, iteOmega]); first | with_reducible rfl | (go_simp; with_reducible rfl)); (simp only [lays]; with_reducible rfl))
                   refine par_call (a' := ?_) (f := ?_) (args := ?_) (by rfl) (by rfl) (fun w' => ?_) (fun w' hb hn => ?_) ?_ ?_; rotate_left 3; (go_simp; constructor <;> with_reducible rfl); (exact r14u_any x.inst hox.out.inst w'); (simp only [lays]; with_reducible rfl)
                   iterate 2
                    first
                     | (refine par_skip (a' := ?_) (by rfl) (by rfl) ?_ ?_ ?_; rotate_left 1; with_reducible rfl; (simp only [lays]; with_reducible rfl))
                     | (refine par_run (a' := ?_) (by rfl) (by rfl) (fun w' hb hn => ?_) ?_ ?_; rotate_left 1; (have hc := hb.cells; go_simp; (try simp (disch := omega) only [nrm, toNatUp, iteOmega]); first | with_reducible rfl | (go_simp; with_reducible rfl)); (simp only [lays]; with_reducible rfl))
                   refine par_call (a' := ?_) (f := ?_) (args := ?_) (by rfl) (by rfl) (fun w' => ?_) (fun w' hb hn => ?_) ?_ ?_; rotate_left 3; (go_simp; constructor <;> with_reducible rfl); (exact r14t_any x.name (Nat.le_trans hox.out.name (by decide)) w'); (simp only [lays]; with_reducible rfl)
                   iterate 3
                    first
                     | (refine par_skip (a' := ?_) (by rfl) (by rfl) ?_ ?_ ?_; rotate_left 1; with_reducible rfl; (simp only [lays]; with_reducible rfl))
                     | (refine par_run (a' := ?_) (by rfl) (by rfl) (fun w' hb hn => ?_) ?_ ?_; rotate_left 1; (have hc := hb.cells; go_simp; (try simp (disch := omega) only [nrm, toNatUp, iteOmega]); first | with_reducible rfl | (go_simp; with_reducible rfl)); (simp only [lays]; with_reducible rfl))
                   refine par_call (a' := ?_) (f := ?_) (args := ?_) (by rfl) (by rfl) (fun w' => ?_) (fun w' hb hn => ?_) ?_ ?_; rotate_left 3; (go_simp; constructor <;> with_reducible rfl); (exact r14t_any x.key (Nat.le_trans hox.out.key (by decide)) w'); (simp only [lays]; with_reducible rfl)
                   iterate 2
                    first
                     | (refine par_skip (a' := ?_) (by rfl) (by rfl) ?_ ?_ ?_; rotate_left 1; with_reducible rfl; (simp only [lays]; with_reducible rfl))
                     | (refine par_run (a' := ?_) (by rfl) (by rfl) (fun w' hb hn => ?_) ?_ ?_; rotate_left 1; (have hc := hb.cells; go_simp; (try simp (disch := omega) only [nrm, toNatUp, iteOmega]); first | with_reducible rfl | (go_simp; with_reducible rfl)); (simp only [lays]; with_reducible rfl))
                   refine par_call (a' := ?_) (f := ?_) (args := ?_) (by rfl) (by rfl) (fun w' => ?_) (fun w' hb hn => ?_) ?_ ?_; rotate_left 3; (go_simp; constructor <;> with_reducible rfl); (exact rn_in 0 (by decide) (by decide) w'); (simp only [lays]; with_reducible rfl)
                   iterate 2
                    first
                     | (refine par_skip (a' := ?_) (by rfl) (by rfl) ?_ ?_ ?_; rotate_left 1; with_reducible rfl; (simp only [lays]; with_reducible rfl))
                     | (refine par_run (a' := ?_) (by rfl) (by rfl) (fun w' hb hn => ?_) ?_ ?_; rotate_left 1; (have hc := hb.cells; go_simp; (try simp (disch := omega) only [nrm, toNatUp, iteOmega]); first | with_reducible rfl | (go_simp; with_reducible rfl)); (simp only [lays]; with_reducible rfl))
                   refine par_row (a' := ?a999k25) (m := ?m999k25) (T := ?T999k25) (cs := ?c999k25) (r := ?r999k25) (by rfl) (by rfl) (fun w' hb hn => ?h999k25) (fun w' => ?e999k25) ?n999k25 ?v999k25 ?l999k25 ?x999k25 (fun u => ?p999k25) (fun u => ?g999k25)
                   case h999k25 => (have hc := hb.cells; go_simp; (try simp (disch := omega) only [nrm, toNatUp, iteOmega]); with_reducible rfl)
                   case e999k25 => with_reducible rfl
                   case n999k25 => with_reducible rfl
                   case v999k25 => with_reducible rfl
                   case l999k25 => simp only [List.length_cons, List.length_nil]
                   case x999k25 => (unfold maxLen; omega)
                   case p999k25 => (simp only [lays]; with_reducible rfl)
                   refine par_end (fun w9 hb9 hf9 _ => ?_)
                   replace hb9 := hb9.grow
                   try refine wpList_none ?_
                   clear hw
                   have J9 := hid (J0.out.grow hb9)
                   simp only [List.forall_mem_cons] at hf9
                   obtain ⟨gF, -⟩ := hf9
                   have GF := hid gF
                   obtain ⟨aF, cF, rfl, -⟩ := gF
                   have hz9 := J9.out.lt
                   clear hb9 k0 k1 k2 k3 k4 k5
                   go_wp2_with (at_builtin; refine app_flat 41 70 Tryz.underlying41 info_rrow rfl (by decide) J9.out.own hz9 GF.out (by have := hlen.out; unfold maxLen; omega) (by have := hlen.out; omega) (rowsC_one [((⟨#[115]⟩ : ByteArray) ++ bigS x.token 8 ++ bigS (Go.Proofs.YthikijlbclckdaaGreat.u64 x.node) 2, uvS x.inst ++ txS x.name ++ txS x.key ++ inS (0))]) rfl rfl rfl rfl ?_; intro v' w10 hown10 hb10)
                   have J10 : Hid (AI w CS (((((((([rowA s] ++ s.msgs.map rowG) ++ s.insts.map rowI) ++ s.jobs.map rowJ) ++ s.kept.map rowK) ++ s.listed.map rowL) ++ s.procs.map rowP) ++ s.timers.map rowR) ++ (s.subs.take (i + 1)).map rowS) v' w10) := AI.snoc Hx.out (J9.out.step (r := rowS x) (by have h := hown10; unfold rowS; rw [his]; exact h) hb10)
                   clear hown10 hb10 z0 z1 z2 z3 zk zn
                   go_wp2
                   go_roundw
                   case rel => exact ⟨i + 1, by omega, by go_num, J10.out⟩
                   case measure => simp [intOf]; omega
                ·
                 have hin : i = s.subs.length := by omega
                 subst hin
                 have I8 : Hid (∀ v, AI w CS (((((((([rowA s] ++ s.msgs.map rowG) ++ s.insts.map rowI) ++ s.jobs.map rowJ) ++ s.kept.map rowK) ++ s.listed.map rowL) ++ s.procs.map rowP) ++ s.timers.map rowR) ++ (s.subs.take s.subs.length).map rowS) v wr → AI w CS (((((((([rowA s] ++ s.msgs.map rowG) ++ s.insts.map rowI) ++ s.jobs.map rowJ) ++ s.kept.map rowK) ++ s.listed.map rowL) ++ s.procs.map rowP) ++ s.timers.map rowR) ++ s.subs.map rowS) v wr) := by intro v hv; rwa [List.take_length] at hv
                 have I8 := hid (I8.out _ hR.out)
                 clear hR hi hlt
                 go_wp2_with fail
                 clear kk
                 obtain ⟨wo, rfl⟩ : ∃ wo : World, wo = wr := ⟨_, rfl⟩
                 go_loopw [3, 22] (fun vl vi wr => ∃ i : Nat, i ≤ s.tokens.length ∧ vi = .int .i64 i ∧ Hid (AI w CS ((((((((([rowA s] ++ s.msgs.map rowG) ++ s.insts.map rowI) ++ s.jobs.map rowJ) ++ s.kept.map rowK) ++ s.listed.map rowL) ++ s.procs.map rowP) ++ s.timers.map rowR) ++ s.subs.map rowS) ++ (s.tokens.take i).map rowT) vl wr)) (fun _ vi _ => s.tokens.length - (intOf vi).toNat)
                 case atStart => exact ⟨0, Nat.zero_le _, rfl, (show AI w CS ((((((((([rowA s] ++ s.msgs.map rowG) ++ s.insts.map rowI) ++ s.jobs.map rowJ) ++ s.kept.map rowK) ++ s.listed.map rowL) ++ s.procs.map rowP) ++ s.timers.map rowR) ++ s.subs.map rowS) ++ []) _ _ by rw [List.append_nil]; exact I8.out)⟩
                 case round =>
                  obtain ⟨i, hi, rfl, hR⟩ := hrel
                  have kk : wr.cell? ⟨w.heap.size, 5, none⟩ = some (.slice at_ s.tokens.length ct) := by rw [cell_of hR.out.box 5, HCS.out]; rfl
                  by_cases hlt : i < s.tokens.length
                  ·
                   as_aux_lemma =>
                    obtain ⟨x, hx⟩ : ∃ x, s.tokens[i]? = some x := ⟨_, List.getElem?_eq_getElem hlt⟩
                    obtain ⟨a', cap', hv, -, -, hcell⟩ := H.out.tokens
                    cases hv
                    obtain ⟨b, off, cs, rfl, hcl, hat, hc⟩ := hcell i x hx
                    obtain rfl := hat
                    have k0 := kc hR.out.below (hc 0 _ rfl)
                    have k1 := kc hR.out.below (hc 1 _ rfl)
                    have k2 := kc hR.out.below (hc 2 _ rfl)
                    have k3 := kc hR.out.below (hc 3 _ rfl)
                    have k4 := kc hR.out.below (hc 4 _ rfl)
                    have k5 := kc hR.out.below (hc 5 _ rfl)
                    simp only [Nat.add_zero] at k0
                    have hox := hid (Hok.out.tokens x (List.mem_of_getElem? hx))
                    have Hx := hid hx
                    have hbl := World.block_lt_of_cell? wr _ k0
                    dsimp only at hbl
                    have hlt1 := hR.out.lt
                    have hlen : Hid (((((((((([rowA s] ++ s.msgs.map rowG) ++ s.insts.map rowI) ++ s.jobs.map rowJ) ++ s.kept.map rowK) ++ s.listed.map rowL) ++ s.procs.map rowP) ++ s.timers.map rowR) ++ s.subs.map rowS) ++ (s.tokens.take i).map rowT).length + 1 ≤ 4194304) := by show _ ≤ _; have := Hmany.out; simp; omega
                    obtain ⟨al3, nl3, cl3, rfl⟩ := own_slice' hR.out.own
                    clear hcell hx hc hcl
                    go_wp2_with fail
                    have J0 := hid (hR.out.grow ((Below.refl _ wr).alloc (Nat.le_refl _) (.cells #[U x.key, U x.inst, U x.scope, I x.node, I x.by_, .string x.stuck] 105)))
                    have X0 := hid (alloc_new wr (.cells #[U x.key, U x.inst, U x.scope, I x.node, I x.by_, .string x.stuck] 105))
                    have hzz : wr.heap.size < (wr.alloc (.cells #[U x.key, U x.inst, U x.scope, I x.node, I x.by_, .string x.stuck] 105)).heap.size := by simp
                    generalize wr.alloc (.cells #[U x.key, U x.inst, U x.scope, I x.node, I x.by_, .string x.stuck] 105) = v0 at J0 X0 hzz ⊢
                    clear k0 k1 k2 k3 k4 k5
                    have k0 := cell_of X0.out 0
                    have k1 := cell_of X0.out 1
                    have k2 := cell_of X0.out 2
                    have k3 := cell_of X0.out 3
                    have k4 := cell_of X0.out 4
                    have k5 := cell_of X0.out 5
                    have z0 := uvS_le hox.out.inst
                    have z1 := uvS_le hox.out.scope
                    have z2 := inS_le hox.out.node
                    have z3 := inS_le hox.out.by_
                    have z4 := txS_le hox.out.stuck
                    have zk := bigS_le x.key 8
                    refine wp_par (fun _ => False) (fun _ => True) (List.replicate 26 false) _ [.fix ?_, .fix ?_, .fix ?_, .fix ?_, .fix ?_, .fix ?_, .fix ?_, .fix ?_, .fix ?_, .fix ?_, .fix ?_, .fix ?_, .fix ?_, .fix ?_, .fix ?_, .fix ?_, .fix ?_, .fix ?_, .fix ?_, .fix ?_, .fix ?_, .fix ?_, .fix ?_, .fix ?_, .fix ?_, .new (rowF 2 ?_ ?_)] (by kernel_rfl) (by kernel_rfl) (by simp only [List.length_replicate, List.drop_succ_cons, List.drop_zero, List.drop_nil]; with_reducible rfl) rfl (fun _ _ _ _ _ => ⟨fun h => h, fun h => h⟩) (fun _ _ h _ => h) trivial ?_
                    rotate_left 27
                    iterate 3
                     first
                      | (refine par_skip (a' := ?_) (by rfl) (by rfl) ?_ ?_ ?_; rotate_left 1; with_reducible rfl; (simp only [lays]; with_reducible rfl))
                      | (refine par_run (a' := ?_) (by rfl) (by rfl) (fun w' hb hn => ?_) ?_ ?_; rotate_left 1; (have hc := hb.cells; go_simp; (try simp (disch := omega) only [nrm, toNatUp, iteOmega]); first | with_reducible rfl | (go_simp; with_reducible rfl)); (simp only [lays]; with_reducible rfl))
                    refine par_call (a' := ?_) (f := ?_) (args := ?_) (by rfl) (by rfl) (fun w' => ?_) (fun w' hb hn => ?_) ?_ ?_; rotate_left 3; (go_simp; constructor <;> with_reducible rfl); (exact rbig_any x.key 8 hox.out.key (by decide) w'); (simp only [lays]; with_reducible rfl)
                    iterate 3
                     first
                      | (refine par_skip (a' := ?_) (by rfl) (by rfl) ?_ ?_ ?_; rotate_left 1; with_reducible rfl; (simp only [lays]; with_reducible rfl))
                      | (refine par_run (a' := ?_) (by rfl) (by rfl) (fun w' hb hn => ?_) ?_ ?_; rotate_left 1; (have hc := hb.cells; go_simp; (try simp (disch := omega) only [nrm, toNatUp, iteOmega]); first | with_reducible rfl | (go_simp; with_reducible rfl)); (simp only [lays]; with_reducible rfl))
                    refine par_call (a' := ?_) (f := ?_) (args := ?_) (by rfl) (by rfl) (fun w' => ?_) (fun w' hb hn => ?_) ?_ ?_; rotate_left 3; (go_simp; constructor <;> with_reducible rfl); (exact r14u_any x.inst hox.out.inst w'); (simp only [lays]; with_reducible rfl)
                    iterate 2
                     first
                      | (refine par_skip (a' := ?_) (by rfl) (by rfl) ?_ ?_ ?_; rotate_left 1; with_reducible rfl; (simp only [lays]; with_reducible rfl))
                      | (refine par_run (a' := ?_) (by rfl) (by rfl) (fun w' hb hn => ?_) ?_ ?_; rotate_left 1; (have hc := hb.cells; go_simp; (try simp (disch := omega) only [nrm, toNatUp, iteOmega]); first | with_reducible rfl | (go_simp; with_reducible rfl)); (simp only [lays]; with_reducible rfl))
                    refine par_call (a' := ?_) (f := ?_) (args := ?_) (by rfl) (by rfl) (fun w' => ?_) (fun w' hb hn => ?_) ?_ ?_; rotate_left 3; (go_simp; constructor <;> with_reducible rfl); (exact r14u_any x.scope hox.out.scope w'); (simp only [lays]; with_reducible rfl)
                    iterate 3
                     first
                      | (refine par_skip (a' := ?_) (by rfl) (by rfl) ?_ ?_ ?_; rotate_left 1; with_reducible rfl; (simp only [lays]; with_reducible rfl))
                      | (refine par_run (a' := ?_) (by rfl) (by rfl) (fun w' hb hn => ?_) ?_ ?_; rotate_left 1; (have hc := hb.cells; go_simp; (try simp (disch := omega) only [nrm, toNatUp, iteOmega]); first | with_reducible rfl | (go_simp; with_reducible rfl)); (simp only [lays]; with_reducible rfl))
                    refine par_call (a' := ?_) (f := ?_) (args := ?_) (by rfl) (by rfl) (fun w' => ?_) (fun w' hb hn => ?_) ?_ ?_; rotate_left 3; (go_simp; constructor <;> with_reducible rfl); (exact rn_in x.node hox.out.node.1 hox.out.node.2 w'); (simp only [lays]; with_reducible rfl)
                    iterate 3
                     first
                      | (refine par_skip (a' := ?_) (by rfl) (by rfl) ?_ ?_ ?_; rotate_left 1; with_reducible rfl; (simp only [lays]; with_reducible rfl))
                      | (refine par_run (a' := ?_) (by rfl) (by rfl) (fun w' hb hn => ?_) ?_ ?_; rotate_left 1; (have hc := hb.cells; go_simp; (try simp (disch := omega) only [nrm, toNatUp, iteOmega]); first | with_reducible rfl | (go_simp; with_reducible rfl)); (simp only [lays]; with_reducible rfl))
                    refine par_call (a' := ?_) (f := ?_) (args := ?_) (by rfl) (by rfl) (fun w' => ?_) (fun w' hb hn => ?_) ?_ ?_; rotate_left 3; (go_simp; constructor <;> with_reducible rfl); (exact rn_in x.by_ hox.out.by_.1 hox.out.by_.2 w'); (simp only [lays]; with_reducible rfl)
                    iterate 3
                     first
                      | (refine par_skip (a' := ?_) (by rfl) (by rfl) ?_ ?_ ?_; rotate_left 1; with_reducible rfl; (simp only [lays]; with_reducible rfl))
                      | (refine par_run (a' := ?_) (by rfl) (by rfl) (fun w' hb hn => ?_) ?_ ?_; rotate_left 1; (have hc := hb.cells; go_simp; (try simp (disch := omega) only [nrm, toNatUp, iteOmega]); first | with_reducible rfl | (go_simp; with_reducible rfl)); (simp only [lays]; with_reducible rfl))
                    refine par_call (a' := ?_) (f := ?_) (args := ?_) (by rfl) (by rfl) (fun w' => ?_) (fun w' hb hn => ?_) ?_ ?_; rotate_left 3; (go_simp; constructor <;> with_reducible rfl); (exact r14t_any x.stuck (Nat.le_trans hox.out.stuck (by decide)) w'); (simp only [lays]; with_reducible rfl)
                    iterate 2
                     first
                      | (refine par_skip (a' := ?_) (by rfl) (by rfl) ?_ ?_ ?_; rotate_left 1; with_reducible rfl; (simp only [lays]; with_reducible rfl))
                      | (refine par_run (a' := ?_) (by rfl) (by rfl) (fun w' hb hn => ?_) ?_ ?_; rotate_left 1; (have hc := hb.cells; go_simp; (try simp (disch := omega) only [nrm, toNatUp, iteOmega]); first | with_reducible rfl | (go_simp; with_reducible rfl)); (simp only [lays]; with_reducible rfl))
                    refine par_row (a' := ?a1114k25) (m := ?m1114k25) (T := ?T1114k25) (cs := ?c1114k25) (r := ?r1114k25) (by rfl) (by rfl) (fun w' hb hn => ?h1114k25) (fun w' => ?e1114k25) ?n1114k25 ?v1114k25 ?l1114k25 ?x1114k25 (fun u => ?p1114k25) (fun u => ?g1114k25)
                    case h1114k25 => (have hc := hb.cells; go_simp; (try simp (disch := omega) only [nrm, toNatUp, iteOmega]); with_reducible rfl)
                    case e1114k25 => with_reducible rfl
                    case n1114k25 => with_reducible rfl
                    case v1114k25 => with_reducible rfl
                    case l1114k25 => simp only [List.length_cons, List.length_nil]
                    case x1114k25 => (unfold maxLen; omega)
                    case p1114k25 => (simp only [lays]; with_reducible rfl)
                    refine par_end (fun w9 hb9 hf9 _ => ?_)
                    replace hb9 := hb9.grow
                    try refine wpList_none ?_
                    have J9 := hid (J0.out.grow hb9)
                    simp only [List.forall_mem_cons] at hf9
                    obtain ⟨gF, -⟩ := hf9
                    have GF := hid gF
                    obtain ⟨aF, cF, rfl, -⟩ := gF
                    have hz9 := J9.out.lt
                    clear hb9 k0 k1 k2 k3 k4 k5
                    go_wp2_with (at_builtin; refine app_flat 41 70 Tryz.underlying41 info_rrow rfl (by decide) J9.out.own hz9 GF.out (by have := hlen.out; unfold maxLen; omega) (by have := hlen.out; omega) (rowsC_one [((⟨#[116]⟩ : ByteArray) ++ bigS x.key 8, uvS x.inst ++ uvS x.scope ++ inS x.node ++ inS x.by_ ++ txS x.stuck)]) rfl rfl rfl rfl ?_; intro v' w10 hown10 hb10)
                    have J10 : Hid (AI w CS ((((((((([rowA s] ++ s.msgs.map rowG) ++ s.insts.map rowI) ++ s.jobs.map rowJ) ++ s.kept.map rowK) ++ s.listed.map rowL) ++ s.procs.map rowP) ++ s.timers.map rowR) ++ s.subs.map rowS) ++ (s.tokens.take (i + 1)).map rowT) v' w10) := AI.snoc Hx.out (J9.out.step (r := rowT x) (by have h := hown10; exact h) hb10)
                    clear hown10 hb10 z0 z1 z2 z3 z4 zk
                    go_wp2
                    go_roundw
                    case rel => exact ⟨i + 1, by omega, by go_num, J10.out⟩
                    case measure => simp [intOf]; omega
                  ·
                   have hin : i = s.tokens.length := by omega
                   subst hin
                   have I9 : Hid (∀ v, AI w CS ((((((((([rowA s] ++ s.msgs.map rowG) ++ s.insts.map rowI) ++ s.jobs.map rowJ) ++ s.kept.map rowK) ++ s.listed.map rowL) ++ s.procs.map rowP) ++ s.timers.map rowR) ++ s.subs.map rowS) ++ (s.tokens.take s.tokens.length).map rowT) v wr → AI w CS ((((((((([rowA s] ++ s.msgs.map rowG) ++ s.insts.map rowI) ++ s.jobs.map rowJ) ++ s.kept.map rowK) ++ s.listed.map rowL) ++ s.procs.map rowP) ++ s.timers.map rowR) ++ s.subs.map rowS) ++ s.tokens.map rowT) v wr) := by intro v hv; rwa [List.take_length] at hv
                   have I9 := hid (I9.out _ hR.out)
                   clear hR hi hlt
                   have hfin : Hid (∀ v, AI w CS ((((((((([rowA s] ++ s.msgs.map rowG) ++ s.insts.map rowI) ++ s.jobs.map rowJ) ++ s.kept.map rowK) ++ s.listed.map rowL) ++ s.procs.map rowP) ++ s.timers.map rowR) ++ s.subs.map rowS) ++ s.tokens.map rowT) v wr → rowsF (rows s) v wr) := by
                    intro v hv
                    have h1 := FlatAt.of_own hv.own
                    have he : ((((((((([rowA s] ++ s.msgs.map rowG) ++ s.insts.map rowI) ++ s.jobs.map rowJ) ++ s.kept.map rowK) ++ s.listed.map rowL) ++ s.procs.map rowP) ++ s.timers.map rowR) ++ s.subs.map rowS) ++ s.tokens.map rowT) = rows s := by unfold rows lists; simp only [List.flatten_cons, List.flatten_nil, List.append_assoc, List.append_nil]
                    rw [he] at h1
                    exact h1
                   have hfin2 := hid (hfin.out _ I9.out)
                   go_wp2
                   go_ret
                   exact ⟨_, rfl, hfin2.out, I9.out.below⟩
end Go.Proofs.YthikijlbclckdaaGreat
