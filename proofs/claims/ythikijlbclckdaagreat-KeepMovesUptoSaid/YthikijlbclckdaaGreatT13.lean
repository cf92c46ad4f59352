/- Keep: contracts (Kq). -/
import Derived.Test.YthikijlbclckdaaGreatT11
namespace Go.Proofs.YthikijlbclckdaaGreat
set_option maxRecDepth 100000
set_option maxHeartbeats 40000000
set_option linter.unusedSimpArgs false
set_option linter.unusedVariables false
open Go.RowKit
structure CI (w : World) (cs : Array Value) (wr : World) : Prop where
 below : Below w.heap.size w wr
 box : wr.heap[w.heap.size]? = some (.cells cs 33 (0, 0))
theorem CI.grow {w : World} {cs : Array Value} {wr w' : World} (h : CI w cs wr) (hb : Below wr.heap.size wr w') : CI w cs w' :=
 ⟨h.below.trans (hb.mono h.below.size), (hb.block _ (heap_lt h.box)).trans h.box⟩
theorem rsmall_any (least n : Int) (w : World) : Calls Tryz.prog 84 #[.int .i64 least, .int .i64 n] w fun e w' => e = .returned (.bool (smallB least n)) ∧ w = w' := by
 by_cases h0 : least ≤ n
 ·
  have q0 : decide (least ≤ n) = true := decide_eq_true h0
  by_cases h1 : n ≤ 30000
  ·
   have q1 : decide (n ≤ 30000) = true := decide_eq_true h1
   have E : Hid (smallB least n = true) := by show _ = _; simp [smallB, h0, h1]
   go_enter Tryz.func84, Tryz.ntmps84
   go_wp2
   go_ret
   rw [E.out]
   exact ⟨rfl, rfl⟩
  ·
   have q1 : decide (n ≤ 30000) = false := decide_eq_false h1
   have E : Hid (smallB least n = false) := by show _ = _; simp [smallB, h1]
   go_enter Tryz.func84, Tryz.ntmps84
   go_wp2
   go_ret
   rw [E.out]
   exact ⟨rfl, rfl⟩
 ·
  have q0 : decide (least ≤ n) = false := decide_eq_false h0
  have E : Hid (smallB least n = false) := by show _ = _; simp [smallB, h0]
  go_enter Tryz.func84, Tryz.ntmps84
  go_wp2
  go_ret
  rw [E.out]
  exact ⟨rfl, rfl⟩
theorem rclock_any (n : Int) (w : World) : Calls Tryz.prog 85 #[.int .i64 n] w fun e w' => e = .returned (.bool (clockB n)) ∧ w = w' := by
 by_cases h0 : 0 ≤ n
 ·
  have q0 : decide (0 ≤ n) = true := decide_eq_true h0
  by_cases h1 : n ≤ 4611686018427387904
  ·
   have q1 : decide (n ≤ 4611686018427387904) = true := decide_eq_true h1
   have E : Hid (clockB n = true) := by show _ = _; simp [clockB, h0, h1]
   go_enter Tryz.func85, Tryz.ntmps85
   go_wp2
   go_ret
   rw [E.out]
   exact ⟨rfl, rfl⟩
  ·
   have q1 : decide (n ≤ 4611686018427387904) = false := decide_eq_false h1
   have E : Hid (clockB n = false) := by show _ = _; simp [clockB, h1]
   go_enter Tryz.func85, Tryz.ntmps85
   go_wp2
   go_ret
   rw [E.out]
   exact ⟨rfl, rfl⟩
 ·
  have q0 : decide (0 ≤ n) = false := decide_eq_false h0
  have E : Hid (clockB n = false) := by show _ = _; simp [clockB, h0]
  go_enter Tryz.func85, Tryz.ntmps85
  go_wp2
  go_ret
  rw [E.out]
  exact ⟨rfl, rfl⟩
def runB (s : StateV) : Bool := s.procs.all bDep && s.insts.all bInst && s.tokens.all bTok && s.jobs.all bJob && s.timers.all bTim
theorem running_any (s : StateV) (hok : StateOk s) (cs : List Value) (vp vi vt vj vr vs vk vl vm : Value) (w : World) (h : StateAt w cs s vp vi vt vj vr vs vk vl vm) :
  Calls Tryz.prog 30 #[.agg cs.toArray] w fun e w' => e = .returned (.bool (runB s)) ∧ Below w.heap.size w w' := by
 have H := hid h
 have Hok := hid hok
 obtain ⟨rfl, hp, hi, ht, hj, hr, hs, hk, hl, hm⟩ := h
 obtain ⟨ap, cp, rfl, -, np, -⟩ := hp
 obtain ⟨ai, ci, rfl, -, ni, -⟩ := hi
 obtain ⟨at_, ct, rfl, -, nt, -⟩ := ht
 obtain ⟨aj, cj, rfl, -, nj, -⟩ := hj
 obtain ⟨ar, cr, rfl, -, nr, -⟩ := hr
 obtain ⟨as_, cs_, rfl, -, ns, -⟩ := hs
 obtain ⟨ak, ck, rfl, -, nk, -⟩ := hk
 obtain ⟨al, cl, rfl, -, nl, -⟩ := hl
 obtain ⟨am, cm, rfl, -, nm, -⟩ := hm
 unfold maxLen at np ni nt nj nr ns nk nl nm
 clear hok
 obtain ⟨CS, hCS⟩ : ∃ CS : Array Value, CS = #[U s.pos, U s.done, U s.made, .slice ap s.procs.length cp, .slice ai s.insts.length ci, .slice at_ s.tokens.length ct, .slice aj s.jobs.length cj, .slice ar s.timers.length cr, .slice as_ s.subs.length cs_, .slice ak s.kept.length ck, .slice al s.listed.length cl, .slice am s.msgs.length cm] := ⟨_, rfl⟩
 have HCS := hid hCS
 clear hCS
 go_enter Tryz.func30, Tryz.ntmps30
 go_wp2_with fail
 have I0 : Hid (CI w CS (w.alloc (.cells #[U s.pos, U s.done, U s.made, .slice ap s.procs.length cp, .slice ai s.insts.length ci, .slice at_ s.tokens.length ct, .slice aj s.jobs.length cj, .slice ar s.timers.length cr, .slice as_ s.subs.length cs_, .slice ak s.kept.length ck, .slice al s.listed.length cl, .slice am s.msgs.length cm] 33))) := by
  rw [HCS.out]
  exact ⟨(Below.refl _ w).alloc (Nat.le_refl _) _, alloc_new _ _⟩
 go_loopw [3, 4] (fun vo vi wr => ∃ i : Nat, i ≤ s.procs.length ∧ vi = .int .i64 i ∧ vo = .bool (true && (s.procs.take i).all bDep) ∧ Hid (CI w CS wr)) (fun _ vi _ => s.procs.length - (intOf vi).toNat)
 case atStart => exact ⟨0, Nat.zero_le _, rfl, (show Value.bool true = .bool (true && true) by rw [Bool.and_true]), I0.out⟩
 case round =>
  obtain ⟨i, hi, rfl, rfl, hR⟩ := hrel
  have kk : wr.cell? ⟨w.heap.size, 3, none⟩ = some (.slice ap s.procs.length cp) := by rw [cell_of hR.out.box 3, HCS.out]; rfl
  by_cases hlt : i < s.procs.length
  ·
   obtain ⟨x, hx⟩ : ∃ x, s.procs[i]? = some x := ⟨_, List.getElem?_eq_getElem hlt⟩
   obtain ⟨a', cap', hv, -, -, hcell⟩ := H.out.procs
   cases hv
   obtain ⟨b, off, cs, rfl, hcl, hat, hc⟩ := hcell i x hx
   obtain rfl := hat
   have k0 := kc hR.out.below (hc 0 _ rfl)
   have k1 := kc hR.out.below (hc 1 _ rfl)
   simp only [Nat.add_zero] at k0
   have hox := hid (Hok.out.procs x (List.mem_of_getElem? hx))
   have hst := hid (all_snoc bDep s.procs i x hx)
   have HF : Hid (∀ c : Bool, ((true && (s.procs.take i).all bDep) && bDep x) = c → c = (true && (s.procs.take (i + 1)).all bDep)) := by intro c h; rw [hst.out, ← Bool.and_assoc]; exact h.symm
   clear hcell hx hc hcl hst
   generalize (true && (s.procs.take i).all bDep) = ok at HF ⊢
   have zz_id : x.id.size ≤ 2097152 := hox.out.id
   cases ok with
   | true =>
    by_cases h0 : x.id.size ≤ 32
    ·
     have q0 : decide (x.id.size ≤ 32) = true := decide_eq_true h0
     have p0 : decide ((x.id.size : Int) ≤ 32) = true := decide_eq_true (by omega)
     have hv := hid (HF.out true (by simp [bDep, textB, h0]))
     have J0 := hid hR.out
     go_wp2_with (first | (go_at_call 84; refine (rsmall_any _ _ _).mono ?_; rintro e w' ⟨rfl, rfl⟩) | (go_at_call 85; refine (rclock_any _ _).mono ?_; rintro e w' ⟨rfl, rfl⟩))
     go_roundw
     case rel => exact ⟨i + 1, by omega, by go_num, congrArg Value.bool hv.out, J0.out⟩
     case measure => simp [intOf]; omega
    ·
     have q0 : decide (x.id.size ≤ 32) = false := decide_eq_false h0
     have p0 : decide ((x.id.size : Int) ≤ 32) = false := decide_eq_false (by omega)
     have hv := hid (HF.out false (by simp [bDep, textB, h0]))
     have J0 := hid hR.out
     go_wp2_with (first | (go_at_call 84; refine (rsmall_any _ _ _).mono ?_; rintro e w' ⟨rfl, rfl⟩) | (go_at_call 85; refine (rclock_any _ _).mono ?_; rintro e w' ⟨rfl, rfl⟩))
     go_roundw
     case rel => exact ⟨i + 1, by omega, by go_num, congrArg Value.bool hv.out, J0.out⟩
     case measure => simp [intOf]; omega
   | false =>
    have hv := hid (HF.out false (by simp [bDep]))
    have J0 := hid hR.out
    go_wp2_with (first | (go_at_call 84; refine (rsmall_any _ _ _).mono ?_; rintro e w' ⟨rfl, rfl⟩) | (go_at_call 85; refine (rclock_any _ _).mono ?_; rintro e w' ⟨rfl, rfl⟩))
    go_roundw
    case rel => exact ⟨i + 1, by omega, by go_num, congrArg Value.bool hv.out, J0.out⟩
    case measure => simp [intOf]; omega
  ·
   have hin : i = s.procs.length := by omega
   subst hin
   have hE : (true && (s.procs.take s.procs.length).all bDep) = (true && s.procs.all bDep) := by rw [List.take_length]
   rw [hE]
   have I1 := hR
   clear hR hi hlt hE
   go_wp2_with fail
   clear kk
   obtain ⟨wo, rfl⟩ : ∃ wo : World, wo = wr := ⟨_, rfl⟩
   go_loopw [3, 5] (fun vo vi wr => ∃ i : Nat, i ≤ s.insts.length ∧ vi = .int .i64 i ∧ vo = .bool ((true && s.procs.all bDep) && (s.insts.take i).all bInst) ∧ Hid (CI w CS wr)) (fun _ vi _ => s.insts.length - (intOf vi).toNat)
   case atStart => exact ⟨0, Nat.zero_le _, rfl, (show Value.bool (true && s.procs.all bDep) = .bool ((true && s.procs.all bDep) && true) by rw [Bool.and_true]), I1.out⟩
   case round =>
    obtain ⟨i, hi, rfl, rfl, hR⟩ := hrel
    have kk : wr.cell? ⟨w.heap.size, 4, none⟩ = some (.slice ai s.insts.length ci) := by rw [cell_of hR.out.box 4, HCS.out]; rfl
    by_cases hlt : i < s.insts.length
    ·
     obtain ⟨x, hx⟩ : ∃ x, s.insts[i]? = some x := ⟨_, List.getElem?_eq_getElem hlt⟩
     obtain ⟨a', cap', hv, -, -, hcell⟩ := H.out.insts
     cases hv
     obtain ⟨b, off, cs, rfl, hcl, hat, hc⟩ := hcell i x hx
     obtain ⟨v3, rfl, hv3⟩ := hat
     have HV3 := hid hv3
     obtain ⟨a3, c30, rfl, -⟩ := hv3
     have k0 := kc hR.out.below (hc 0 _ rfl)
     have k1 := kc hR.out.below (hc 1 _ rfl)
     have k2 := kc hR.out.below (hc 2 _ rfl)
     simp only [Nat.add_zero] at k0
     have hox := hid (Hok.out.insts x (List.mem_of_getElem? hx))
     have hst := hid (all_snoc bInst s.insts i x hx)
     have HF : Hid (∀ c : Bool, (((true && s.procs.all bDep) && (s.insts.take i).all bInst) && bInst x) = c → c = ((true && s.procs.all bDep) && (s.insts.take (i + 1)).all bInst)) := by intro c h; rw [hst.out, ← Bool.and_assoc]; exact h.symm
     clear hcell hx hc hcl hst
     generalize ((true && s.procs.all bDep) && (s.insts.take i).all bInst) = ok at HF ⊢
     have zz_id : x.id.size ≤ 2097152 := hox.out.id
     cases ok with
     | true =>
      cases h0 : rightV x.vars with
      | true =>
       by_cases h1 : x.id.size ≤ 32
       ·
        have q1 : decide (x.id.size ≤ 32) = true := decide_eq_true h1
        have p1 : decide ((x.id.size : Int) ≤ 32) = true := decide_eq_true (by omega)
        have hv := hid (HF.out true (by simp [bInst, h0, textB, h1]))
        have J0 := hid hR.out
        go_wp2_with fail
        refine (rright_any _ x.vars wr hox.out.vars (HV3.out.below J0.out.below)).mono ?_
        rintro e w4 ⟨rfl, b4⟩
        have J1 := hid (J0.out.grow b4)
        replace k0 := (b4.cell (World.block_lt_of_cell? wr _ k0)).trans k0
        replace k1 := (b4.cell (World.block_lt_of_cell? wr _ k1)).trans k1
        replace k2 := (b4.cell (World.block_lt_of_cell? wr _ k2)).trans k2
        have kk4 : w4.cell? ⟨w.heap.size, 4, none⟩ = some (.slice (some ⟨b, off, none⟩) s.insts.length ci) := by rw [cell_of J1.out.box 4, HCS.out]; rfl
        clear b4
        go_wp2_with (first | (go_at_call 84; refine (rsmall_any _ _ _).mono ?_; rintro e w' ⟨rfl, rfl⟩) | (go_at_call 85; refine (rclock_any _ _).mono ?_; rintro e w' ⟨rfl, rfl⟩))
        go_roundw
        case rel => exact ⟨i + 1, by omega, by go_num, congrArg Value.bool hv.out, J1.out⟩
        case measure => simp [intOf]; omega
       ·
        have q1 : decide (x.id.size ≤ 32) = false := decide_eq_false h1
        have p1 : decide ((x.id.size : Int) ≤ 32) = false := decide_eq_false (by omega)
        have hv := hid (HF.out false (by simp [bInst, h0, textB, h1]))
        have J0 := hid hR.out
        go_wp2_with fail
        refine (rright_any _ x.vars wr hox.out.vars (HV3.out.below J0.out.below)).mono ?_
        rintro e w4 ⟨rfl, b4⟩
        have J1 := hid (J0.out.grow b4)
        replace k0 := (b4.cell (World.block_lt_of_cell? wr _ k0)).trans k0
        replace k1 := (b4.cell (World.block_lt_of_cell? wr _ k1)).trans k1
        replace k2 := (b4.cell (World.block_lt_of_cell? wr _ k2)).trans k2
        have kk4 : w4.cell? ⟨w.heap.size, 4, none⟩ = some (.slice (some ⟨b, off, none⟩) s.insts.length ci) := by rw [cell_of J1.out.box 4, HCS.out]; rfl
        clear b4
        go_wp2_with (first | (go_at_call 84; refine (rsmall_any _ _ _).mono ?_; rintro e w' ⟨rfl, rfl⟩) | (go_at_call 85; refine (rclock_any _ _).mono ?_; rintro e w' ⟨rfl, rfl⟩))
        go_roundw
        case rel => exact ⟨i + 1, by omega, by go_num, congrArg Value.bool hv.out, J1.out⟩
        case measure => simp [intOf]; omega
      | false =>
       have hv := hid (HF.out false (by simp [bInst, h0]))
       have J0 := hid hR.out
       go_wp2_with fail
       refine (rright_any _ x.vars wr hox.out.vars (HV3.out.below J0.out.below)).mono ?_
       rintro e w4 ⟨rfl, b4⟩
       have J1 := hid (J0.out.grow b4)
       replace k0 := (b4.cell (World.block_lt_of_cell? wr _ k0)).trans k0
       replace k1 := (b4.cell (World.block_lt_of_cell? wr _ k1)).trans k1
       replace k2 := (b4.cell (World.block_lt_of_cell? wr _ k2)).trans k2
       have kk4 : w4.cell? ⟨w.heap.size, 4, none⟩ = some (.slice (some ⟨b, off, none⟩) s.insts.length ci) := by rw [cell_of J1.out.box 4, HCS.out]; rfl
       clear b4
       go_wp2_with (first | (go_at_call 84; refine (rsmall_any _ _ _).mono ?_; rintro e w' ⟨rfl, rfl⟩) | (go_at_call 85; refine (rclock_any _ _).mono ?_; rintro e w' ⟨rfl, rfl⟩))
       go_roundw
       case rel => exact ⟨i + 1, by omega, by go_num, congrArg Value.bool hv.out, J1.out⟩
       case measure => simp [intOf]; omega
     | false =>
      generalize hrr : rightV x.vars = rr at *
      have Hrr := hid hrr
      clear hrr
      have hv := hid (HF.out false (by simp [bInst]))
      have J0 := hid hR.out
      go_wp2_with fail
      refine (rright_any _ x.vars wr hox.out.vars (HV3.out.below J0.out.below)).mono ?_
      rintro e w4 ⟨rfl, b4⟩
      rw [Hrr.out]
      have J1 := hid (J0.out.grow b4)
      replace k0 := (b4.cell (World.block_lt_of_cell? wr _ k0)).trans k0
      replace k1 := (b4.cell (World.block_lt_of_cell? wr _ k1)).trans k1
      replace k2 := (b4.cell (World.block_lt_of_cell? wr _ k2)).trans k2
      have kk4 : w4.cell? ⟨w.heap.size, 4, none⟩ = some (.slice (some ⟨b, off, none⟩) s.insts.length ci) := by rw [cell_of J1.out.box 4, HCS.out]; rfl
      clear b4
      go_wp2_with (first | (go_at_call 84; refine (rsmall_any _ _ _).mono ?_; rintro e w' ⟨rfl, rfl⟩) | (go_at_call 85; refine (rclock_any _ _).mono ?_; rintro e w' ⟨rfl, rfl⟩))
      go_roundw
      case rel => exact ⟨i + 1, by omega, by go_num, congrArg Value.bool hv.out, J1.out⟩
      case measure => simp [intOf]; omega
    ·
     have hin : i = s.insts.length := by omega
     subst hin
     have hE : ((true && s.procs.all bDep) && (s.insts.take s.insts.length).all bInst) = ((true && s.procs.all bDep) && s.insts.all bInst) := by rw [List.take_length]
     rw [hE]
     have I2 := hR
     clear hR hi hlt hE
     go_wp2_with fail
     clear kk
     obtain ⟨wo, rfl⟩ : ∃ wo : World, wo = wr := ⟨_, rfl⟩
     go_loopw [3, 7] (fun vo vi wr => ∃ i : Nat, i ≤ s.tokens.length ∧ vi = .int .i64 i ∧ vo = .bool (((true && s.procs.all bDep) && s.insts.all bInst) && (s.tokens.take i).all bTok) ∧ Hid (CI w CS wr)) (fun _ vi _ => s.tokens.length - (intOf vi).toNat)
     case atStart => exact ⟨0, Nat.zero_le _, rfl, (show Value.bool ((true && s.procs.all bDep) && s.insts.all bInst) = .bool (((true && s.procs.all bDep) && s.insts.all bInst) && true) by rw [Bool.and_true]), I2.out⟩
     case round =>
      obtain ⟨i, hi, rfl, rfl, hR⟩ := hrel
      have kk : wr.cell? ⟨w.heap.size, 5, none⟩ = some (.slice at_ s.tokens.length ct) := by rw [cell_of hR.out.box 5, HCS.out]; rfl
      by_cases hlt : i < s.tokens.length
      ·
       obtain ⟨x, hx⟩ : ∃ x, s.tokens[i]? = some x := ⟨_, List.getElem?_eq_getElem hlt⟩
       obtain ⟨a', cap', hv, -, -, hcell⟩ := H.out.tokens
       cases hv
       obtain ⟨b, off, cs, rfl, hcl, hat, hc⟩ := hcell i x hx
       obtain rfl := hat
       have k0 := kc hR.out.below (hc 0 _ rfl)
       have k1 := kc hR.out.below (hc 1 _ rfl)
       have k2 := kc hR.out.below (hc 2 _ rfl)
       have k3 := kc hR.out.below (hc 3 _ rfl)
       have k4 := kc hR.out.below (hc 4 _ rfl)
       have k5 := kc hR.out.below (hc 5 _ rfl)
       simp only [Nat.add_zero] at k0
       have hox := hid (Hok.out.tokens x (List.mem_of_getElem? hx))
       have hst := hid (all_snoc bTok s.tokens i x hx)
       have HF : Hid (∀ c : Bool, ((((true && s.procs.all bDep) && s.insts.all bInst) && (s.tokens.take i).all bTok) && bTok x) = c → c = (((true && s.procs.all bDep) && s.insts.all bInst) && (s.tokens.take (i + 1)).all bTok)) := by intro c h; rw [hst.out, ← Bool.and_assoc]; exact h.symm
       clear hcell hx hc hcl hst
       generalize (((true && s.procs.all bDep) && s.insts.all bInst) && (s.tokens.take i).all bTok) = ok at HF ⊢
       have zz_stuck : x.stuck.size ≤ 2097152 := hox.out.stuck
       cases ok with
       | true =>
        cases h0 : smallB (-1) x.node with
        | true =>
         cases h1 : smallB (-1) x.by_ with
         | true =>
          by_cases h2 : x.stuck.size ≤ 32
          ·
           have q2 : decide (x.stuck.size ≤ 32) = true := decide_eq_true h2
           have p2 : decide ((x.stuck.size : Int) ≤ 32) = true := decide_eq_true (by omega)
           have hv := hid (HF.out true (by simp [bTok, h0, h1, textB, h2]))
           have J0 := hid (hR.out.grow ((Below.refl _ wr).alloc (Nat.le_refl _) (.cells #[U x.key, U x.inst, U x.scope, I x.node, I x.by_, .string x.stuck] 105)))
           go_wp2_with (first | (go_at_call 84; refine (rsmall_any _ _ _).mono ?_; rintro e w' ⟨rfl, rfl⟩) | (go_at_call 85; refine (rclock_any _ _).mono ?_; rintro e w' ⟨rfl, rfl⟩))
           go_roundw
           case rel => exact ⟨i + 1, by omega, by go_num, congrArg Value.bool hv.out, J0.out⟩
           case measure => simp [intOf]; omega
          ·
           have q2 : decide (x.stuck.size ≤ 32) = false := decide_eq_false h2
           have p2 : decide ((x.stuck.size : Int) ≤ 32) = false := decide_eq_false (by omega)
           have hv := hid (HF.out false (by simp [bTok, h0, h1, textB, h2]))
           have J0 := hid (hR.out.grow ((Below.refl _ wr).alloc (Nat.le_refl _) (.cells #[U x.key, U x.inst, U x.scope, I x.node, I x.by_, .string x.stuck] 105)))
           go_wp2_with (first | (go_at_call 84; refine (rsmall_any _ _ _).mono ?_; rintro e w' ⟨rfl, rfl⟩) | (go_at_call 85; refine (rclock_any _ _).mono ?_; rintro e w' ⟨rfl, rfl⟩))
           go_roundw
           case rel => exact ⟨i + 1, by omega, by go_num, congrArg Value.bool hv.out, J0.out⟩
           case measure => simp [intOf]; omega
         | false =>
          have hv := hid (HF.out false (by simp [bTok, h0, h1]))
          have J0 := hid (hR.out.grow ((Below.refl _ wr).alloc (Nat.le_refl _) (.cells #[U x.key, U x.inst, U x.scope, I x.node, I x.by_, .string x.stuck] 105)))
          go_wp2_with (first | (go_at_call 84; refine (rsmall_any _ _ _).mono ?_; rintro e w' ⟨rfl, rfl⟩) | (go_at_call 85; refine (rclock_any _ _).mono ?_; rintro e w' ⟨rfl, rfl⟩))
          go_roundw
          case rel => exact ⟨i + 1, by omega, by go_num, congrArg Value.bool hv.out, J0.out⟩
          case measure => simp [intOf]; omega
        | false =>
         have hv := hid (HF.out false (by simp [bTok, h0]))
         have J0 := hid (hR.out.grow ((Below.refl _ wr).alloc (Nat.le_refl _) (.cells #[U x.key, U x.inst, U x.scope, I x.node, I x.by_, .string x.stuck] 105)))
         go_wp2_with (first | (go_at_call 84; refine (rsmall_any _ _ _).mono ?_; rintro e w' ⟨rfl, rfl⟩) | (go_at_call 85; refine (rclock_any _ _).mono ?_; rintro e w' ⟨rfl, rfl⟩))
         go_roundw
         case rel => exact ⟨i + 1, by omega, by go_num, congrArg Value.bool hv.out, J0.out⟩
         case measure => simp [intOf]; omega
       | false =>
        have hv := hid (HF.out false (by simp [bTok]))
        have J0 := hid (hR.out.grow ((Below.refl _ wr).alloc (Nat.le_refl _) (.cells #[U x.key, U x.inst, U x.scope, I x.node, I x.by_, .string x.stuck] 105)))
        go_wp2_with (first | (go_at_call 84; refine (rsmall_any _ _ _).mono ?_; rintro e w' ⟨rfl, rfl⟩) | (go_at_call 85; refine (rclock_any _ _).mono ?_; rintro e w' ⟨rfl, rfl⟩))
        go_roundw
        case rel => exact ⟨i + 1, by omega, by go_num, congrArg Value.bool hv.out, J0.out⟩
        case measure => simp [intOf]; omega
      ·
       have hin : i = s.tokens.length := by omega
       subst hin
       have hE : (((true && s.procs.all bDep) && s.insts.all bInst) && (s.tokens.take s.tokens.length).all bTok) = (((true && s.procs.all bDep) && s.insts.all bInst) && s.tokens.all bTok) := by rw [List.take_length]
       rw [hE]
       have I3 := hR
       clear hR hi hlt hE
       go_wp2_with fail
       clear kk
       obtain ⟨wo, rfl⟩ : ∃ wo : World, wo = wr := ⟨_, rfl⟩
       go_loopw [3, 9] (fun vo vi wr => ∃ i : Nat, i ≤ s.jobs.length ∧ vi = .int .i64 i ∧ vo = .bool ((((true && s.procs.all bDep) && s.insts.all bInst) && s.tokens.all bTok) && (s.jobs.take i).all bJob) ∧ Hid (CI w CS wr)) (fun _ vi _ => s.jobs.length - (intOf vi).toNat)
       case atStart => exact ⟨0, Nat.zero_le _, rfl, (show Value.bool (((true && s.procs.all bDep) && s.insts.all bInst) && s.tokens.all bTok) = .bool ((((true && s.procs.all bDep) && s.insts.all bInst) && s.tokens.all bTok) && true) by rw [Bool.and_true]), I3.out⟩
       case round =>
        obtain ⟨i, hi, rfl, rfl, hR⟩ := hrel
        have kk : wr.cell? ⟨w.heap.size, 6, none⟩ = some (.slice aj s.jobs.length cj) := by rw [cell_of hR.out.box 6, HCS.out]; rfl
        by_cases hlt : i < s.jobs.length
        ·
         obtain ⟨x, hx⟩ : ∃ x, s.jobs[i]? = some x := ⟨_, List.getElem?_eq_getElem hlt⟩
         obtain ⟨a', cap', hv, -, -, hcell⟩ := H.out.jobs
         cases hv
         obtain ⟨b, off, cs, rfl, hcl, hat, hc⟩ := hcell i x hx
         obtain rfl := hat
         have k0 := kc hR.out.below (hc 0 _ rfl)
         have k1 := kc hR.out.below (hc 1 _ rfl)
         have k2 := kc hR.out.below (hc 2 _ rfl)
         have k3 := kc hR.out.below (hc 3 _ rfl)
         have k4 := kc hR.out.below (hc 4 _ rfl)
         have k5 := kc hR.out.below (hc 5 _ rfl)
         simp only [Nat.add_zero] at k0
         have hox := hid (Hok.out.jobs x (List.mem_of_getElem? hx))
         have hst := hid (all_snoc bJob s.jobs i x hx)
         have HF : Hid (∀ c : Bool, (((((true && s.procs.all bDep) && s.insts.all bInst) && s.tokens.all bTok) && (s.jobs.take i).all bJob) && bJob x) = c → c = ((((true && s.procs.all bDep) && s.insts.all bInst) && s.tokens.all bTok) && (s.jobs.take (i + 1)).all bJob)) := by intro c h; rw [hst.out, ← Bool.and_assoc]; exact h.symm
         clear hcell hx hc hcl hst
         generalize ((((true && s.procs.all bDep) && s.insts.all bInst) && s.tokens.all bTok) && (s.jobs.take i).all bJob) = ok at HF ⊢
         have zz_type : x.type.size ≤ 2097152 := hox.out.type
         have zz_worker : x.worker.size ≤ 2097152 := hox.out.worker
         cases ok with
         | true =>
          cases h0 : smallB (-1) x.retries with
          | true =>
           cases h1 : clockB x.till with
           | true =>
            by_cases h2 : x.type.size ≤ 32
            ·
             have q2 : decide (x.type.size ≤ 32) = true := decide_eq_true h2
             have p2 : decide ((x.type.size : Int) ≤ 32) = true := decide_eq_true (by omega)
             by_cases h3 : x.worker.size ≤ 32
             ·
              have q3 : decide (x.worker.size ≤ 32) = true := decide_eq_true h3
              have p3 : decide ((x.worker.size : Int) ≤ 32) = true := decide_eq_true (by omega)
              have hv := hid (HF.out true (by simp [bJob, h0, h1, textB, h2, textB, h3]))
              have J0 := hid (hR.out.grow ((Below.refl _ wr).alloc (Nat.le_refl _) (.cells #[U x.key, U x.token, .string x.type, I x.retries, .string x.worker, I x.till] 107)))
              go_wp2_with (first | (go_at_call 84; refine (rsmall_any _ _ _).mono ?_; rintro e w' ⟨rfl, rfl⟩) | (go_at_call 85; refine (rclock_any _ _).mono ?_; rintro e w' ⟨rfl, rfl⟩))
              go_roundw
              case rel => exact ⟨i + 1, by omega, by go_num, congrArg Value.bool hv.out, J0.out⟩
              case measure => simp [intOf]; omega
             ·
              have q3 : decide (x.worker.size ≤ 32) = false := decide_eq_false h3
              have p3 : decide ((x.worker.size : Int) ≤ 32) = false := decide_eq_false (by omega)
              have hv := hid (HF.out false (by simp [bJob, h0, h1, textB, h2, textB, h3]))
              have J0 := hid (hR.out.grow ((Below.refl _ wr).alloc (Nat.le_refl _) (.cells #[U x.key, U x.token, .string x.type, I x.retries, .string x.worker, I x.till] 107)))
              go_wp2_with (first | (go_at_call 84; refine (rsmall_any _ _ _).mono ?_; rintro e w' ⟨rfl, rfl⟩) | (go_at_call 85; refine (rclock_any _ _).mono ?_; rintro e w' ⟨rfl, rfl⟩))
              go_roundw
              case rel => exact ⟨i + 1, by omega, by go_num, congrArg Value.bool hv.out, J0.out⟩
              case measure => simp [intOf]; omega
            ·
             have q2 : decide (x.type.size ≤ 32) = false := decide_eq_false h2
             have p2 : decide ((x.type.size : Int) ≤ 32) = false := decide_eq_false (by omega)
             have hv := hid (HF.out false (by simp [bJob, h0, h1, textB, h2]))
             have J0 := hid (hR.out.grow ((Below.refl _ wr).alloc (Nat.le_refl _) (.cells #[U x.key, U x.token, .string x.type, I x.retries, .string x.worker, I x.till] 107)))
             go_wp2_with (first | (go_at_call 84; refine (rsmall_any _ _ _).mono ?_; rintro e w' ⟨rfl, rfl⟩) | (go_at_call 85; refine (rclock_any _ _).mono ?_; rintro e w' ⟨rfl, rfl⟩))
             go_roundw
             case rel => exact ⟨i + 1, by omega, by go_num, congrArg Value.bool hv.out, J0.out⟩
             case measure => simp [intOf]; omega
           | false =>
            have hv := hid (HF.out false (by simp [bJob, h0, h1]))
            have J0 := hid (hR.out.grow ((Below.refl _ wr).alloc (Nat.le_refl _) (.cells #[U x.key, U x.token, .string x.type, I x.retries, .string x.worker, I x.till] 107)))
            go_wp2_with (first | (go_at_call 84; refine (rsmall_any _ _ _).mono ?_; rintro e w' ⟨rfl, rfl⟩) | (go_at_call 85; refine (rclock_any _ _).mono ?_; rintro e w' ⟨rfl, rfl⟩))
            go_roundw
            case rel => exact ⟨i + 1, by omega, by go_num, congrArg Value.bool hv.out, J0.out⟩
            case measure => simp [intOf]; omega
          | false =>
           have hv := hid (HF.out false (by simp [bJob, h0]))
           have J0 := hid (hR.out.grow ((Below.refl _ wr).alloc (Nat.le_refl _) (.cells #[U x.key, U x.token, .string x.type, I x.retries, .string x.worker, I x.till] 107)))
           go_wp2_with (first | (go_at_call 84; refine (rsmall_any _ _ _).mono ?_; rintro e w' ⟨rfl, rfl⟩) | (go_at_call 85; refine (rclock_any _ _).mono ?_; rintro e w' ⟨rfl, rfl⟩))
           go_roundw
           case rel => exact ⟨i + 1, by omega, by go_num, congrArg Value.bool hv.out, J0.out⟩
           case measure => simp [intOf]; omega
         | false =>
          have hv := hid (HF.out false (by simp [bJob]))
          have J0 := hid (hR.out.grow ((Below.refl _ wr).alloc (Nat.le_refl _) (.cells #[U x.key, U x.token, .string x.type, I x.retries, .string x.worker, I x.till] 107)))
          go_wp2_with (first | (go_at_call 84; refine (rsmall_any _ _ _).mono ?_; rintro e w' ⟨rfl, rfl⟩) | (go_at_call 85; refine (rclock_any _ _).mono ?_; rintro e w' ⟨rfl, rfl⟩))
          go_roundw
          case rel => exact ⟨i + 1, by omega, by go_num, congrArg Value.bool hv.out, J0.out⟩
          case measure => simp [intOf]; omega
        ·
         have hin : i = s.jobs.length := by omega
         subst hin
         have hE : ((((true && s.procs.all bDep) && s.insts.all bInst) && s.tokens.all bTok) && (s.jobs.take s.jobs.length).all bJob) = ((((true && s.procs.all bDep) && s.insts.all bInst) && s.tokens.all bTok) && s.jobs.all bJob) := by rw [List.take_length]
         rw [hE]
         have I4 := hR
         clear hR hi hlt hE
         go_wp2_with fail
         clear kk
         obtain ⟨wo, rfl⟩ : ∃ wo : World, wo = wr := ⟨_, rfl⟩
         go_loopw [3, 11] (fun vo vi wr => ∃ i : Nat, i ≤ s.timers.length ∧ vi = .int .i64 i ∧ vo = .bool (((((true && s.procs.all bDep) && s.insts.all bInst) && s.tokens.all bTok) && s.jobs.all bJob) && (s.timers.take i).all bTim) ∧ Hid (CI w CS wr)) (fun _ vi _ => s.timers.length - (intOf vi).toNat)
         case atStart => exact ⟨0, Nat.zero_le _, rfl, (show Value.bool ((((true && s.procs.all bDep) && s.insts.all bInst) && s.tokens.all bTok) && s.jobs.all bJob) = .bool (((((true && s.procs.all bDep) && s.insts.all bInst) && s.tokens.all bTok) && s.jobs.all bJob) && true) by rw [Bool.and_true]), I4.out⟩
         case round =>
          obtain ⟨i, hi, rfl, rfl, hR⟩ := hrel
          have kk : wr.cell? ⟨w.heap.size, 7, none⟩ = some (.slice ar s.timers.length cr) := by rw [cell_of hR.out.box 7, HCS.out]; rfl
          by_cases hlt : i < s.timers.length
          ·
           obtain ⟨x, hx⟩ : ∃ x, s.timers[i]? = some x := ⟨_, List.getElem?_eq_getElem hlt⟩
           obtain ⟨a', cap', hv, -, -, hcell⟩ := H.out.timers
           cases hv
           obtain ⟨b, off, cs, rfl, hcl, hat, hc⟩ := hcell i x hx
           obtain rfl := hat
           have k0 := kc hR.out.below (hc 0 _ rfl)
           have k1 := kc hR.out.below (hc 1 _ rfl)
           have k2 := kc hR.out.below (hc 2 _ rfl)
           simp only [Nat.add_zero] at k0
           have hox := hid (Hok.out.timers x (List.mem_of_getElem? hx))
           have hst := hid (all_snoc bTim s.timers i x hx)
           have HF : Hid (∀ c : Bool, ((((((true && s.procs.all bDep) && s.insts.all bInst) && s.tokens.all bTok) && s.jobs.all bJob) && (s.timers.take i).all bTim) && bTim x) = c → c = (((((true && s.procs.all bDep) && s.insts.all bInst) && s.tokens.all bTok) && s.jobs.all bJob) && (s.timers.take (i + 1)).all bTim)) := by intro c h; rw [hst.out, ← Bool.and_assoc]; exact h.symm
           clear hcell hx hc hcl hst
           generalize (((((true && s.procs.all bDep) && s.insts.all bInst) && s.tokens.all bTok) && s.jobs.all bJob) && (s.timers.take i).all bTim) = ok at HF ⊢
           cases ok with
           | true =>
            cases h0 : smallB 0 x.node with
            | true =>
             cases h1 : clockB x.when_ with
             | true =>
              have hv := hid (HF.out true (by simp [bTim, h0, h1]))
              have J0 := hid hR.out
              go_wp2_with (first | (go_at_call 84; refine (rsmall_any _ _ _).mono ?_; rintro e w' ⟨rfl, rfl⟩) | (go_at_call 85; refine (rclock_any _ _).mono ?_; rintro e w' ⟨rfl, rfl⟩))
              go_roundw
              case rel => exact ⟨i + 1, by omega, by go_num, congrArg Value.bool hv.out, J0.out⟩
              case measure => simp [intOf]; omega
             | false =>
              have hv := hid (HF.out false (by simp [bTim, h0, h1]))
              have J0 := hid hR.out
              go_wp2_with (first | (go_at_call 84; refine (rsmall_any _ _ _).mono ?_; rintro e w' ⟨rfl, rfl⟩) | (go_at_call 85; refine (rclock_any _ _).mono ?_; rintro e w' ⟨rfl, rfl⟩))
              go_roundw
              case rel => exact ⟨i + 1, by omega, by go_num, congrArg Value.bool hv.out, J0.out⟩
              case measure => simp [intOf]; omega
            | false =>
             have hv := hid (HF.out false (by simp [bTim, h0]))
             have J0 := hid hR.out
             go_wp2_with (first | (go_at_call 84; refine (rsmall_any _ _ _).mono ?_; rintro e w' ⟨rfl, rfl⟩) | (go_at_call 85; refine (rclock_any _ _).mono ?_; rintro e w' ⟨rfl, rfl⟩))
             go_roundw
             case rel => exact ⟨i + 1, by omega, by go_num, congrArg Value.bool hv.out, J0.out⟩
             case measure => simp [intOf]; omega
           | false =>
            have hv := hid (HF.out false (by simp [bTim]))
            have J0 := hid hR.out
            go_wp2_with (first | (go_at_call 84; refine (rsmall_any _ _ _).mono ?_; rintro e w' ⟨rfl, rfl⟩) | (go_at_call 85; refine (rclock_any _ _).mono ?_; rintro e w' ⟨rfl, rfl⟩))
            go_roundw
            case rel => exact ⟨i + 1, by omega, by go_num, congrArg Value.bool hv.out, J0.out⟩
            case measure => simp [intOf]; omega
          ·
           have hin : i = s.timers.length := by omega
           subst hin
           have hE : (((((true && s.procs.all bDep) && s.insts.all bInst) && s.tokens.all bTok) && s.jobs.all bJob) && (s.timers.take s.timers.length).all bTim) = (((((true && s.procs.all bDep) && s.insts.all bInst) && s.tokens.all bTok) && s.jobs.all bJob) && s.timers.all bTim) := by rw [List.take_length]
           rw [hE]
           have I5 := hR
           clear hR hi hlt hE
           go_wp2
           go_ret
           exact ⟨by unfold runB; rfl, I5.out.below⟩
def waitB (s : StateV) : Bool := s.subs.all bSub && s.kept.all bKept && s.listed.all bLis && s.msgs.all bMsg
theorem waiting_any (s : StateV) (hok : StateOk s) (cs : List Value) (vp vi vt vj vr vs vk vl vm : Value) (w : World) (h : StateAt w cs s vp vi vt vj vr vs vk vl vm) :
  Calls Tryz.prog 31 #[.agg cs.toArray] w fun e w' => e = .returned (.bool (waitB s)) ∧ Below w.heap.size w w' := by
 have H := hid h
 have Hok := hid hok
 obtain ⟨rfl, hp, hi, ht, hj, hr, hs, hk, hl, hm⟩ := h
 obtain ⟨ap, cp, rfl, -, np, -⟩ := hp
 obtain ⟨ai, ci, rfl, -, ni, -⟩ := hi
 obtain ⟨at_, ct, rfl, -, nt, -⟩ := ht
 obtain ⟨aj, cj, rfl, -, nj, -⟩ := hj
 obtain ⟨ar, cr, rfl, -, nr, -⟩ := hr
 obtain ⟨as_, cs_, rfl, -, ns, -⟩ := hs
 obtain ⟨ak, ck, rfl, -, nk, -⟩ := hk
 obtain ⟨al, cl, rfl, -, nl, -⟩ := hl
 obtain ⟨am, cm, rfl, -, nm, -⟩ := hm
 unfold maxLen at np ni nt nj nr ns nk nl nm
 clear hok
 obtain ⟨CS, hCS⟩ : ∃ CS : Array Value, CS = #[U s.pos, U s.done, U s.made, .slice ap s.procs.length cp, .slice ai s.insts.length ci, .slice at_ s.tokens.length ct, .slice aj s.jobs.length cj, .slice ar s.timers.length cr, .slice as_ s.subs.length cs_, .slice ak s.kept.length ck, .slice al s.listed.length cl, .slice am s.msgs.length cm] := ⟨_, rfl⟩
 have HCS := hid hCS
 clear hCS
 go_enter Tryz.func31, Tryz.ntmps31
 go_wp2_with fail
 have I0 : Hid (CI w CS (w.alloc (.cells #[U s.pos, U s.done, U s.made, .slice ap s.procs.length cp, .slice ai s.insts.length ci, .slice at_ s.tokens.length ct, .slice aj s.jobs.length cj, .slice ar s.timers.length cr, .slice as_ s.subs.length cs_, .slice ak s.kept.length ck, .slice al s.listed.length cl, .slice am s.msgs.length cm] 33))) := by
  rw [HCS.out]
  exact ⟨(Below.refl _ w).alloc (Nat.le_refl _) _, alloc_new _ _⟩
 go_loopw [3, 4] (fun vo vi wr => ∃ i : Nat, i ≤ s.subs.length ∧ vi = .int .i64 i ∧ vo = .bool (true && (s.subs.take i).all bSub) ∧ Hid (CI w CS wr)) (fun _ vi _ => s.subs.length - (intOf vi).toNat)
 case atStart => exact ⟨0, Nat.zero_le _, rfl, (show Value.bool true = .bool (true && true) by rw [Bool.and_true]), I0.out⟩
 case round =>
  obtain ⟨i, hi, rfl, rfl, hR⟩ := hrel
  have kk : wr.cell? ⟨w.heap.size, 8, none⟩ = some (.slice as_ s.subs.length cs_) := by rw [cell_of hR.out.box 8, HCS.out]; rfl
  by_cases hlt : i < s.subs.length
  ·
   obtain ⟨x, hx⟩ : ∃ x, s.subs[i]? = some x := ⟨_, List.getElem?_eq_getElem hlt⟩
   obtain ⟨a', cap', hv, -, -, hcell⟩ := H.out.subs
   cases hv
   obtain ⟨b, off, cs, rfl, hcl, hat, hc⟩ := hcell i x hx
   obtain rfl := hat
   have k0 := kc hR.out.below (hc 0 _ rfl)
   have k1 := kc hR.out.below (hc 1 _ rfl)
   have k2 := kc hR.out.below (hc 2 _ rfl)
   have k3 := kc hR.out.below (hc 3 _ rfl)
   have k4 := kc hR.out.below (hc 4 _ rfl)
   have k5 := kc hR.out.below (hc 5 _ rfl)
   simp only [Nat.add_zero] at k0
   have hox := hid (Hok.out.subs x (List.mem_of_getElem? hx))
   have hst := hid (all_snoc bSub s.subs i x hx)
   have HF : Hid (∀ c : Bool, ((true && (s.subs.take i).all bSub) && bSub x) = c → c = (true && (s.subs.take (i + 1)).all bSub)) := by intro c h; rw [hst.out, ← Bool.and_assoc]; exact h.symm
   clear hcell hx hc hcl hst
   generalize (true && (s.subs.take i).all bSub) = ok at HF ⊢
   have zz_name : x.name.size ≤ 2097152 := hox.out.name
   have zz_key : x.key.size ≤ 2097152 := hox.out.key
   cases ok with
   | true =>
    cases h0 : smallB 0 x.node with
    | true =>
     by_cases h1 : x.name.size ≤ 32
     ·
      have q1 : decide (x.name.size ≤ 32) = true := decide_eq_true h1
      have p1 : decide ((x.name.size : Int) ≤ 32) = true := decide_eq_true (by omega)
      by_cases h2 : x.key.size ≤ 1024
      ·
       have q2 : decide (x.key.size ≤ 1024) = true := decide_eq_true h2
       have p2 : decide ((x.key.size : Int) ≤ 1024) = true := decide_eq_true (by omega)
       have hv := hid (HF.out true (by simp [bSub, h0, textB, h1, textB, h2]))
       have J0 := hid (hR.out.grow ((Below.refl _ wr).alloc (Nat.le_refl _) (.cells #[U x.token, U x.inst, I x.node, .string x.name, .string x.key, .bool x.is] 111)))
       go_wp2_with (first | (go_at_call 84; refine (rsmall_any _ _ _).mono ?_; rintro e w' ⟨rfl, rfl⟩) | (go_at_call 85; refine (rclock_any _ _).mono ?_; rintro e w' ⟨rfl, rfl⟩))
       go_roundw
       case rel => exact ⟨i + 1, by omega, by go_num, congrArg Value.bool hv.out, J0.out⟩
       case measure => simp [intOf]; omega
      ·
       have q2 : decide (x.key.size ≤ 1024) = false := decide_eq_false h2
       have p2 : decide ((x.key.size : Int) ≤ 1024) = false := decide_eq_false (by omega)
       have hv := hid (HF.out false (by simp [bSub, h0, textB, h1, textB, h2]))
       have J0 := hid (hR.out.grow ((Below.refl _ wr).alloc (Nat.le_refl _) (.cells #[U x.token, U x.inst, I x.node, .string x.name, .string x.key, .bool x.is] 111)))
       go_wp2_with (first | (go_at_call 84; refine (rsmall_any _ _ _).mono ?_; rintro e w' ⟨rfl, rfl⟩) | (go_at_call 85; refine (rclock_any _ _).mono ?_; rintro e w' ⟨rfl, rfl⟩))
       go_roundw
       case rel => exact ⟨i + 1, by omega, by go_num, congrArg Value.bool hv.out, J0.out⟩
       case measure => simp [intOf]; omega
     ·
      have q1 : decide (x.name.size ≤ 32) = false := decide_eq_false h1
      have p1 : decide ((x.name.size : Int) ≤ 32) = false := decide_eq_false (by omega)
      have hv := hid (HF.out false (by simp [bSub, h0, textB, h1]))
      have J0 := hid (hR.out.grow ((Below.refl _ wr).alloc (Nat.le_refl _) (.cells #[U x.token, U x.inst, I x.node, .string x.name, .string x.key, .bool x.is] 111)))
      go_wp2_with (first | (go_at_call 84; refine (rsmall_any _ _ _).mono ?_; rintro e w' ⟨rfl, rfl⟩) | (go_at_call 85; refine (rclock_any _ _).mono ?_; rintro e w' ⟨rfl, rfl⟩))
      go_roundw
      case rel => exact ⟨i + 1, by omega, by go_num, congrArg Value.bool hv.out, J0.out⟩
      case measure => simp [intOf]; omega
    | false =>
     have hv := hid (HF.out false (by simp [bSub, h0]))
     have J0 := hid (hR.out.grow ((Below.refl _ wr).alloc (Nat.le_refl _) (.cells #[U x.token, U x.inst, I x.node, .string x.name, .string x.key, .bool x.is] 111)))
     go_wp2_with (first | (go_at_call 84; refine (rsmall_any _ _ _).mono ?_; rintro e w' ⟨rfl, rfl⟩) | (go_at_call 85; refine (rclock_any _ _).mono ?_; rintro e w' ⟨rfl, rfl⟩))
     go_roundw
     case rel => exact ⟨i + 1, by omega, by go_num, congrArg Value.bool hv.out, J0.out⟩
     case measure => simp [intOf]; omega
   | false =>
    have hv := hid (HF.out false (by simp [bSub]))
    have J0 := hid (hR.out.grow ((Below.refl _ wr).alloc (Nat.le_refl _) (.cells #[U x.token, U x.inst, I x.node, .string x.name, .string x.key, .bool x.is] 111)))
    go_wp2_with (first | (go_at_call 84; refine (rsmall_any _ _ _).mono ?_; rintro e w' ⟨rfl, rfl⟩) | (go_at_call 85; refine (rclock_any _ _).mono ?_; rintro e w' ⟨rfl, rfl⟩))
    go_roundw
    case rel => exact ⟨i + 1, by omega, by go_num, congrArg Value.bool hv.out, J0.out⟩
    case measure => simp [intOf]; omega
  ·
   have hin : i = s.subs.length := by omega
   subst hin
   have hE : (true && (s.subs.take s.subs.length).all bSub) = (true && s.subs.all bSub) := by rw [List.take_length]
   rw [hE]
   have I1 := hR
   clear hR hi hlt hE
   go_wp2_with fail
   clear kk
   obtain ⟨wo, rfl⟩ : ∃ wo : World, wo = wr := ⟨_, rfl⟩
   go_loopw [3, 6] (fun vo vi wr => ∃ i : Nat, i ≤ s.kept.length ∧ vi = .int .i64 i ∧ vo = .bool ((true && s.subs.all bSub) && (s.kept.take i).all bKept) ∧ Hid (CI w CS wr)) (fun _ vi _ => s.kept.length - (intOf vi).toNat)
   case atStart => exact ⟨0, Nat.zero_le _, rfl, (show Value.bool (true && s.subs.all bSub) = .bool ((true && s.subs.all bSub) && true) by rw [Bool.and_true]), I1.out⟩
   case round =>
    obtain ⟨i, hi, rfl, rfl, hR⟩ := hrel
    have kk : wr.cell? ⟨w.heap.size, 9, none⟩ = some (.slice ak s.kept.length ck) := by rw [cell_of hR.out.box 9, HCS.out]; rfl
    by_cases hlt : i < s.kept.length
    ·
     obtain ⟨x, hx⟩ : ∃ x, s.kept[i]? = some x := ⟨_, List.getElem?_eq_getElem hlt⟩
     obtain ⟨a', cap', hv, -, -, hcell⟩ := H.out.kept
     cases hv
     obtain ⟨b, off, cs, rfl, hcl, hat, hc⟩ := hcell i x hx
     obtain rfl := hat
     have k0 := kc hR.out.below (hc 0 _ rfl)
     have k1 := kc hR.out.below (hc 1 _ rfl)
     have k2 := kc hR.out.below (hc 2 _ rfl)
     simp only [Nat.add_zero] at k0
     have hox := hid (Hok.out.kept x (List.mem_of_getElem? hx))
     have hst := hid (all_snoc bKept s.kept i x hx)
     have HF : Hid (∀ c : Bool, (((true && s.subs.all bSub) && (s.kept.take i).all bKept) && bKept x) = c → c = ((true && s.subs.all bSub) && (s.kept.take (i + 1)).all bKept)) := by intro c h; rw [hst.out, ← Bool.and_assoc]; exact h.symm
     clear hcell hx hc hcl hst
     generalize ((true && s.subs.all bSub) && (s.kept.take i).all bKept) = ok at HF ⊢
     cases ok with
     | true =>
      cases h0 : smallB 0 x.node with
      | true =>
       have hv := hid (HF.out true (by simp [bKept, h0]))
       have J0 := hid hR.out
       go_wp2_with (first | (go_at_call 84; refine (rsmall_any _ _ _).mono ?_; rintro e w' ⟨rfl, rfl⟩) | (go_at_call 85; refine (rclock_any _ _).mono ?_; rintro e w' ⟨rfl, rfl⟩))
       go_roundw
       case rel => exact ⟨i + 1, by omega, by go_num, congrArg Value.bool hv.out, J0.out⟩
       case measure => simp [intOf]; omega
      | false =>
       have hv := hid (HF.out false (by simp [bKept, h0]))
       have J0 := hid hR.out
       go_wp2_with (first | (go_at_call 84; refine (rsmall_any _ _ _).mono ?_; rintro e w' ⟨rfl, rfl⟩) | (go_at_call 85; refine (rclock_any _ _).mono ?_; rintro e w' ⟨rfl, rfl⟩))
       go_roundw
       case rel => exact ⟨i + 1, by omega, by go_num, congrArg Value.bool hv.out, J0.out⟩
       case measure => simp [intOf]; omega
     | false =>
      have hv := hid (HF.out false (by simp [bKept]))
      have J0 := hid hR.out
      go_wp2_with (first | (go_at_call 84; refine (rsmall_any _ _ _).mono ?_; rintro e w' ⟨rfl, rfl⟩) | (go_at_call 85; refine (rclock_any _ _).mono ?_; rintro e w' ⟨rfl, rfl⟩))
      go_roundw
      case rel => exact ⟨i + 1, by omega, by go_num, congrArg Value.bool hv.out, J0.out⟩
      case measure => simp [intOf]; omega
    ·
     have hin : i = s.kept.length := by omega
     subst hin
     have hE : ((true && s.subs.all bSub) && (s.kept.take s.kept.length).all bKept) = ((true && s.subs.all bSub) && s.kept.all bKept) := by rw [List.take_length]
     rw [hE]
     have I2 := hR
     clear hR hi hlt hE
     go_wp2_with fail
     clear kk
     obtain ⟨wo, rfl⟩ : ∃ wo : World, wo = wr := ⟨_, rfl⟩
     go_loopw [3, 7] (fun vo vi wr => ∃ i : Nat, i ≤ s.listed.length ∧ vi = .int .i64 i ∧ vo = .bool (((true && s.subs.all bSub) && s.kept.all bKept) && (s.listed.take i).all bLis) ∧ Hid (CI w CS wr)) (fun _ vi _ => s.listed.length - (intOf vi).toNat)
     case atStart => exact ⟨0, Nat.zero_le _, rfl, (show Value.bool ((true && s.subs.all bSub) && s.kept.all bKept) = .bool (((true && s.subs.all bSub) && s.kept.all bKept) && true) by rw [Bool.and_true]), I2.out⟩
     case round =>
      obtain ⟨i, hi, rfl, rfl, hR⟩ := hrel
      have kk : wr.cell? ⟨w.heap.size, 10, none⟩ = some (.slice al s.listed.length cl) := by rw [cell_of hR.out.box 10, HCS.out]; rfl
      by_cases hlt : i < s.listed.length
      ·
       obtain ⟨x, hx⟩ : ∃ x, s.listed[i]? = some x := ⟨_, List.getElem?_eq_getElem hlt⟩
       obtain ⟨a', cap', hv, -, -, hcell⟩ := H.out.listed
       cases hv
       obtain ⟨b, off, cs, rfl, hcl, hat, hc⟩ := hcell i x hx
       obtain ⟨v3, rfl, hv3⟩ := hat
       have HV3 := hid hv3
       obtain ⟨a3, c30, rfl, -⟩ := hv3
       have k0 := kc hR.out.below (hc 0 _ rfl)
       have k1 := kc hR.out.below (hc 1 _ rfl)
       have k2 := kc hR.out.below (hc 2 _ rfl)
       have k3 := kc hR.out.below (hc 3 _ rfl)
       have k4 := kc hR.out.below (hc 4 _ rfl)
       have k5 := kc hR.out.below (hc 5 _ rfl)
       have k6 := kc hR.out.below (hc 6 _ rfl)
       simp only [Nat.add_zero] at k0
       have hox := hid (Hok.out.listed x (List.mem_of_getElem? hx))
       have hst := hid (all_snoc bLis s.listed i x hx)
       have HF : Hid (∀ c : Bool, ((((true && s.subs.all bSub) && s.kept.all bKept) && (s.listed.take i).all bLis) && bLis x) = c → c = (((true && s.subs.all bSub) && s.kept.all bKept) && (s.listed.take (i + 1)).all bLis)) := by intro c h; rw [hst.out, ← Bool.and_assoc]; exact h.symm
       clear hcell hx hc hcl hst
       generalize (((true && s.subs.all bSub) && s.kept.all bKept) && (s.listed.take i).all bLis) = ok at HF ⊢
       have zz_name : x.name.size ≤ 2097152 := hox.out.name
       have zz_key : x.key.size ≤ 2097152 := hox.out.key
       cases ok with
       | true =>
        cases h0 : rightV x.vars with
        | true =>
         cases h1 : smallB 0 x.node with
         | true =>
          by_cases h2 : x.name.size ≤ 32
          ·
           have q2 : decide (x.name.size ≤ 32) = true := decide_eq_true h2
           have p2 : decide ((x.name.size : Int) ≤ 32) = true := decide_eq_true (by omega)
           by_cases h3 : x.key.size ≤ 1024
           ·
            have q3 : decide (x.key.size ≤ 1024) = true := decide_eq_true h3
            have p3 : decide ((x.key.size : Int) ≤ 1024) = true := decide_eq_true (by omega)
            have hv := hid (HF.out true (by simp [bLis, h0, h1, textB, h2, textB, h3]))
            have J0 := hid (hR.out.grow ((Below.refl _ wr).alloc (Nat.le_refl _) (.cells #[U x.token, U x.inst, I x.node, .string x.name, .string x.key, U x.msg, .slice a3 x.vars.length c30] 115)))
            go_wp2_with fail
            have X0 := hid (alloc_new wr (.cells #[U x.token, U x.inst, I x.node, .string x.name, .string x.key, U x.msg, .slice a3 x.vars.length c30] 115))
            have hzz : wr.heap.size < (wr.alloc (.cells #[U x.token, U x.inst, I x.node, .string x.name, .string x.key, U x.msg, .slice a3 x.vars.length c30] 115)).heap.size := by simp
            generalize wr.alloc (.cells #[U x.token, U x.inst, I x.node, .string x.name, .string x.key, U x.msg, .slice a3 x.vars.length c30] 115) = v0 at J0 X0 hzz ⊢
            refine (rright_any _ x.vars v0 hox.out.vars (HV3.out.below J0.out.below)).mono ?_
            rintro e w4 ⟨rfl, b4⟩
            have J1 := hid (J0.out.grow b4)
            have X1 := (b4.block _ hzz).trans X0.out
            clear k0 k1 k2 k3 k4 k5 k6
            have k0 := cell_of X1 0
            have k1 := cell_of X1 1
            have k2 := cell_of X1 2
            have k3 := cell_of X1 3
            have k4 := cell_of X1 4
            have k5 := cell_of X1 5
            have k6 := cell_of X1 6
            clear X1
            clear b4
            go_wp2_with (first | (go_at_call 84; refine (rsmall_any _ _ _).mono ?_; rintro e w' ⟨rfl, rfl⟩) | (go_at_call 85; refine (rclock_any _ _).mono ?_; rintro e w' ⟨rfl, rfl⟩))
            go_roundw
            case rel => exact ⟨i + 1, by omega, by go_num, congrArg Value.bool hv.out, J1.out⟩
            case measure => simp [intOf]; omega
           ·
            have q3 : decide (x.key.size ≤ 1024) = false := decide_eq_false h3
            have p3 : decide ((x.key.size : Int) ≤ 1024) = false := decide_eq_false (by omega)
            have hv := hid (HF.out false (by simp [bLis, h0, h1, textB, h2, textB, h3]))
            have J0 := hid (hR.out.grow ((Below.refl _ wr).alloc (Nat.le_refl _) (.cells #[U x.token, U x.inst, I x.node, .string x.name, .string x.key, U x.msg, .slice a3 x.vars.length c30] 115)))
            go_wp2_with fail
            have X0 := hid (alloc_new wr (.cells #[U x.token, U x.inst, I x.node, .string x.name, .string x.key, U x.msg, .slice a3 x.vars.length c30] 115))
            have hzz : wr.heap.size < (wr.alloc (.cells #[U x.token, U x.inst, I x.node, .string x.name, .string x.key, U x.msg, .slice a3 x.vars.length c30] 115)).heap.size := by simp
            generalize wr.alloc (.cells #[U x.token, U x.inst, I x.node, .string x.name, .string x.key, U x.msg, .slice a3 x.vars.length c30] 115) = v0 at J0 X0 hzz ⊢
            refine (rright_any _ x.vars v0 hox.out.vars (HV3.out.below J0.out.below)).mono ?_
            rintro e w4 ⟨rfl, b4⟩
            have J1 := hid (J0.out.grow b4)
            have X1 := (b4.block _ hzz).trans X0.out
            clear k0 k1 k2 k3 k4 k5 k6
            have k0 := cell_of X1 0
            have k1 := cell_of X1 1
            have k2 := cell_of X1 2
            have k3 := cell_of X1 3
            have k4 := cell_of X1 4
            have k5 := cell_of X1 5
            have k6 := cell_of X1 6
            clear X1
            clear b4
            go_wp2_with (first | (go_at_call 84; refine (rsmall_any _ _ _).mono ?_; rintro e w' ⟨rfl, rfl⟩) | (go_at_call 85; refine (rclock_any _ _).mono ?_; rintro e w' ⟨rfl, rfl⟩))
            go_roundw
            case rel => exact ⟨i + 1, by omega, by go_num, congrArg Value.bool hv.out, J1.out⟩
            case measure => simp [intOf]; omega
          ·
           have q2 : decide (x.name.size ≤ 32) = false := decide_eq_false h2
           have p2 : decide ((x.name.size : Int) ≤ 32) = false := decide_eq_false (by omega)
           have hv := hid (HF.out false (by simp [bLis, h0, h1, textB, h2]))
           have J0 := hid (hR.out.grow ((Below.refl _ wr).alloc (Nat.le_refl _) (.cells #[U x.token, U x.inst, I x.node, .string x.name, .string x.key, U x.msg, .slice a3 x.vars.length c30] 115)))
           go_wp2_with fail
           have X0 := hid (alloc_new wr (.cells #[U x.token, U x.inst, I x.node, .string x.name, .string x.key, U x.msg, .slice a3 x.vars.length c30] 115))
           have hzz : wr.heap.size < (wr.alloc (.cells #[U x.token, U x.inst, I x.node, .string x.name, .string x.key, U x.msg, .slice a3 x.vars.length c30] 115)).heap.size := by simp
           generalize wr.alloc (.cells #[U x.token, U x.inst, I x.node, .string x.name, .string x.key, U x.msg, .slice a3 x.vars.length c30] 115) = v0 at J0 X0 hzz ⊢
           refine (rright_any _ x.vars v0 hox.out.vars (HV3.out.below J0.out.below)).mono ?_
           rintro e w4 ⟨rfl, b4⟩
           have J1 := hid (J0.out.grow b4)
           have X1 := (b4.block _ hzz).trans X0.out
           clear k0 k1 k2 k3 k4 k5 k6
           have k0 := cell_of X1 0
           have k1 := cell_of X1 1
           have k2 := cell_of X1 2
           have k3 := cell_of X1 3
           have k4 := cell_of X1 4
           have k5 := cell_of X1 5
           have k6 := cell_of X1 6
           clear X1
           clear b4
           go_wp2_with (first | (go_at_call 84; refine (rsmall_any _ _ _).mono ?_; rintro e w' ⟨rfl, rfl⟩) | (go_at_call 85; refine (rclock_any _ _).mono ?_; rintro e w' ⟨rfl, rfl⟩))
           go_roundw
           case rel => exact ⟨i + 1, by omega, by go_num, congrArg Value.bool hv.out, J1.out⟩
           case measure => simp [intOf]; omega
         | false =>
          have hv := hid (HF.out false (by simp [bLis, h0, h1]))
          have J0 := hid (hR.out.grow ((Below.refl _ wr).alloc (Nat.le_refl _) (.cells #[U x.token, U x.inst, I x.node, .string x.name, .string x.key, U x.msg, .slice a3 x.vars.length c30] 115)))
          go_wp2_with fail
          have X0 := hid (alloc_new wr (.cells #[U x.token, U x.inst, I x.node, .string x.name, .string x.key, U x.msg, .slice a3 x.vars.length c30] 115))
          have hzz : wr.heap.size < (wr.alloc (.cells #[U x.token, U x.inst, I x.node, .string x.name, .string x.key, U x.msg, .slice a3 x.vars.length c30] 115)).heap.size := by simp
          generalize wr.alloc (.cells #[U x.token, U x.inst, I x.node, .string x.name, .string x.key, U x.msg, .slice a3 x.vars.length c30] 115) = v0 at J0 X0 hzz ⊢
          refine (rright_any _ x.vars v0 hox.out.vars (HV3.out.below J0.out.below)).mono ?_
          rintro e w4 ⟨rfl, b4⟩
          have J1 := hid (J0.out.grow b4)
          have X1 := (b4.block _ hzz).trans X0.out
          clear k0 k1 k2 k3 k4 k5 k6
          have k0 := cell_of X1 0
          have k1 := cell_of X1 1
          have k2 := cell_of X1 2
          have k3 := cell_of X1 3
          have k4 := cell_of X1 4
          have k5 := cell_of X1 5
          have k6 := cell_of X1 6
          clear X1
          clear b4
          go_wp2_with (first | (go_at_call 84; refine (rsmall_any _ _ _).mono ?_; rintro e w' ⟨rfl, rfl⟩) | (go_at_call 85; refine (rclock_any _ _).mono ?_; rintro e w' ⟨rfl, rfl⟩))
          go_roundw
          case rel => exact ⟨i + 1, by omega, by go_num, congrArg Value.bool hv.out, J1.out⟩
          case measure => simp [intOf]; omega
        | false =>
         have hv := hid (HF.out false (by simp [bLis, h0]))
         have J0 := hid (hR.out.grow ((Below.refl _ wr).alloc (Nat.le_refl _) (.cells #[U x.token, U x.inst, I x.node, .string x.name, .string x.key, U x.msg, .slice a3 x.vars.length c30] 115)))
         go_wp2_with fail
         have X0 := hid (alloc_new wr (.cells #[U x.token, U x.inst, I x.node, .string x.name, .string x.key, U x.msg, .slice a3 x.vars.length c30] 115))
         have hzz : wr.heap.size < (wr.alloc (.cells #[U x.token, U x.inst, I x.node, .string x.name, .string x.key, U x.msg, .slice a3 x.vars.length c30] 115)).heap.size := by simp
         generalize wr.alloc (.cells #[U x.token, U x.inst, I x.node, .string x.name, .string x.key, U x.msg, .slice a3 x.vars.length c30] 115) = v0 at J0 X0 hzz ⊢
         refine (rright_any _ x.vars v0 hox.out.vars (HV3.out.below J0.out.below)).mono ?_
         rintro e w4 ⟨rfl, b4⟩
         have J1 := hid (J0.out.grow b4)
         have X1 := (b4.block _ hzz).trans X0.out
         clear k0 k1 k2 k3 k4 k5 k6
         have k0 := cell_of X1 0
         have k1 := cell_of X1 1
         have k2 := cell_of X1 2
         have k3 := cell_of X1 3
         have k4 := cell_of X1 4
         have k5 := cell_of X1 5
         have k6 := cell_of X1 6
         clear X1
         clear b4
         go_wp2_with (first | (go_at_call 84; refine (rsmall_any _ _ _).mono ?_; rintro e w' ⟨rfl, rfl⟩) | (go_at_call 85; refine (rclock_any _ _).mono ?_; rintro e w' ⟨rfl, rfl⟩))
         go_roundw
         case rel => exact ⟨i + 1, by omega, by go_num, congrArg Value.bool hv.out, J1.out⟩
         case measure => simp [intOf]; omega
       | false =>
        generalize hrr : rightV x.vars = rr at *
        have Hrr := hid hrr
        clear hrr
        have hv := hid (HF.out false (by simp [bLis]))
        have J0 := hid (hR.out.grow ((Below.refl _ wr).alloc (Nat.le_refl _) (.cells #[U x.token, U x.inst, I x.node, .string x.name, .string x.key, U x.msg, .slice a3 x.vars.length c30] 115)))
        go_wp2_with fail
        have X0 := hid (alloc_new wr (.cells #[U x.token, U x.inst, I x.node, .string x.name, .string x.key, U x.msg, .slice a3 x.vars.length c30] 115))
        have hzz : wr.heap.size < (wr.alloc (.cells #[U x.token, U x.inst, I x.node, .string x.name, .string x.key, U x.msg, .slice a3 x.vars.length c30] 115)).heap.size := by simp
        generalize wr.alloc (.cells #[U x.token, U x.inst, I x.node, .string x.name, .string x.key, U x.msg, .slice a3 x.vars.length c30] 115) = v0 at J0 X0 hzz ⊢
        refine (rright_any _ x.vars v0 hox.out.vars (HV3.out.below J0.out.below)).mono ?_
        rintro e w4 ⟨rfl, b4⟩
        rw [Hrr.out]
        have J1 := hid (J0.out.grow b4)
        have X1 := (b4.block _ hzz).trans X0.out
        clear k0 k1 k2 k3 k4 k5 k6
        have k0 := cell_of X1 0
        have k1 := cell_of X1 1
        have k2 := cell_of X1 2
        have k3 := cell_of X1 3
        have k4 := cell_of X1 4
        have k5 := cell_of X1 5
        have k6 := cell_of X1 6
        clear X1
        clear b4
        go_wp2_with (first | (go_at_call 84; refine (rsmall_any _ _ _).mono ?_; rintro e w' ⟨rfl, rfl⟩) | (go_at_call 85; refine (rclock_any _ _).mono ?_; rintro e w' ⟨rfl, rfl⟩))
        go_roundw
        case rel => exact ⟨i + 1, by omega, by go_num, congrArg Value.bool hv.out, J1.out⟩
        case measure => simp [intOf]; omega
      ·
       have hin : i = s.listed.length := by omega
       subst hin
       have hE : (((true && s.subs.all bSub) && s.kept.all bKept) && (s.listed.take s.listed.length).all bLis) = (((true && s.subs.all bSub) && s.kept.all bKept) && s.listed.all bLis) := by rw [List.take_length]
       rw [hE]
       have I3 := hR
       clear hR hi hlt hE
       go_wp2_with fail
       clear kk
       obtain ⟨wo, rfl⟩ : ∃ wo : World, wo = wr := ⟨_, rfl⟩
       go_loopw [3, 10] (fun vo vi wr => ∃ i : Nat, i ≤ s.msgs.length ∧ vi = .int .i64 i ∧ vo = .bool ((((true && s.subs.all bSub) && s.kept.all bKept) && s.listed.all bLis) && (s.msgs.take i).all bMsg) ∧ Hid (CI w CS wr)) (fun _ vi _ => s.msgs.length - (intOf vi).toNat)
       case atStart => exact ⟨0, Nat.zero_le _, rfl, (show Value.bool (((true && s.subs.all bSub) && s.kept.all bKept) && s.listed.all bLis) = .bool ((((true && s.subs.all bSub) && s.kept.all bKept) && s.listed.all bLis) && true) by rw [Bool.and_true]), I3.out⟩
       case round =>
        obtain ⟨i, hi, rfl, rfl, hR⟩ := hrel
        have kk : wr.cell? ⟨w.heap.size, 11, none⟩ = some (.slice am s.msgs.length cm) := by rw [cell_of hR.out.box 11, HCS.out]; rfl
        by_cases hlt : i < s.msgs.length
        ·
         obtain ⟨x, hx⟩ : ∃ x, s.msgs[i]? = some x := ⟨_, List.getElem?_eq_getElem hlt⟩
         obtain ⟨a', cap', hv, -, -, hcell⟩ := H.out.msgs
         cases hv
         obtain ⟨b, off, cs, rfl, hcl, hat, hc⟩ := hcell i x hx
         obtain ⟨v3, v4, rfl, hv3, hv4⟩ := hat
         have HV3 := hid hv3
         obtain ⟨a3, c30, rfl, -⟩ := hv3
         obtain ⟨a4, c40, hv4, -⟩ := hv4
         rw [show (natsV x.insts).length = x.insts.length by simp [natsV]] at hv4
         subst hv4
         have k0 := kc hR.out.below (hc 0 _ rfl)
         have k1 := kc hR.out.below (hc 1 _ rfl)
         have k2 := kc hR.out.below (hc 2 _ rfl)
         have k3 := kc hR.out.below (hc 3 _ rfl)
         have k4 := kc hR.out.below (hc 4 _ rfl)
         have k5 := kc hR.out.below (hc 5 _ rfl)
         have k6 := kc hR.out.below (hc 6 _ rfl)
         simp only [Nat.add_zero] at k0
         have hox := hid (Hok.out.msgs x (List.mem_of_getElem? hx))
         have hst := hid (all_snoc bMsg s.msgs i x hx)
         have HF : Hid (∀ c : Bool, (((((true && s.subs.all bSub) && s.kept.all bKept) && s.listed.all bLis) && (s.msgs.take i).all bMsg) && bMsg x) = c → c = ((((true && s.subs.all bSub) && s.kept.all bKept) && s.listed.all bLis) && (s.msgs.take (i + 1)).all bMsg)) := by intro c h; rw [hst.out, ← Bool.and_assoc]; exact h.symm
         clear hcell hx hc hcl hst
         generalize ((((true && s.subs.all bSub) && s.kept.all bKept) && s.listed.all bLis) && (s.msgs.take i).all bMsg) = ok at HF ⊢
         have zz_name : x.name.size ≤ 2097152 := hox.out.name
         have zz_id : x.id.size ≤ 2097152 := hox.out.id
         have zz_for : x.for_.size ≤ 2097152 := hox.out.for_
         cases ok with
         | true =>
          cases h0 : rightV x.vars with
          | true =>
           cases h1 : clockB x.till with
           | true =>
            by_cases h2 : x.name.size ≤ 32
            ·
             have q2 : decide (x.name.size ≤ 32) = true := decide_eq_true h2
             have p2 : decide ((x.name.size : Int) ≤ 32) = true := decide_eq_true (by omega)
             by_cases h3 : x.id.size ≤ 32
             ·
              have q3 : decide (x.id.size ≤ 32) = true := decide_eq_true h3
              have p3 : decide ((x.id.size : Int) ≤ 32) = true := decide_eq_true (by omega)
              by_cases h4 : x.for_.size ≤ 1024
              ·
               have q4 : decide (x.for_.size ≤ 1024) = true := decide_eq_true h4
               have p4 : decide ((x.for_.size : Int) ≤ 1024) = true := decide_eq_true (by omega)
               have hv := hid (HF.out true (by simp [bMsg, h0, h1, textB, h2, textB, h3, textB, h4]))
               have J0 := hid (hR.out.grow ((Below.refl _ wr).alloc (Nat.le_refl _) (.cells #[U x.key, .string x.name, .string x.for_, .string x.id, I x.till, .slice a3 x.vars.length c30, .slice a4 x.insts.length c40] 118)))
               go_wp2_with fail
               have X0 := hid (alloc_new wr (.cells #[U x.key, .string x.name, .string x.for_, .string x.id, I x.till, .slice a3 x.vars.length c30, .slice a4 x.insts.length c40] 118))
               have hzz : wr.heap.size < (wr.alloc (.cells #[U x.key, .string x.name, .string x.for_, .string x.id, I x.till, .slice a3 x.vars.length c30, .slice a4 x.insts.length c40] 118)).heap.size := by simp
               generalize wr.alloc (.cells #[U x.key, .string x.name, .string x.for_, .string x.id, I x.till, .slice a3 x.vars.length c30, .slice a4 x.insts.length c40] 118) = v0 at J0 X0 hzz ⊢
               refine (rright_any _ x.vars v0 hox.out.vars (HV3.out.below J0.out.below)).mono ?_
               rintro e w4 ⟨rfl, b4⟩
               have J1 := hid (J0.out.grow b4)
               have X1 := (b4.block _ hzz).trans X0.out
               clear k0 k1 k2 k3 k4 k5 k6
               have k0 := cell_of X1 0
               have k1 := cell_of X1 1
               have k2 := cell_of X1 2
               have k3 := cell_of X1 3
               have k4 := cell_of X1 4
               have k5 := cell_of X1 5
               have k6 := cell_of X1 6
               clear X1
               clear b4
               go_wp2_with (first | (go_at_call 84; refine (rsmall_any _ _ _).mono ?_; rintro e w' ⟨rfl, rfl⟩) | (go_at_call 85; refine (rclock_any _ _).mono ?_; rintro e w' ⟨rfl, rfl⟩))
               go_roundw
               case rel => exact ⟨i + 1, by omega, by go_num, congrArg Value.bool hv.out, J1.out⟩
               case measure => simp [intOf]; omega
              ·
               have q4 : decide (x.for_.size ≤ 1024) = false := decide_eq_false h4
               have p4 : decide ((x.for_.size : Int) ≤ 1024) = false := decide_eq_false (by omega)
               have hv := hid (HF.out false (by simp [bMsg, h0, h1, textB, h2, textB, h3, textB, h4]))
               have J0 := hid (hR.out.grow ((Below.refl _ wr).alloc (Nat.le_refl _) (.cells #[U x.key, .string x.name, .string x.for_, .string x.id, I x.till, .slice a3 x.vars.length c30, .slice a4 x.insts.length c40] 118)))
               go_wp2_with fail
               have X0 := hid (alloc_new wr (.cells #[U x.key, .string x.name, .string x.for_, .string x.id, I x.till, .slice a3 x.vars.length c30, .slice a4 x.insts.length c40] 118))
               have hzz : wr.heap.size < (wr.alloc (.cells #[U x.key, .string x.name, .string x.for_, .string x.id, I x.till, .slice a3 x.vars.length c30, .slice a4 x.insts.length c40] 118)).heap.size := by simp
               generalize wr.alloc (.cells #[U x.key, .string x.name, .string x.for_, .string x.id, I x.till, .slice a3 x.vars.length c30, .slice a4 x.insts.length c40] 118) = v0 at J0 X0 hzz ⊢
               refine (rright_any _ x.vars v0 hox.out.vars (HV3.out.below J0.out.below)).mono ?_
               rintro e w4 ⟨rfl, b4⟩
               have J1 := hid (J0.out.grow b4)
               have X1 := (b4.block _ hzz).trans X0.out
               clear k0 k1 k2 k3 k4 k5 k6
               have k0 := cell_of X1 0
               have k1 := cell_of X1 1
               have k2 := cell_of X1 2
               have k3 := cell_of X1 3
               have k4 := cell_of X1 4
               have k5 := cell_of X1 5
               have k6 := cell_of X1 6
               clear X1
               clear b4
               go_wp2_with (first | (go_at_call 84; refine (rsmall_any _ _ _).mono ?_; rintro e w' ⟨rfl, rfl⟩) | (go_at_call 85; refine (rclock_any _ _).mono ?_; rintro e w' ⟨rfl, rfl⟩))
               go_roundw
               case rel => exact ⟨i + 1, by omega, by go_num, congrArg Value.bool hv.out, J1.out⟩
               case measure => simp [intOf]; omega
             ·
              have q3 : decide (x.id.size ≤ 32) = false := decide_eq_false h3
              have p3 : decide ((x.id.size : Int) ≤ 32) = false := decide_eq_false (by omega)
              have hv := hid (HF.out false (by simp [bMsg, h0, h1, textB, h2, textB, h3]))
              have J0 := hid (hR.out.grow ((Below.refl _ wr).alloc (Nat.le_refl _) (.cells #[U x.key, .string x.name, .string x.for_, .string x.id, I x.till, .slice a3 x.vars.length c30, .slice a4 x.insts.length c40] 118)))
              go_wp2_with fail
              have X0 := hid (alloc_new wr (.cells #[U x.key, .string x.name, .string x.for_, .string x.id, I x.till, .slice a3 x.vars.length c30, .slice a4 x.insts.length c40] 118))
              have hzz : wr.heap.size < (wr.alloc (.cells #[U x.key, .string x.name, .string x.for_, .string x.id, I x.till, .slice a3 x.vars.length c30, .slice a4 x.insts.length c40] 118)).heap.size := by simp
              generalize wr.alloc (.cells #[U x.key, .string x.name, .string x.for_, .string x.id, I x.till, .slice a3 x.vars.length c30, .slice a4 x.insts.length c40] 118) = v0 at J0 X0 hzz ⊢
              refine (rright_any _ x.vars v0 hox.out.vars (HV3.out.below J0.out.below)).mono ?_
              rintro e w4 ⟨rfl, b4⟩
              have J1 := hid (J0.out.grow b4)
              have X1 := (b4.block _ hzz).trans X0.out
              clear k0 k1 k2 k3 k4 k5 k6
              have k0 := cell_of X1 0
              have k1 := cell_of X1 1
              have k2 := cell_of X1 2
              have k3 := cell_of X1 3
              have k4 := cell_of X1 4
              have k5 := cell_of X1 5
              have k6 := cell_of X1 6
              clear X1
              clear b4
              go_wp2_with (first | (go_at_call 84; refine (rsmall_any _ _ _).mono ?_; rintro e w' ⟨rfl, rfl⟩) | (go_at_call 85; refine (rclock_any _ _).mono ?_; rintro e w' ⟨rfl, rfl⟩))
              go_roundw
              case rel => exact ⟨i + 1, by omega, by go_num, congrArg Value.bool hv.out, J1.out⟩
              case measure => simp [intOf]; omega
            ·
             have q2 : decide (x.name.size ≤ 32) = false := decide_eq_false h2
             have p2 : decide ((x.name.size : Int) ≤ 32) = false := decide_eq_false (by omega)
             have hv := hid (HF.out false (by simp [bMsg, h0, h1, textB, h2]))
             have J0 := hid (hR.out.grow ((Below.refl _ wr).alloc (Nat.le_refl _) (.cells #[U x.key, .string x.name, .string x.for_, .string x.id, I x.till, .slice a3 x.vars.length c30, .slice a4 x.insts.length c40] 118)))
             go_wp2_with fail
             have X0 := hid (alloc_new wr (.cells #[U x.key, .string x.name, .string x.for_, .string x.id, I x.till, .slice a3 x.vars.length c30, .slice a4 x.insts.length c40] 118))
             have hzz : wr.heap.size < (wr.alloc (.cells #[U x.key, .string x.name, .string x.for_, .string x.id, I x.till, .slice a3 x.vars.length c30, .slice a4 x.insts.length c40] 118)).heap.size := by simp
             generalize wr.alloc (.cells #[U x.key, .string x.name, .string x.for_, .string x.id, I x.till, .slice a3 x.vars.length c30, .slice a4 x.insts.length c40] 118) = v0 at J0 X0 hzz ⊢
             refine (rright_any _ x.vars v0 hox.out.vars (HV3.out.below J0.out.below)).mono ?_
             rintro e w4 ⟨rfl, b4⟩
             have J1 := hid (J0.out.grow b4)
             have X1 := (b4.block _ hzz).trans X0.out
             clear k0 k1 k2 k3 k4 k5 k6
             have k0 := cell_of X1 0
             have k1 := cell_of X1 1
             have k2 := cell_of X1 2
             have k3 := cell_of X1 3
             have k4 := cell_of X1 4
             have k5 := cell_of X1 5
             have k6 := cell_of X1 6
             clear X1
             clear b4
             go_wp2_with (first | (go_at_call 84; refine (rsmall_any _ _ _).mono ?_; rintro e w' ⟨rfl, rfl⟩) | (go_at_call 85; refine (rclock_any _ _).mono ?_; rintro e w' ⟨rfl, rfl⟩))
             go_roundw
             case rel => exact ⟨i + 1, by omega, by go_num, congrArg Value.bool hv.out, J1.out⟩
             case measure => simp [intOf]; omega
           | false =>
            have hv := hid (HF.out false (by simp [bMsg, h0, h1]))
            have J0 := hid (hR.out.grow ((Below.refl _ wr).alloc (Nat.le_refl _) (.cells #[U x.key, .string x.name, .string x.for_, .string x.id, I x.till, .slice a3 x.vars.length c30, .slice a4 x.insts.length c40] 118)))
            go_wp2_with fail
            have X0 := hid (alloc_new wr (.cells #[U x.key, .string x.name, .string x.for_, .string x.id, I x.till, .slice a3 x.vars.length c30, .slice a4 x.insts.length c40] 118))
            have hzz : wr.heap.size < (wr.alloc (.cells #[U x.key, .string x.name, .string x.for_, .string x.id, I x.till, .slice a3 x.vars.length c30, .slice a4 x.insts.length c40] 118)).heap.size := by simp
            generalize wr.alloc (.cells #[U x.key, .string x.name, .string x.for_, .string x.id, I x.till, .slice a3 x.vars.length c30, .slice a4 x.insts.length c40] 118) = v0 at J0 X0 hzz ⊢
            refine (rright_any _ x.vars v0 hox.out.vars (HV3.out.below J0.out.below)).mono ?_
            rintro e w4 ⟨rfl, b4⟩
            have J1 := hid (J0.out.grow b4)
            have X1 := (b4.block _ hzz).trans X0.out
            clear k0 k1 k2 k3 k4 k5 k6
            have k0 := cell_of X1 0
            have k1 := cell_of X1 1
            have k2 := cell_of X1 2
            have k3 := cell_of X1 3
            have k4 := cell_of X1 4
            have k5 := cell_of X1 5
            have k6 := cell_of X1 6
            clear X1
            clear b4
            go_wp2_with (first | (go_at_call 84; refine (rsmall_any _ _ _).mono ?_; rintro e w' ⟨rfl, rfl⟩) | (go_at_call 85; refine (rclock_any _ _).mono ?_; rintro e w' ⟨rfl, rfl⟩))
            go_roundw
            case rel => exact ⟨i + 1, by omega, by go_num, congrArg Value.bool hv.out, J1.out⟩
            case measure => simp [intOf]; omega
          | false =>
           have hv := hid (HF.out false (by simp [bMsg, h0]))
           have J0 := hid (hR.out.grow ((Below.refl _ wr).alloc (Nat.le_refl _) (.cells #[U x.key, .string x.name, .string x.for_, .string x.id, I x.till, .slice a3 x.vars.length c30, .slice a4 x.insts.length c40] 118)))
           go_wp2_with fail
           have X0 := hid (alloc_new wr (.cells #[U x.key, .string x.name, .string x.for_, .string x.id, I x.till, .slice a3 x.vars.length c30, .slice a4 x.insts.length c40] 118))
           have hzz : wr.heap.size < (wr.alloc (.cells #[U x.key, .string x.name, .string x.for_, .string x.id, I x.till, .slice a3 x.vars.length c30, .slice a4 x.insts.length c40] 118)).heap.size := by simp
           generalize wr.alloc (.cells #[U x.key, .string x.name, .string x.for_, .string x.id, I x.till, .slice a3 x.vars.length c30, .slice a4 x.insts.length c40] 118) = v0 at J0 X0 hzz ⊢
           refine (rright_any _ x.vars v0 hox.out.vars (HV3.out.below J0.out.below)).mono ?_
           rintro e w4 ⟨rfl, b4⟩
           have J1 := hid (J0.out.grow b4)
           have X1 := (b4.block _ hzz).trans X0.out
           clear k0 k1 k2 k3 k4 k5 k6
           have k0 := cell_of X1 0
           have k1 := cell_of X1 1
           have k2 := cell_of X1 2
           have k3 := cell_of X1 3
           have k4 := cell_of X1 4
           have k5 := cell_of X1 5
           have k6 := cell_of X1 6
           clear X1
           clear b4
           go_wp2_with (first | (go_at_call 84; refine (rsmall_any _ _ _).mono ?_; rintro e w' ⟨rfl, rfl⟩) | (go_at_call 85; refine (rclock_any _ _).mono ?_; rintro e w' ⟨rfl, rfl⟩))
           go_roundw
           case rel => exact ⟨i + 1, by omega, by go_num, congrArg Value.bool hv.out, J1.out⟩
           case measure => simp [intOf]; omega
         | false =>
          generalize hrr : rightV x.vars = rr at *
          have Hrr := hid hrr
          clear hrr
          have hv := hid (HF.out false (by simp [bMsg]))
          have J0 := hid (hR.out.grow ((Below.refl _ wr).alloc (Nat.le_refl _) (.cells #[U x.key, .string x.name, .string x.for_, .string x.id, I x.till, .slice a3 x.vars.length c30, .slice a4 x.insts.length c40] 118)))
          go_wp2_with fail
          have X0 := hid (alloc_new wr (.cells #[U x.key, .string x.name, .string x.for_, .string x.id, I x.till, .slice a3 x.vars.length c30, .slice a4 x.insts.length c40] 118))
          have hzz : wr.heap.size < (wr.alloc (.cells #[U x.key, .string x.name, .string x.for_, .string x.id, I x.till, .slice a3 x.vars.length c30, .slice a4 x.insts.length c40] 118)).heap.size := by simp
          generalize wr.alloc (.cells #[U x.key, .string x.name, .string x.for_, .string x.id, I x.till, .slice a3 x.vars.length c30, .slice a4 x.insts.length c40] 118) = v0 at J0 X0 hzz ⊢
          refine (rright_any _ x.vars v0 hox.out.vars (HV3.out.below J0.out.below)).mono ?_
          rintro e w4 ⟨rfl, b4⟩
          rw [Hrr.out]
          have J1 := hid (J0.out.grow b4)
          have X1 := (b4.block _ hzz).trans X0.out
          clear k0 k1 k2 k3 k4 k5 k6
          have k0 := cell_of X1 0
          have k1 := cell_of X1 1
          have k2 := cell_of X1 2
          have k3 := cell_of X1 3
          have k4 := cell_of X1 4
          have k5 := cell_of X1 5
          have k6 := cell_of X1 6
          clear X1
          clear b4
          go_wp2_with (first | (go_at_call 84; refine (rsmall_any _ _ _).mono ?_; rintro e w' ⟨rfl, rfl⟩) | (go_at_call 85; refine (rclock_any _ _).mono ?_; rintro e w' ⟨rfl, rfl⟩))
          go_roundw
          case rel => exact ⟨i + 1, by omega, by go_num, congrArg Value.bool hv.out, J1.out⟩
          case measure => simp [intOf]; omega
        ·
         have hin : i = s.msgs.length := by omega
         subst hin
         have hE : ((((true && s.subs.all bSub) && s.kept.all bKept) && s.listed.all bLis) && (s.msgs.take s.msgs.length).all bMsg) = ((((true && s.subs.all bSub) && s.kept.all bKept) && s.listed.all bLis) && s.msgs.all bMsg) := by rw [List.take_length]
         rw [hE]
         have I4 := hR
         clear hR hi hlt hE
         go_wp2
         go_ret
         exact ⟨by unfold waitB; rfl, I4.out.below⟩
theorem runWait (s : StateV) : (runB s && waitB s) = boundsB s := by
 unfold runB waitB boundsB
 simp only [Bool.and_assoc]
end Go.Proofs.YthikijlbclckdaaGreat
