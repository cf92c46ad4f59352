/- Keep: contracts (Kn). -/
import Derived.Test.YthikijlbclckdaaGreatT9
namespace Go.Proofs.YthikijlbclckdaaGreat
set_option maxRecDepth 100000
set_option maxHeartbeats 40000000
set_option linter.unusedSimpArgs false
set_option linter.unusedVariables false
open Go.RowKit
structure BI (w : World) (cs : Array Value) (ok : Bool) (wr : World) : Prop where
 below : Below w.heap.size w wr
 box : wr.heap[w.heap.size]? = some (.cells cs 33 (0, 0))
 ok : OkAt wr (w.heap.size + 1) ok
theorem BI.grow {w : World} {cs : Array Value} {ok : Bool} {wr w' : World} (h : BI w cs ok wr) (hb : Below wr.heap.size wr w') : BI w cs ok w' :=
 ⟨h.below.trans (hb.mono h.below.size), (hb.block _ (heap_lt h.box)).trans h.box, h.ok.grow hb⟩
theorem BI.step {w : World} {cs : Array Value} {ok ok' : Bool} {wr w' : World} (h : BI w cs ok wr) (ho : OkAt w' (w.heap.size + 1) ok') (hb : Ob (w.heap.size + 1) wr w') : BI w cs ok' w' :=
 ⟨h.below.trans (hb.below h.below.size (fun k hk => by omega)), (hb.block _ (heap_lt h.box) (by omega)).trans h.box, ho⟩
theorem BI.lt {w : World} {cs : Array Value} {ok : Bool} {wr : World} (h : BI w cs ok wr) : w.heap.size + 1 < wr.heap.size := h.ok.lt
def bDep (x : DepV) : Bool := [x.id].all (textB 32)
theorem bDep_eq (ok : Bool) (x : DepV) : (ok && [x.id].all (textB 32)) = (ok && bDep x) := by unfold bDep; simp only [Bool.and_assoc]
def bInst (x : InstV) : Bool := [x.id].all (textB 32) && rightV x.vars
theorem bInst_eq (ok : Bool) (x : InstV) : ((ok && [x.id].all (textB 32)) && rightV x.vars) = (ok && bInst x) := by unfold bInst; simp only [Bool.and_assoc]
def bTok (x : TokV) : Bool := [x.node, x.by_].all (smallB (-1)) && [x.stuck].all (textB 32)
theorem bTok_eq (ok : Bool) (x : TokV) : ((ok && [x.node, x.by_].all (smallB (-1))) && [x.stuck].all (textB 32)) = (ok && bTok x) := by unfold bTok; simp only [Bool.and_assoc]
def bJob (x : JobV) : Bool := [x.retries].all (smallB (-1)) && clockB x.till && [x.type, x.worker].all (textB 32)
theorem bJob_eq (ok : Bool) (x : JobV) : (((ok && [x.retries].all (smallB (-1))) && clockB x.till) && [x.type, x.worker].all (textB 32)) = (ok && bJob x) := by unfold bJob; simp only [Bool.and_assoc]
def bTim (x : TimV) : Bool := [x.node].all (smallB (0)) && clockB x.when_
theorem bTim_eq (ok : Bool) (x : TimV) : ((ok && [x.node].all (smallB (0))) && clockB x.when_) = (ok && bTim x) := by unfold bTim; simp only [Bool.and_assoc]
def bSub (x : SubV) : Bool := [x.node].all (smallB (0)) && [x.name].all (textB 32) && [x.key].all (textB 1024)
theorem bSub_eq (ok : Bool) (x : SubV) : (((ok && [x.node].all (smallB (0))) && [x.name].all (textB 32)) && [x.key].all (textB 1024)) = (ok && bSub x) := by unfold bSub; simp only [Bool.and_assoc]
def bKept (x : KeptV) : Bool := [x.node].all (smallB (0))
theorem bKept_eq (ok : Bool) (x : KeptV) : (ok && [x.node].all (smallB (0))) = (ok && bKept x) := by unfold bKept; simp only [Bool.and_assoc]
def bLis (x : LisV) : Bool := [x.node].all (smallB (0)) && [x.name].all (textB 32) && [x.key].all (textB 1024) && rightV x.vars
theorem bLis_eq (ok : Bool) (x : LisV) : ((((ok && [x.node].all (smallB (0))) && [x.name].all (textB 32)) && [x.key].all (textB 1024)) && rightV x.vars) = (ok && bLis x) := by unfold bLis; simp only [Bool.and_assoc]
def bMsg (x : MsgV) : Bool := [x.name, x.id].all (textB 32) && [x.for_].all (textB 1024) && clockB x.till && rightV x.vars
theorem bMsg_eq (ok : Bool) (x : MsgV) : ((((ok && [x.name, x.id].all (textB 32)) && [x.for_].all (textB 1024)) && clockB x.till) && rightV x.vars) = (ok && bMsg x) := by unfold bMsg; simp only [Bool.and_assoc]
def boundsB (s : StateV) : Bool := s.procs.all bDep && s.insts.all bInst && s.tokens.all bTok && s.jobs.all bJob && s.timers.all bTim && s.subs.all bSub && s.kept.all bKept && s.listed.all bLis && s.msgs.all bMsg
theorem bounds_any (s : StateV) (hok : StateOk s) (cs : List Value) (vp vi vt vj vr vs vk vl vm : Value) (w : World) (h : StateAt w cs s vp vi vt vj vr vs vk vl vm) :
  Calls Tryz.prog 29 #[.agg cs.toArray] w fun e w' => e = .returned (.bool (boundsB s)) ∧ Below w.heap.size w w' := by
 have H := hid h
 have Hok := hid hok
 obtain ⟨rfl, hp, hi, ht, hj, hr, hs, hk, hl, hm⟩ := h
 obtain ⟨ap, cp, rfl, -, np, -⟩ := hp
 obtain ⟨ai, ci, rfl, -, ni, -⟩ := hi
 obtain ⟨at_, ct, rfl, -, nt, -⟩ := ht
 obtain ⟨aj, cj, rfl, -, nj, -⟩ := hj
 obtain ⟨ar, cr, rfl, -, nr, -⟩ := hr
 obtain ⟨as_, cs_, rfl, -, ns, -⟩ := hs
 obtain ⟨ak, ck, rfl, -, nk, -⟩ := hk
 obtain ⟨al, cl, rfl, -, nl, -⟩ := hl
 obtain ⟨am, cm, rfl, -, nm, -⟩ := hm
 unfold maxLen at np ni nt nj nr ns nk nl nm
 clear hok
 obtain ⟨CS, hCS⟩ : ∃ CS : Array Value, CS = #[U s.pos, U s.done, U s.made, .slice ap s.procs.length cp, .slice ai s.insts.length ci, .slice at_ s.tokens.length ct, .slice aj s.jobs.length cj, .slice ar s.timers.length cr, .slice as_ s.subs.length cs_, .slice ak s.kept.length ck, .slice al s.listed.length cl, .slice am s.msgs.length cm] := ⟨_, rfl⟩
 have HCS := hid hCS
 clear hCS
 go_enter Tryz.func29, Tryz.ntmps29
 go_wp2_with fail
 have I0 : Hid (BI w CS true ((w.alloc (.cells #[U s.pos, U s.done, U s.made, .slice ap s.procs.length cp, .slice ai s.insts.length ci, .slice at_ s.tokens.length ct, .slice aj s.jobs.length cj, .slice ar s.timers.length cr, .slice as_ s.subs.length cs_, .slice ak s.kept.length ck, .slice al s.listed.length cl, .slice am s.msgs.length cm] 33)).alloc (.cells #[.bool true] 4))) := by
  rw [HCS.out]
  exact ⟨((Below.refl _ w).alloc (Nat.le_refl _) _).alloc (by simp) _, (alloc_old _ (by simp)).trans (alloc_new _ _), alloc_new2 _ _ _⟩
 go_loopw [33] (fun vi wr => ∃ i : Nat, i ≤ s.procs.length ∧ vi = .int .i64 i ∧ Hid (BI w CS (true && (s.procs.take i).all bDep) wr)) (fun vi _ => s.procs.length - (intOf vi).toNat)
 case atStart => exact ⟨0, Nat.zero_le _, rfl, (show BI w CS (true && true) _ by rw [Bool.and_true]; exact I0.out)⟩
 case round =>
  obtain ⟨i, hi, rfl, hR⟩ := hrel
  by_cases hlt : i < s.procs.length
  ·
   obtain ⟨x, hx⟩ : ∃ x, s.procs[i]? = some x := ⟨_, List.getElem?_eq_getElem hlt⟩
   obtain ⟨a', cap', hv, -, -, hcell⟩ := H.out.procs
   cases hv
   obtain ⟨b, off, cs, rfl, hcl, hat, hc⟩ := hcell i x hx
   have Hat := hid hat
   obtain rfl := hat
   have k0 := kc hR.out.below (hc 0 _ rfl)
   have k1 := kc hR.out.below (hc 1 _ rfl)
   simp only [Nat.add_zero] at k0
   have hox := hid (Hok.out.procs x (List.mem_of_getElem? hx))
   have hst := hid (all_snoc bDep s.procs i x hx)
   have hlt1 := hR.out.lt
   clear hcell hx hc hcl
   go_wp2_with fail
   have J0 := hid (hR.out.grow ((Below.refl _ wr).alloc (Nat.le_refl _) (.cells #[.string x.id, .string x.bytes] 95)))
   have X0 := hid (alloc_new wr (.cells #[.string x.id, .string x.bytes] 95))
   have hsz : (wr.alloc (.cells #[.string x.id, .string x.bytes] 95)).heap.size = wr.heap.size + 1 := by simp
   rw [← hsz]
   generalize wr.alloc (.cells #[.string x.id, .string x.bytes] 95) = v0 at J0 X0 hsz ⊢
   have hzz : wr.heap.size < v0.heap.size := by omega
   clear hsz k0 k1
   have G0 := (Below.refl _ v0).alloc (Nat.le_refl _) (.cells #[.string x.id] 9)
   have J0b := J0.out.grow G0
   have S0 : SlR (v0.alloc (.cells #[.string x.id] 9)) (.slice (some ⟨v0.heap.size, 0, none⟩) 1 1) [.string x.id] := FlatAt.slr (FlatAt.made (n := 1) v0 [.string x.id] 9 rfl (by unfold maxLen; omega))
   refine (text_any 32 _ [x.id] (w.heap.size + 1) _ _ J0b.ok S0 (by simp) (by decide) (by intro y hy; simp at hy; subst hy; exact hox.out.id) (by intro a n cap h; cases h; dsimp only; omega)).mono ?_
   have X0b := (G0.block wr.heap.size (by omega)).trans X0.out
   clear S0
   rintro e v1 ⟨rfl, ho0, hb0⟩
   have J1 := hid (J0b.step ho0 hb0)
   have hzw0 := hb0.size
   have hzv0 : v0.heap.size ≤ v1.heap.size := by simp at hzw0; omega
   clear ho0 hb0 J0b X0b hzw0 G0
   have JF : Hid (BI w CS (true && (s.procs.take (i + 1)).all bDep) v1) := by
    have h1 := J1.out
    rw [bDep_eq, Bool.and_assoc, ← hst.out] at h1
    exact h1
   go_wp2
   go_roundw
   case rel => exact ⟨i + 1, by omega, by go_num, JF.out⟩
   case measure => simp [intOf]; omega
  ·
   have hin : i = s.procs.length := by omega
   subst hin
   have I1 : Hid (BI w CS (true && s.procs.all bDep) wr) := by have := hR.out; rwa [List.take_length] at this
   clear hR hi hlt
   have kk : wr.cell? ⟨w.heap.size, 4, none⟩ = some (.slice ai s.insts.length ci) := by rw [cell_of I1.out.box 4, HCS.out]; rfl
   go_wp2_with fail
   clear kk
   obtain ⟨wo, rfl⟩ : ∃ wo : World, wo = wr := ⟨_, rfl⟩
   go_loopw [46] (fun vi wr => ∃ i : Nat, i ≤ s.insts.length ∧ vi = .int .i64 i ∧ Hid (BI w CS ((true && s.procs.all bDep) && (s.insts.take i).all bInst) wr)) (fun vi _ => s.insts.length - (intOf vi).toNat)
   case atStart => exact ⟨0, Nat.zero_le _, rfl, (show BI w CS ((true && s.procs.all bDep) && true) _ by rw [Bool.and_true]; exact I1.out)⟩
   case round =>
    obtain ⟨i, hi, rfl, hR⟩ := hrel
    by_cases hlt : i < s.insts.length
    ·
     obtain ⟨x, hx⟩ : ∃ x, s.insts[i]? = some x := ⟨_, List.getElem?_eq_getElem hlt⟩
     obtain ⟨a', cap', hv, -, -, hcell⟩ := H.out.insts
     cases hv
     obtain ⟨b, off, cs, rfl, hcl, hat, hc⟩ := hcell i x hx
     have Hat := hid hat
     obtain ⟨v3, rfl, hv3⟩ := hat
     obtain ⟨a3, c30, rfl, -⟩ := hv3
     have k0 := kc hR.out.below (hc 0 _ rfl)
     have k1 := kc hR.out.below (hc 1 _ rfl)
     have k2 := kc hR.out.below (hc 2 _ rfl)
     simp only [Nat.add_zero] at k0
     have hox := hid (Hok.out.insts x (List.mem_of_getElem? hx))
     have hst := hid (all_snoc bInst s.insts i x hx)
     have hlt1 := hR.out.lt
     clear hcell hx hc hcl
     go_wp2_with fail
     have J0 := hid (hR.out.grow ((Below.refl _ wr).alloc (Nat.le_refl _) (.cells #[U x.key, .string x.id, .slice a3 x.vars.length c30] 103)))
     have X0 := hid (alloc_new wr (.cells #[U x.key, .string x.id, .slice a3 x.vars.length c30] 103))
     have hsz : (wr.alloc (.cells #[U x.key, .string x.id, .slice a3 x.vars.length c30] 103)).heap.size = wr.heap.size + 1 := by simp
     rw [← hsz]
     generalize wr.alloc (.cells #[U x.key, .string x.id, .slice a3 x.vars.length c30] 103) = v0 at J0 X0 hsz ⊢
     have hzz : wr.heap.size < v0.heap.size := by omega
     clear hsz k0 k1 k2
     have G0 := (Below.refl _ v0).alloc (Nat.le_refl _) (.cells #[.string x.id] 9)
     have J0b := J0.out.grow G0
     have S0 : SlR (v0.alloc (.cells #[.string x.id] 9)) (.slice (some ⟨v0.heap.size, 0, none⟩) 1 1) [.string x.id] := FlatAt.slr (FlatAt.made (n := 1) v0 [.string x.id] 9 rfl (by unfold maxLen; omega))
     refine (text_any 32 _ [x.id] (w.heap.size + 1) _ _ J0b.ok S0 (by simp) (by decide) (by intro y hy; simp at hy; subst hy; exact hox.out.id) (by intro a n cap h; cases h; dsimp only; omega)).mono ?_
     have X0b := (G0.block wr.heap.size (by omega)).trans X0.out
     clear S0
     rintro e v1 ⟨rfl, ho0, hb0⟩
     have J1 := hid (J0b.step ho0 hb0)
     have hzw0 := hb0.size
     have hzv0 : v0.heap.size ≤ v1.heap.size := by simp at hzw0; omega
     have X1 := hid ((hb0.block wr.heap.size (by simp; omega) (by omega)).trans X0b)
     have k0 := cell_of X1.out 0
     have k1 := cell_of X1.out 1
     have k2 := cell_of X1.out 2
     clear ho0 hb0 J0b X0b hzw0 G0
     go_wp2_with fail
     clear k0 k1 k2
     have J1b := J1.out
     have X1b := X1.out
     have hvv : VarsAt v1 (.slice a3 x.vars.length c30) x.vars := (show VarsAt w (.slice a3 x.vars.length c30) x.vars from by obtain ⟨v, h1, h2⟩ := Hat.out; cases h1; exact h2).below J1b.below
     refine (vars_any _ x.vars (w.heap.size + 1) _ _ J1b.ok hvv).mono ?_
     rintro e v2 ⟨rfl, ho1, hb1⟩
     have J2 := hid (J1b.step ho1 hb1)
     have hzw1 := hb1.size
     have hzv1 : v1.heap.size ≤ v2.heap.size := hzw1
     clear ho1 hb1 J1b X1b hzw1
     have JF : Hid (BI w CS ((true && s.procs.all bDep) && (s.insts.take (i + 1)).all bInst) v2) := by
      have h1 := J2.out
      rw [bInst_eq, Bool.and_assoc, ← hst.out] at h1
      exact h1
     go_wp2
     go_roundw
     case rel => exact ⟨i + 1, by omega, by go_num, JF.out⟩
     case measure => simp [intOf]; omega
    ·
     have hin : i = s.insts.length := by omega
     subst hin
     have I2 : Hid (BI w CS ((true && s.procs.all bDep) && s.insts.all bInst) wr) := by have := hR.out; rwa [List.take_length] at this
     clear hR hi hlt
     have kk : wr.cell? ⟨w.heap.size, 5, none⟩ = some (.slice at_ s.tokens.length ct) := by rw [cell_of I2.out.box 5, HCS.out]; rfl
     go_wp2_with fail
     clear kk
     obtain ⟨wo, rfl⟩ : ∃ wo : World, wo = wr := ⟨_, rfl⟩
     go_loopw [63] (fun vi wr => ∃ i : Nat, i ≤ s.tokens.length ∧ vi = .int .i64 i ∧ Hid (BI w CS (((true && s.procs.all bDep) && s.insts.all bInst) && (s.tokens.take i).all bTok) wr)) (fun vi _ => s.tokens.length - (intOf vi).toNat)
     case atStart => exact ⟨0, Nat.zero_le _, rfl, (show BI w CS (((true && s.procs.all bDep) && s.insts.all bInst) && true) _ by rw [Bool.and_true]; exact I2.out)⟩
     case round =>
      obtain ⟨i, hi, rfl, hR⟩ := hrel
      by_cases hlt : i < s.tokens.length
      ·
       obtain ⟨x, hx⟩ : ∃ x, s.tokens[i]? = some x := ⟨_, List.getElem?_eq_getElem hlt⟩
       obtain ⟨a', cap', hv, -, -, hcell⟩ := H.out.tokens
       cases hv
       obtain ⟨b, off, cs, rfl, hcl, hat, hc⟩ := hcell i x hx
       have Hat := hid hat
       obtain rfl := hat
       have k0 := kc hR.out.below (hc 0 _ rfl)
       have k1 := kc hR.out.below (hc 1 _ rfl)
       have k2 := kc hR.out.below (hc 2 _ rfl)
       have k3 := kc hR.out.below (hc 3 _ rfl)
       have k4 := kc hR.out.below (hc 4 _ rfl)
       have k5 := kc hR.out.below (hc 5 _ rfl)
       simp only [Nat.add_zero] at k0
       have hox := hid (Hok.out.tokens x (List.mem_of_getElem? hx))
       have hst := hid (all_snoc bTok s.tokens i x hx)
       have hlt1 := hR.out.lt
       clear hcell hx hc hcl
       go_wp2_with fail
       have J0 := hid (hR.out.grow ((Below.refl _ wr).alloc (Nat.le_refl _) (.cells #[U x.key, U x.inst, U x.scope, I x.node, I x.by_, .string x.stuck] 105)))
       have X0 := hid (alloc_new wr (.cells #[U x.key, U x.inst, U x.scope, I x.node, I x.by_, .string x.stuck] 105))
       have hsz : (wr.alloc (.cells #[U x.key, U x.inst, U x.scope, I x.node, I x.by_, .string x.stuck] 105)).heap.size = wr.heap.size + 1 := by simp
       rw [← hsz]
       generalize wr.alloc (.cells #[U x.key, U x.inst, U x.scope, I x.node, I x.by_, .string x.stuck] 105) = v0 at J0 X0 hsz ⊢
       have hzz : wr.heap.size < v0.heap.size := by omega
       clear hsz k0 k1 k2 k3 k4 k5
       have G0 := (Below.refl _ v0).alloc (Nat.le_refl _) (.cells #[I x.node, I x.by_] 3)
       have J0b := J0.out.grow G0
       have S0 : SlR (v0.alloc (.cells #[I x.node, I x.by_] 3)) (.slice (some ⟨v0.heap.size, 0, none⟩) 2 2) [I x.node, I x.by_] := FlatAt.slr (FlatAt.made (n := 2) v0 [I x.node, I x.by_] 3 rfl (by unfold maxLen; omega))
       refine (small_any (-1) _ [x.node, x.by_] (w.heap.size + 1) _ _ J0b.ok S0 (by simp) (by intro a n cap h; cases h; dsimp only; omega)).mono ?_
       have X0b := (G0.block wr.heap.size (by omega)).trans X0.out
       clear S0
       rintro e v1 ⟨rfl, ho0, hb0⟩
       have J1 := hid (J0b.step ho0 hb0)
       have hzw0 := hb0.size
       have hzv0 : v0.heap.size ≤ v1.heap.size := by simp at hzw0; omega
       have X1 := hid ((hb0.block wr.heap.size (by simp; omega) (by omega)).trans X0b)
       have k0 := cell_of X1.out 0
       have k1 := cell_of X1.out 1
       have k2 := cell_of X1.out 2
       have k3 := cell_of X1.out 3
       have k4 := cell_of X1.out 4
       have k5 := cell_of X1.out 5
       clear ho0 hb0 J0b X0b hzw0 G0
       go_wp2_with fail
       clear k0 k1 k2 k3 k4 k5
       have G1 := (Below.refl _ v1).alloc (Nat.le_refl _) (.cells #[.string x.stuck] 9)
       have J1b := J1.out.grow G1
       have S1 : SlR (v1.alloc (.cells #[.string x.stuck] 9)) (.slice (some ⟨v1.heap.size, 0, none⟩) 1 1) [.string x.stuck] := FlatAt.slr (FlatAt.made (n := 1) v1 [.string x.stuck] 9 rfl (by unfold maxLen; omega))
       refine (text_any 32 _ [x.stuck] (w.heap.size + 1) _ _ J1b.ok S1 (by simp) (by decide) (by intro y hy; simp at hy; subst hy; exact hox.out.stuck) (by intro a n cap h; cases h; dsimp only; omega)).mono ?_
       have X1b := (G1.block wr.heap.size (by omega)).trans X1.out
       clear S1
       rintro e v2 ⟨rfl, ho1, hb1⟩
       have J2 := hid (J1b.step ho1 hb1)
       have hzw1 := hb1.size
       have hzv1 : v1.heap.size ≤ v2.heap.size := by simp at hzw1; omega
       clear ho1 hb1 J1b X1b hzw1 G1
       have JF : Hid (BI w CS (((true && s.procs.all bDep) && s.insts.all bInst) && (s.tokens.take (i + 1)).all bTok) v2) := by
        have h1 := J2.out
        rw [bTok_eq, Bool.and_assoc, ← hst.out] at h1
        exact h1
       go_wp2
       go_roundw
       case rel => exact ⟨i + 1, by omega, by go_num, JF.out⟩
       case measure => simp [intOf]; omega
      ·
       have hin : i = s.tokens.length := by omega
       subst hin
       have I3 : Hid (BI w CS (((true && s.procs.all bDep) && s.insts.all bInst) && s.tokens.all bTok) wr) := by have := hR.out; rwa [List.take_length] at this
       clear hR hi hlt
       have kk : wr.cell? ⟨w.heap.size, 6, none⟩ = some (.slice aj s.jobs.length cj) := by rw [cell_of I3.out.box 6, HCS.out]; rfl
       go_wp2_with fail
       clear kk
       obtain ⟨wo, rfl⟩ : ∃ wo : World, wo = wr := ⟨_, rfl⟩
       go_loopw [83] (fun vi wr => ∃ i : Nat, i ≤ s.jobs.length ∧ vi = .int .i64 i ∧ Hid (BI w CS ((((true && s.procs.all bDep) && s.insts.all bInst) && s.tokens.all bTok) && (s.jobs.take i).all bJob) wr)) (fun vi _ => s.jobs.length - (intOf vi).toNat)
       case atStart => exact ⟨0, Nat.zero_le _, rfl, (show BI w CS ((((true && s.procs.all bDep) && s.insts.all bInst) && s.tokens.all bTok) && true) _ by rw [Bool.and_true]; exact I3.out)⟩
       case round =>
        obtain ⟨i, hi, rfl, hR⟩ := hrel
        by_cases hlt : i < s.jobs.length
        ·
         obtain ⟨x, hx⟩ : ∃ x, s.jobs[i]? = some x := ⟨_, List.getElem?_eq_getElem hlt⟩
         obtain ⟨a', cap', hv, -, -, hcell⟩ := H.out.jobs
         cases hv
         obtain ⟨b, off, cs, rfl, hcl, hat, hc⟩ := hcell i x hx
         have Hat := hid hat
         obtain rfl := hat
         have k0 := kc hR.out.below (hc 0 _ rfl)
         have k1 := kc hR.out.below (hc 1 _ rfl)
         have k2 := kc hR.out.below (hc 2 _ rfl)
         have k3 := kc hR.out.below (hc 3 _ rfl)
         have k4 := kc hR.out.below (hc 4 _ rfl)
         have k5 := kc hR.out.below (hc 5 _ rfl)
         simp only [Nat.add_zero] at k0
         have hox := hid (Hok.out.jobs x (List.mem_of_getElem? hx))
         have hst := hid (all_snoc bJob s.jobs i x hx)
         have hlt1 := hR.out.lt
         clear hcell hx hc hcl
         go_wp2_with fail
         have J0 := hid (hR.out.grow ((Below.refl _ wr).alloc (Nat.le_refl _) (.cells #[U x.key, U x.token, .string x.type, I x.retries, .string x.worker, I x.till] 107)))
         have X0 := hid (alloc_new wr (.cells #[U x.key, U x.token, .string x.type, I x.retries, .string x.worker, I x.till] 107))
         have hsz : (wr.alloc (.cells #[U x.key, U x.token, .string x.type, I x.retries, .string x.worker, I x.till] 107)).heap.size = wr.heap.size + 1 := by simp
         rw [← hsz]
         generalize wr.alloc (.cells #[U x.key, U x.token, .string x.type, I x.retries, .string x.worker, I x.till] 107) = v0 at J0 X0 hsz ⊢
         have hzz : wr.heap.size < v0.heap.size := by omega
         clear hsz k0 k1 k2 k3 k4 k5
         have G0 := (Below.refl _ v0).alloc (Nat.le_refl _) (.cells #[I x.retries] 3)
         have J0b := J0.out.grow G0
         have S0 : SlR (v0.alloc (.cells #[I x.retries] 3)) (.slice (some ⟨v0.heap.size, 0, none⟩) 1 1) [I x.retries] := FlatAt.slr (FlatAt.made (n := 1) v0 [I x.retries] 3 rfl (by unfold maxLen; omega))
         refine (small_any (-1) _ [x.retries] (w.heap.size + 1) _ _ J0b.ok S0 (by simp) (by intro a n cap h; cases h; dsimp only; omega)).mono ?_
         have X0b := (G0.block wr.heap.size (by omega)).trans X0.out
         clear S0
         rintro e v1 ⟨rfl, ho0, hb0⟩
         have J1 := hid (J0b.step ho0 hb0)
         have hzw0 := hb0.size
         have hzv0 : v0.heap.size ≤ v1.heap.size := by simp at hzw0; omega
         have X1 := hid ((hb0.block wr.heap.size (by simp; omega) (by omega)).trans X0b)
         have k0 := cell_of X1.out 0
         have k1 := cell_of X1.out 1
         have k2 := cell_of X1.out 2
         have k3 := cell_of X1.out 3
         have k4 := cell_of X1.out 4
         have k5 := cell_of X1.out 5
         clear ho0 hb0 J0b X0b hzw0 G0
         go_wp2_with fail
         clear k0 k1 k2 k3 k4 k5
         have J1b := J1.out
         have X1b := X1.out
         refine (clock_any x.till (w.heap.size + 1) _ _ J1b.ok).mono ?_
         rintro e v2 ⟨rfl, ho1, hb1⟩
         have J2 := hid (J1b.step ho1 hb1)
         have hzw1 := hb1.size
         have hzv1 : v1.heap.size ≤ v2.heap.size := hzw1
         have X2 := hid ((hb1.block wr.heap.size (by omega) (by omega)).trans X1b)
         have k0 := cell_of X2.out 0
         have k1 := cell_of X2.out 1
         have k2 := cell_of X2.out 2
         have k3 := cell_of X2.out 3
         have k4 := cell_of X2.out 4
         have k5 := cell_of X2.out 5
         clear ho1 hb1 J1b X1b hzw1
         go_wp2_with fail
         clear k0 k1 k2 k3 k4 k5
         have G2 := (Below.refl _ v2).alloc (Nat.le_refl _) (.cells #[.string x.type, .string x.worker] 9)
         have J2b := J2.out.grow G2
         have S2 : SlR (v2.alloc (.cells #[.string x.type, .string x.worker] 9)) (.slice (some ⟨v2.heap.size, 0, none⟩) 2 2) [.string x.type, .string x.worker] := FlatAt.slr (FlatAt.made (n := 2) v2 [.string x.type, .string x.worker] 9 rfl (by unfold maxLen; omega))
         refine (text_any 32 _ [x.type, x.worker] (w.heap.size + 1) _ _ J2b.ok S2 (by simp) (by decide) (by intro y hy; simp at hy; rcases hy with rfl | rfl; exact hox.out.type; exact hox.out.worker) (by intro a n cap h; cases h; dsimp only; omega)).mono ?_
         have X2b := (G2.block wr.heap.size (by omega)).trans X2.out
         clear S2
         rintro e v3 ⟨rfl, ho2, hb2⟩
         have J3 := hid (J2b.step ho2 hb2)
         have hzw2 := hb2.size
         have hzv2 : v2.heap.size ≤ v3.heap.size := by simp at hzw2; omega
         clear ho2 hb2 J2b X2b hzw2 G2
         have JF : Hid (BI w CS ((((true && s.procs.all bDep) && s.insts.all bInst) && s.tokens.all bTok) && (s.jobs.take (i + 1)).all bJob) v3) := by
          have h1 := J3.out
          rw [bJob_eq, Bool.and_assoc, ← hst.out] at h1
          exact h1
         go_wp2
         go_roundw
         case rel => exact ⟨i + 1, by omega, by go_num, JF.out⟩
         case measure => simp [intOf]; omega
        ·
         have hin : i = s.jobs.length := by omega
         subst hin
         have I4 : Hid (BI w CS ((((true && s.procs.all bDep) && s.insts.all bInst) && s.tokens.all bTok) && s.jobs.all bJob) wr) := by have := hR.out; rwa [List.take_length] at this
         clear hR hi hlt
         have kk : wr.cell? ⟨w.heap.size, 7, none⟩ = some (.slice ar s.timers.length cr) := by rw [cell_of I4.out.box 7, HCS.out]; rfl
         go_wp2_with fail
         clear kk
         obtain ⟨wo, rfl⟩ : ∃ wo : World, wo = wr := ⟨_, rfl⟩
         go_loopw [107] (fun vi wr => ∃ i : Nat, i ≤ s.timers.length ∧ vi = .int .i64 i ∧ Hid (BI w CS (((((true && s.procs.all bDep) && s.insts.all bInst) && s.tokens.all bTok) && s.jobs.all bJob) && (s.timers.take i).all bTim) wr)) (fun vi _ => s.timers.length - (intOf vi).toNat)
         case atStart => exact ⟨0, Nat.zero_le _, rfl, (show BI w CS (((((true && s.procs.all bDep) && s.insts.all bInst) && s.tokens.all bTok) && s.jobs.all bJob) && true) _ by rw [Bool.and_true]; exact I4.out)⟩
         case round =>
          obtain ⟨i, hi, rfl, hR⟩ := hrel
          by_cases hlt : i < s.timers.length
          ·
           obtain ⟨x, hx⟩ : ∃ x, s.timers[i]? = some x := ⟨_, List.getElem?_eq_getElem hlt⟩
           obtain ⟨a', cap', hv, -, -, hcell⟩ := H.out.timers
           cases hv
           obtain ⟨b, off, cs, rfl, hcl, hat, hc⟩ := hcell i x hx
           have Hat := hid hat
           obtain rfl := hat
           have k0 := kc hR.out.below (hc 0 _ rfl)
           have k1 := kc hR.out.below (hc 1 _ rfl)
           have k2 := kc hR.out.below (hc 2 _ rfl)
           simp only [Nat.add_zero] at k0
           have hox := hid (Hok.out.timers x (List.mem_of_getElem? hx))
           have hst := hid (all_snoc bTim s.timers i x hx)
           have hlt1 := hR.out.lt
           clear hcell hx hc hcl
           go_wp2_with fail
           have J0 := hid (hR.out.grow ((Below.refl _ wr).alloc (Nat.le_refl _) (.cells #[U x.token, I x.node, I x.when_] 109)))
           have X0 := hid (alloc_new wr (.cells #[U x.token, I x.node, I x.when_] 109))
           have hsz : (wr.alloc (.cells #[U x.token, I x.node, I x.when_] 109)).heap.size = wr.heap.size + 1 := by simp
           rw [← hsz]
           generalize wr.alloc (.cells #[U x.token, I x.node, I x.when_] 109) = v0 at J0 X0 hsz ⊢
           have hzz : wr.heap.size < v0.heap.size := by omega
           clear hsz k0 k1 k2
           have G0 := (Below.refl _ v0).alloc (Nat.le_refl _) (.cells #[I x.node] 3)
           have J0b := J0.out.grow G0
           have S0 : SlR (v0.alloc (.cells #[I x.node] 3)) (.slice (some ⟨v0.heap.size, 0, none⟩) 1 1) [I x.node] := FlatAt.slr (FlatAt.made (n := 1) v0 [I x.node] 3 rfl (by unfold maxLen; omega))
           refine (small_any (0) _ [x.node] (w.heap.size + 1) _ _ J0b.ok S0 (by simp) (by intro a n cap h; cases h; dsimp only; omega)).mono ?_
           have X0b := (G0.block wr.heap.size (by omega)).trans X0.out
           clear S0
           rintro e v1 ⟨rfl, ho0, hb0⟩
           have J1 := hid (J0b.step ho0 hb0)
           have hzw0 := hb0.size
           have hzv0 : v0.heap.size ≤ v1.heap.size := by simp at hzw0; omega
           have X1 := hid ((hb0.block wr.heap.size (by simp; omega) (by omega)).trans X0b)
           have k0 := cell_of X1.out 0
           have k1 := cell_of X1.out 1
           have k2 := cell_of X1.out 2
           clear ho0 hb0 J0b X0b hzw0 G0
           go_wp2_with fail
           clear k0 k1 k2
           have J1b := J1.out
           have X1b := X1.out
           refine (clock_any x.when_ (w.heap.size + 1) _ _ J1b.ok).mono ?_
           rintro e v2 ⟨rfl, ho1, hb1⟩
           have J2 := hid (J1b.step ho1 hb1)
           have hzw1 := hb1.size
           have hzv1 : v1.heap.size ≤ v2.heap.size := hzw1
           clear ho1 hb1 J1b X1b hzw1
           have JF : Hid (BI w CS (((((true && s.procs.all bDep) && s.insts.all bInst) && s.tokens.all bTok) && s.jobs.all bJob) && (s.timers.take (i + 1)).all bTim) v2) := by
            have h1 := J2.out
            rw [bTim_eq, Bool.and_assoc, ← hst.out] at h1
            exact h1
           go_wp2
           go_roundw
           case rel => exact ⟨i + 1, by omega, by go_num, JF.out⟩
           case measure => simp [intOf]; omega
          ·
           have hin : i = s.timers.length := by omega
           subst hin
           have I5 : Hid (BI w CS (((((true && s.procs.all bDep) && s.insts.all bInst) && s.tokens.all bTok) && s.jobs.all bJob) && s.timers.all bTim) wr) := by have := hR.out; rwa [List.take_length] at this
           clear hR hi hlt
           have kk : wr.cell? ⟨w.heap.size, 8, none⟩ = some (.slice as_ s.subs.length cs_) := by rw [cell_of I5.out.box 8, HCS.out]; rfl
           go_wp2_with fail
           clear kk
           obtain ⟨wo, rfl⟩ : ∃ wo : World, wo = wr := ⟨_, rfl⟩
           go_loopw [124] (fun vi wr => ∃ i : Nat, i ≤ s.subs.length ∧ vi = .int .i64 i ∧ Hid (BI w CS ((((((true && s.procs.all bDep) && s.insts.all bInst) && s.tokens.all bTok) && s.jobs.all bJob) && s.timers.all bTim) && (s.subs.take i).all bSub) wr)) (fun vi _ => s.subs.length - (intOf vi).toNat)
           case atStart => exact ⟨0, Nat.zero_le _, rfl, (show BI w CS ((((((true && s.procs.all bDep) && s.insts.all bInst) && s.tokens.all bTok) && s.jobs.all bJob) && s.timers.all bTim) && true) _ by rw [Bool.and_true]; exact I5.out)⟩
           case round =>
            obtain ⟨i, hi, rfl, hR⟩ := hrel
            by_cases hlt : i < s.subs.length
            ·
             obtain ⟨x, hx⟩ : ∃ x, s.subs[i]? = some x := ⟨_, List.getElem?_eq_getElem hlt⟩
             obtain ⟨a', cap', hv, -, -, hcell⟩ := H.out.subs
             cases hv
             obtain ⟨b, off, cs, rfl, hcl, hat, hc⟩ := hcell i x hx
             have Hat := hid hat
             obtain rfl := hat
             have k0 := kc hR.out.below (hc 0 _ rfl)
             have k1 := kc hR.out.below (hc 1 _ rfl)
             have k2 := kc hR.out.below (hc 2 _ rfl)
             have k3 := kc hR.out.below (hc 3 _ rfl)
             have k4 := kc hR.out.below (hc 4 _ rfl)
             have k5 := kc hR.out.below (hc 5 _ rfl)
             simp only [Nat.add_zero] at k0
             have hox := hid (Hok.out.subs x (List.mem_of_getElem? hx))
             have hst := hid (all_snoc bSub s.subs i x hx)
             have hlt1 := hR.out.lt
             clear hcell hx hc hcl
             go_wp2_with fail
             have J0 := hid (hR.out.grow ((Below.refl _ wr).alloc (Nat.le_refl _) (.cells #[U x.token, U x.inst, I x.node, .string x.name, .string x.key, .bool x.is] 111)))
             have X0 := hid (alloc_new wr (.cells #[U x.token, U x.inst, I x.node, .string x.name, .string x.key, .bool x.is] 111))
             have hsz : (wr.alloc (.cells #[U x.token, U x.inst, I x.node, .string x.name, .string x.key, .bool x.is] 111)).heap.size = wr.heap.size + 1 := by simp
             rw [← hsz]
             generalize wr.alloc (.cells #[U x.token, U x.inst, I x.node, .string x.name, .string x.key, .bool x.is] 111) = v0 at J0 X0 hsz ⊢
             have hzz : wr.heap.size < v0.heap.size := by omega
             clear hsz k0 k1 k2 k3 k4 k5
             have G0 := (Below.refl _ v0).alloc (Nat.le_refl _) (.cells #[I x.node] 3)
             have J0b := J0.out.grow G0
             have S0 : SlR (v0.alloc (.cells #[I x.node] 3)) (.slice (some ⟨v0.heap.size, 0, none⟩) 1 1) [I x.node] := FlatAt.slr (FlatAt.made (n := 1) v0 [I x.node] 3 rfl (by unfold maxLen; omega))
             refine (small_any (0) _ [x.node] (w.heap.size + 1) _ _ J0b.ok S0 (by simp) (by intro a n cap h; cases h; dsimp only; omega)).mono ?_
             have X0b := (G0.block wr.heap.size (by omega)).trans X0.out
             clear S0
             rintro e v1 ⟨rfl, ho0, hb0⟩
             have J1 := hid (J0b.step ho0 hb0)
             have hzw0 := hb0.size
             have hzv0 : v0.heap.size ≤ v1.heap.size := by simp at hzw0; omega
             have X1 := hid ((hb0.block wr.heap.size (by simp; omega) (by omega)).trans X0b)
             have k0 := cell_of X1.out 0
             have k1 := cell_of X1.out 1
             have k2 := cell_of X1.out 2
             have k3 := cell_of X1.out 3
             have k4 := cell_of X1.out 4
             have k5 := cell_of X1.out 5
             clear ho0 hb0 J0b X0b hzw0 G0
             go_wp2_with fail
             clear k0 k1 k2 k3 k4 k5
             have G1 := (Below.refl _ v1).alloc (Nat.le_refl _) (.cells #[.string x.name] 9)
             have J1b := J1.out.grow G1
             have S1 : SlR (v1.alloc (.cells #[.string x.name] 9)) (.slice (some ⟨v1.heap.size, 0, none⟩) 1 1) [.string x.name] := FlatAt.slr (FlatAt.made (n := 1) v1 [.string x.name] 9 rfl (by unfold maxLen; omega))
             refine (text_any 32 _ [x.name] (w.heap.size + 1) _ _ J1b.ok S1 (by simp) (by decide) (by intro y hy; simp at hy; subst hy; exact hox.out.name) (by intro a n cap h; cases h; dsimp only; omega)).mono ?_
             have X1b := (G1.block wr.heap.size (by omega)).trans X1.out
             clear S1
             rintro e v2 ⟨rfl, ho1, hb1⟩
             have J2 := hid (J1b.step ho1 hb1)
             have hzw1 := hb1.size
             have hzv1 : v1.heap.size ≤ v2.heap.size := by simp at hzw1; omega
             have X2 := hid ((hb1.block wr.heap.size (by simp; omega) (by omega)).trans X1b)
             have k0 := cell_of X2.out 0
             have k1 := cell_of X2.out 1
             have k2 := cell_of X2.out 2
             have k3 := cell_of X2.out 3
             have k4 := cell_of X2.out 4
             have k5 := cell_of X2.out 5
             clear ho1 hb1 J1b X1b hzw1 G1
             go_wp2_with fail
             clear k0 k1 k2 k3 k4 k5
             have G2 := (Below.refl _ v2).alloc (Nat.le_refl _) (.cells #[.string x.key] 9)
             have J2b := J2.out.grow G2
             have S2 : SlR (v2.alloc (.cells #[.string x.key] 9)) (.slice (some ⟨v2.heap.size, 0, none⟩) 1 1) [.string x.key] := FlatAt.slr (FlatAt.made (n := 1) v2 [.string x.key] 9 rfl (by unfold maxLen; omega))
             refine (text_any 1024 _ [x.key] (w.heap.size + 1) _ _ J2b.ok S2 (by simp) (by decide) (by intro y hy; simp at hy; subst hy; exact hox.out.key) (by intro a n cap h; cases h; dsimp only; omega)).mono ?_
             have X2b := (G2.block wr.heap.size (by omega)).trans X2.out
             clear S2
             rintro e v3 ⟨rfl, ho2, hb2⟩
             have J3 := hid (J2b.step ho2 hb2)
             have hzw2 := hb2.size
             have hzv2 : v2.heap.size ≤ v3.heap.size := by simp at hzw2; omega
             clear ho2 hb2 J2b X2b hzw2 G2
             have JF : Hid (BI w CS ((((((true && s.procs.all bDep) && s.insts.all bInst) && s.tokens.all bTok) && s.jobs.all bJob) && s.timers.all bTim) && (s.subs.take (i + 1)).all bSub) v3) := by
              have h1 := J3.out
              rw [bSub_eq, Bool.and_assoc, ← hst.out] at h1
              exact h1
             go_wp2
             go_roundw
             case rel => exact ⟨i + 1, by omega, by go_num, JF.out⟩
             case measure => simp [intOf]; omega
            ·
             have hin : i = s.subs.length := by omega
             subst hin
             have I6 : Hid (BI w CS ((((((true && s.procs.all bDep) && s.insts.all bInst) && s.tokens.all bTok) && s.jobs.all bJob) && s.timers.all bTim) && s.subs.all bSub) wr) := by have := hR.out; rwa [List.take_length] at this
             clear hR hi hlt
             have kk : wr.cell? ⟨w.heap.size, 9, none⟩ = some (.slice ak s.kept.length ck) := by rw [cell_of I6.out.box 9, HCS.out]; rfl
             go_wp2_with fail
             clear kk
             obtain ⟨wo, rfl⟩ : ∃ wo : World, wo = wr := ⟨_, rfl⟩
             go_loopw [147] (fun vi wr => ∃ i : Nat, i ≤ s.kept.length ∧ vi = .int .i64 i ∧ Hid (BI w CS (((((((true && s.procs.all bDep) && s.insts.all bInst) && s.tokens.all bTok) && s.jobs.all bJob) && s.timers.all bTim) && s.subs.all bSub) && (s.kept.take i).all bKept) wr)) (fun vi _ => s.kept.length - (intOf vi).toNat)
             case atStart => exact ⟨0, Nat.zero_le _, rfl, (show BI w CS (((((((true && s.procs.all bDep) && s.insts.all bInst) && s.tokens.all bTok) && s.jobs.all bJob) && s.timers.all bTim) && s.subs.all bSub) && true) _ by rw [Bool.and_true]; exact I6.out)⟩
             case round =>
              obtain ⟨i, hi, rfl, hR⟩ := hrel
              by_cases hlt : i < s.kept.length
              ·
               obtain ⟨x, hx⟩ : ∃ x, s.kept[i]? = some x := ⟨_, List.getElem?_eq_getElem hlt⟩
               obtain ⟨a', cap', hv, -, -, hcell⟩ := H.out.kept
               cases hv
               obtain ⟨b, off, cs, rfl, hcl, hat, hc⟩ := hcell i x hx
               have Hat := hid hat
               obtain rfl := hat
               have k0 := kc hR.out.below (hc 0 _ rfl)
               have k1 := kc hR.out.below (hc 1 _ rfl)
               have k2 := kc hR.out.below (hc 2 _ rfl)
               simp only [Nat.add_zero] at k0
               have hox := hid (Hok.out.kept x (List.mem_of_getElem? hx))
               have hst := hid (all_snoc bKept s.kept i x hx)
               have hlt1 := hR.out.lt
               clear hcell hx hc hcl
               go_wp2_with fail
               have J0 := hid (hR.out.grow ((Below.refl _ wr).alloc (Nat.le_refl _) (.cells #[U x.token, U x.msg, I x.node] 113)))
               have X0 := hid (alloc_new wr (.cells #[U x.token, U x.msg, I x.node] 113))
               have hsz : (wr.alloc (.cells #[U x.token, U x.msg, I x.node] 113)).heap.size = wr.heap.size + 1 := by simp
               rw [← hsz]
               generalize wr.alloc (.cells #[U x.token, U x.msg, I x.node] 113) = v0 at J0 X0 hsz ⊢
               have hzz : wr.heap.size < v0.heap.size := by omega
               clear hsz k0 k1 k2
               have G0 := (Below.refl _ v0).alloc (Nat.le_refl _) (.cells #[I x.node] 3)
               have J0b := J0.out.grow G0
               have S0 : SlR (v0.alloc (.cells #[I x.node] 3)) (.slice (some ⟨v0.heap.size, 0, none⟩) 1 1) [I x.node] := FlatAt.slr (FlatAt.made (n := 1) v0 [I x.node] 3 rfl (by unfold maxLen; omega))
               refine (small_any (0) _ [x.node] (w.heap.size + 1) _ _ J0b.ok S0 (by simp) (by intro a n cap h; cases h; dsimp only; omega)).mono ?_
               have X0b := (G0.block wr.heap.size (by omega)).trans X0.out
               clear S0
               rintro e v1 ⟨rfl, ho0, hb0⟩
               have J1 := hid (J0b.step ho0 hb0)
               have hzw0 := hb0.size
               have hzv0 : v0.heap.size ≤ v1.heap.size := by simp at hzw0; omega
               clear ho0 hb0 J0b X0b hzw0 G0
               have JF : Hid (BI w CS (((((((true && s.procs.all bDep) && s.insts.all bInst) && s.tokens.all bTok) && s.jobs.all bJob) && s.timers.all bTim) && s.subs.all bSub) && (s.kept.take (i + 1)).all bKept) v1) := by
                have h1 := J1.out
                rw [bKept_eq, Bool.and_assoc, ← hst.out] at h1
                exact h1
               go_wp2
               go_roundw
               case rel => exact ⟨i + 1, by omega, by go_num, JF.out⟩
               case measure => simp [intOf]; omega
              ·
               have hin : i = s.kept.length := by omega
               subst hin
               have I7 : Hid (BI w CS (((((((true && s.procs.all bDep) && s.insts.all bInst) && s.tokens.all bTok) && s.jobs.all bJob) && s.timers.all bTim) && s.subs.all bSub) && s.kept.all bKept) wr) := by have := hR.out; rwa [List.take_length] at this
               clear hR hi hlt
               have kk : wr.cell? ⟨w.heap.size, 10, none⟩ = some (.slice al s.listed.length cl) := by rw [cell_of I7.out.box 10, HCS.out]; rfl
               go_wp2_with fail
               clear kk
               obtain ⟨wo, rfl⟩ : ∃ wo : World, wo = wr := ⟨_, rfl⟩
               go_loopw [160] (fun vi wr => ∃ i : Nat, i ≤ s.listed.length ∧ vi = .int .i64 i ∧ Hid (BI w CS ((((((((true && s.procs.all bDep) && s.insts.all bInst) && s.tokens.all bTok) && s.jobs.all bJob) && s.timers.all bTim) && s.subs.all bSub) && s.kept.all bKept) && (s.listed.take i).all bLis) wr)) (fun vi _ => s.listed.length - (intOf vi).toNat)
               case atStart => exact ⟨0, Nat.zero_le _, rfl, (show BI w CS ((((((((true && s.procs.all bDep) && s.insts.all bInst) && s.tokens.all bTok) && s.jobs.all bJob) && s.timers.all bTim) && s.subs.all bSub) && s.kept.all bKept) && true) _ by rw [Bool.and_true]; exact I7.out)⟩
               case round =>
                obtain ⟨i, hi, rfl, hR⟩ := hrel
                by_cases hlt : i < s.listed.length
                ·
                 obtain ⟨x, hx⟩ : ∃ x, s.listed[i]? = some x := ⟨_, List.getElem?_eq_getElem hlt⟩
                 obtain ⟨a', cap', hv, -, -, hcell⟩ := H.out.listed
                 cases hv
                 obtain ⟨b, off, cs, rfl, hcl, hat, hc⟩ := hcell i x hx
                 have Hat := hid hat
                 obtain ⟨v3, rfl, hv3⟩ := hat
                 obtain ⟨a3, c30, rfl, -⟩ := hv3
                 have k0 := kc hR.out.below (hc 0 _ rfl)
                 have k1 := kc hR.out.below (hc 1 _ rfl)
                 have k2 := kc hR.out.below (hc 2 _ rfl)
                 have k3 := kc hR.out.below (hc 3 _ rfl)
                 have k4 := kc hR.out.below (hc 4 _ rfl)
                 have k5 := kc hR.out.below (hc 5 _ rfl)
                 have k6 := kc hR.out.below (hc 6 _ rfl)
                 simp only [Nat.add_zero] at k0
                 have hox := hid (Hok.out.listed x (List.mem_of_getElem? hx))
                 have hst := hid (all_snoc bLis s.listed i x hx)
                 have hlt1 := hR.out.lt
                 clear hcell hx hc hcl
                 go_wp2_with fail
                 have J0 := hid (hR.out.grow ((Below.refl _ wr).alloc (Nat.le_refl _) (.cells #[U x.token, U x.inst, I x.node, .string x.name, .string x.key, U x.msg, .slice a3 x.vars.length c30] 115)))
                 have X0 := hid (alloc_new wr (.cells #[U x.token, U x.inst, I x.node, .string x.name, .string x.key, U x.msg, .slice a3 x.vars.length c30] 115))
                 have hsz : (wr.alloc (.cells #[U x.token, U x.inst, I x.node, .string x.name, .string x.key, U x.msg, .slice a3 x.vars.length c30] 115)).heap.size = wr.heap.size + 1 := by simp
                 rw [← hsz]
                 generalize wr.alloc (.cells #[U x.token, U x.inst, I x.node, .string x.name, .string x.key, U x.msg, .slice a3 x.vars.length c30] 115) = v0 at J0 X0 hsz ⊢
                 have hzz : wr.heap.size < v0.heap.size := by omega
                 clear hsz k0 k1 k2 k3 k4 k5 k6
                 have G0 := (Below.refl _ v0).alloc (Nat.le_refl _) (.cells #[I x.node] 3)
                 have J0b := J0.out.grow G0
                 have S0 : SlR (v0.alloc (.cells #[I x.node] 3)) (.slice (some ⟨v0.heap.size, 0, none⟩) 1 1) [I x.node] := FlatAt.slr (FlatAt.made (n := 1) v0 [I x.node] 3 rfl (by unfold maxLen; omega))
                 refine (small_any (0) _ [x.node] (w.heap.size + 1) _ _ J0b.ok S0 (by simp) (by intro a n cap h; cases h; dsimp only; omega)).mono ?_
                 have X0b := (G0.block wr.heap.size (by omega)).trans X0.out
                 clear S0
                 rintro e v1 ⟨rfl, ho0, hb0⟩
                 have J1 := hid (J0b.step ho0 hb0)
                 have hzw0 := hb0.size
                 have hzv0 : v0.heap.size ≤ v1.heap.size := by simp at hzw0; omega
                 have X1 := hid ((hb0.block wr.heap.size (by simp; omega) (by omega)).trans X0b)
                 have k0 := cell_of X1.out 0
                 have k1 := cell_of X1.out 1
                 have k2 := cell_of X1.out 2
                 have k3 := cell_of X1.out 3
                 have k4 := cell_of X1.out 4
                 have k5 := cell_of X1.out 5
                 have k6 := cell_of X1.out 6
                 clear ho0 hb0 J0b X0b hzw0 G0
                 go_wp2_with fail
                 clear k0 k1 k2 k3 k4 k5 k6
                 have G1 := (Below.refl _ v1).alloc (Nat.le_refl _) (.cells #[.string x.name] 9)
                 have J1b := J1.out.grow G1
                 have S1 : SlR (v1.alloc (.cells #[.string x.name] 9)) (.slice (some ⟨v1.heap.size, 0, none⟩) 1 1) [.string x.name] := FlatAt.slr (FlatAt.made (n := 1) v1 [.string x.name] 9 rfl (by unfold maxLen; omega))
                 refine (text_any 32 _ [x.name] (w.heap.size + 1) _ _ J1b.ok S1 (by simp) (by decide) (by intro y hy; simp at hy; subst hy; exact hox.out.name) (by intro a n cap h; cases h; dsimp only; omega)).mono ?_
                 have X1b := (G1.block wr.heap.size (by omega)).trans X1.out
                 clear S1
                 rintro e v2 ⟨rfl, ho1, hb1⟩
                 have J2 := hid (J1b.step ho1 hb1)
                 have hzw1 := hb1.size
                 have hzv1 : v1.heap.size ≤ v2.heap.size := by simp at hzw1; omega
                 have X2 := hid ((hb1.block wr.heap.size (by simp; omega) (by omega)).trans X1b)
                 have k0 := cell_of X2.out 0
                 have k1 := cell_of X2.out 1
                 have k2 := cell_of X2.out 2
                 have k3 := cell_of X2.out 3
                 have k4 := cell_of X2.out 4
                 have k5 := cell_of X2.out 5
                 have k6 := cell_of X2.out 6
                 clear ho1 hb1 J1b X1b hzw1 G1
                 go_wp2_with fail
                 clear k0 k1 k2 k3 k4 k5 k6
                 have G2 := (Below.refl _ v2).alloc (Nat.le_refl _) (.cells #[.string x.key] 9)
                 have J2b := J2.out.grow G2
                 have S2 : SlR (v2.alloc (.cells #[.string x.key] 9)) (.slice (some ⟨v2.heap.size, 0, none⟩) 1 1) [.string x.key] := FlatAt.slr (FlatAt.made (n := 1) v2 [.string x.key] 9 rfl (by unfold maxLen; omega))
                 refine (text_any 1024 _ [x.key] (w.heap.size + 1) _ _ J2b.ok S2 (by simp) (by decide) (by intro y hy; simp at hy; subst hy; exact hox.out.key) (by intro a n cap h; cases h; dsimp only; omega)).mono ?_
                 have X2b := (G2.block wr.heap.size (by omega)).trans X2.out
                 clear S2
                 rintro e v3 ⟨rfl, ho2, hb2⟩
                 have J3 := hid (J2b.step ho2 hb2)
                 have hzw2 := hb2.size
                 have hzv2 : v2.heap.size ≤ v3.heap.size := by simp at hzw2; omega
                 have X3 := hid ((hb2.block wr.heap.size (by simp; omega) (by omega)).trans X2b)
                 have k0 := cell_of X3.out 0
                 have k1 := cell_of X3.out 1
                 have k2 := cell_of X3.out 2
                 have k3 := cell_of X3.out 3
                 have k4 := cell_of X3.out 4
                 have k5 := cell_of X3.out 5
                 have k6 := cell_of X3.out 6
                 clear ho2 hb2 J2b X2b hzw2 G2
                 go_wp2_with fail
                 clear k0 k1 k2 k3 k4 k5 k6
                 have J3b := J3.out
                 have X3b := X3.out
                 have hvv : VarsAt v3 (.slice a3 x.vars.length c30) x.vars := (show VarsAt w (.slice a3 x.vars.length c30) x.vars from by obtain ⟨v, h1, h2⟩ := Hat.out; cases h1; exact h2).below J3b.below
                 refine (vars_any _ x.vars (w.heap.size + 1) _ _ J3b.ok hvv).mono ?_
                 rintro e v4 ⟨rfl, ho3, hb3⟩
                 have J4 := hid (J3b.step ho3 hb3)
                 have hzw3 := hb3.size
                 have hzv3 : v3.heap.size ≤ v4.heap.size := hzw3
                 clear ho3 hb3 J3b X3b hzw3
                 have JF : Hid (BI w CS ((((((((true && s.procs.all bDep) && s.insts.all bInst) && s.tokens.all bTok) && s.jobs.all bJob) && s.timers.all bTim) && s.subs.all bSub) && s.kept.all bKept) && (s.listed.take (i + 1)).all bLis) v4) := by
                  have h1 := J4.out
                  rw [bLis_eq, Bool.and_assoc, ← hst.out] at h1
                  exact h1
                 go_wp2
                 go_roundw
                 case rel => exact ⟨i + 1, by omega, by go_num, JF.out⟩
                 case measure => simp [intOf]; omega
                ·
                 have hin : i = s.listed.length := by omega
                 subst hin
                 have I8 : Hid (BI w CS ((((((((true && s.procs.all bDep) && s.insts.all bInst) && s.tokens.all bTok) && s.jobs.all bJob) && s.timers.all bTim) && s.subs.all bSub) && s.kept.all bKept) && s.listed.all bLis) wr) := by have := hR.out; rwa [List.take_length] at this
                 clear hR hi hlt
                 have kk : wr.cell? ⟨w.heap.size, 11, none⟩ = some (.slice am s.msgs.length cm) := by rw [cell_of I8.out.box 11, HCS.out]; rfl
                 go_wp2_with fail
                 clear kk
                 obtain ⟨wo, rfl⟩ : ∃ wo : World, wo = wr := ⟨_, rfl⟩
                 go_loopw [187] (fun vi wr => ∃ i : Nat, i ≤ s.msgs.length ∧ vi = .int .i64 i ∧ Hid (BI w CS (((((((((true && s.procs.all bDep) && s.insts.all bInst) && s.tokens.all bTok) && s.jobs.all bJob) && s.timers.all bTim) && s.subs.all bSub) && s.kept.all bKept) && s.listed.all bLis) && (s.msgs.take i).all bMsg) wr)) (fun vi _ => s.msgs.length - (intOf vi).toNat)
                 case atStart => exact ⟨0, Nat.zero_le _, rfl, (show BI w CS (((((((((true && s.procs.all bDep) && s.insts.all bInst) && s.tokens.all bTok) && s.jobs.all bJob) && s.timers.all bTim) && s.subs.all bSub) && s.kept.all bKept) && s.listed.all bLis) && true) _ by rw [Bool.and_true]; exact I8.out)⟩
                 case round =>
                  obtain ⟨i, hi, rfl, hR⟩ := hrel
                  by_cases hlt : i < s.msgs.length
                  ·
                   obtain ⟨x, hx⟩ : ∃ x, s.msgs[i]? = some x := ⟨_, List.getElem?_eq_getElem hlt⟩
                   obtain ⟨a', cap', hv, -, -, hcell⟩ := H.out.msgs
                   cases hv
                   obtain ⟨b, off, cs, rfl, hcl, hat, hc⟩ := hcell i x hx
                   have Hat := hid hat
                   obtain ⟨v3, v4, rfl, hv3, hv4⟩ := hat
                   obtain ⟨a3, c30, rfl, -⟩ := hv3
                   obtain ⟨a4, c40, hv4, -⟩ := hv4
                   rw [show (natsV x.insts).length = x.insts.length by simp [natsV]] at hv4
                   subst hv4
                   have k0 := kc hR.out.below (hc 0 _ rfl)
                   have k1 := kc hR.out.below (hc 1 _ rfl)
                   have k2 := kc hR.out.below (hc 2 _ rfl)
                   have k3 := kc hR.out.below (hc 3 _ rfl)
                   have k4 := kc hR.out.below (hc 4 _ rfl)
                   have k5 := kc hR.out.below (hc 5 _ rfl)
                   have k6 := kc hR.out.below (hc 6 _ rfl)
                   simp only [Nat.add_zero] at k0
                   have hox := hid (Hok.out.msgs x (List.mem_of_getElem? hx))
                   have hst := hid (all_snoc bMsg s.msgs i x hx)
                   have hlt1 := hR.out.lt
                   clear hcell hx hc hcl
                   go_wp2_with fail
                   have J0 := hid (hR.out.grow ((Below.refl _ wr).alloc (Nat.le_refl _) (.cells #[U x.key, .string x.name, .string x.for_, .string x.id, I x.till, .slice a3 x.vars.length c30, .slice a4 x.insts.length c40] 118)))
                   have X0 := hid (alloc_new wr (.cells #[U x.key, .string x.name, .string x.for_, .string x.id, I x.till, .slice a3 x.vars.length c30, .slice a4 x.insts.length c40] 118))
                   have hsz : (wr.alloc (.cells #[U x.key, .string x.name, .string x.for_, .string x.id, I x.till, .slice a3 x.vars.length c30, .slice a4 x.insts.length c40] 118)).heap.size = wr.heap.size + 1 := by simp
                   rw [← hsz]
                   generalize wr.alloc (.cells #[U x.key, .string x.name, .string x.for_, .string x.id, I x.till, .slice a3 x.vars.length c30, .slice a4 x.insts.length c40] 118) = v0 at J0 X0 hsz ⊢
                   have hzz : wr.heap.size < v0.heap.size := by omega
                   clear hsz k0 k1 k2 k3 k4 k5 k6
                   have G0 := (Below.refl _ v0).alloc (Nat.le_refl _) (.cells #[.string x.name, .string x.id] 9)
                   have J0b := J0.out.grow G0
                   have S0 : SlR (v0.alloc (.cells #[.string x.name, .string x.id] 9)) (.slice (some ⟨v0.heap.size, 0, none⟩) 2 2) [.string x.name, .string x.id] := FlatAt.slr (FlatAt.made (n := 2) v0 [.string x.name, .string x.id] 9 rfl (by unfold maxLen; omega))
                   refine (text_any 32 _ [x.name, x.id] (w.heap.size + 1) _ _ J0b.ok S0 (by simp) (by decide) (by intro y hy; simp at hy; rcases hy with rfl | rfl; exact hox.out.name; exact hox.out.id) (by intro a n cap h; cases h; dsimp only; omega)).mono ?_
                   have X0b := (G0.block wr.heap.size (by omega)).trans X0.out
                   clear S0
                   rintro e v1 ⟨rfl, ho0, hb0⟩
                   have J1 := hid (J0b.step ho0 hb0)
                   have hzw0 := hb0.size
                   have hzv0 : v0.heap.size ≤ v1.heap.size := by simp at hzw0; omega
                   have X1 := hid ((hb0.block wr.heap.size (by simp; omega) (by omega)).trans X0b)
                   have k0 := cell_of X1.out 0
                   have k1 := cell_of X1.out 1
                   have k2 := cell_of X1.out 2
                   have k3 := cell_of X1.out 3
                   have k4 := cell_of X1.out 4
                   have k5 := cell_of X1.out 5
                   have k6 := cell_of X1.out 6
                   clear ho0 hb0 J0b X0b hzw0 G0
                   go_wp2_with fail
                   clear k0 k1 k2 k3 k4 k5 k6
                   have G1 := (Below.refl _ v1).alloc (Nat.le_refl _) (.cells #[.string x.for_] 9)
                   have J1b := J1.out.grow G1
                   have S1 : SlR (v1.alloc (.cells #[.string x.for_] 9)) (.slice (some ⟨v1.heap.size, 0, none⟩) 1 1) [.string x.for_] := FlatAt.slr (FlatAt.made (n := 1) v1 [.string x.for_] 9 rfl (by unfold maxLen; omega))
                   refine (text_any 1024 _ [x.for_] (w.heap.size + 1) _ _ J1b.ok S1 (by simp) (by decide) (by intro y hy; simp at hy; subst hy; exact hox.out.for_) (by intro a n cap h; cases h; dsimp only; omega)).mono ?_
                   have X1b := (G1.block wr.heap.size (by omega)).trans X1.out
                   clear S1
                   rintro e v2 ⟨rfl, ho1, hb1⟩
                   have J2 := hid (J1b.step ho1 hb1)
                   have hzw1 := hb1.size
                   have hzv1 : v1.heap.size ≤ v2.heap.size := by simp at hzw1; omega
                   have X2 := hid ((hb1.block wr.heap.size (by simp; omega) (by omega)).trans X1b)
                   have k0 := cell_of X2.out 0
                   have k1 := cell_of X2.out 1
                   have k2 := cell_of X2.out 2
                   have k3 := cell_of X2.out 3
                   have k4 := cell_of X2.out 4
                   have k5 := cell_of X2.out 5
                   have k6 := cell_of X2.out 6
                   clear ho1 hb1 J1b X1b hzw1 G1
                   go_wp2_with fail
                   clear k0 k1 k2 k3 k4 k5 k6
                   have J2b := J2.out
                   have X2b := X2.out
                   refine (clock_any x.till (w.heap.size + 1) _ _ J2b.ok).mono ?_
                   rintro e v3 ⟨rfl, ho2, hb2⟩
                   have J3 := hid (J2b.step ho2 hb2)
                   have hzw2 := hb2.size
                   have hzv2 : v2.heap.size ≤ v3.heap.size := hzw2
                   have X3 := hid ((hb2.block wr.heap.size (by omega) (by omega)).trans X2b)
                   have k0 := cell_of X3.out 0
                   have k1 := cell_of X3.out 1
                   have k2 := cell_of X3.out 2
                   have k3 := cell_of X3.out 3
                   have k4 := cell_of X3.out 4
                   have k5 := cell_of X3.out 5
                   have k6 := cell_of X3.out 6
                   clear ho2 hb2 J2b X2b hzw2
                   go_wp2_with fail
                   clear k0 k1 k2 k3 k4 k5 k6
                   have J3b := J3.out
                   have X3b := X3.out
                   have hvv : VarsAt v3 (.slice a3 x.vars.length c30) x.vars := (show VarsAt w (.slice a3 x.vars.length c30) x.vars from by obtain ⟨v, u, h1, h2, h3⟩ := Hat.out; cases h1; exact h2).below J3b.below
                   refine (vars_any _ x.vars (w.heap.size + 1) _ _ J3b.ok hvv).mono ?_
                   rintro e v4 ⟨rfl, ho3, hb3⟩
                   have J4 := hid (J3b.step ho3 hb3)
                   have hzw3 := hb3.size
                   have hzv3 : v3.heap.size ≤ v4.heap.size := hzw3
                   clear ho3 hb3 J3b X3b hzw3
                   have JF : Hid (BI w CS (((((((((true && s.procs.all bDep) && s.insts.all bInst) && s.tokens.all bTok) && s.jobs.all bJob) && s.timers.all bTim) && s.subs.all bSub) && s.kept.all bKept) && s.listed.all bLis) && (s.msgs.take (i + 1)).all bMsg) v4) := by
                    have h1 := J4.out
                    rw [bMsg_eq, Bool.and_assoc, ← hst.out] at h1
                    exact h1
                   go_wp2
                   go_roundw
                   case rel => exact ⟨i + 1, by omega, by go_num, JF.out⟩
                   case measure => simp [intOf]; omega
                  ·
                   have hin : i = s.msgs.length := by omega
                   subst hin
                   have I9 : Hid (BI w CS (((((((((true && s.procs.all bDep) && s.insts.all bInst) && s.tokens.all bTok) && s.jobs.all bJob) && s.timers.all bTim) && s.subs.all bSub) && s.kept.all bKept) && s.listed.all bLis) && s.msgs.all bMsg) wr) := by have := hR.out; rwa [List.take_length] at this
                   clear hR hi hlt
                   have kk := I9.out.ok.cell
                   go_wp2
                   go_ret
                   exact ⟨by unfold boundsB; rfl, I9.out.below⟩
end Go.Proofs.YthikijlbclckdaaGreat
