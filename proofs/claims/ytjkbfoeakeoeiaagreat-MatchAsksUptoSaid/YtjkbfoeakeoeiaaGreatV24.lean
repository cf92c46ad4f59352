/- Keep: contracts (Rd Hr Hg Me). -/
import Derived.Test.YtjkbfoeakeoeiaaGreatV6
import Derived.Test.YtjkbfoeakeoeiaaGreatV21
import Derived.Test.YtjkbfoeakeoeiaaGreatV23
import Derived.KernelRfl
namespace Go.Proofs.YtjkbfoeakeoeiaaGreat
set_option maxRecDepth 100000
set_option maxHeartbeats 40000000
set_option linter.unusedSimpArgs false
set_option linter.unusedVariables false
open Go.RowKit
theorem cz_str : Tryz.prog.cellsOf 9 = 1 := by kernel_rfl
theorem cz_u : Tryz.prog.cellsOf 22 = 1 := by kernel_rfl
theorem cz_int : Tryz.prog.cellsOf 3 = 1 := by kernel_rfl
theorem cz_i64 : Tryz.prog.cellsOf 2 = 1 := by kernel_rfl
theorem cz_bool : Tryz.prog.cellsOf 4 = 1 := by kernel_rfl
theorem cz_val : Tryz.prog.cellsOf 78 = 3 := by kernel_rfl
theorem cz_var : Tryz.prog.cellsOf 80 = 4 := by kernel_rfl
theorem bz_var : Tryz.prog.bytesOf 80 = 48 := by kernel_rfl
noncomputable def rdStr : Rep Tryz.prog 9 ByteArray := Rep.str Tryz.underlying9 cz_str
noncomputable def rdU : Rep Tryz.prog 22 Nat := Rep.u64 Tryz.underlying22 cz_u
noncomputable def rdInt : Rep Tryz.prog 3 Int := Rep.int .i64 Tryz.underlying3 cz_int
noncomputable def rdI64 : Rep Tryz.prog 2 Int := Rep.int .i64 Tryz.underlying2 cz_i64
noncomputable def rdBool : Rep Tryz.prog 4 Bool := Rep.bool Tryz.underlying4 cz_bool
noncomputable def rdNats : Rep Tryz.prog 64 (List Nat) := Rep.slice rdU Tryz.underlying64 (by kernel_rfl) (by rw [cz_u]; exact Nat.one_pos)
noncomputable def rdVal : Rep Tryz.prog 78 ValV :=
  Rep.struct Tryz.underlying78 (Fl.cons rdInt (Fl.cons rdI64 (Fl.cons rdStr (Fl.nil _)))) (fun x => ⟨x.1, x.2.1, x.2.2.1⟩) (fun y => rdInt.bulk y.k + (rdI64.bulk y.n + (rdStr.bulk y.s + (0))) + 1) (fun _ => Nat.le_refl _)
noncomputable def rdVar : Rep Tryz.prog 80 VarV :=
  Rep.struct Tryz.underlying80 (Fl.cons rdStr (Fl.cons rdVal (Fl.nil _))) (fun x => ⟨x.1, x.2.1⟩) (fun y => rdStr.bulk y.name + (rdVal.bulk y.v + (0)) + 1) (fun _ => Nat.le_refl _)
noncomputable def rdVars : Rep Tryz.prog 47 (List VarV) := Rep.slice rdVar Tryz.underlying47 (by kernel_rfl) (by rw [cz_var]; omega)
theorem cz_Dep : Tryz.prog.cellsOf 109 = 2 := by kernel_rfl
noncomputable def rdDep : Rep Tryz.prog 109 DepV :=
  Rep.struct Tryz.underlying109 (Fl.cons rdStr (Fl.cons rdStr (Fl.nil _))) (fun x => ⟨x.1, x.2.1⟩) (fun y => rdStr.bulk y.id + (rdStr.bulk y.bytes + (0)) + 1) (fun _ => Nat.le_refl _)
noncomputable def rdDeps : Rep Tryz.prog 23 (List DepV) := Rep.slice rdDep Tryz.underlying23 (by kernel_rfl) (by rw [cz_Dep]; omega)
theorem cz_Inst : Tryz.prog.cellsOf 125 = 3 := by kernel_rfl
noncomputable def rdInst : Rep Tryz.prog 125 InstV :=
  Rep.struct Tryz.underlying125 (Fl.cons rdU (Fl.cons rdStr (Fl.cons rdVars (Fl.nil _)))) (fun x => ⟨x.1, x.2.1, x.2.2.1⟩) (fun y => rdU.bulk y.key + (rdStr.bulk y.id + (rdVars.bulk y.vars + (0))) + 1) (fun _ => Nat.le_refl _)
noncomputable def rdInsts : Rep Tryz.prog 24 (List InstV) := Rep.slice rdInst Tryz.underlying24 (by kernel_rfl) (by rw [cz_Inst]; omega)
theorem cz_Tok : Tryz.prog.cellsOf 112 = 6 := by kernel_rfl
noncomputable def rdTok : Rep Tryz.prog 112 TokV :=
  Rep.struct Tryz.underlying112 (Fl.cons rdU (Fl.cons rdU (Fl.cons rdU (Fl.cons rdInt (Fl.cons rdInt (Fl.cons rdStr (Fl.nil _))))))) (fun x => ⟨x.1, x.2.1, x.2.2.1, x.2.2.2.1, x.2.2.2.2.1, x.2.2.2.2.2.1⟩) (fun y => rdU.bulk y.key + (rdU.bulk y.inst + (rdU.bulk y.scope + (rdInt.bulk y.node + (rdInt.bulk y.by_ + (rdStr.bulk y.stuck + (0)))))) + 1) (fun _ => Nat.le_refl _)
noncomputable def rdToks : Rep Tryz.prog 25 (List TokV) := Rep.slice rdTok Tryz.underlying25 (by kernel_rfl) (by rw [cz_Tok]; omega)
theorem cz_Job : Tryz.prog.cellsOf 115 = 6 := by kernel_rfl
noncomputable def rdJob : Rep Tryz.prog 115 JobV :=
  Rep.struct Tryz.underlying115 (Fl.cons rdU (Fl.cons rdU (Fl.cons rdStr (Fl.cons rdInt (Fl.cons rdStr (Fl.cons rdI64 (Fl.nil _))))))) (fun x => ⟨x.1, x.2.1, x.2.2.1, x.2.2.2.1, x.2.2.2.2.1, x.2.2.2.2.2.1⟩) (fun y => rdU.bulk y.key + (rdU.bulk y.token + (rdStr.bulk y.type + (rdInt.bulk y.retries + (rdStr.bulk y.worker + (rdI64.bulk y.till + (0)))))) + 1) (fun _ => Nat.le_refl _)
noncomputable def rdJobs : Rep Tryz.prog 26 (List JobV) := Rep.slice rdJob Tryz.underlying26 (by kernel_rfl) (by rw [cz_Job]; omega)
theorem cz_Tim : Tryz.prog.cellsOf 118 = 3 := by kernel_rfl
noncomputable def rdTim : Rep Tryz.prog 118 TimV :=
  Rep.struct Tryz.underlying118 (Fl.cons rdU (Fl.cons rdInt (Fl.cons rdI64 (Fl.nil _)))) (fun x => ⟨x.1, x.2.1, x.2.2.1⟩) (fun y => rdU.bulk y.token + (rdInt.bulk y.node + (rdI64.bulk y.when_ + (0))) + 1) (fun _ => Nat.le_refl _)
noncomputable def rdTims : Rep Tryz.prog 27 (List TimV) := Rep.slice rdTim Tryz.underlying27 (by kernel_rfl) (by rw [cz_Tim]; omega)
theorem cz_Sub : Tryz.prog.cellsOf 73 = 6 := by kernel_rfl
noncomputable def rdSub : Rep Tryz.prog 73 SubV :=
  Rep.struct Tryz.underlying73 (Fl.cons rdU (Fl.cons rdU (Fl.cons rdInt (Fl.cons rdStr (Fl.cons rdStr (Fl.cons rdBool (Fl.nil _))))))) (fun x => ⟨x.1, x.2.1, x.2.2.1, x.2.2.2.1, x.2.2.2.2.1, x.2.2.2.2.2.1⟩) (fun y => rdU.bulk y.token + (rdU.bulk y.inst + (rdInt.bulk y.node + (rdStr.bulk y.name + (rdStr.bulk y.key + (rdBool.bulk y.is + (0)))))) + 1) (fun _ => Nat.le_refl _)
noncomputable def rdSubs : Rep Tryz.prog 28 (List SubV) := Rep.slice rdSub Tryz.underlying28 (by kernel_rfl) (by rw [cz_Sub]; omega)
theorem cz_Kept : Tryz.prog.cellsOf 122 = 3 := by kernel_rfl
noncomputable def rdKept : Rep Tryz.prog 122 KeptV :=
  Rep.struct Tryz.underlying122 (Fl.cons rdU (Fl.cons rdU (Fl.cons rdInt (Fl.nil _)))) (fun x => ⟨x.1, x.2.1, x.2.2.1⟩) (fun y => rdU.bulk y.token + (rdU.bulk y.msg + (rdInt.bulk y.node + (0))) + 1) (fun _ => Nat.le_refl _)
noncomputable def rdKepts : Rep Tryz.prog 29 (List KeptV) := Rep.slice rdKept Tryz.underlying29 (by kernel_rfl) (by rw [cz_Kept]; omega)
theorem cz_Lis : Tryz.prog.cellsOf 58 = 7 := by kernel_rfl
noncomputable def rdLis : Rep Tryz.prog 58 LisV :=
  Rep.struct Tryz.underlying58 (Fl.cons rdU (Fl.cons rdU (Fl.cons rdInt (Fl.cons rdStr (Fl.cons rdStr (Fl.cons rdU (Fl.cons rdVars (Fl.nil _)))))))) (fun x => ⟨x.1, x.2.1, x.2.2.1, x.2.2.2.1, x.2.2.2.2.1, x.2.2.2.2.2.1, x.2.2.2.2.2.2.1⟩) (fun y => rdU.bulk y.token + (rdU.bulk y.inst + (rdInt.bulk y.node + (rdStr.bulk y.name + (rdStr.bulk y.key + (rdU.bulk y.msg + (rdVars.bulk y.vars + (0))))))) + 1) (fun _ => Nat.le_refl _)
noncomputable def rdLiss : Rep Tryz.prog 30 (List LisV) := Rep.slice rdLis Tryz.underlying30 (by kernel_rfl) (by rw [cz_Lis]; omega)
theorem cz_Msg : Tryz.prog.cellsOf 66 = 7 := by kernel_rfl
noncomputable def rdMsg : Rep Tryz.prog 66 MsgV :=
  Rep.struct Tryz.underlying66 (Fl.cons rdU (Fl.cons rdStr (Fl.cons rdStr (Fl.cons rdStr (Fl.cons rdI64 (Fl.cons rdVars (Fl.cons rdNats (Fl.nil _)))))))) (fun x => ⟨x.1, x.2.1, x.2.2.1, x.2.2.2.1, x.2.2.2.2.1, x.2.2.2.2.2.1, x.2.2.2.2.2.2.1⟩) (fun y => rdU.bulk y.key + (rdStr.bulk y.name + (rdStr.bulk y.for_ + (rdStr.bulk y.id + (rdI64.bulk y.till + (rdVars.bulk y.vars + (rdNats.bulk y.insts + (0))))))) + 1) (fun _ => Nat.le_refl _)
noncomputable def rdMsgs : Rep Tryz.prog 31 (List MsgV) := Rep.slice rdMsg Tryz.underlying31 (by kernel_rfl) (by rw [cz_Msg]; omega)
theorem cz_State : Tryz.prog.cellsOf 33 = 12 := by kernel_rfl
noncomputable def rdState : Rep Tryz.prog 33 StateV :=
  Rep.struct Tryz.underlying33 (Fl.cons rdU (Fl.cons rdU (Fl.cons rdU (Fl.cons rdDeps (Fl.cons rdInsts (Fl.cons rdToks (Fl.cons rdJobs (Fl.cons rdTims (Fl.cons rdSubs (Fl.cons rdKepts (Fl.cons rdLiss (Fl.cons rdMsgs (Fl.nil _))))))))))))) (fun x => ⟨x.1, x.2.1, x.2.2.1, x.2.2.2.1, x.2.2.2.2.1, x.2.2.2.2.2.1, x.2.2.2.2.2.2.1, x.2.2.2.2.2.2.2.1, x.2.2.2.2.2.2.2.2.1, x.2.2.2.2.2.2.2.2.2.1, x.2.2.2.2.2.2.2.2.2.2.1, x.2.2.2.2.2.2.2.2.2.2.2.1⟩) (fun y => rdU.bulk y.pos + (rdU.bulk y.done + (rdU.bulk y.made + (rdDeps.bulk y.procs + (rdInsts.bulk y.insts + (rdToks.bulk y.tokens + (rdJobs.bulk y.jobs + (rdTims.bulk y.timers + (rdSubs.bulk y.subs + (rdKepts.bulk y.kept + (rdLiss.bulk y.listed + (rdMsgs.bulk y.msgs + (0)))))))))))) + 1) (fun _ => Nat.le_refl _)
theorem wf64 {n : Int} (h : (Lit.int .i64 n).wf = true) : I64 n := by
  have hx : -9223372036854775808 ≤ n ∧ n ≤ 9223372036854775807 := by simpa [Lit.wf, IntKind.min, IntKind.max, IntKind.signed, IntKind.bits] using h
  exact hx
theorem bulk_str (s : ByteArray) : rdStr.bulk s = s.size + 1 := rfl
theorem bulk_vars (l : List VarV) : rdVars.bulk l = (l.map rdVar.bulk).sum + 1 := rfl
theorem bulk_nats (l : List Nat) : rdNats.bulk l = (l.map rdU.bulk).sum + 1 := rfl
theorem rdVar_at {S : Nat → Prop} {w : World} {cs : List Value} {y : VarV} (h : rdVar.R S w cs y) : cs = [.string y.name, .int .i64 y.v.k, .int .i64 y.v.n, .string y.v.s] ∧ I64 y.v.n := by
  obtain ⟨hl, x, ⟨h1, h2, -⟩, rfl⟩ := h
  rw [cz_var] at hl
  match cs, hl with
  | [a, b, c, d], _ =>
    obtain ⟨hl2, z, ⟨g1, g2, g3, -⟩, hz⟩ := h2
    obtain ⟨h1, b1⟩ := h1
    obtain ⟨g1, d1⟩ := g1
    obtain ⟨g2, d2⟩ := g2
    obtain ⟨g3, d3⟩ := g3
    simp only [cz_str, cz_int, cz_i64, cz_val, List.drop_succ_cons, List.drop_zero, List.take_succ_cons, List.take_zero, List.cons.injEq, and_true] at h1 g1 g2 g3
    dsimp only
    rw [hz]
    exact ⟨by rw [h1, g1, g2, g3], wf64 d2⟩
theorem vars_at {S : Nat → Prop} {w : World} {v : Value} {l : List VarV} (h : rdVar.SR S w v l) : VarsAt w v l := by
  obtain ⟨a, cap, hv, h1, h2, h3, h4⟩ := h
  rw [bz_var] at h3
  refine ⟨a, cap, hv, h1, by unfold reachBytes at h3; omega, fun i x hx => ?_⟩
  obtain ⟨b, off, ha, -, cs, hr, hc⟩ := h4 i x hx
  obtain ⟨rfl, -⟩ := rdVar_at hr
  rw [cz_var] at hc
  exact ⟨b, off, ha, hc 0 _ rfl, hc 1 _ rfl, hc 2 _ rfl, hc 3 _ rfl⟩
theorem vars_ok {S : Nat → Prop} {w : World} {v : Value} {l : List VarV} (h : rdVar.SR S w v l) (hb : (l.map rdVar.bulk).sum ≤ 2097152) : ∀ y ∈ l, VarOk y := by
  intro y hy
  obtain ⟨i, hi⟩ := List.mem_iff_getElem?.1 hy
  obtain ⟨a, cap, hv, h1, h2, h3, h4⟩ := h
  obtain ⟨b, off, ha, -, cs, hr, hc⟩ := h4 i y hi
  obtain ⟨-, hn⟩ := rdVar_at hr
  have h5 := le_sum rdVar.bulk hy
  have h6 : rdVar.bulk y = rdStr.bulk y.name + ((rdInt.bulk y.v.k + (rdI64.bulk y.v.n + (rdStr.bulk y.v.s + 0)) + 1) + 0) + 1 := rfl
  rw [bulk_str, bulk_str] at h6
  exact ⟨by omega, ⟨hn.1, hn.2, by omega⟩⟩
theorem nats_at {S : Nat → Prop} {w : World} {v : Value} {l : List Nat} (h : rdU.SR S w v l) : SlR w v (natsV l) := by
  obtain ⟨a, cap, rfl, h1, h2, h3, h4⟩ := h
  refine ⟨a, cap, by simp [natsV], by simp [natsV]; omega, by simpa [natsV] using h1, fun i u hu => ?_⟩
  simp only [natsV, List.getElem?_map, Option.map_eq_some_iff] at hu
  obtain ⟨x, hx, rfl⟩ := hu
  obtain ⟨b, off, ha, -, cs, ⟨rfl, hs⟩, hc⟩ := h4 i x hx
  have := hc 0 _ rfl
  rw [cz_u, Nat.mul_one] at this
  exact ⟨b, off, ha, this⟩
theorem nats_ok {S : Nat → Prop} {w : World} {v : Value} {l : List Nat} (h : rdU.SR S w v l) : ∀ n ∈ l, U64 n := by
  intro y hy
  obtain ⟨i, hi⟩ := List.mem_iff_getElem?.1 hy
  obtain ⟨a, cap, hv, h1, h2, h3, h4⟩ := h
  obtain ⟨b, off, ha, -, cs, ⟨rfl, hs⟩, hc⟩ := h4 i y hi
  exact hs
theorem list_at {α : Type} {e : TypeId} {r : Rep Tryz.prog e α} {R : World → List Value → α → Prop} {n : Nat} (hn : Tryz.prog.cellsOf e = n) (hR : ∀ {S : Nat → Prop} {w : World} {cs : List Value} {x : α}, r.R S w cs x → R w cs x) {S : Nat → Prop} {w : World} {v : Value} {l : List α} (h : r.SR S w v l) : ListAt R n w v l := by
  obtain ⟨a, cap, rfl, h1, h2, h3, h4⟩ := h
  refine ⟨a, cap, rfl, h1, by omega, fun i x hx => ?_⟩
  obtain ⟨b, off, ha, -, cs, hr, hc⟩ := h4 i x hx
  refine ⟨b, off, cs, ha, (r.len hr).trans hn, hR hr, fun j u hu => ?_⟩
  have := hc j u hu
  rw [hn] at this
  rw [Nat.add_assoc]
  exact this
theorem list_ok {α : Type} {e : TypeId} {r : Rep Tryz.prog e α} {Ok : α → Prop} (hR : ∀ {S : Nat → Prop} {w : World} {cs : List Value} {x : α}, r.R S w cs x → r.bulk x ≤ 2097152 → Ok x) {S : Nat → Prop} {w : World} {v : Value} {l : List α} (h : r.SR S w v l) (hb : (l.map r.bulk).sum ≤ 2097152) : ∀ y ∈ l, Ok y := by
  intro y hy
  obtain ⟨i, hi⟩ := List.mem_iff_getElem?.1 hy
  obtain ⟨a, cap, hv, h1, h2, h3, h4⟩ := h
  obtain ⟨b, off, ha, -, cs, hr, hc⟩ := h4 i y hi
  exact hR hr (Nat.le_trans (le_sum r.bulk hy) hb)
theorem rdDep_at {S : Nat → Prop} {w : World} {cs : List Value} {y : DepV} (h : rdDep.R S w cs y) : DepV.at_ w cs y ∧ (rdDep.bulk y ≤ 2097152 → DepOk y) := by
  obtain ⟨hl, x, ⟨h0, h1, -⟩, rfl⟩ := h
  rw [cz_Dep] at hl
  match cs, hl with
  | [c0, c1], _ =>
    obtain ⟨h0, b0⟩ := h0
    obtain ⟨h1, b1⟩ := h1
    simp only [cz_str, cz_int, cz_i64, cz_u, cz_bool, show Tryz.prog.cellsOf 47 = 1 by kernel_rfl, show Tryz.prog.cellsOf 64 = 1 by kernel_rfl, List.drop_succ_cons, List.drop_zero, List.take_succ_cons, List.take_zero, List.cons.injEq, and_true] at h0 h1
    subst h0 h1
    refine ⟨rfl, fun hb => ?_⟩
    have hb : rdStr.bulk x.1 + (rdStr.bulk x.2.1 + (0)) + 1 ≤ 2097152 := hb
    simp only [bulk_str] at hb
    exact ⟨(show (x.1).size ≤ 2097152 by omega), (show (x.2.1).size ≤ 2097152 by omega)⟩
theorem rdInst_at {S : Nat → Prop} {w : World} {cs : List Value} {y : InstV} (h : rdInst.R S w cs y) : InstV.at_ w cs y ∧ (rdInst.bulk y ≤ 2097152 → InstOk y) := by
  obtain ⟨hl, x, ⟨h0, h1, h2, -⟩, rfl⟩ := h
  rw [cz_Inst] at hl
  match cs, hl with
  | [c0, c1, c2], _ =>
    obtain ⟨h0, b0⟩ := h0
    obtain ⟨h1, b1⟩ := h1
    obtain ⟨v2, h2, s2⟩ := h2
    simp only [cz_str, cz_int, cz_i64, cz_u, cz_bool, show Tryz.prog.cellsOf 47 = 1 by kernel_rfl, show Tryz.prog.cellsOf 64 = 1 by kernel_rfl, List.drop_succ_cons, List.drop_zero, List.take_succ_cons, List.take_zero, List.cons.injEq, and_true] at h0 h1 h2
    subst h0 h1 h2
    refine ⟨⟨_, rfl, vars_at s2⟩, fun hb => ?_⟩
    have hb : rdU.bulk x.1 + (rdStr.bulk x.2.1 + (rdVars.bulk x.2.2.1 + (0))) + 1 ≤ 2097152 := hb
    simp only [bulk_str, bulk_vars] at hb
    exact ⟨b0, (show (x.2.1).size ≤ 2097152 by omega), vars_ok s2 (show (List.map rdVar.bulk (x.2.2.1)).sum ≤ 2097152 by omega)⟩
theorem rdTok_at {S : Nat → Prop} {w : World} {cs : List Value} {y : TokV} (h : rdTok.R S w cs y) : TokV.at_ w cs y ∧ (rdTok.bulk y ≤ 2097152 → TokOk y) := by
  obtain ⟨hl, x, ⟨h0, h1, h2, h3, h4, h5, -⟩, rfl⟩ := h
  rw [cz_Tok] at hl
  match cs, hl with
  | [c0, c1, c2, c3, c4, c5], _ =>
    obtain ⟨h0, b0⟩ := h0
    obtain ⟨h1, b1⟩ := h1
    obtain ⟨h2, b2⟩ := h2
    obtain ⟨h3, b3⟩ := h3
    obtain ⟨h4, b4⟩ := h4
    obtain ⟨h5, b5⟩ := h5
    simp only [cz_str, cz_int, cz_i64, cz_u, cz_bool, show Tryz.prog.cellsOf 47 = 1 by kernel_rfl, show Tryz.prog.cellsOf 64 = 1 by kernel_rfl, List.drop_succ_cons, List.drop_zero, List.take_succ_cons, List.take_zero, List.cons.injEq, and_true] at h0 h1 h2 h3 h4 h5
    subst h0 h1 h2 h3 h4 h5
    refine ⟨rfl, fun hb => ?_⟩
    have hb : rdU.bulk x.1 + (rdU.bulk x.2.1 + (rdU.bulk x.2.2.1 + (rdInt.bulk x.2.2.2.1 + (rdInt.bulk x.2.2.2.2.1 + (rdStr.bulk x.2.2.2.2.2.1 + (0)))))) + 1 ≤ 2097152 := hb
    simp only [bulk_str] at hb
    exact ⟨b0, b1, b2, wf64 b3, wf64 b4, (show (x.2.2.2.2.2.1).size ≤ 2097152 by omega)⟩
theorem rdJob_at {S : Nat → Prop} {w : World} {cs : List Value} {y : JobV} (h : rdJob.R S w cs y) : JobV.at_ w cs y ∧ (rdJob.bulk y ≤ 2097152 → JobOk y) := by
  obtain ⟨hl, x, ⟨h0, h1, h2, h3, h4, h5, -⟩, rfl⟩ := h
  rw [cz_Job] at hl
  match cs, hl with
  | [c0, c1, c2, c3, c4, c5], _ =>
    obtain ⟨h0, b0⟩ := h0
    obtain ⟨h1, b1⟩ := h1
    obtain ⟨h2, b2⟩ := h2
    obtain ⟨h3, b3⟩ := h3
    obtain ⟨h4, b4⟩ := h4
    obtain ⟨h5, b5⟩ := h5
    simp only [cz_str, cz_int, cz_i64, cz_u, cz_bool, show Tryz.prog.cellsOf 47 = 1 by kernel_rfl, show Tryz.prog.cellsOf 64 = 1 by kernel_rfl, List.drop_succ_cons, List.drop_zero, List.take_succ_cons, List.take_zero, List.cons.injEq, and_true] at h0 h1 h2 h3 h4 h5
    subst h0 h1 h2 h3 h4 h5
    refine ⟨rfl, fun hb => ?_⟩
    have hb : rdU.bulk x.1 + (rdU.bulk x.2.1 + (rdStr.bulk x.2.2.1 + (rdInt.bulk x.2.2.2.1 + (rdStr.bulk x.2.2.2.2.1 + (rdI64.bulk x.2.2.2.2.2.1 + (0)))))) + 1 ≤ 2097152 := hb
    simp only [bulk_str] at hb
    exact ⟨b0, b1, (show (x.2.2.1).size ≤ 2097152 by omega), wf64 b3, (show (x.2.2.2.2.1).size ≤ 2097152 by omega), wf64 b5⟩
theorem rdTim_at {S : Nat → Prop} {w : World} {cs : List Value} {y : TimV} (h : rdTim.R S w cs y) : TimV.at_ w cs y ∧ (rdTim.bulk y ≤ 2097152 → TimOk y) := by
  obtain ⟨hl, x, ⟨h0, h1, h2, -⟩, rfl⟩ := h
  rw [cz_Tim] at hl
  match cs, hl with
  | [c0, c1, c2], _ =>
    obtain ⟨h0, b0⟩ := h0
    obtain ⟨h1, b1⟩ := h1
    obtain ⟨h2, b2⟩ := h2
    simp only [cz_str, cz_int, cz_i64, cz_u, cz_bool, show Tryz.prog.cellsOf 47 = 1 by kernel_rfl, show Tryz.prog.cellsOf 64 = 1 by kernel_rfl, List.drop_succ_cons, List.drop_zero, List.take_succ_cons, List.take_zero, List.cons.injEq, and_true] at h0 h1 h2
    subst h0 h1 h2
    refine ⟨rfl, fun hb => ?_⟩
    have hb : rdU.bulk x.1 + (rdInt.bulk x.2.1 + (rdI64.bulk x.2.2.1 + (0))) + 1 ≤ 2097152 := hb
    exact ⟨b0, wf64 b1, wf64 b2⟩
theorem rdSub_at {S : Nat → Prop} {w : World} {cs : List Value} {y : SubV} (h : rdSub.R S w cs y) : SubV.at_ w cs y ∧ (rdSub.bulk y ≤ 2097152 → SubOk y) := by
  obtain ⟨hl, x, ⟨h0, h1, h2, h3, h4, h5, -⟩, rfl⟩ := h
  rw [cz_Sub] at hl
  match cs, hl with
  | [c0, c1, c2, c3, c4, c5], _ =>
    obtain ⟨h0, b0⟩ := h0
    obtain ⟨h1, b1⟩ := h1
    obtain ⟨h2, b2⟩ := h2
    obtain ⟨h3, b3⟩ := h3
    obtain ⟨h4, b4⟩ := h4
    change _ = [_] at h5
    simp only [cz_str, cz_int, cz_i64, cz_u, cz_bool, show Tryz.prog.cellsOf 47 = 1 by kernel_rfl, show Tryz.prog.cellsOf 64 = 1 by kernel_rfl, List.drop_succ_cons, List.drop_zero, List.take_succ_cons, List.take_zero, List.cons.injEq, and_true] at h0 h1 h2 h3 h4 h5
    subst h0 h1 h2 h3 h4 h5
    refine ⟨rfl, fun hb => ?_⟩
    have hb : rdU.bulk x.1 + (rdU.bulk x.2.1 + (rdInt.bulk x.2.2.1 + (rdStr.bulk x.2.2.2.1 + (rdStr.bulk x.2.2.2.2.1 + (rdBool.bulk x.2.2.2.2.2.1 + (0)))))) + 1 ≤ 2097152 := hb
    simp only [bulk_str] at hb
    exact ⟨b0, b1, wf64 b2, (show (x.2.2.2.1).size ≤ 2097152 by omega), (show (x.2.2.2.2.1).size ≤ 2097152 by omega)⟩
theorem rdKept_at {S : Nat → Prop} {w : World} {cs : List Value} {y : KeptV} (h : rdKept.R S w cs y) : KeptV.at_ w cs y ∧ (rdKept.bulk y ≤ 2097152 → KeptOk y) := by
  obtain ⟨hl, x, ⟨h0, h1, h2, -⟩, rfl⟩ := h
  rw [cz_Kept] at hl
  match cs, hl with
  | [c0, c1, c2], _ =>
    obtain ⟨h0, b0⟩ := h0
    obtain ⟨h1, b1⟩ := h1
    obtain ⟨h2, b2⟩ := h2
    simp only [cz_str, cz_int, cz_i64, cz_u, cz_bool, show Tryz.prog.cellsOf 47 = 1 by kernel_rfl, show Tryz.prog.cellsOf 64 = 1 by kernel_rfl, List.drop_succ_cons, List.drop_zero, List.take_succ_cons, List.take_zero, List.cons.injEq, and_true] at h0 h1 h2
    subst h0 h1 h2
    refine ⟨rfl, fun hb => ?_⟩
    have hb : rdU.bulk x.1 + (rdU.bulk x.2.1 + (rdInt.bulk x.2.2.1 + (0))) + 1 ≤ 2097152 := hb
    exact ⟨b0, b1, wf64 b2⟩
theorem rdLis_at {S : Nat → Prop} {w : World} {cs : List Value} {y : LisV} (h : rdLis.R S w cs y) : LisV.at_ w cs y ∧ (rdLis.bulk y ≤ 2097152 → LisOk y) := by
  obtain ⟨hl, x, ⟨h0, h1, h2, h3, h4, h5, h6, -⟩, rfl⟩ := h
  rw [cz_Lis] at hl
  match cs, hl with
  | [c0, c1, c2, c3, c4, c5, c6], _ =>
    obtain ⟨h0, b0⟩ := h0
    obtain ⟨h1, b1⟩ := h1
    obtain ⟨h2, b2⟩ := h2
    obtain ⟨h3, b3⟩ := h3
    obtain ⟨h4, b4⟩ := h4
    obtain ⟨h5, b5⟩ := h5
    obtain ⟨v6, h6, s6⟩ := h6
    simp only [cz_str, cz_int, cz_i64, cz_u, cz_bool, show Tryz.prog.cellsOf 47 = 1 by kernel_rfl, show Tryz.prog.cellsOf 64 = 1 by kernel_rfl, List.drop_succ_cons, List.drop_zero, List.take_succ_cons, List.take_zero, List.cons.injEq, and_true] at h0 h1 h2 h3 h4 h5 h6
    subst h0 h1 h2 h3 h4 h5 h6
    refine ⟨⟨_, rfl, vars_at s6⟩, fun hb => ?_⟩
    have hb : rdU.bulk x.1 + (rdU.bulk x.2.1 + (rdInt.bulk x.2.2.1 + (rdStr.bulk x.2.2.2.1 + (rdStr.bulk x.2.2.2.2.1 + (rdU.bulk x.2.2.2.2.2.1 + (rdVars.bulk x.2.2.2.2.2.2.1 + (0))))))) + 1 ≤ 2097152 := hb
    simp only [bulk_str, bulk_vars] at hb
    exact ⟨b0, b1, wf64 b2, (show (x.2.2.2.1).size ≤ 2097152 by omega), (show (x.2.2.2.2.1).size ≤ 2097152 by omega), b5, vars_ok s6 (show (List.map rdVar.bulk (x.2.2.2.2.2.2.1)).sum ≤ 2097152 by omega)⟩
theorem rdMsg_at {S : Nat → Prop} {w : World} {cs : List Value} {y : MsgV} (h : rdMsg.R S w cs y) : MsgV.at_ w cs y ∧ (rdMsg.bulk y ≤ 2097152 → MsgOk y) := by
  obtain ⟨hl, x, ⟨h0, h1, h2, h3, h4, h5, h6, -⟩, rfl⟩ := h
  rw [cz_Msg] at hl
  match cs, hl with
  | [c0, c1, c2, c3, c4, c5, c6], _ =>
    obtain ⟨h0, b0⟩ := h0
    obtain ⟨h1, b1⟩ := h1
    obtain ⟨h2, b2⟩ := h2
    obtain ⟨h3, b3⟩ := h3
    obtain ⟨h4, b4⟩ := h4
    obtain ⟨v5, h5, s5⟩ := h5
    obtain ⟨v6, h6, s6⟩ := h6
    simp only [cz_str, cz_int, cz_i64, cz_u, cz_bool, show Tryz.prog.cellsOf 47 = 1 by kernel_rfl, show Tryz.prog.cellsOf 64 = 1 by kernel_rfl, List.drop_succ_cons, List.drop_zero, List.take_succ_cons, List.take_zero, List.cons.injEq, and_true] at h0 h1 h2 h3 h4 h5 h6
    subst h0 h1 h2 h3 h4 h5 h6
    refine ⟨⟨_, _, rfl, vars_at s5, nats_at s6⟩, fun hb => ?_⟩
    have hb : rdU.bulk x.1 + (rdStr.bulk x.2.1 + (rdStr.bulk x.2.2.1 + (rdStr.bulk x.2.2.2.1 + (rdI64.bulk x.2.2.2.2.1 + (rdVars.bulk x.2.2.2.2.2.1 + (rdNats.bulk x.2.2.2.2.2.2.1 + (0))))))) + 1 ≤ 2097152 := hb
    simp only [bulk_str, bulk_vars, bulk_nats] at hb
    have hln := len_sum rdU.bulk (fun _ => Nat.le_refl _) x.2.2.2.2.2.2.1
    exact ⟨b0, (show (x.2.1).size ≤ 2097152 by omega), (show (x.2.2.1).size ≤ 2097152 by omega), (show (x.2.2.2.1).size ≤ 2097152 by omega), wf64 b4, vars_ok s5 (show (List.map rdVar.bulk (x.2.2.2.2.2.1)).sum ≤ 2097152 by omega), nats_ok s6, (show (x.2.2.2.2.2.2.1).length ≤ 2097152 by omega)⟩
theorem rdState_at {S : Nat → Prop} {w : World} {cs : List Value} {y : StateV} (h : rdState.R S w cs y) (hb : rdState.bulk y ≤ 2097152) : (∃ vp vi vt vj vr vs vk vl vm, StateAt w cs y vp vi vt vj vr vs vk vl vm) ∧ StateOk y := by
  obtain ⟨hl, x, ⟨h0, h1, h2, h3, h4, h5, h6, h7, h8, h9, h10, h11, -⟩, rfl⟩ := h
  rw [cz_State] at hl
  match cs, hl with
  | [c0, c1, c2, c3, c4, c5, c6, c7, c8, c9, c10, c11], _ =>
    obtain ⟨h0, b0⟩ := h0
    obtain ⟨h1, b1⟩ := h1
    obtain ⟨h2, b2⟩ := h2
    obtain ⟨v3, h3, s3⟩ := h3
    obtain ⟨v4, h4, s4⟩ := h4
    obtain ⟨v5, h5, s5⟩ := h5
    obtain ⟨v6, h6, s6⟩ := h6
    obtain ⟨v7, h7, s7⟩ := h7
    obtain ⟨v8, h8, s8⟩ := h8
    obtain ⟨v9, h9, s9⟩ := h9
    obtain ⟨v10, h10, s10⟩ := h10
    obtain ⟨v11, h11, s11⟩ := h11
    simp only [cz_u, show Tryz.prog.cellsOf 23 = 1 by kernel_rfl, show Tryz.prog.cellsOf 24 = 1 by kernel_rfl, show Tryz.prog.cellsOf 25 = 1 by kernel_rfl, show Tryz.prog.cellsOf 26 = 1 by kernel_rfl, show Tryz.prog.cellsOf 27 = 1 by kernel_rfl, show Tryz.prog.cellsOf 28 = 1 by kernel_rfl, show Tryz.prog.cellsOf 29 = 1 by kernel_rfl, show Tryz.prog.cellsOf 30 = 1 by kernel_rfl, show Tryz.prog.cellsOf 31 = 1 by kernel_rfl, List.drop_succ_cons, List.drop_zero, List.take_succ_cons, List.take_zero, List.cons.injEq, and_true] at h0 h1 h2 h3 h4 h5 h6 h7 h8 h9 h10 h11
    subst h0 h1 h2 h3 h4 h5 h6 h7 h8 h9 h10 h11
    have hb : rdU.bulk x.1 + (rdU.bulk x.2.1 + (rdU.bulk x.2.2.1 + ((((x.2.2.2.1).map rdDep.bulk).sum + 1) + ((((x.2.2.2.2.1).map rdInst.bulk).sum + 1) + ((((x.2.2.2.2.2.1).map rdTok.bulk).sum + 1) + ((((x.2.2.2.2.2.2.1).map rdJob.bulk).sum + 1) + ((((x.2.2.2.2.2.2.2.1).map rdTim.bulk).sum + 1) + ((((x.2.2.2.2.2.2.2.2.1).map rdSub.bulk).sum + 1) + ((((x.2.2.2.2.2.2.2.2.2.1).map rdKept.bulk).sum + 1) + ((((x.2.2.2.2.2.2.2.2.2.2.1).map rdLis.bulk).sum + 1) + ((((x.2.2.2.2.2.2.2.2.2.2.2.1).map rdMsg.bulk).sum + 1) + (0)))))))))))) + 1 ≤ 2097152 := hb
    have n3 := len_sum rdDep.bulk (fun _ => Nat.le_add_left _ _) x.2.2.2.1
    have n4 := len_sum rdInst.bulk (fun _ => Nat.le_add_left _ _) x.2.2.2.2.1
    have n5 := len_sum rdTok.bulk (fun _ => Nat.le_add_left _ _) x.2.2.2.2.2.1
    have n6 := len_sum rdJob.bulk (fun _ => Nat.le_add_left _ _) x.2.2.2.2.2.2.1
    have n7 := len_sum rdTim.bulk (fun _ => Nat.le_add_left _ _) x.2.2.2.2.2.2.2.1
    have n8 := len_sum rdSub.bulk (fun _ => Nat.le_add_left _ _) x.2.2.2.2.2.2.2.2.1
    have n9 := len_sum rdKept.bulk (fun _ => Nat.le_add_left _ _) x.2.2.2.2.2.2.2.2.2.1
    have n10 := len_sum rdLis.bulk (fun _ => Nat.le_add_left _ _) x.2.2.2.2.2.2.2.2.2.2.1
    have n11 := len_sum rdMsg.bulk (fun _ => Nat.le_add_left _ _) x.2.2.2.2.2.2.2.2.2.2.2.1
    refine ⟨⟨_, _, _, _, _, _, _, _, _, rfl, list_at cz_Dep (fun h => (rdDep_at h).1) s3, list_at cz_Inst (fun h => (rdInst_at h).1) s4, list_at cz_Tok (fun h => (rdTok_at h).1) s5, list_at cz_Job (fun h => (rdJob_at h).1) s6, list_at cz_Tim (fun h => (rdTim_at h).1) s7, list_at cz_Sub (fun h => (rdSub_at h).1) s8, list_at cz_Kept (fun h => (rdKept_at h).1) s9, list_at cz_Lis (fun h => (rdLis_at h).1) s10, list_at cz_Msg (fun h => (rdMsg_at h).1) s11⟩, ?_⟩
    exact ⟨b0, b1, b2, list_ok (fun h => (rdDep_at h).2) s3 (show ((x.2.2.2.1).map rdDep.bulk).sum ≤ 2097152 by omega), list_ok (fun h => (rdInst_at h).2) s4 (show ((x.2.2.2.2.1).map rdInst.bulk).sum ≤ 2097152 by omega), list_ok (fun h => (rdTok_at h).2) s5 (show ((x.2.2.2.2.2.1).map rdTok.bulk).sum ≤ 2097152 by omega), list_ok (fun h => (rdJob_at h).2) s6 (show ((x.2.2.2.2.2.2.1).map rdJob.bulk).sum ≤ 2097152 by omega), list_ok (fun h => (rdTim_at h).2) s7 (show ((x.2.2.2.2.2.2.2.1).map rdTim.bulk).sum ≤ 2097152 by omega), list_ok (fun h => (rdSub_at h).2) s8 (show ((x.2.2.2.2.2.2.2.2.1).map rdSub.bulk).sum ≤ 2097152 by omega), list_ok (fun h => (rdKept_at h).2) s9 (show ((x.2.2.2.2.2.2.2.2.2.1).map rdKept.bulk).sum ≤ 2097152 by omega), list_ok (fun h => (rdLis_at h).2) s10 (show ((x.2.2.2.2.2.2.2.2.2.2.1).map rdLis.bulk).sum ≤ 2097152 by omega), list_ok (fun h => (rdMsg_at h).2) s11 (show ((x.2.2.2.2.2.2.2.2.2.2.2.1).map rdMsg.bulk).sum ≤ 2097152 by omega), (show (x.2.2.2.1).length + (x.2.2.2.2.1).length + (x.2.2.2.2.2.1).length + (x.2.2.2.2.2.2.1).length + (x.2.2.2.2.2.2.2.1).length + (x.2.2.2.2.2.2.2.2.1).length + (x.2.2.2.2.2.2.2.2.2.1).length + (x.2.2.2.2.2.2.2.2.2.2.1).length + (x.2.2.2.2.2.2.2.2.2.2.2.1).length ≤ 2097152 by omega)⟩
end Go.Proofs.YtjkbfoeakeoeiaaGreat
namespace Go.Proofs.YtjkbfoeakeoeiaaGreat
set_option maxRecDepth 100000
set_option maxHeartbeats 40000000
set_option linter.unusedSimpArgs false
set_option linter.unusedVariables false
open Go.RowKit
end Go.Proofs.YtjkbfoeakeoeiaaGreat
namespace Go.Proofs.YtjkbfoeakeoeiaaGreat
set_option maxRecDepth 100000
set_option maxHeartbeats 40000000
set_option linter.unusedSimpArgs false
set_option linter.unusedVariables false
open Go.RowKit
end Go.Proofs.YtjkbfoeakeoeiaaGreat
namespace Go.Proofs.YtjkbfoeakeoeiaaGreat
set_option maxRecDepth 100000
set_option maxHeartbeats 40000000
set_option linter.unusedSimpArgs false
set_option linter.unusedVariables false
open Go.RowKit
theorem cz_Asks : Tryz.prog.cellsOf 35 = 15 := by kernel_rfl
noncomputable def rdAsks : Rep Tryz.prog 35 (StateV × ByteArray × Int × Int) :=
  Rep.struct Tryz.underlying35 (Fl.cons rdState (Fl.cons rdStr (Fl.cons rdInt (Fl.cons rdInt (Fl.nil _))))) (fun x => (x.1, x.2.1, x.2.2.1, x.2.2.2.1)) (fun y => rdState.bulk y.1 + (rdStr.bulk y.2.1 + (rdInt.bulk y.2.2.1 + (rdInt.bulk y.2.2.2 + (0)))) + 1) (fun _ => Nat.le_refl _)
theorem sans_none (w : World) (b : Nat) : (sans (fun _ => False) w).heap[b]? = w.heap[b]? := sans_block (fun h => h)
theorem sans_id (w : World) : sans (fun _ => False) w = w := by
  have : (sans (fun _ => False) w).heap = w.heap := by
    apply Array.ext_getElem?
    exact sans_none w
  cases w
  simp only [sans] at this ⊢
  simpa using this
theorem bulk_lists (s : StateV) : ((s.listed.map rdLis.bulk).sum + 1) ≤ rdState.bulk s := by
  have h : rdState.bulk s = rdU.bulk s.pos + (rdU.bulk s.done + (rdU.bulk s.made + (rdDeps.bulk s.procs + (rdInsts.bulk s.insts + (rdToks.bulk s.tokens + (rdJobs.bulk s.jobs + (rdTims.bulk s.timers + (rdSubs.bulk s.subs + (rdKepts.bulk s.kept + (((s.listed.map rdLis.bulk).sum + 1) + (rdMsgs.bulk s.msgs + (0)))))))))))) + 1 := rfl
  omega
theorem bulk_var1 (y : VarV) : 1 ≤ rdVar.bulk y := Nat.le_add_left _ _
theorem bulk_lis (x : LisV) : x.vars.length ≤ rdLis.bulk x := by
  have h : rdLis.bulk x = rdU.bulk x.token + (rdU.bulk x.inst + (rdInt.bulk x.node + (rdStr.bulk x.name + (rdStr.bulk x.key + (rdU.bulk x.msg + (((x.vars.map rdVar.bulk).sum + 1) + (0))))))) + 1 := rfl
  have h2 := len_sum rdVar.bulk bulk_var1 x.vars
  omega
theorem asks_law (x : StateV × ByteArray × Int × Int) (c : Array Value) (w : World) {S : Nat → Prop} (h : rdAsks.R S w (Value.agg c).cells.toList x) (hb : rdAsks.bulk x ≤ 1048576) :
    Calls Tryz.prog 3 #[.agg c] w fun e w' => e = .returned (.bool true) ∧ Below w.heap.size w w' := by
  obtain ⟨s, key, parts, most⟩ := x
  have hbk : rdState.bulk s ≤ 1048576 := by
    have e : rdAsks.bulk (s, key, parts, most) = rdState.bulk s + (rdStr.bulk key + (rdInt.bulk parts + (rdInt.bulk most + (0)))) + 1 := rfl
    omega
  obtain ⟨hl, z, ⟨h0, h1, h2, h3, -⟩, e⟩ := h
  obtain ⟨s', key', parts', most', u⟩ := z
  simp only [Prod.mk.injEq] at e
  obtain ⟨rfl, rfl, rfl, rfl⟩ := e
  rw [cz_Asks] at hl
  have hc : (Value.agg c).cells.toList = c.toList := rfl
  rw [hc] at hl h0 h1 h2 h3
  obtain ⟨⟨vp, vi, vt, vj, vr, vs, vk, vl, vm, hst⟩, hok⟩ := rdState_at h0 (show rdState.bulk s ≤ 2097152 by omega)
  obtain ⟨h1, b1⟩ := h1
  obtain ⟨h2, b2⟩ := h2
  obtain ⟨h3, b3⟩ := h3
  simp only [cz_str, cz_int] at h1 h2 h3
  rw [cz_State] at hst
  have e : c.toList = (c.toList.drop 0).take 12 ++ [.string key, I parts, I most] := by
    have e1 : c.toList = (c.toList.drop 0).take 12 ++ ((c.toList.drop 12).take 1 ++ ((c.toList.drop 13).take 1 ++ (c.toList.drop 14).take 1)) := by
      generalize c.toList = l at hl
      match l, hl with
      | [_, _, _, _, _, _, _, _, _, _, _, _, _, _, _], _ => rfl
    conv => lhs; rw [e1]
    rw [h1, h2, h3]
    rfl
  have hc2 : c = ((c.toList.drop 0).take 12 ++ [.string key, I parts, I most]).toArray := by
    rw [← e, Array.toArray_toList]
  rw [hc2]
  refine asks_any w s hok _ ⟨vp, vi, vt, vj, vr, vs, vk, vl, vm, by rw [sans_id]; exact hst⟩ key parts most (by have b4 : key.size ≤ reachBytes := b1; unfold reachBytes at b4; omega) (wf64 b2) (wf64 b3) (fun x hx => ?_)
  have h5 := le_sum rdLis.bulk hx
  have h6 := bulk_lis x
  have h7 := bulk_lists s
  omega
end Go.Proofs.YtjkbfoeakeoeiaaGreat
