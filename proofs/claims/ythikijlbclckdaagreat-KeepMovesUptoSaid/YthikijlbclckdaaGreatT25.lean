/- Keep: contracts (Bb). -/
import Derived.Test.YthikijlbclckdaaGreatT24
namespace Go.Proofs.YthikijlbclckdaaGreat
set_option maxRecDepth 100000
set_option maxHeartbeats 40000000
set_option linter.unusedSimpArgs false
set_option linter.unusedVariables false
open Go.RowKit
theorem bigF_num : ∀ (m v : Nat), m ≤ 8 → v < 256 ^ m → (bigF v m).foldl numN 0 = v
 | 0, v, _, h => by
  have : v = 0 := by simp at h; omega
  subst this
  rfl
 | m + 1, v, hm, h => by
  have hp : 256 ^ (m + 1) ≤ 256 ^ 8 := Nat.pow_le_pow_right (by omega) hm
  have h8 : (256 : Nat) ^ 8 = 18446744073709551616 := by decide
  have hd : v / 256 < 256 ^ m := by rw [Nat.pow_succ] at h; exact Nat.div_lt_of_lt_mul (by rw [Nat.mul_comm]; exact h)
  simp only [bigF, List.foldl_append, List.foldl_cons, List.foldl_nil]
  rw [bigF_num m (v / 256) (by omega) hd]
  unfold numN
  rw [u8_of (by omega)]
  omega
theorem numK_big (v m : Nat) (hm : m ≤ 8) (h : v < 256 ^ m) : numK (bigS v m) = v := bigF_num m v hm h
def finS (st : Stp) : Option StateV := if st.bad = true ∨ endR st.r ≠ 0 then none else some st.s
def coreS (s : StateV) (x : RowV) : Option StateV :=
 if sizeK (x.1.data.toList.headD 0).toNat = -2 then none
 else if 0 ≤ sizeK (x.1.data.toList.headD 0).toNat ∧ ((x.1.extract 1 x.1.size).size : Int) ≠ sizeK (x.1.data.toList.headD 0).toNat then none
 else finS (stepOf (x.1.data.toList.headD 0).toNat (rowKN (x.1.data.toList.headD 0).toNat (x.1.extract 1 x.1.size)).1 (rowKN (x.1.data.toList.headD 0).toNat (x.1.extract 1 x.1.size)).2 (x.1.extract 1 x.1.size) s ⟨x.2, 0⟩)
theorem rd_core (a : Rd3) (hf : a.fst = false) (x : RowV) (h : ltS a.last x.1 = true) (hne : x.1 ≠ c1 97) : rdStep (some a) x = (coreS a.s x).map fun s => ⟨false, x.1, s⟩ := by
 obtain ⟨rk, rv⟩ := x
 rw [rds a hf rk rv h hne _ rfl]
 unfold coreS finS
 dsimp only
 split
 ·
  rfl
 ·
  split
  ·
   rfl
  ·
   split <;> rfl
theorem head_key (c : UInt8) (t : ByteArray) : (c1 c ++ t).data.toList.headD 0 = c := by rw [app_data]; rfl
theorem rest_key (c : UInt8) (t : ByteArray) : (c1 c ++ t).extract 1 (c1 c ++ t).size = t := app_drop (c1 c) t
theorem core_key (c : UInt8) (t V : ByteArray) (s : StateV) (h1 : sizeK c.toNat ≠ -2) (h2 : 0 ≤ sizeK c.toNat → (t.size : Int) = sizeK c.toNat) :
  coreS s (c1 c ++ t, V) = finS (stepOf c.toNat (rowKN c.toNat t).1 (rowKN c.toNat t).2 t s ⟨V, 0⟩) := by
 unfold coreS
 dsimp only
 rw [head_key, rest_key, if_neg h1, if_neg (fun h => h.2 (h2 h.1))]
theorem core1 (c : UInt8) (hc : sizeK c.toNat = 8) (k : Nat) (hk : U64 k) (V : ByteArray) (s : StateV) : coreS s (keyS (c1 c) k [], V) = finS (stepOf c.toNat k 0 (bigS k 8) s ⟨V, 0⟩) := by
 show coreS s (c1 c ++ bigS k 8, V) = _
 rw [core_key c _ V s (by omega) (fun _ => by rw [bigS_size, hc]; rfl)]
 have h : rowKN c.toNat (bigS k 8) = (k, 0) := by
  unfold rowKN
  rw [if_pos (by omega), ext0 (bigS_size k 8), numK_big k 8 (by omega) (by unfold U64 at hk; exact hk), bigS_size]
  have : ((bigS k 8).extract 8 8) = ⟨#[]⟩ := bytes_ext (by rw [ext_data]; simp)
  rw [this]
  rfl
 rw [h]
theorem core2 (c : UInt8) (hc : sizeK c.toNat = 10) (k : Nat) (hk : U64 k) (n : Int) (h0 : 0 ≤ n) (h1 : n ≤ 30000) (V : ByteArray) (s : StateV) : coreS s (keyS (c1 c) k [n], V) = finS (stepOf c.toNat k n (bigS k 8 ++ bigS (u64 n) 2) s ⟨V, 0⟩) := by
 show coreS s (c1 c ++ bigS k 8 ++ bigS (u64 n) 2, V) = _
 rw [app_assoc]
 have hz : (bigS k 8 ++ bigS (u64 n) 2).size = 10 := by rw [app_size, bigS_size, bigS_size]
 rw [core_key c _ V s (by omega) (fun _ => by rw [hz, hc]; rfl)]
 have h : rowKN c.toNat (bigS k 8 ++ bigS (u64 n) 2) = (k, n) := by
  unfold rowKN
  have e1 : (bigS k 8 ++ bigS (u64 n) 2).extract 0 8 = bigS k 8 := by have := app_take (bigS k 8) (bigS (u64 n) 2); rwa [bigS_size] at this
  have e2 : (bigS k 8 ++ bigS (u64 n) 2).extract 8 (bigS k 8 ++ bigS (u64 n) 2).size = bigS (u64 n) 2 := by have := app_drop (bigS k 8) (bigS (u64 n) 2); rwa [bigS_size] at this
  rw [if_pos (by omega), e1, e2, numK_big k 8 (by omega) (by unfold U64 at hk; exact hk), numK_big (u64 n) 2 (by omega) (by unfold u64; omega)]
  refine Prod.ext rfl ?_
  show ((u64 n : Nat) : Int) = n
  unfold u64
  omega
 rw [h]
theorem tx0 (m : Int) (s : ByteArray) (hs : (s.size : Int) ≤ m) (hz : s.size < 18446744073709551616) : textR m ⟨txS s, 0⟩ = (s, ⟨⟨#[]⟩, 0⟩) := by have := textR_tx m s hs hz ⟨#[]⟩; rwa [app_emp] at this
theorem uv0' (n : Nat) (hn : U64 n) : uintR ⟨uvS n, 0⟩ = (n, ⟨⟨#[]⟩, 0⟩) := by have := uintR_uv n hn ⟨#[]⟩; rwa [app_emp] at this
theorem in0 (x : Int) (hx : I64 x) : intR ⟨inS x, 0⟩ = (x, ⟨⟨#[]⟩, 0⟩) := by have := intR_inS x hx ⟨#[]⟩; rwa [app_emp] at this
theorem vs0 (l : List VarV) (hr : rightV l = true) (hok : ∀ y ∈ l, VarOk y) : takeVars ⟨varsS l, 0⟩ = (some l, ⟨⟨#[]⟩, 0⟩) := by have := takeVars_vs l hr hok ⟨#[]⟩; rwa [app_emp] at this
theorem fin_ok (s : StateV) : finS ⟨s, ⟨⟨#[]⟩, 0⟩, false⟩ = some s := rfl
theorem core_P (x : DepV) (hok : DepOk x) (hb : x.bytes.size ≤ 16384) (s : StateV) : coreS s (rowP x) = some { s with procs := s.procs ++ [x] } := by
 have hz := hok.bytes
 unfold Sz at hz
 unfold rowP
 rw [core_key 112 _ _ s (by decide) (fun h => absurd h (by decide))]
 rw [show ∀ k n i s r, stepOf (112 : UInt8).toNat k n i s r = stepP i s r from fun _ _ _ _ _ => rfl]
 unfold stepP
 dsimp only
 rw [tx0 16384 x.bytes (by omega) (by omega)]
 exact fin_ok _
theorem core_I (x : InstV) (hok : InstOk x) (hb : bInst x = true) (s : StateV) : coreS s (rowI x) = some { s with insts := s.insts ++ [x] } := by
 have hz := hok.id
 unfold Sz at hz
 unfold bInst textB at hb
 simp only [List.all_cons, List.all_nil, Bool.and_true, Bool.and_eq_true, decide_eq_true_eq] at hb
 unfold rowI
 rw [core1 105 (by decide) _ hok.key]
 rw [show ∀ k n i s r, stepOf (105 : UInt8).toNat k n i s r = stepI k s r from fun _ _ _ _ _ => rfl]
 unfold stepI varsOf varsBad
 dsimp only
 rw [textR_tx 16384 x.id (by omega) (by omega)]
 dsimp only
 rw [vs0 x.vars hb.2 hok.vars]
 exact fin_ok _
theorem core_J (x : JobV) (hok : JobOk x) (hb : bJob x = true) (s : StateV) : coreS s (rowJ x) = some { s with jobs := s.jobs ++ [x] } := by
 unfold bJob textB at hb
 simp only [List.all_cons, List.all_nil, Bool.and_true, Bool.and_eq_true, decide_eq_true_eq] at hb
 unfold rowJ
 rw [core1 106 (by decide) _ hok.key]
 rw [show ∀ k n i s r, stepOf (106 : UInt8).toNat k n i s r = stepJ k s r from fun _ _ _ _ _ => rfl]
 unfold stepJ
 dsimp only
 simp only [app_assoc]
 rw [uintR_uv x.token hok.token]
 dsimp only
 rw [textR_tx 16384 x.type (by omega) (by omega)]
 dsimp only
 rw [intR_inS x.retries hok.retries]
 dsimp only
 rw [textR_tx 16384 x.worker (by omega) (by omega)]
 dsimp only
 rw [in0 x.till hok.till]
 exact fin_ok _
theorem core_K (x : KeptV) (hok : KeptOk x) (hb : bKept x = true) (s : StateV) : coreS s (rowK x) = some { s with kept := s.kept ++ [x] } := by
 unfold bKept smallB at hb
 simp only [List.all_cons, List.all_nil, Bool.and_true, Bool.and_eq_true, decide_eq_true_eq] at hb
 unfold rowK
 rw [core2 107 (by decide) _ hok.token _ (by omega) (by omega)]
 rw [show ∀ k n i s r, stepOf (107 : UInt8).toNat k n i s r = stepK k n s r from fun _ _ _ _ _ => rfl]
 unfold stepK
 dsimp only
 rw [uv0' x.msg hok.msg]
 exact fin_ok _
theorem core_L (x : LisV) (hok : LisOk x) (hb : bLis x = true) (s : StateV) : coreS s (rowL x) = some { s with listed := s.listed ++ [x] } := by
 unfold bLis textB smallB at hb
 simp only [List.all_cons, List.all_nil, Bool.and_true, Bool.and_eq_true, decide_eq_true_eq] at hb
 unfold rowL
 rw [core2 108 (by decide) _ hok.token _ (by omega) (by omega)]
 rw [show ∀ k n i s r, stepOf (108 : UInt8).toNat k n i s r = stepL k n s r from fun _ _ _ _ _ => rfl]
 unfold stepL varsOf varsBad
 dsimp only
 simp only [app_assoc]
 rw [uintR_uv x.inst hok.inst]
 dsimp only
 rw [textR_tx 16384 x.name (by omega) (by omega)]
 dsimp only
 rw [textR_tx 16384 x.key (by omega) (by omega)]
 dsimp only
 rw [uintR_uv x.msg hok.msg]
 dsimp only
 rw [vs0 x.vars hb.2 hok.vars]
 exact fin_ok _
theorem core_R (x : TimV) (hok : TimOk x) (hb : bTim x = true) (s : StateV) : coreS s (rowR x) = some { s with timers := s.timers ++ [x] } := by
 unfold bTim smallB at hb
 simp only [List.all_cons, List.all_nil, Bool.and_true, Bool.and_eq_true, decide_eq_true_eq] at hb
 unfold rowR
 rw [core2 114 (by decide) _ hok.token _ (by omega) (by omega)]
 rw [show ∀ k n i s r, stepOf (114 : UInt8).toNat k n i s r = stepR k n s r from fun _ _ _ _ _ => rfl]
 unfold stepR
 dsimp only
 rw [in0 x.when_ hok.when_]
 exact fin_ok _
theorem core_S (x : SubV) (hok : SubOk x) (hb : bSub x = true) (s : StateV) : coreS s (rowS x) = some { s with subs := s.subs ++ [x] } := by
 unfold bSub textB smallB at hb
 simp only [List.all_cons, List.all_nil, Bool.and_true, Bool.and_eq_true, decide_eq_true_eq] at hb
 unfold rowS
 rw [core2 115 (by decide) _ hok.token _ (by omega) (by omega)]
 rw [show ∀ k n i s r, stepOf (115 : UInt8).toNat k n i s r = stepS k n s r from fun _ _ _ _ _ => rfl]
 unfold stepS
 dsimp only
 simp only [app_assoc]
 rw [uintR_uv x.inst hok.inst]
 dsimp only
 rw [textR_tx 16384 x.name (by omega) (by omega)]
 dsimp only
 rw [textR_tx 16384 x.key (by omega) (by omega)]
 dsimp only
 rw [in0 (b01 x.is) (by unfold b01 I64; split <;> omega)]
 obtain ⟨a, b, c, d, e, f⟩ := x
 cases f
 ·
  exact fin_ok _
 ·
  exact fin_ok _
theorem core_T (x : TokV) (hok : TokOk x) (hb : bTok x = true) (s : StateV) : coreS s (rowT x) = some { s with tokens := s.tokens ++ [x] } := by
 unfold bTok textB smallB at hb
 simp only [List.all_cons, List.all_nil, Bool.and_true, Bool.and_eq_true, decide_eq_true_eq] at hb
 unfold rowT
 rw [core1 116 (by decide) _ hok.key]
 rw [show ∀ k n i s r, stepOf (116 : UInt8).toNat k n i s r = stepT k s r from fun _ _ _ _ _ => rfl]
 unfold stepT
 dsimp only
 simp only [app_assoc]
 rw [uintR_uv x.inst hok.inst]
 dsimp only
 rw [uintR_uv x.scope hok.scope]
 dsimp only
 rw [intR_inS x.node hok.node]
 dsimp only
 rw [intR_inS x.by_ hok.by_]
 dsimp only
 rw [tx0 16384 x.stuck (by omega) (by omega)]
 exact fin_ok _
theorem core_G (x : MsgV) (hok : MsgOk x) (hb : bMsg x = true) (s : StateV) : coreS s (rowG x) = some { s with msgs := s.msgs ++ [x] } := by
 unfold bMsg textB at hb
 simp only [List.all_cons, List.all_nil, Bool.and_true, Bool.and_eq_true, decide_eq_true_eq] at hb
 have hm := hok.many
 unfold rowG
 rw [core1 103 (by decide) _ hok.key]
 rw [show ∀ k n i s r, stepOf (103 : UInt8).toNat k n i s r = stepG k s r from fun _ _ _ _ _ => rfl]
 have hf : ∀ t, foldS uvS t x.insts = t ++ (catS uvS x.insts ++ ⟨#[]⟩) := fun t => by
  unfold foldS
  rw [fold_cat, app_emp]
  rfl
 rw [hf]
 unfold stepG varsOf varsBad
 dsimp only
 simp only [app_assoc]
 rw [textR_tx 16384 x.name (by omega) (by omega)]
 dsimp only
 rw [textR_tx 16384 x.for_ (by omega) (by omega)]
 dsimp only
 rw [textR_tx 16384 x.id (by omega) (by omega)]
 dsimp only
 rw [intR_inS x.till hok.till]
 dsimp only
 rw [takeVars_vs x.vars hb.2 hok.vars]
 dsimp only
 rw [takeInsts_is x.insts (by unfold U64; omega) hok.insts]
 exact fin_ok _
end Go.Proofs.YthikijlbclckdaaGreat
