/- Keep: contracts (St Ki). -/
import Derived.Test.YthikijlbclckdaaGreatT5
namespace Go.Proofs.YthikijlbclckdaaGreat
set_option maxRecDepth 100000
set_option maxHeartbeats 40000000
set_option linter.unusedSimpArgs false
set_option linter.unusedVariables false
open Go.RowKit
structure DepV where
 id : ByteArray
 bytes : ByteArray
structure InstV where
 key : Nat
 id : ByteArray
 vars : List VarV
structure TokV where
 key : Nat
 inst : Nat
 scope : Nat
 node : Int
 by_ : Int
 stuck : ByteArray
structure JobV where
 key : Nat
 token : Nat
 type : ByteArray
 retries : Int
 worker : ByteArray
 till : Int
structure TimV where
 token : Nat
 node : Int
 when_ : Int
structure SubV where
 token : Nat
 inst : Nat
 node : Int
 name : ByteArray
 key : ByteArray
 is : Bool
structure KeptV where
 token : Nat
 msg : Nat
 node : Int
structure LisV where
 token : Nat
 inst : Nat
 node : Int
 name : ByteArray
 key : ByteArray
 msg : Nat
 vars : List VarV
structure MsgV where
 key : Nat
 name : ByteArray
 for_ : ByteArray
 id : ByteArray
 till : Int
 vars : List VarV
 insts : List Nat
structure StateV where
 pos : Nat
 done : Nat
 made : Nat
 procs : List DepV
 insts : List InstV
 tokens : List TokV
 jobs : List JobV
 timers : List TimV
 subs : List SubV
 kept : List KeptV
 listed : List LisV
 msgs : List MsgV
abbrev U (n : Nat) : Value := .int .u64 (n : Int)
abbrev I (n : Int) : Value := .int .i64 n
def natsV (l : List Nat) : List Value := l.map fun n : Nat => Value.int .u64 (n : Int)
def DepV.at_ (_ : World) (cs : List Value) (x : DepV) : Prop := cs = [.string x.id, .string x.bytes]
def InstV.at_ (w : World) (cs : List Value) (x : InstV) : Prop := ∃ v, cs = [U x.key, .string x.id, v] ∧ VarsAt w v x.vars
def TokV.at_ (_ : World) (cs : List Value) (x : TokV) : Prop := cs = [U x.key, U x.inst, U x.scope, I x.node, I x.by_, .string x.stuck]
def JobV.at_ (_ : World) (cs : List Value) (x : JobV) : Prop := cs = [U x.key, U x.token, .string x.type, I x.retries, .string x.worker, I x.till]
def TimV.at_ (_ : World) (cs : List Value) (x : TimV) : Prop := cs = [U x.token, I x.node, I x.when_]
def SubV.at_ (_ : World) (cs : List Value) (x : SubV) : Prop := cs = [U x.token, U x.inst, I x.node, .string x.name, .string x.key, .bool x.is]
def KeptV.at_ (_ : World) (cs : List Value) (x : KeptV) : Prop := cs = [U x.token, U x.msg, I x.node]
def LisV.at_ (w : World) (cs : List Value) (x : LisV) : Prop := ∃ v, cs = [U x.token, U x.inst, I x.node, .string x.name, .string x.key, U x.msg, v] ∧ VarsAt w v x.vars
def MsgV.at_ (w : World) (cs : List Value) (x : MsgV) : Prop := ∃ v u, cs = [U x.key, .string x.name, .string x.for_, .string x.id, I x.till, v, u] ∧ VarsAt w v x.vars ∧ SlR w u (natsV x.insts)
def ListAt {α : Type} (R : World → List Value → α → Prop) (size : Nat) (w : World) (v : Value) (l : List α) : Prop :=
 ∃ a cap, v = .slice a l.length cap ∧ l.length ≤ cap ∧ l.length ≤ maxLen ∧ ∀ (i : Nat) (x : α), l[i]? = some x → ∃ b off cs, a = some ⟨b, off, none⟩ ∧ cs.length = size ∧ R w cs x ∧ ∀ j u, cs[j]? = some u → w.cell? ⟨b, off + i * size + j, none⟩ = some u
def Stable {α : Type} (R : World → List Value → α → Prop) : Prop := ∀ w w' cs x, R w cs x → Below w.heap.size w w' → R w' cs x
theorem ListAt.grow {α : Type} {R : World → List Value → α → Prop} {size : Nat} {w w' : World} {v : Value} {l : List α} (hs : Stable R) (h : ListAt R size w v l) (hb : Below w.heap.size w w') : ListAt R size w' v l := by
 obtain ⟨a, cap, hv, h1, h2, h3⟩ := h
 refine ⟨a, cap, hv, h1, h2, fun i x hx => ?_⟩
 obtain ⟨b, off, cs, ha, hl, hr, hc⟩ := h3 i x hx
 exact ⟨b, off, cs, ha, hl, hs _ _ _ _ hr hb, fun j u hu => (hb.cell (p := ⟨b, off + i * size + j, none⟩) (World.block_lt_of_cell? w _ (hc j u hu))).trans (hc j u hu)⟩
theorem DepV.st : Stable DepV.at_ := fun _ _ _ _ h _ => h
theorem InstV.st : Stable InstV.at_ := fun _ _ _ _ h hb => by obtain ⟨v, h1, h2⟩ := h; exact ⟨v, h1, h2.below hb⟩
theorem TokV.st : Stable TokV.at_ := fun _ _ _ _ h _ => h
theorem JobV.st : Stable JobV.at_ := fun _ _ _ _ h _ => h
theorem TimV.st : Stable TimV.at_ := fun _ _ _ _ h _ => h
theorem SubV.st : Stable SubV.at_ := fun _ _ _ _ h _ => h
theorem KeptV.st : Stable KeptV.at_ := fun _ _ _ _ h _ => h
theorem LisV.st : Stable LisV.at_ := fun _ _ _ _ h hb => by obtain ⟨v, h1, h2⟩ := h; exact ⟨v, h1, h2.below hb⟩
theorem MsgV.st : Stable MsgV.at_ := fun _ _ _ _ h hb => by obtain ⟨v, u, h1, h2, h3⟩ := h; exact ⟨v, u, h1, h2.below hb, h3.below hb⟩
structure StateAt (w : World) (cs : List Value) (s : StateV) (vp vi vt vj vr vs vk vl vm : Value) : Prop where
 cells : cs = [U s.pos, U s.done, U s.made, vp, vi, vt, vj, vr, vs, vk, vl, vm]
 procs : ListAt DepV.at_ 2 w vp s.procs
 insts : ListAt InstV.at_ 3 w vi s.insts
 tokens : ListAt TokV.at_ 6 w vt s.tokens
 jobs : ListAt JobV.at_ 6 w vj s.jobs
 timers : ListAt TimV.at_ 3 w vr s.timers
 subs : ListAt SubV.at_ 6 w vs s.subs
 kept : ListAt KeptV.at_ 3 w vk s.kept
 listed : ListAt LisV.at_ 7 w vl s.listed
 msgs : ListAt MsgV.at_ 7 w vm s.msgs
theorem StateAt.grow {w w' : World} {cs : List Value} {s : StateV} {vp vi vt vj vr vs vk vl vm : Value} (h : StateAt w cs s vp vi vt vj vr vs vk vl vm) (hb : Below w.heap.size w w') : StateAt w' cs s vp vi vt vj vr vs vk vl vm :=
 ⟨h.cells, h.procs.grow DepV.st hb, h.insts.grow InstV.st hb, h.tokens.grow TokV.st hb, h.jobs.grow JobV.st hb, h.timers.grow TimV.st hb, h.subs.grow SubV.st hb, h.kept.grow KeptV.st hb, h.listed.grow LisV.st hb, h.msgs.grow MsgV.st hb⟩
def U64 (n : Nat) : Prop := n < 18446744073709551616
def I64 (n : Int) : Prop := -9223372036854775808 ≤ n ∧ n ≤ 9223372036854775807
def Sz (s : ByteArray) : Prop := s.size ≤ 2097152
structure DepOk (x : DepV) : Prop where
 id : Sz x.id
 bytes : Sz x.bytes
structure InstOk (x : InstV) : Prop where
 key : U64 x.key
 id : Sz x.id
 vars : ∀ y ∈ x.vars, VarOk y
structure TokOk (x : TokV) : Prop where
 key : U64 x.key
 inst : U64 x.inst
 scope : U64 x.scope
 node : I64 x.node
 by_ : I64 x.by_
 stuck : Sz x.stuck
structure JobOk (x : JobV) : Prop where
 key : U64 x.key
 token : U64 x.token
 type : Sz x.type
 retries : I64 x.retries
 worker : Sz x.worker
 till : I64 x.till
structure TimOk (x : TimV) : Prop where
 token : U64 x.token
 node : I64 x.node
 when_ : I64 x.when_
structure SubOk (x : SubV) : Prop where
 token : U64 x.token
 inst : U64 x.inst
 node : I64 x.node
 name : Sz x.name
 key : Sz x.key
structure KeptOk (x : KeptV) : Prop where
 token : U64 x.token
 msg : U64 x.msg
 node : I64 x.node
structure LisOk (x : LisV) : Prop where
 token : U64 x.token
 inst : U64 x.inst
 node : I64 x.node
 name : Sz x.name
 key : Sz x.key
 msg : U64 x.msg
 vars : ∀ y ∈ x.vars, VarOk y
structure MsgOk (x : MsgV) : Prop where
 key : U64 x.key
 name : Sz x.name
 for_ : Sz x.for_
 id : Sz x.id
 till : I64 x.till
 vars : ∀ y ∈ x.vars, VarOk y
 insts : ∀ n ∈ x.insts, U64 n
 many : x.insts.length ≤ 2097152
structure StateOk (s : StateV) : Prop where
 pos : U64 s.pos
 done : U64 s.done
 made : U64 s.made
 procs : ∀ x ∈ s.procs, DepOk x
 insts : ∀ x ∈ s.insts, InstOk x
 tokens : ∀ x ∈ s.tokens, TokOk x
 jobs : ∀ x ∈ s.jobs, JobOk x
 timers : ∀ x ∈ s.timers, TimOk x
 subs : ∀ x ∈ s.subs, SubOk x
 kept : ∀ x ∈ s.kept, KeptOk x
 listed : ∀ x ∈ s.listed, LisOk x
 msgs : ∀ x ∈ s.msgs, MsgOk x
 many : s.procs.length + s.insts.length + s.tokens.length + s.jobs.length + s.timers.length + s.subs.length + s.kept.length + s.listed.length + s.msgs.length ≤ 2097152
end Go.Proofs.YthikijlbclckdaaGreat
namespace Go.Proofs.YthikijlbclckdaaGreat
set_option maxRecDepth 100000
set_option maxHeartbeats 40000000
set_option linter.unusedSimpArgs false
set_option linter.unusedVariables false
open Go.IntWalk Go.RowKit
abbrev RowV := ByteArray × ByteArray
def foldS {α : Type} (f : α → ByteArray) (s : ByteArray) (l : List α) : ByteArray := l.foldl (fun s x => s ++ f x) s
theorem cat_on {α : Type} (f : α → ByteArray) (l : List α) (s : ByteArray) : s ++ catS f l = foldS f s l := by
 unfold catS foldS
 have : ∀ (l : List α) (s t : ByteArray), s ++ l.foldl (fun s x => s ++ f x) t = l.foldl (fun s x => s ++ f x) (s ++ t) := by
  intro l
  induction l with
  | nil => intro s t; rfl
  | cons x l ih => intro s t; simp only [List.foldl_cons]; rw [ih, ByteArray.append_assoc]
 rw [this, show s ++ (⟨#[]⟩ : ByteArray) = s from ByteArray.append_empty]
theorem cat_one {α : Type} (f : α → ByteArray) (x : α) : catS f [x] = f x := ByteArray.empty_append
theorem cat_two {α : Type} (f : α → ByteArray) (x y : α) : catS f [x, y] = f x ++ f y := by
 show ((⟨#[]⟩ ++ f x) ++ f y) = _
 rw [show (⟨#[]⟩ : ByteArray) ++ f x = f x from ByteArray.empty_append]
theorem cat_three {α : Type} (f : α → ByteArray) (x y z : α) : catS f [x, y, z] = f x ++ f y ++ f z := by
 show (((⟨#[]⟩ ++ f x) ++ f y) ++ f z) = _
 rw [show (⟨#[]⟩ : ByteArray) ++ f x = f x from ByteArray.empty_append]
def c1 (n : UInt8) : ByteArray := ⟨#[n]⟩
def rowG (x : MsgV) : RowV := (keyS (c1 103) x.key [], foldS uvS (txS x.name ++ txS x.for_ ++ txS x.id ++ inS x.till ++ varsS x.vars ++ uvS x.insts.length) x.insts)
def rowI (x : InstV) : RowV := (keyS (c1 105) x.key [], txS x.id ++ varsS x.vars)
def rowJ (x : JobV) : RowV := (keyS (c1 106) x.key [], uvS x.token ++ txS x.type ++ inS x.retries ++ txS x.worker ++ inS x.till)
def rowK (x : KeptV) : RowV := (keyS (c1 107) x.token [x.node], uvS x.msg)
def rowL (x : LisV) : RowV := (keyS (c1 108) x.token [x.node], uvS x.inst ++ txS x.name ++ txS x.key ++ uvS x.msg ++ varsS x.vars)
def rowP (x : DepV) : RowV := (c1 112 ++ x.id, txS x.bytes)
def rowR (x : TimV) : RowV := (keyS (c1 114) x.token [x.node], inS x.when_)
def b01 (b : Bool) : Int := if b then 1 else 0
def rowS (x : SubV) : RowV := (keyS (c1 115) x.token [x.node], uvS x.inst ++ txS x.name ++ txS x.key ++ inS (b01 x.is))
def rowT (x : TokV) : RowV := (keyS (c1 116) x.key [], uvS x.inst ++ uvS x.scope ++ inS x.node ++ inS x.by_ ++ txS x.stuck)
def rowV (r : RowV) : Value := .agg #[.string r.1, .string r.2]
theorem txS_le {s : ByteArray} (h : Sz s) : (txS s).size ≤ 2097162 := by
 have h : s.size ≤ 2097152 := h
 have := txS_size h
 omega
theorem uvS_le {n : Nat} (h : U64 n) : (uvS n).size ≤ 10 := by rw [uvS_size]; exact Lib.uvarint_length64 h
theorem inS_le {n : Int} (h : I64 n) : (inS n).size ≤ 10 := inS_size h.1 h.2
theorem foldS_le {α : Type} (f : α → ByteArray) (m : Nat) (l : List α) (hf : ∀ x ∈ l, (f x).size ≤ m) (s : ByteArray) : (foldS f s l).size ≤ s.size + l.length * m := by
 induction l generalizing s with
 | nil => simp [foldS]
 | cons x l ih =>
  have h1 := ih (fun y hy => hf y (List.mem_cons_of_mem _ hy)) (s ++ f x)
  have h2 := hf x List.mem_cons_self
  have h3 : foldS f s (x :: l) = foldS f (s ++ f x) l := rfl
  rw [h3, List.length_cons, Nat.succ_mul]
  rw [ByteArray.size_append] at h1
  omega
theorem varsS_le {l : List VarV} (h : ∀ y ∈ l, VarOk y) : (varsS l).size ≤ 67109210 := by
 unfold varsS
 split
 ·
  rename_i hr
  have hl := right_le hr
  have h1 := foldS_le varS 4194325 l (fun y hy => varS_size (h y hy)) (uvS l.length)
  have h2 := uv_small l.length hl
  show (foldS varS (uvS l.length) l).size ≤ _
  omega
 ·
  show 0 ≤ _
  omega
theorem rows1_any (x : MsgV) (hx : MsgOk x) (cs : List Value) (w : World) (h : x.at_ w cs) : Calls Tryz.prog 51 #[.agg cs.toArray] w fun e w' => e = .returned (rowV (rowG x)) ∧ Below w.heap.size w w' := by
 obtain ⟨v, u, rfl, hv, hu⟩ := h
 obtain ⟨key, name, for_, id, till, vars, insts⟩ := x
 obtain ⟨hkey, hname, hfor, hid, htill, hvars, hinsts, hmany⟩ := hx
 dsimp only at hkey hname hfor hid htill hvars hinsts hmany hv hu
 have HV := Lib.hid hv
 have HU := Lib.hid hu
 obtain ⟨a2, cap2, hu, -, -, -⟩ := hu
 have hl2 : (natsV insts).length = insts.length := by simp [natsV]
 rw [hl2] at hu
 subst hu
 clear hl2
 have Hk := Lib.hid hkey
 have Ht := Lib.hid htill
 have Hvars := Lib.hid hvars
 have Hinsts := Lib.hid hinsts
 have z1 : (catS txS [name, for_, id]).size ≤ 6291486 := by
  rw [cat_three, ByteArray.size_append, ByteArray.size_append]
  have := txS_le hname; have := txS_le hfor; have := txS_le hid; omega
 have z2 : (catS inS [till]).size ≤ 10 := by rw [cat_one]; exact inS_le htill
 have z3 := varsS_le hvars
 have z4 : (catS uvS [insts.length]).size ≤ 10 := by rw [cat_one]; exact uvS_le (by unfold U64; omega)
 have z5 : (catS uvS insts).size ≤ 20971520 := by
  have := foldS_le uvS 10 insts (fun n hn => uvS_le (hinsts n hn)) ⟨#[]⟩
  have h0 : (⟨#[]⟩ : ByteArray).size = 0 := rfl
  rw [h0] at this
  show (foldS uvS ⟨#[]⟩ insts).size ≤ _
  omega
 have E : Hid (rowV (rowG ⟨key, name, for_, id, till, vars, insts⟩) = .agg #[.string (keyS (c1 103) key []), .string (catS txS [name, for_, id] ++ catS inS [till] ++ varsS vars ++ catS uvS [insts.length] ++ catS uvS insts)]) := by
  show _ = _
  unfold rowV rowG
  rw [cat_on, cat_three, cat_one, cat_one]
 have Hts : Hid (∀ x ∈ [name, for_, id], x.size ≤ 2097152) := by intro x hx; simp at hx; rcases hx with rfl | rfl | rfl <;> assumption
 clear hkey hname hfor hid htill hvars hinsts hv
 go_enter Tryz.func51, Tryz.ntmps51
 go_wp2_with fail
 have h1 := Lib.hid ((Below.refl _ w).alloc (Nat.le_refl _) (.cells #[U key, .string name, .string for_, .string id, I till, v, .slice a2 insts.length cap2] 118))
 have h2 := Lib.hid (h1.out.alloc h1.out.size (.cells #[.string ⟨#[]⟩, .string ⟨#[]⟩] 69))
 refine wp_par (fun _ => False) (fun _ => True) (List.replicate 32 false) _ (.fix ?_ :: .fix ?_ :: .fix ?_ :: .fix ?_ :: .fix ?_ :: .fix ?_ :: .fix ?_ :: .fix ?_ :: .fix ?_ :: .new (rowF 1 ?_ ?_) :: .fix ?_ :: .fix ?_ :: .fix ?_ :: .new (rowF 1 ?_ ?_) :: .fix ?_ :: .fix ?_ :: .fix ?_ :: .fix ?_ :: .fix ?_ :: .fix ?_ :: .fix ?_ :: .fix ?_ :: .fix ?_ :: .fix ?_ :: .new (rowF 1 ?_ ?_) :: .fix ?_ :: .fix ?_ :: .fix ?_ :: .fix ?_ :: .fix ?_ :: .fix ?_ :: .fix ?_ :: []) (by kernel_rfl) (by kernel_rfl) (by simp only [List.length_replicate, List.drop_succ_cons, List.drop_zero, List.drop_nil]; with_reducible rfl) rfl (fun _ _ _ _ _ => ⟨fun h => h, fun h => h⟩) (fun _ _ h _ => h) trivial ?_
 rotate_left 35
 iterate 2
  first
   | (refine par_skip (a' := ?_) (by rfl) (by rfl) ?_ ?_ ?_; rotate_left 1; with_reducible rfl; (simp only [lays]; with_reducible rfl))
   | (refine par_run (a' := ?_) (by rfl) (by rfl) (fun w' hb hn => ?_) ?_ ?_; rotate_left 1; (have hc := hb.cells; go_simp; (try simp (disch := omega) only [nrm, toNatUp, iteOmega]); first | with_reducible rfl | (go_simp; with_reducible rfl)); (simp only [lays]; with_reducible rfl))
 refine par_call (a' := ?_) (f := ?_) (args := ?_) (by rfl) (by rfl) (fun w' => ?_) (fun w' hb hn => ?_) ?_ ?_; rotate_left 3; (go_simp; constructor <;> with_reducible rfl); (exact key_any (c1 103) key _ [] w' (SlR.nil w') (by simp) (by decide) Hk.out); (simp only [lays]; with_reducible rfl)
 iterate 6
  first
   | (refine par_skip (a' := ?_) (by rfl) (by rfl) ?_ ?_ ?_; rotate_left 1; with_reducible rfl; (simp only [lays]; with_reducible rfl))
   | (refine par_run (a' := ?_) (by rfl) (by rfl) (fun w' hb hn => ?_) ?_ ?_; rotate_left 1; (have hc := hb.cells; go_simp; (try simp (disch := omega) only [nrm, toNatUp, iteOmega]); first | with_reducible rfl | (go_simp; with_reducible rfl)); (simp only [lays]; with_reducible rfl))
 refine par_row (a' := ?a112k9) (m := ?m112k9) (T := ?T112k9) (cs := ?c112k9) (r := ?r112k9) (by rfl) (by rfl) (fun w' hb hn => ?h112k9) (fun w' => ?e112k9) ?n112k9 ?v112k9 ?l112k9 ?x112k9 (fun u => ?p112k9) (fun u => ?g112k9)
 case h112k9 => (have hc := hb.cells; go_simp; (try simp (disch := omega) only [nrm, toNatUp, iteOmega]); with_reducible rfl)
 case e112k9 => with_reducible rfl
 case n112k9 => with_reducible rfl
 case v112k9 => with_reducible rfl
 case l112k9 => simp only [List.length_cons, List.length_nil]
 case x112k9 => (unfold maxLen; omega)
 case p112k9 => (simp only [lays]; with_reducible rfl)
 refine par_call (a' := ?_) (f := ?_) (args := ?_) (by rfl) (by rfl) (fun w' => ?_) (fun w' hb hn => ?_) ?_ ?_; rotate_left 3; (go_simp; constructor <;> with_reducible rfl); (exact t_any _ [name, for_, id] w' (FlatAt.slr (need_head hn (by kernel_rfl))) (by simp) Hts.out); (simp only [lays]; with_reducible rfl)
 iterate 2
  first
   | (refine par_skip (a' := ?_) (by rfl) (by rfl) ?_ ?_ ?_; rotate_left 1; with_reducible rfl; (simp only [lays]; with_reducible rfl))
   | (refine par_run (a' := ?_) (by rfl) (by rfl) (fun w' hb hn => ?_) ?_ ?_; rotate_left 1; (have hc := hb.cells; go_simp; (try simp (disch := omega) only [nrm, toNatUp, iteOmega]); first | with_reducible rfl | (go_simp; with_reducible rfl)); (simp only [lays]; with_reducible rfl))
 refine par_row (a' := ?a125k13) (m := ?m125k13) (T := ?T125k13) (cs := ?c125k13) (r := ?r125k13) (by rfl) (by rfl) (fun w' hb hn => ?h125k13) (fun w' => ?e125k13) ?n125k13 ?v125k13 ?l125k13 ?x125k13 (fun u => ?p125k13) (fun u => ?g125k13)
 case h125k13 => (have hc := hb.cells; go_simp; (try simp (disch := omega) only [nrm, toNatUp, iteOmega]); with_reducible rfl)
 case e125k13 => with_reducible rfl
 case n125k13 => with_reducible rfl
 case v125k13 => with_reducible rfl
 case l125k13 => simp only [List.length_cons, List.length_nil]
 case x125k13 => (unfold maxLen; omega)
 case p125k13 => (simp only [lays]; with_reducible rfl)
 refine par_call (a' := ?_) (f := ?_) (args := ?_) (by rfl) (by rfl) (fun w' => ?_) (fun w' hb hn => ?_) ?_ ?_; rotate_left 3; (go_simp; constructor <;> with_reducible rfl); (exact i_any _ [till] w' (FlatAt.slr (need_head hn (by kernel_rfl))) (by simp) (by intro x hx; simp at hx; subst hx; exact Ht.out)); (simp only [lays]; with_reducible rfl)
 iterate 3
  first
   | (refine par_skip (a' := ?_) (by rfl) (by rfl) ?_ ?_ ?_; rotate_left 1; with_reducible rfl; (simp only [lays]; with_reducible rfl))
   | (refine par_run (a' := ?_) (by rfl) (by rfl) (fun w' hb hn => ?_) ?_ ?_; rotate_left 1; (have hc := hb.cells; go_simp; (try simp (disch := omega) only [nrm, toNatUp, iteOmega]); first | with_reducible rfl | (go_simp; with_reducible rfl)); (simp only [lays]; with_reducible rfl))
 refine par_call (a' := ?_) (f := ?_) (args := ?_) (by rfl) (by rfl) (fun w' => ?_) (fun w' hb hn => ?_) ?_ ?_; rotate_left 3; (go_simp; constructor <;> with_reducible rfl); (exact varsBytes_any v vars w' Hvars.out (HV.out.below (h2.out.trans (hb.grow.mono h2.out.size)))); (simp only [lays]; with_reducible rfl)
 iterate 5
  first
   | (refine par_skip (a' := ?_) (by rfl) (by rfl) ?_ ?_ ?_; rotate_left 1; with_reducible rfl; (simp only [lays]; with_reducible rfl))
   | (refine par_run (a' := ?_) (by rfl) (by rfl) (fun w' hb hn => ?_) ?_ ?_; rotate_left 1; (have hc := hb.cells; go_simp; (try simp (disch := omega) only [nrm, toNatUp, iteOmega]); first | with_reducible rfl | (go_simp; with_reducible rfl)); (simp only [lays]; with_reducible rfl))
 refine par_row (a' := ?a143k24) (m := ?m143k24) (T := ?T143k24) (cs := ?c143k24) (r := ?r143k24) (by rfl) (by rfl) (fun w' hb hn => ?h143k24) (fun w' => ?e143k24) ?n143k24 ?v143k24 ?l143k24 ?x143k24 (fun u => ?p143k24) (fun u => ?g143k24)
 case h143k24 => (have hc := hb.cells; go_simp; (try simp (disch := omega) only [nrm, toNatUp, iteOmega]); with_reducible rfl)
 case e143k24 => with_reducible rfl
 case n143k24 => with_reducible rfl
 case v143k24 => with_reducible rfl
 case l143k24 => simp only [List.length_cons, List.length_nil]
 case x143k24 => (unfold maxLen; omega)
 case p143k24 => (simp only [lays]; with_reducible rfl)
 refine par_call (a' := ?_) (f := ?_) (args := ?_) (by rfl) (by rfl) (fun w' => ?_) (fun w' hb hn => ?_) ?_ ?_; rotate_left 3; (go_simp; constructor <;> with_reducible rfl); (exact u_any _ [insts.length] w' (FlatAt.slr (need_head hn (by kernel_rfl))) (by simp) (by intro x hx; simp at hx; subst hx; omega)); (simp only [lays]; with_reducible rfl)
 iterate 3
  first
   | (refine par_skip (a' := ?_) (by rfl) (by rfl) ?_ ?_ ?_; rotate_left 1; with_reducible rfl; (simp only [lays]; with_reducible rfl))
   | (refine par_run (a' := ?_) (by rfl) (by rfl) (fun w' hb hn => ?_) ?_ ?_; rotate_left 1; (have hc := hb.cells; go_simp; (try simp (disch := omega) only [nrm, toNatUp, iteOmega]); first | with_reducible rfl | (go_simp; with_reducible rfl)); (simp only [lays]; with_reducible rfl))
 refine par_call (a' := ?_) (f := ?_) (args := ?_) (by rfl) (by rfl) (fun w' => ?_) (fun w' hb hn => ?_) ?_ ?_; rotate_left 3; (go_simp; constructor <;> with_reducible rfl); (exact u_any _ insts w' (HU.out.below (h2.out.trans (hb.grow.mono h2.out.size))) hmany Hinsts.out); (simp only [lays]; with_reducible rfl)
 iterate 2
  first
   | (refine par_skip (a' := ?_) (by rfl) (by rfl) ?_ ?_ ?_; rotate_left 1; with_reducible rfl; (simp only [lays]; with_reducible rfl))
   | (refine par_run (a' := ?_) (by rfl) (by rfl) (fun w' hb hn => ?_) ?_ ?_; rotate_left 1; (have hc := hb.cells; go_simp; (try simp (disch := omega) only [nrm, toNatUp, iteOmega]); first | with_reducible rfl | (go_simp; with_reducible rfl)); (simp only [lays]; with_reducible rfl))
 refine par_end (fun w9 hb9 hf9 _ => ?_)
 replace hb9 := hb9.grow
 try refine wpList_none ?_
 have h9 := Lib.hid (h2.out.trans (hb9.mono h2.out.size))
 have hr := (hb9.block (w.heap.size + 1) (by simp)).trans (alloc_new2 w _ _)
 have k0 := cell_of hr 0
 have k1 := cell_of hr 1
 have f0 := free_of hr 0
 have f1 := free_of hr 1
 have hz9 : w.heap.size + 1 < w9.heap.size := heap_lt hr
 clear hb9 hf9 hr
 go_wp2
 exact bodyPost_ret (v := .agg #[.string (keyS (c1 103) key []), .string (catS txS [name, for_, id] ++ catS inS [till] ++ varsS vars ++ catS uvS [insts.length] ++ catS uvS insts)]) (by simp [results, Tryz.results51, go_sem, k0, k1, f0, f1]) rfl ⟨by rw [E.out], (h9.out.setCell (p := ⟨w.heap.size + 1, 0, none⟩) (by simp) _).setCell (p := ⟨w.heap.size + 1, 1, none⟩) (by simp) _⟩
end Go.Proofs.YthikijlbclckdaaGreat
