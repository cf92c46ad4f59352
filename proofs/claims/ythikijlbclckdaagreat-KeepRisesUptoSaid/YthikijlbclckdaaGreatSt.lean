/- States, as plain data, and how they lie in memory. -/
import Derived.Test.YthikijlbclckdaaGreatKh
import Derived.Test.YthikijlbclckdaaGreatFl
namespace Go.Proofs.YthikijlbclckdaaGreat
set_option linter.unusedSimpArgs false
set_option linter.unusedVariables false
open Go.RowKit

structure DepV where
  id : ByteArray
  bytes : ByteArray
structure InstV where
  key : Nat
  id : ByteArray
  vars : List VarV
structure TokV where
  key : Nat
  inst : Nat
  scope : Nat
  node : Int
  by_ : Int
  stuck : ByteArray
structure JobV where
  key : Nat
  token : Nat
  type : ByteArray
  retries : Int
  worker : ByteArray
  till : Int
structure TimV where
  token : Nat
  node : Int
  when_ : Int
structure SubV where
  token : Nat
  inst : Nat
  node : Int
  name : ByteArray
  key : ByteArray
  is : Bool
structure KeptV where
  token : Nat
  msg : Nat
  node : Int
structure LisV where
  token : Nat
  inst : Nat
  node : Int
  name : ByteArray
  key : ByteArray
  msg : Nat
  vars : List VarV
structure MsgV where
  key : Nat
  name : ByteArray
  for_ : ByteArray
  id : ByteArray
  till : Int
  vars : List VarV
  insts : List Nat
structure StateV where
  pos : Nat
  done : Nat
  made : Nat
  procs : List DepV
  insts : List InstV
  tokens : List TokV
  jobs : List JobV
  timers : List TimV
  subs : List SubV
  kept : List KeptV
  listed : List LisV
  msgs : List MsgV

abbrev U (n : Nat) : Value := .int .u64 (n : Int)
abbrev I (n : Int) : Value := .int .i64 n
def natsV (l : List Nat) : List Value := l.map fun n : Nat => Value.int .u64 (n : Int)
/-! Each element's cells: where it bears lists, these are read in the world. -/
def DepV.at_ (_ : World) (cs : List Value) (x : DepV) : Prop := cs = [.string x.id, .string x.bytes]
def InstV.at_ (w : World) (cs : List Value) (x : InstV) : Prop := ∃ v, cs = [U x.key, .string x.id, v] ∧ VarsAt w v x.vars
def TokV.at_ (_ : World) (cs : List Value) (x : TokV) : Prop := cs = [U x.key, U x.inst, U x.scope, I x.node, I x.by_, .string x.stuck]
def JobV.at_ (_ : World) (cs : List Value) (x : JobV) : Prop := cs = [U x.key, U x.token, .string x.type, I x.retries, .string x.worker, I x.till]
def TimV.at_ (_ : World) (cs : List Value) (x : TimV) : Prop := cs = [U x.token, I x.node, I x.when_]
def SubV.at_ (_ : World) (cs : List Value) (x : SubV) : Prop := cs = [U x.token, U x.inst, I x.node, .string x.name, .string x.key, .bool x.is]
def KeptV.at_ (_ : World) (cs : List Value) (x : KeptV) : Prop := cs = [U x.token, U x.msg, I x.node]
def LisV.at_ (w : World) (cs : List Value) (x : LisV) : Prop := ∃ v, cs = [U x.token, U x.inst, I x.node, .string x.name, .string x.key, U x.msg, v] ∧ VarsAt w v x.vars
def MsgV.at_ (w : World) (cs : List Value) (x : MsgV) : Prop := ∃ v u, cs = [U x.key, .string x.name, .string x.for_, .string x.id, I x.till, v, u] ∧ VarsAt w v x.vars ∧ SlR w u (natsV x.insts)
/-- A list of elements of so many cells each. -/
def ListAt {α : Type} (R : World → List Value → α → Prop) (size : Nat) (w : World) (v : Value) (l : List α) : Prop :=
  ∃ a cap, v = .slice a l.length cap ∧ l.length ≤ cap ∧ l.length ≤ maxLen ∧ ∀ (i : Nat) (x : α), l[i]? = some x → ∃ b off cs, a = some ⟨b, off, none⟩ ∧ cs.length = size ∧ R w cs x ∧ ∀ j u, cs[j]? = some u → w.cell? ⟨b, off + i * size + j, none⟩ = some u
def Stable {α : Type} (R : World → List Value → α → Prop) : Prop := ∀ w w' cs x, R w cs x → Below w.heap.size w w' → R w' cs x
theorem ListAt.grow {α : Type} {R : World → List Value → α → Prop} {size : Nat} {w w' : World} {v : Value} {l : List α} (hs : Stable R) (h : ListAt R size w v l) (hb : Below w.heap.size w w') : ListAt R size w' v l := by
  obtain ⟨a, cap, hv, h1, h2, h3⟩ := h
  refine ⟨a, cap, hv, h1, h2, fun i x hx => ?_⟩
  obtain ⟨b, off, cs, ha, hl, hr, hc⟩ := h3 i x hx
  exact ⟨b, off, cs, ha, hl, hs _ _ _ _ hr hb, fun j u hu => (hb.cell (p := ⟨b, off + i * size + j, none⟩) (World.block_lt_of_cell? w _ (hc j u hu))).trans (hc j u hu)⟩
theorem DepV.st : Stable DepV.at_ := fun _ _ _ _ h _ => h
theorem InstV.st : Stable InstV.at_ := fun _ _ _ _ h hb => by obtain ⟨v, h1, h2⟩ := h; exact ⟨v, h1, h2.below hb⟩
theorem TokV.st : Stable TokV.at_ := fun _ _ _ _ h _ => h
theorem JobV.st : Stable JobV.at_ := fun _ _ _ _ h _ => h
theorem TimV.st : Stable TimV.at_ := fun _ _ _ _ h _ => h
theorem SubV.st : Stable SubV.at_ := fun _ _ _ _ h _ => h
theorem KeptV.st : Stable KeptV.at_ := fun _ _ _ _ h _ => h
theorem LisV.st : Stable LisV.at_ := fun _ _ _ _ h hb => by obtain ⟨v, h1, h2⟩ := h; exact ⟨v, h1, h2.below hb⟩
theorem MsgV.st : Stable MsgV.at_ := fun _ _ _ _ h hb => by obtain ⟨v, u, h1, h2, h3⟩ := h; exact ⟨v, u, h1, h2.below hb, h3.below hb⟩
/-- A state's twelve cells. -/
structure StateAt (w : World) (cs : List Value) (s : StateV) (vp vi vt vj vr vs vk vl vm : Value) : Prop where
  cells : cs = [U s.pos, U s.done, U s.made, vp, vi, vt, vj, vr, vs, vk, vl, vm]
  procs : ListAt DepV.at_ 2 w vp s.procs
  insts : ListAt InstV.at_ 3 w vi s.insts
  tokens : ListAt TokV.at_ 6 w vt s.tokens
  jobs : ListAt JobV.at_ 6 w vj s.jobs
  timers : ListAt TimV.at_ 3 w vr s.timers
  subs : ListAt SubV.at_ 6 w vs s.subs
  kept : ListAt KeptV.at_ 3 w vk s.kept
  listed : ListAt LisV.at_ 7 w vl s.listed
  msgs : ListAt MsgV.at_ 7 w vm s.msgs
theorem StateAt.grow {w w' : World} {cs : List Value} {s : StateV} {vp vi vt vj vr vs vk vl vm : Value} (h : StateAt w cs s vp vi vt vj vr vs vk vl vm) (hb : Below w.heap.size w w') : StateAt w' cs s vp vi vt vj vr vs vk vl vm :=
  ⟨h.cells, h.procs.grow DepV.st hb, h.insts.grow InstV.st hb, h.tokens.grow TokV.st hb, h.jobs.grow JobV.st hb, h.timers.grow TimV.st hb, h.subs.grow SubV.st hb, h.kept.grow KeptV.st hb, h.listed.grow LisV.st hb, h.msgs.grow MsgV.st hb⟩

/-! What numbers and texts are within: what is told of every input of the size that is asked for. -/
def U64 (n : Nat) : Prop := n < 18446744073709551616
def I64 (n : Int) : Prop := -9223372036854775808 ≤ n ∧ n ≤ 9223372036854775807
def Sz (s : ByteArray) : Prop := s.size ≤ 2097152
structure DepOk (x : DepV) : Prop where
  id : Sz x.id
  bytes : Sz x.bytes
structure InstOk (x : InstV) : Prop where
  key : U64 x.key
  id : Sz x.id
  vars : ∀ y ∈ x.vars, VarOk y
structure TokOk (x : TokV) : Prop where
  key : U64 x.key
  inst : U64 x.inst
  scope : U64 x.scope
  node : I64 x.node
  by_ : I64 x.by_
  stuck : Sz x.stuck
structure JobOk (x : JobV) : Prop where
  key : U64 x.key
  token : U64 x.token
  type : Sz x.type
  retries : I64 x.retries
  worker : Sz x.worker
  till : I64 x.till
structure TimOk (x : TimV) : Prop where
  token : U64 x.token
  node : I64 x.node
  when_ : I64 x.when_
structure SubOk (x : SubV) : Prop where
  token : U64 x.token
  inst : U64 x.inst
  node : I64 x.node
  name : Sz x.name
  key : Sz x.key
structure KeptOk (x : KeptV) : Prop where
  token : U64 x.token
  msg : U64 x.msg
  node : I64 x.node
structure LisOk (x : LisV) : Prop where
  token : U64 x.token
  inst : U64 x.inst
  node : I64 x.node
  name : Sz x.name
  key : Sz x.key
  msg : U64 x.msg
  vars : ∀ y ∈ x.vars, VarOk y
structure MsgOk (x : MsgV) : Prop where
  key : U64 x.key
  name : Sz x.name
  for_ : Sz x.for_
  id : Sz x.id
  till : I64 x.till
  vars : ∀ y ∈ x.vars, VarOk y
  insts : ∀ n ∈ x.insts, U64 n
  many : x.insts.length ≤ 2097152
structure StateOk (s : StateV) : Prop where
  pos : U64 s.pos
  done : U64 s.done
  made : U64 s.made
  procs : ∀ x ∈ s.procs, DepOk x
  insts : ∀ x ∈ s.insts, InstOk x
  tokens : ∀ x ∈ s.tokens, TokOk x
  jobs : ∀ x ∈ s.jobs, JobOk x
  timers : ∀ x ∈ s.timers, TimOk x
  subs : ∀ x ∈ s.subs, SubOk x
  kept : ∀ x ∈ s.kept, KeptOk x
  listed : ∀ x ∈ s.listed, LisOk x
  msgs : ∀ x ∈ s.msgs, MsgOk x
  many : s.procs.length + s.insts.length + s.tokens.length + s.jobs.length + s.timers.length + s.subs.length + s.kept.length + s.listed.length + s.msgs.length ≤ 2097152
end Go.Proofs.YthikijlbclckdaaGreat
