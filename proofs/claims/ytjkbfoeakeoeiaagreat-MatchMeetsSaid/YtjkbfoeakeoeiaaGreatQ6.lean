/- Keep: contracts (Gf). -/
import Derived.Test.YtjkbfoeakeoeiaaGreatQ5
namespace Go.Proofs.YtjkbfoeakeoeiaaGreat
set_option maxRecDepth 100000
set_option maxHeartbeats 40000000
set_option linter.unusedSimpArgs false
set_option linter.unusedVariables false
open Go.RowKit
def StAt (S : Nat → Prop) (w : World) (cs : List Value) (s : StateV) : Prop := ∃ vp vi vt vj vr vs vk vl vm, StateAt (sans S w) cs s vp vi vt vj vr vs vk vl vm
theorem StAt.grow {S : Nat → Prop} {w w' : World} {cs : List Value} {s : StateV} (h : StAt S w cs s) (hb : Below w.heap.size w w') : StAt S w' cs s := by
  obtain ⟨vp, vi, vt, vj, vr, vs, vk, vl, vm, h⟩ := h
  exact ⟨vp, vi, vt, vj, vr, vs, vk, vl, vm, h.grow (sans_grow hb)⟩
theorem StAt.goes {S T : Nat → Prop} {w w' : World} {cs : List Value} {s : StateV} (h : StAt S w cs s) (hb : Goes S w T w') : StAt T w' cs s := by
  obtain ⟨vp, vi, vt, vj, vr, vs, vk, vl, vm, h⟩ := h
  exact ⟨vp, vi, vt, vj, vr, vs, vk, vl, vm, h.grow hb.sans⟩
def RecAt (S : Nat → Prop) (w : World) (cs : List Value) (r : RecV) : Prop := RecV.at_ (sans S w) cs r
theorem RecAt.grow {S : Nat → Prop} {w w' : World} {cs : List Value} {r : RecV} (h : RecAt S w cs r) (hb : Below w.heap.size w w') : RecAt S w' cs r := RecV.st _ _ _ _ h (sans_grow hb)
theorem RecAt.goes {S T : Nat → Prop} {w w' : World} {cs : List Value} {r : RecV} (h : RecAt S w cs r) (hb : Goes S w T w') : RecAt T w' cs r := RecV.st _ _ _ _ h hb.sans
theorem beq_nat {a b : Nat} : (((a : Int) == (b : Int)) : Bool) = decide (a = b) := by
  by_cases h : a = b
  · simp [h]
  · rw [decide_eq_false h]
    simp
    omega
theorem beq_z {a b : Int} : ((a == b) : Bool) = decide (a = b) := by
  by_cases h : a = b <;> simp [h]
theorem ofLis_cl (W : World) (x : LisV) (v : Value) (r : RecV) (rv : Value) (pb : Nat) (h : W.heap[pb]? = some (.cells #[I r.cls, I r.kind, U r.from_, I r.time, U r.key, U r.key2, U r.key3, I r.n, I r.m, .string r.a, .string r.b, .string r.c, rv] 49 (0, 0))) :
    Calls Tryz.prog 211 #[.agg #[U x.token, U x.inst, I x.node, .string x.name, .string x.key, U x.msg, v], .pointer (some ⟨pb, 0, none⟩)] W fun e w' => e = .returned (.bool (ofLis r x)) ∧ Below W.heap.size W w' := by
  have hlt := heap_lt h
  have g4 := (cell_of ((alloc_old (.cells #[U x.token, U x.inst, I x.node, .string x.name, .string x.key, U x.msg, v] 58) hlt).trans h) 4)
  have g7 := (cell_of ((alloc_old (.cells #[U x.token, U x.inst, I x.node, .string x.name, .string x.key, U x.msg, v] 58) hlt).trans h) 7)
  have B0 : Hid (Below W.heap.size W (W.alloc (.cells #[U x.token, U x.inst, I x.node, .string x.name, .string x.key, U x.msg, v] 58))) := (Below.refl _ W).alloc (Nat.le_refl _) _
  clear h
  unfold ofLis
  rw [← beq_nat, ← beq_z]
  cases h1 : ((x.token : Int) == (r.key : Int)) with
  | false =>
    go_enter Tryz.func211, Tryz.ntmps211
    go_wp2
    go_ret
    exact ⟨rfl, B0.out⟩
  | true =>
    cases h2 : (x.node == r.n) with
    | false =>
      go_enter Tryz.func211, Tryz.ntmps211
      go_wp2
      go_ret
      exact ⟨rfl, B0.out⟩
    | true =>
      go_enter Tryz.func211, Tryz.ntmps211
      go_wp2
      go_ret
      exact ⟨rfl, B0.out⟩
theorem ofMsg_cl (W : World) (x : MsgV) (v u : Value) (r : RecV) (rv : Value) (pb : Nat) (h : W.heap[pb]? = some (.cells #[I r.cls, I r.kind, U r.from_, I r.time, U r.key, U r.key2, U r.key3, I r.n, I r.m, .string r.a, .string r.b, .string r.c, rv] 49 (0, 0))) :
    Calls Tryz.prog 212 #[.agg #[U x.key, .string x.name, .string x.for_, .string x.id, I x.till, v, u], .pointer (some ⟨pb, 0, none⟩)] W fun e w' => e = .returned (.bool (ofMsg r x)) ∧ Below W.heap.size W w' := by
  have hlt := heap_lt h
  have g := (cell_of ((alloc_old (.cells #[U x.key, .string x.name, .string x.for_, .string x.id, I x.till, v, u] 66) hlt).trans h) 5)
  have B0 : Hid (Below W.heap.size W (W.alloc (.cells #[U x.key, .string x.name, .string x.for_, .string x.id, I x.till, v, u] 66))) := (Below.refl _ W).alloc (Nat.le_refl _) _
  clear h
  unfold ofMsg
  rw [← beq_nat]
  cases h1 : ((x.key : Int) == (r.key2 : Int)) with
  | false =>
    go_enter Tryz.func212, Tryz.ntmps212
    go_wp2
    go_ret
    exact ⟨rfl, B0.out⟩
  | true =>
    go_enter Tryz.func212, Tryz.ntmps212
    go_wp2
    go_ret
    exact ⟨rfl, B0.out⟩
theorem expMsg_cl (W : World) (x : MsgV) (v u : Value) (r : RecV) (rv : Value) (pb : Nat) (h : W.heap[pb]? = some (.cells #[I r.cls, I r.kind, U r.from_, I r.time, U r.key, U r.key2, U r.key3, I r.n, I r.m, .string r.a, .string r.b, .string r.c, rv] 49 (0, 0))) :
    Calls Tryz.prog 148 #[.agg #[U x.key, .string x.name, .string x.for_, .string x.id, I x.till, v, u], .pointer (some ⟨pb, 0, none⟩)] W fun e w' => e = .returned (.bool (decide (x.key = r.key))) ∧ Below W.heap.size W w' := by
  have hlt := heap_lt h
  have g := (cell_of ((alloc_old (.cells #[U x.key, .string x.name, .string x.for_, .string x.id, I x.till, v, u] 66) hlt).trans h) 4)
  have B0 : Hid (Below W.heap.size W (W.alloc (.cells #[U x.key, .string x.name, .string x.for_, .string x.id, I x.till, v, u] 66))) := (Below.refl _ W).alloc (Nat.le_refl _) _
  clear h
  skip
  rw [← beq_nat]
  cases h1 : ((x.key : Int) == (r.key : Int)) with
  | false =>
    go_enter Tryz.func148, Tryz.ntmps148
    go_wp2
    go_ret
    exact ⟨rfl, B0.out⟩
  | true =>
    go_enter Tryz.func148, Tryz.ntmps148
    go_wp2
    go_ret
    exact ⟨rfl, B0.out⟩
theorem ofListed_any (w : World) (r : RecV) (rv : Value) : Calls Tryz.prog 149 #[.agg #[I r.cls, I r.kind, U r.from_, I r.time, U r.key, U r.key2, U r.key3, I r.n, I r.m, .string r.a, .string r.b, .string r.c, rv]] w fun e w' => ∃ pb, e = .returned (.func (.func 211) #[] #[.pointer (some ⟨pb, 0, none⟩)]) ∧ w'.heap[pb]? = some (.cells #[I r.cls, I r.kind, U r.from_, I r.time, U r.key, U r.key2, U r.key3, I r.n, I r.m, .string r.a, .string r.b, .string r.c, rv] 49 (0, 0)) ∧ Below w.heap.size w w' := by
  have hA := hid (alloc_new w (.cells #[I r.cls, I r.kind, U r.from_, I r.time, U r.key, U r.key2, U r.key3, I r.n, I r.m, .string r.a, .string r.b, .string r.c, rv] 49))
  have B0 : Hid (Below w.heap.size w (w.alloc (.cells #[I r.cls, I r.kind, U r.from_, I r.time, U r.key, U r.key2, U r.key3, I r.n, I r.m, .string r.a, .string r.b, .string r.c, rv] 49))) := (Below.refl _ w).alloc (Nat.le_refl _) _
  go_enter Tryz.func149, Tryz.ntmps149
  go_wp2
  go_ret
  exact ⟨_, rfl, hA.out, B0.out⟩
theorem ofMessage_any (w : World) (r : RecV) (rv : Value) : Calls Tryz.prog 150 #[.agg #[I r.cls, I r.kind, U r.from_, I r.time, U r.key, U r.key2, U r.key3, I r.n, I r.m, .string r.a, .string r.b, .string r.c, rv]] w fun e w' => ∃ pb, e = .returned (.func (.func 212) #[] #[.pointer (some ⟨pb, 0, none⟩)]) ∧ w'.heap[pb]? = some (.cells #[I r.cls, I r.kind, U r.from_, I r.time, U r.key, U r.key2, U r.key3, I r.n, I r.m, .string r.a, .string r.b, .string r.c, rv] 49 (0, 0)) ∧ Below w.heap.size w w' := by
  have hA := hid (alloc_new w (.cells #[I r.cls, I r.kind, U r.from_, I r.time, U r.key, U r.key2, U r.key3, I r.n, I r.m, .string r.a, .string r.b, .string r.c, rv] 49))
  have B0 : Hid (Below w.heap.size w (w.alloc (.cells #[I r.cls, I r.kind, U r.from_, I r.time, U r.key, U r.key2, U r.key3, I r.n, I r.m, .string r.a, .string r.b, .string r.c, rv] 49))) := (Below.refl _ w).alloc (Nat.le_refl _) _
  go_enter Tryz.func150, Tryz.ntmps150
  go_wp2
  go_ret
  exact ⟨_, rfl, hA.out, B0.out⟩
theorem vars_any {n : Nat} {v : Value} {cs : List Value} (w : World) (hF : FlatAt 4 w v n cs) (h1 : ∀ u ∈ cs, u.oneCell' = true) (hn : n * 48 ≤ 140737488355328) :
    Calls Tryz.prog 57 #[v] w fun e w' => ∃ v', e = .returned v' ∧ w'.ownsRow w.heap.size 80 4 v' n cs ∧ Below w.heap.size w w' := by
  have hc := cloneVar_any w hF h1 hn
  go_enter Tryz.func57, Tryz.ntmps57
  go_wp2_with fail
  refine hc.mono ?_
  rintro e w1 ⟨v', rfl, ho, hb⟩
  have HO := hid ho
  clear ho
  go_wp2
  go_ret
  exact ⟨_, rfl, HO.out, hb⟩
theorem varsC_one (l : List VarV) : ∀ u ∈ varsC l, u.oneCell' = true := by
  intro u hu
  obtain ⟨x, -, hx⟩ := List.mem_flatMap.1 hu
  have : ∀ u ∈ varC x, u.oneCell' = true := by simp [varC, Value.oneCell']
  exact this u hx
theorem vars_list {S : Nat → Prop} {v : Value} {l : List VarV} {w0 : World} (w : World) (hv : VarsAt w0 v l) (hs : Sees w0 w) (hn : l.length ≤ 1048576) (hS : ∀ b, S b → b < w.heap.size) :
    Calls Tryz.prog 57 #[v] w fun e w' => ∃ v', e = .returned v' ∧ VarsAt (sans S w') v' l ∧ (∀ b, v'.ownBlock = some b → w.heap.size ≤ b) ∧ Below w.heap.size w w' := by
  refine (vars_any w ((hv.sees hs).flat) (varsC_one l) (by omega)).mono ?_
  rintro e w' ⟨v', rfl, ho, hb⟩
  exact ⟨v', rfl, (FlatAt.of_own (own_sans ho (fun b h1 h2 => by have := hS b h2; omega))).vars (by omega), fun b h => (ho.lt b h).1, hb⟩
theorem cloneVars_list {S : Nat → Prop} {v : Value} {l : List VarV} {w0 : World} (w : World) (hv : VarsAt w0 v l) (hs : Sees w0 w) (hn : l.length ≤ 1048576) (hS : ∀ b, S b → b < w.heap.size) :
    Calls Tryz.prog 24 #[v] w fun e w' => ∃ v', e = .returned v' ∧ VarsAt (sans S w') v' l ∧ (∀ b, v'.ownBlock = some b → w.heap.size ≤ b) ∧ Below w.heap.size w w' := by
  refine (cloneVar_any w ((hv.sees hs).flat) (varsC_one l) (by omega)).mono ?_
  rintro e w' ⟨v', rfl, ho, hb⟩
  exact ⟨v', rfl, (FlatAt.of_own (own_sans ho (fun b h1 h2 => by have := hS b h2; omega))).vars (by omega), fun b h => (ho.lt b h).1, hb⟩
end Go.Proofs.YtjkbfoeakeoeiaaGreat
