/- Keep: contracts (Gf Pn Gg Bx Gh). -/
import Derived.Test.YtjkbfoeakeoeiaaGreatV1
import Derived.Test.YtjkbfoeakeoeiaaGreatV5
import Derived.Test.YtjkbfoeakeoeiaaGreatV8
import Derived.Deep.Upon
namespace Go.Proofs.YtjkbfoeakeoeiaaGreat
set_option maxRecDepth 100000
set_option maxHeartbeats 40000000
set_option linter.unusedSimpArgs false
set_option linter.unusedVariables false
open Go.RowKit
def StAt (S : Nat → Prop) (w : World) (cs : List Value) (s : StateV) : Prop := ∃ vp vi vt vj vr vs vk vl vm, StateAt (sans S w) cs s vp vi vt vj vr vs vk vl vm
theorem StAt.grow {S : Nat → Prop} {w w' : World} {cs : List Value} {s : StateV} (h : StAt S w cs s) (hb : Below w.heap.size w w') : StAt S w' cs s := by
  obtain ⟨vp, vi, vt, vj, vr, vs, vk, vl, vm, h⟩ := h
  exact ⟨vp, vi, vt, vj, vr, vs, vk, vl, vm, h.grow (sans_grow hb)⟩
theorem StAt.goes {S T : Nat → Prop} {w w' : World} {cs : List Value} {s : StateV} (h : StAt S w cs s) (hb : Goes S w T w') : StAt T w' cs s := by
  obtain ⟨vp, vi, vt, vj, vr, vs, vk, vl, vm, h⟩ := h
  exact ⟨vp, vi, vt, vj, vr, vs, vk, vl, vm, h.grow hb.sans⟩
def RecAt (S : Nat → Prop) (w : World) (cs : List Value) (r : RecV) : Prop := RecV.at_ (sans S w) cs r
theorem RecAt.grow {S : Nat → Prop} {w w' : World} {cs : List Value} {r : RecV} (h : RecAt S w cs r) (hb : Below w.heap.size w w') : RecAt S w' cs r := RecV.st _ _ _ _ h (sans_grow hb)
theorem RecAt.goes {S T : Nat → Prop} {w w' : World} {cs : List Value} {r : RecV} (h : RecAt S w cs r) (hb : Goes S w T w') : RecAt T w' cs r := RecV.st _ _ _ _ h hb.sans
theorem beq_nat {a b : Nat} : (((a : Int) == (b : Int)) : Bool) = decide (a = b) := by
  by_cases h : a = b
  · simp [h]
  · rw [decide_eq_false h]
    simp
    omega
theorem beq_z {a b : Int} : ((a == b) : Bool) = decide (a = b) := by
  by_cases h : a = b <;> simp [h]
theorem ofLis_cl (W : World) (x : LisV) (v : Value) (r : RecV) (rv : Value) (pb : Nat) (h : W.heap[pb]? = some (.cells #[I r.cls, I r.kind, U r.from_, I r.time, U r.key, U r.key2, U r.key3, I r.n, I r.m, .string r.a, .string r.b, .string r.c, rv] 49 (0, 0))) :
    Calls Tryz.prog 211 #[.agg #[U x.token, U x.inst, I x.node, .string x.name, .string x.key, U x.msg, v], .pointer (some ⟨pb, 0, none⟩)] W fun e w' => e = .returned (.bool (ofLis r x)) ∧ Below W.heap.size W w' := by
  have hlt := heap_lt h
  have g4 := (cell_of ((alloc_old (.cells #[U x.token, U x.inst, I x.node, .string x.name, .string x.key, U x.msg, v] 58) hlt).trans h) 4)
  have g7 := (cell_of ((alloc_old (.cells #[U x.token, U x.inst, I x.node, .string x.name, .string x.key, U x.msg, v] 58) hlt).trans h) 7)
  have B0 : Hid (Below W.heap.size W (W.alloc (.cells #[U x.token, U x.inst, I x.node, .string x.name, .string x.key, U x.msg, v] 58))) := (Below.refl _ W).alloc (Nat.le_refl _) _
  clear h
  unfold ofLis
  rw [← beq_nat, ← beq_z]
  cases h1 : ((x.token : Int) == (r.key : Int)) with
  | false =>
    go_enter Tryz.func211, Tryz.ntmps211
    go_wp2
    go_ret
    exact ⟨rfl, B0.out⟩
  | true =>
    cases h2 : (x.node == r.n) with
    | false =>
      go_enter Tryz.func211, Tryz.ntmps211
      go_wp2
      go_ret
      exact ⟨rfl, B0.out⟩
    | true =>
      go_enter Tryz.func211, Tryz.ntmps211
      go_wp2
      go_ret
      exact ⟨rfl, B0.out⟩
theorem ofMsg_cl (W : World) (x : MsgV) (v u : Value) (r : RecV) (rv : Value) (pb : Nat) (h : W.heap[pb]? = some (.cells #[I r.cls, I r.kind, U r.from_, I r.time, U r.key, U r.key2, U r.key3, I r.n, I r.m, .string r.a, .string r.b, .string r.c, rv] 49 (0, 0))) :
    Calls Tryz.prog 212 #[.agg #[U x.key, .string x.name, .string x.for_, .string x.id, I x.till, v, u], .pointer (some ⟨pb, 0, none⟩)] W fun e w' => e = .returned (.bool (ofMsg r x)) ∧ Below W.heap.size W w' := by
  have hlt := heap_lt h
  have g := (cell_of ((alloc_old (.cells #[U x.key, .string x.name, .string x.for_, .string x.id, I x.till, v, u] 66) hlt).trans h) 5)
  have B0 : Hid (Below W.heap.size W (W.alloc (.cells #[U x.key, .string x.name, .string x.for_, .string x.id, I x.till, v, u] 66))) := (Below.refl _ W).alloc (Nat.le_refl _) _
  clear h
  unfold ofMsg
  rw [← beq_nat]
  cases h1 : ((x.key : Int) == (r.key2 : Int)) with
  | false =>
    go_enter Tryz.func212, Tryz.ntmps212
    go_wp2
    go_ret
    exact ⟨rfl, B0.out⟩
  | true =>
    go_enter Tryz.func212, Tryz.ntmps212
    go_wp2
    go_ret
    exact ⟨rfl, B0.out⟩
theorem expMsg_cl (W : World) (x : MsgV) (v u : Value) (r : RecV) (rv : Value) (pb : Nat) (h : W.heap[pb]? = some (.cells #[I r.cls, I r.kind, U r.from_, I r.time, U r.key, U r.key2, U r.key3, I r.n, I r.m, .string r.a, .string r.b, .string r.c, rv] 49 (0, 0))) :
    Calls Tryz.prog 148 #[.agg #[U x.key, .string x.name, .string x.for_, .string x.id, I x.till, v, u], .pointer (some ⟨pb, 0, none⟩)] W fun e w' => e = .returned (.bool (decide (x.key = r.key))) ∧ Below W.heap.size W w' := by
  have hlt := heap_lt h
  have g := (cell_of ((alloc_old (.cells #[U x.key, .string x.name, .string x.for_, .string x.id, I x.till, v, u] 66) hlt).trans h) 4)
  have B0 : Hid (Below W.heap.size W (W.alloc (.cells #[U x.key, .string x.name, .string x.for_, .string x.id, I x.till, v, u] 66))) := (Below.refl _ W).alloc (Nat.le_refl _) _
  clear h
  skip
  rw [← beq_nat]
  cases h1 : ((x.key : Int) == (r.key : Int)) with
  | false =>
    go_enter Tryz.func148, Tryz.ntmps148
    go_wp2
    go_ret
    exact ⟨rfl, B0.out⟩
  | true =>
    go_enter Tryz.func148, Tryz.ntmps148
    go_wp2
    go_ret
    exact ⟨rfl, B0.out⟩
theorem ofListed_any (w : World) (r : RecV) (rv : Value) : Calls Tryz.prog 149 #[.agg #[I r.cls, I r.kind, U r.from_, I r.time, U r.key, U r.key2, U r.key3, I r.n, I r.m, .string r.a, .string r.b, .string r.c, rv]] w fun e w' => ∃ pb, e = .returned (.func (.func 211) #[] #[.pointer (some ⟨pb, 0, none⟩)]) ∧ w'.heap[pb]? = some (.cells #[I r.cls, I r.kind, U r.from_, I r.time, U r.key, U r.key2, U r.key3, I r.n, I r.m, .string r.a, .string r.b, .string r.c, rv] 49 (0, 0)) ∧ Below w.heap.size w w' := by
  have hA := hid (alloc_new w (.cells #[I r.cls, I r.kind, U r.from_, I r.time, U r.key, U r.key2, U r.key3, I r.n, I r.m, .string r.a, .string r.b, .string r.c, rv] 49))
  have B0 : Hid (Below w.heap.size w (w.alloc (.cells #[I r.cls, I r.kind, U r.from_, I r.time, U r.key, U r.key2, U r.key3, I r.n, I r.m, .string r.a, .string r.b, .string r.c, rv] 49))) := (Below.refl _ w).alloc (Nat.le_refl _) _
  go_enter Tryz.func149, Tryz.ntmps149
  go_wp2
  go_ret
  exact ⟨_, rfl, hA.out, B0.out⟩
theorem ofMessage_any (w : World) (r : RecV) (rv : Value) : Calls Tryz.prog 150 #[.agg #[I r.cls, I r.kind, U r.from_, I r.time, U r.key, U r.key2, U r.key3, I r.n, I r.m, .string r.a, .string r.b, .string r.c, rv]] w fun e w' => ∃ pb, e = .returned (.func (.func 212) #[] #[.pointer (some ⟨pb, 0, none⟩)]) ∧ w'.heap[pb]? = some (.cells #[I r.cls, I r.kind, U r.from_, I r.time, U r.key, U r.key2, U r.key3, I r.n, I r.m, .string r.a, .string r.b, .string r.c, rv] 49 (0, 0)) ∧ Below w.heap.size w w' := by
  have hA := hid (alloc_new w (.cells #[I r.cls, I r.kind, U r.from_, I r.time, U r.key, U r.key2, U r.key3, I r.n, I r.m, .string r.a, .string r.b, .string r.c, rv] 49))
  have B0 : Hid (Below w.heap.size w (w.alloc (.cells #[I r.cls, I r.kind, U r.from_, I r.time, U r.key, U r.key2, U r.key3, I r.n, I r.m, .string r.a, .string r.b, .string r.c, rv] 49))) := (Below.refl _ w).alloc (Nat.le_refl _) _
  go_enter Tryz.func150, Tryz.ntmps150
  go_wp2
  go_ret
  exact ⟨_, rfl, hA.out, B0.out⟩
theorem vars_any {n : Nat} {v : Value} {cs : List Value} (w : World) (hF : FlatAt 4 w v n cs) (h1 : ∀ u ∈ cs, u.oneCell' = true) (hn : n * 48 ≤ 140737488355328) :
    Calls Tryz.prog 57 #[v] w fun e w' => ∃ v', e = .returned v' ∧ w'.ownsRow w.heap.size 80 4 v' n cs ∧ Below w.heap.size w w' := by
  have hc := cloneVar_any w hF h1 hn
  go_enter Tryz.func57, Tryz.ntmps57
  go_wp2_with fail
  refine hc.mono ?_
  rintro e w1 ⟨v', rfl, ho, hb⟩
  have HO := hid ho
  clear ho
  go_wp2
  go_ret
  exact ⟨_, rfl, HO.out, hb⟩
theorem varsC_one (l : List VarV) : ∀ u ∈ varsC l, u.oneCell' = true := by
  intro u hu
  obtain ⟨x, -, hx⟩ := List.mem_flatMap.1 hu
  have : ∀ u ∈ varC x, u.oneCell' = true := by simp [varC, Value.oneCell']
  exact this u hx
theorem vars_list {S : Nat → Prop} {v : Value} {l : List VarV} {w0 : World} (w : World) (hv : VarsAt w0 v l) (hs : Sees w0 w) (hn : l.length ≤ 1048576) (hS : ∀ b, S b → b < w.heap.size) :
    Calls Tryz.prog 57 #[v] w fun e w' => ∃ v', e = .returned v' ∧ VarsAt (sans S w') v' l ∧ (∀ b, v'.ownBlock = some b → w.heap.size ≤ b) ∧ Below w.heap.size w w' := by
  refine (vars_any w ((hv.sees hs).flat) (varsC_one l) (by omega)).mono ?_
  rintro e w' ⟨v', rfl, ho, hb⟩
  exact ⟨v', rfl, (FlatAt.of_own (own_sans ho (fun b h1 h2 => by have := hS b h2; omega))).vars (by omega), fun b h => (ho.lt b h).1, hb⟩
theorem cloneVars_list {S : Nat → Prop} {v : Value} {l : List VarV} {w0 : World} (w : World) (hv : VarsAt w0 v l) (hs : Sees w0 w) (hn : l.length ≤ 1048576) (hS : ∀ b, S b → b < w.heap.size) :
    Calls Tryz.prog 24 #[v] w fun e w' => ∃ v', e = .returned v' ∧ VarsAt (sans S w') v' l ∧ (∀ b, v'.ownBlock = some b → w.heap.size ≤ b) ∧ Below w.heap.size w w' := by
  refine (cloneVar_any w ((hv.sees hs).flat) (varsC_one l) (by omega)).mono ?_
  rintro e w' ⟨v', rfl, ho, hb⟩
  exact ⟨v', rfl, (FlatAt.of_own (own_sans ho (fun b h1 h2 => by have := hS b h2; omega))).vars (by omega), fun b h => (ho.lt b h).1, hb⟩
end Go.Proofs.YtjkbfoeakeoeiaaGreat
namespace Go.Proofs.YtjkbfoeakeoeiaaGreat.Ps
set_option maxRecDepth 100000
set_option maxHeartbeats 40000000
set_option linter.unusedSimpArgs false
set_option linter.unusedVariables false
open Go.RowKit
def relI (base : Nat) (c : Value) (T : TypeId) : Rel where
  G w w' := w'.os = w.os ∧ w'.tape = w.tape ∧ w'.output = w.output ∧ w.heap.size ≤ w'.heap.size ∧ ∀ i, i < w.heap.size → (i < base ∨ w.heap[i]? = some (.cells #[c] T (0, 0))) → w'.heap[i]? = w.heap[i]?
  N w w' := Below w.heap.size w w'
  of w w' h := ⟨h.os, h.tape, h.output, h.size, fun i hi _ => h.block i hi⟩
  trans a b d h k := ⟨k.1.trans h.1, k.2.1.trans h.2.1, k.2.2.1.trans h.2.2.1, Nat.le_trans h.2.2.2.1 k.2.2.2.1, fun i hi hc => by
    have e := h.2.2.2.2 i hi hc
    exact (k.2.2.2.2 i (Nat.lt_of_lt_of_le hi h.2.2.2.1) (hc.imp id (fun hc => e.trans hc))).trans e⟩
  refl w := Below.refl _ w
  draw w := ⟨rfl, rfl, rfl, Nat.le_refl _, fun _ _ => rfl⟩
theorem relI.below {base : Nat} {c : Value} {T : TypeId} {w w' : World} (h : (relI base c T).G w w') (hb : base ≤ w.heap.size) : Below base w w' :=
  ⟨h.1, h.2.1, h.2.2.1, h.2.2.2.1, fun i hi => h.2.2.2.2 i (Nat.lt_of_lt_of_le hi hb) (.inl hi)⟩
theorem relI.of' {base : Nat} {c : Value} {T : TypeId} {w w' : World} (h : Below w.heap.size w w') : (relI base c T).G w w' := (relI base c T).of _ _ h
section
variable {P : Program} {ops : Array Oper} {Q : Exit → Act → World → Prop} {O : Rel} {W0 : World} {tl : List Oper} {i : Nat} {o : Oper} {L : List Sp} {Φ : List (Nat × (World → Prop))} {R : World → Prop} {a : Act} {a' : Value → Act}
theorem par_valN {F : Value → World → Prop} (ho : ops.toList[i]? = some o) (hw : Region.wanted o (yielded ops a.tmps) = true) (hs : ∀ u w w', F u w → O.G w w' → F u w')
    (h : ∀ w, O.G W0 w → Need ops i Φ w → ∃ u w', (execOp a.eval o).run P w = .ok (.value u) w' ∧ F u w' ∧ O.N w w') (ha : ∀ u, a.put o.dst u = a' u)
    (hr : ∀ u, ParOk P ops Q O W0 tl (number (i + 1) L) ((i, F u) :: Φ) R (a' u)) : ParOk P ops Q O W0 tl (number i (.new F :: L)) Φ R a := by
  refine par_new ho hs (fun w hb hn K hK => ?_) ha hr
  rw [if_pos hw]
  unfold Oper.wp
  obtain ⟨u, w', he, hf, hb'⟩ := h w hb hn
  rw [he]
  exact hK u w' hf hb'
end
theorem run_app_I {P : Program} {W : World} (t e : TypeId) {z : Value} {bytes : Nat} (ty : TypeId) (ht : P.underlying t = some (.slice e))
    (hinfo : (P.info? e).map (fun i => (i.zero, i.size, i.bytes)) = some (some z, 1, bytes)) (hzs : z.cells.size = 1)
    {base n : Nat} {v x c : Value} {xs : List Value} (hown : W.ownsRow base e 1 v n xs) (hbase : base ≤ W.heap.size) (hx : FlatAt 1 W x 1 [c]) (hn : n + 1 ≤ maxLen) (hby : (n + 1) * bytes ≤ 140737488355328) (h1 : c.oneCell' = true) :
    ∃ v' w', (Builtin.append_ #[t, t] ty #[v, x]).run P W = .ok v' w' ∧ w'.ownsRow base e 1 v' (n + 1) (xs ++ [c]) ∧ (relI base c e).G W w' := by
  obtain ⟨i0, hi, hzz⟩ := Option.map_eq_some_iff.1 hinfo
  simp only [Prod.mk.injEq] at hzz
  obtain ⟨hz0, hz1, hz2⟩ := hzz
  have h1' : ∀ u ∈ [c], u.oneCell' = true := by simpa using h1
  obtain ⟨a, cap, rfl, hc1, hc2, hl, hcs⟩ := hx
  obtain ⟨b, off, rfl, -⟩ := hcs 0 c rfl
  have hnews : ∀ (j : Nat) (u : Value), [c][j]? = some u → W.cell? ((⟨b, off, none⟩ : Addr).add j) = some u := fun j u hu => by
    obtain ⟨b2, off2, he, hc⟩ := hcs j u hu
    cases he
    have ha : (⟨b, off, none⟩ : Addr).add j = ⟨b, off + j, none⟩ := by unfold Addr.add; split <;> simp_all
    rw [ha]; exact hc
  have grew : ∀ {w' : World}, W.grownBy w' none → (relI base c e).G W w' := fun h => ⟨h.os, h.tape, h.output, h.size, fun k hk _ => h.block k hk (fun e => by cases e)⟩
  rcases hown.2 with ⟨rfl, rfl⟩ | ⟨g, cap2, cur, rfl, hbg, hg, hnc, hcm, hcur, htake⟩
  · obtain ⟨v', w', hr, h2, h3, -⟩ := run_append_own (P := P) (w := W) base t ty e i0 z 1 bytes ht hi hz0 hz1 hz2 hzs (by omega) (.slice none 0 0) 0 xs ⟨hown.1, .inl ⟨rfl, rfl⟩⟩ ⟨b, off, none⟩ 1 cap [c] hl hnews h1' hn hby hbase
    exact ⟨v', w', hr, h2, grew h3⟩
  · by_cases hroom : n + 1 ≤ cap2
    · obtain ⟨v', w', hr, h2, h3, -⟩ := run_append_own (P := P) (w := W) base t ty e i0 z 1 bytes ht hi hz0 hz1 hz2 hzs (by omega) _ n xs hown ⟨b, off, none⟩ 1 cap [c] hl hnews h1' hn hby hbase
      have hfit : n * i0.size + [c].length ≤ cur.size := by rw [hcur, hz1]; simp only [List.length_cons, List.length_nil]; omega
      have hr2 := run_append_room (P := P) W t ty e i0 ht hi g n cap2 cur hg ⟨b, off, none⟩ 1 cap [c] (by rw [hz1]; rfl) hnews h1' hroom hfit
      rw [hr2] at hr
      injection hr with e1 e2
      refine ⟨v', w', by rw [hr2, e1, e2], h2, h3.os, h3.tape, h3.output, h3.size, fun k hk hkc => ?_⟩
      by_cases hkg : k = g
      · subst hkg
        rcases hkc with hkc | hkc
        · omega
        · rw [hg] at hkc
          cases hkc
          simp at hcur
          subst hcur
          obtain rfl : n = 0 := by omega
          rw [← e2, hg, setRow_heap _ _ _ _ _ _ hg]
          simp
      · exact h3.block k hk (fun e => hkg (by cases e; rfl))
    · have holds : ∀ j u, xs[j]? = some u → W.cell? ((⟨g, 0, none⟩ : Addr).add j) = some u := hown.cells (g := g) rfl
      obtain ⟨v', w', hr, h2, h3⟩ := run_append_arg_grows (P := P) W t ty e i0 z 1 bytes ht hi hz0 hz1 hz2 hzs (by omega) ⟨g, 0, none⟩ n cap2 xs hown.1 holds ⟨b, off, none⟩ 1 cap [c] hl hnews (by omega) hn hby
      exact ⟨v', w', hr, ownsRow_base h2 hbase, grew h3⟩
end Go.Proofs.YtjkbfoeakeoeiaaGreat.Ps
namespace Go.Proofs.YtjkbfoeakeoeiaaGreat
set_option maxRecDepth 100000
set_option maxHeartbeats 40000000
set_option linter.unusedSimpArgs false
set_option linter.unusedVariables false
open Go.IntWalk Go.RowKit
theorem goes_but {S : Nat → Prop} {b : Nat} {w w' : World} (h : But (fun i => i = b) w w') : Goes (fun i => S i ∨ i = b) w (fun i => S i ∨ i = b) w' :=
  ⟨h.mono (fun _ _ e => .inr e), fun _ _ => Iff.rfl⟩
theorem relC_set (b i : Nat) (w : World) (v : Value) : (Ps.relC (fun k => k = b) (fun k _ => k ≠ b)).G w (w.setCell ⟨b, i, none⟩ v) := by
  have h : But (fun k => k = b) w (w.setCell ⟨b, i, none⟩ v) := But.setCell (F := fun k => k = b) (But.refl _ w) (p := ⟨b, i, none⟩) (fun _ => rfl) v
  exact ⟨h, fun k j c hk hc => h.cell hc hk⟩
theorem relC_below {b : Nat} {w w' : World} (h : Below w.heap.size w w') : (Ps.relC (fun k => k = b) (fun k _ => k ≠ b)).G w w' := (Ps.relC (fun k => k = b) (fun k _ => k ≠ b)).of _ _ h
theorem vars_shape {w : World} {v : Value} {l : List VarV} (h : VarsAt w v l) : Ps.shOk (some l.length) v := by
  obtain ⟨a, cap, rfl, -⟩ := h
  exact ⟨a, cap, rfl⟩
theorem sending1_cl (W : World) (b pb lb : Nat) (x : LisV) (v lv rv : Value) (rest : List Value) (r : RecV) (l : List VarV) (S : Nat → Prop) (hS : ∀ i, S i → i < W.heap.size) (hg : W.heap[b]? = some (.cells (U x.token :: U x.inst :: I x.node :: .string x.name :: .string x.key :: U x.msg :: v :: rest).toArray 58 (0, 0)))
    (hp : W.heap[pb]? = some (.cells #[I r.cls, I r.kind, U r.from_, I r.time, U r.key, U r.key2, U r.key3, I r.n, I r.m, .string r.a, .string r.b, .string r.c, rv] 49 (0, 0))) (hl : W.heap[lb]? = some (.cells #[lv] 47 (0, 0))) (hv : VarsAt (sans (fun i => S i ∨ i = b) W) lv l) (hlen : l.length ≤ 1048576) (hpb : pb ≠ b) (hlb : lb ≠ b) :
    Calls Tryz.prog 152 #[.pointer (some ⟨b, 0, none⟩), .pointer (some ⟨pb, 0, none⟩), .pointer (some ⟨lb, 0, none⟩)] W fun e w' => e = .returned (.tuple #[]) ∧ But (fun i => i = b) W w' ∧
      ∃ u, w'.heap[b]? = some (.cells (U x.token :: U x.inst :: I x.node :: .string x.name :: .string x.key :: U r.key2 :: u :: rest).toArray 58 (0, 0)) ∧ VarsAt (sans (fun i => S i ∨ i = b) w') u l := by
  have HG := hid hg
  have HV := hid hv
  have P5 := hid (cell_of hp 5)
  have L0 := hid (cell_of hl 0)
  have Hpb := hid hpb
  have Hlb := hid hlb
  have hbl := heap_lt hg
  clear hg hp hl hv hpb hlb
  go_enter Tryz.func152, Tryz.ntmps152
  refine Ps.wp_par (Ps.relC (fun i => i = b) (fun i _ => i ≠ b)) (fun W' => W'.heap[b]? = some (.cells (U x.token :: U x.inst :: I x.node :: .string x.name :: .string x.key :: U x.msg :: v :: rest).toArray 58 (0, 0))) (false :: false :: false :: false :: false :: true :: false :: false :: true :: []) _ (.fix ?_ :: .fix ?_ :: .fix ?_ :: .fix ?_ :: .fix ?_ :: .st (some l.length) (fun u W' => VarsAt (sans (fun i => S i ∨ i = b) W') u l) (fun _ W' => W'.heap[b]? = some (.cells (U x.token :: U x.inst :: I x.node :: .string x.name :: .string x.key :: U x.msg :: v :: rest).toArray 58 (0, 0))) :: .fix ?_ :: .fix ?_ :: .sf undef (fun W' => W'.heap[b]? = some (.cells (U x.token :: U x.inst :: I x.node :: .string x.name :: .string x.key :: U r.key2 :: v :: rest).toArray 58 (0, 0))) :: []) (by kernel_rfl) (by kernel_rfl) (by simp only [List.length_cons, List.length_nil, List.drop_succ_cons, List.drop_zero, List.drop_nil]; with_reducible rfl) rfl (fun _ _ _ _ _ => ⟨fun h => h, fun h => h⟩) (fun _ _ h hb => (hb.block _ (heap_lt h)).trans h) (HG.out) ?_
  rotate_left 7
  iterate 5
    first
      | (refine Ps.par_skip (a' := ?_) (by rfl) (by rfl) ?_ ?_ ?_; rotate_left 1; with_reducible rfl; (simp only [Act.put, List.setIfInBounds_toArray, List.set_cons_zero, List.set_cons_succ]; with_reducible rfl))
      | (refine Ps.par_run (a' := ?_) (by rfl) (by rfl) (fun w' hb hn => ?_) ?_ ?_; rotate_left 1; (have q0 := hb.2 pb _ _ Hpb.out P5.out; have q1 := hb.2 lb _ _ Hlb.out L0.out; first | (go_simp; (try simp (disch := omega) only [IntWalk.i64_in, IntWalk.i32_in, IntWalk.u64_in, IntWalk.u8_in, IntWalk.u32_in, toNatUp, iteOmega]); with_reducible rfl) | (go_simp; (try simp (disch := omega) only [IntWalk.i64_in, IntWalk.i32_in, IntWalk.u64_in, IntWalk.u8_in, IntWalk.u32_in, toNatUp, iteOmega]); go_simp; with_reducible rfl)); (simp only [Act.put, List.setIfInBounds_toArray, List.set_cons_zero, List.set_cons_succ]; with_reducible rfl))
  refine Ps.par_stc (a' := ?ap1k5) (f := ?fp1k5) (args := ?rp1k5) (by rfl) (by rfl) (fun w' => ?ep1k5) (fun _ _ _ h hb => h.below (goes_but hb.1).sans) (fun _ _ _ h hb => (hb.block _ (heap_lt h)).trans h) (fun w' hb hn hr => ?hp1k5) (fun u => ?pp1k5) (fun u5 hu5 => ?gp1k5)
  case ep1k5 => (go_simp; constructor <;> with_reducible rfl)
  case hp1k5 => (refine (vars_list (S := fun i => S i ∨ i = b) w' (HV.out.below (goes_but hb.1).sans) sees_seen hlen (fun i h => h.elim (fun h => Nat.lt_of_lt_of_le (hS i h) hb.1.size) (fun h => by subst h; exact heap_lt hr))).mono ?_; rintro e w2 ⟨u, rfl, h1, -, h3⟩; exact ⟨u, rfl, vars_shape h1, h1, relC_below h3, (h3.block _ (heap_lt hr)).trans hr⟩)
  case pp1k5 => (simp only [Act.put, List.setIfInBounds_toArray, List.set_cons_zero, List.set_cons_succ]; with_reducible rfl)
  obtain ⟨au5, cu5, rfl⟩ := hu5
  iterate 2
    first
      | (refine Ps.par_skip (a' := ?_) (by rfl) (by rfl) ?_ ?_ ?_; rotate_left 1; with_reducible rfl; (simp only [Act.put, List.setIfInBounds_toArray, List.set_cons_zero, List.set_cons_succ]; with_reducible rfl))
      | (refine Ps.par_run (a' := ?_) (by rfl) (by rfl) (fun w' hb hn => ?_) ?_ ?_; rotate_left 1; (have q0 := hb.2 pb _ _ Hpb.out P5.out; have q1 := hb.2 lb _ _ Hlb.out L0.out; first | (go_simp; (try simp (disch := omega) only [IntWalk.i64_in, IntWalk.i32_in, IntWalk.u64_in, IntWalk.u8_in, IntWalk.u32_in, toNatUp, iteOmega]); with_reducible rfl) | (go_simp; (try simp (disch := omega) only [IntWalk.i64_in, IntWalk.i32_in, IntWalk.u64_in, IntWalk.u8_in, IntWalk.u32_in, toNatUp, iteOmega]); go_simp; with_reducible rfl)); (simp only [Act.put, List.setIfInBounds_toArray, List.set_cons_zero, List.set_cons_succ]; with_reducible rfl))
  refine Ps.par_sfs (a' := ?ap2k8) (by rfl) (by rfl) (fun _ _ h hb => (hb.block _ (heap_lt h)).trans h) (fun w' hb hn hr => ?hp2k8) (by rfl) ?pp2k8 ?gp2k8
  case hp2k8 => (have k5 := cell_of hr 5; have f5 := free_of hr 5; exact ⟨w'.setCell ⟨b, 5, none⟩ (U r.key2), (by go_simp; try with_reducible rfl), relC_set b 5 _ _, setCell_at hr 5 _⟩)
  case pp2k8 => with_reducible rfl
  refine Ps.par_end (fun w9 hb9 hf9 hr9 => ?_)
  try refine Ps.wpList_none ?_
  simp only [List.forall_mem_cons] at hf9
  have HF := hid hf9.1
  have HR := hid hr9
  have HB := hid hb9
  have k6 := cell_of HR.out 6
  have f6 := free_of HR.out 6
  clear hf9 hr9 hb9
  go_wp2
  go_end0
  have hb : But (fun i => i = b) W (w9.setCell ⟨b, 6, none⟩ (.slice au5 l.length cu5)) := HB.out.1.trans (relC_set b 6 w9 _).1
  exact ⟨rfl, hb, _, setCell_at HR.out 6 _, HF.out.below (goes_but (relC_set b 6 w9 _).1).sans⟩
theorem SlR.flat {w : World} {v : Value} {vs : List Value} (h : SlR w v vs) : FlatAt 1 w v vs.length vs := by
  obtain ⟨a, cap, rfl, h1, h2, h3⟩ := h
  exact ⟨a, cap, rfl, h2, h1, by omega, h3⟩
theorem FlatAt.slr' {w : World} {v : Value} {cs : List Value} (h : FlatAt 1 w v cs.length cs) : SlR w v cs := h.slr
theorem natsV_one (l : List Nat) : ∀ u ∈ natsV l, u.oneCell' = true := by
  intro u hu
  obtain ⟨n, -, rfl⟩ := List.mem_map.1 hu
  rfl
def OneAt (c : Value) (T : TypeId) (u : Value) (w : World) : Prop := ∃ g, u = .slice (some ⟨g, 0, none⟩) 1 1 ∧ w.heap[g]? = some (.cells #[c] T (0, 0))
theorem OneAt.flat {c : Value} {T : TypeId} {u : Value} {w : World} (h : OneAt c T u w) : FlatAt 1 w u 1 [c] := by
  obtain ⟨g, rfl, hg⟩ := h
  exact ⟨_, 1, rfl, Nat.le_refl _, by simp [maxLen], rfl, fun j u hu => ⟨g, 0, rfl, by
    have hj : j = 0 := by have := (List.getElem?_eq_some_iff.1 hu).1; simp at this; omega
    subst hj
    rw [cell_of hg]
    simpa using hu⟩⟩
theorem OneAt.st {base : Nat} {c : Value} {T : TypeId} : ∀ (u : Value) (w w' : World), OneAt c T u w → (Ps.relI base c T).G w w' → OneAt c T u w' := fun _ _ _ ⟨g, hu, hg⟩ h => ⟨g, hu, (h.2.2.2.2 g (heap_lt hg) (.inr hg)).trans hg⟩
theorem sending2_cl (W : World) (b ib : Nat) (x : MsgV) (v u : Value) (rest : List Value) (inst : Nat) (S : Nat → Prop) (hS : ∀ i, S i → i < W.heap.size) (hg : W.heap[b]? = some (.cells (U x.key :: .string x.name :: .string x.for_ :: .string x.id :: I x.till :: v :: u :: rest).toArray 66 (0, 0)))
    (hi : W.heap[ib]? = some (.cells #[U inst] 22 (0, 0))) (hu : SlR (sans (fun i => S i ∨ i = b) W) u (natsV x.insts)) (hlen : x.insts.length ≤ 1000) :
    Calls Tryz.prog 154 #[.pointer (some ⟨b, 0, none⟩), .pointer (some ⟨ib, 0, none⟩)] W fun e w' => e = .returned (.tuple #[]) ∧ But (fun i => i = b) W w' ∧
      ∃ u', w'.heap[b]? = some (.cells (U x.key :: .string x.name :: .string x.for_ :: .string x.id :: I x.till :: v :: u' :: rest).toArray 66 (0, 0)) ∧ SlR (sans (fun i => S i ∨ i = b) w') u' (natsV (x.insts ++ [inst])) := by
  have HG := hid hg
  have K6 := hid (cell_of hg 6)
  have L0 := hid (cell_of hi 0)
  have hnl : (natsV x.insts).length = x.insts.length := by simp [natsV]
  have HF := hid hu.flat.seen
  rw [hnl] at HF
  have hbl := heap_lt hg
  have hil := heap_lt hi
  clear hg hi hu hnl
  go_enter Tryz.func154, Tryz.ntmps154
  refine Ps.wp_par (Ps.relI W.heap.size (U inst) 22) (fun _ => True) (false :: false :: false :: false :: false :: true :: false :: false :: true :: []) _ (.fix ?_ :: .fix ?_ :: .fix ?_ :: .fix ?_ :: .fix ?_ :: .st (none) (fun _ _ => True) (fun v W' => W'.ownsRow W.heap.size 22 1 v x.insts.length (natsV x.insts)) :: .fix ?_ :: .new (OneAt (U inst) 22) :: .st (some (x.insts.length + 1)) (fun _ _ => True) (fun v W' => W'.ownsRow W.heap.size 22 1 v (x.insts.length + 1) (natsV x.insts ++ [U inst])) :: []) (by kernel_rfl) (by kernel_rfl) (by simp only [List.length_cons, List.length_nil, List.drop_succ_cons, List.drop_zero, List.drop_nil]; with_reducible rfl) rfl (fun _ _ _ _ _ => ⟨fun h => h, fun h => h⟩) (fun _ _ h _ => h) (trivial) ?_
  rotate_left 6
  iterate 5
    first
      | (refine Ps.par_skip (a' := ?_) (by rfl) (by rfl) ?_ ?_ ?_; rotate_left 1; with_reducible rfl; (simp only [Act.put, List.setIfInBounds_toArray, List.set_cons_zero, List.set_cons_succ]; with_reducible rfl))
      | (refine Ps.par_run (a' := ?_) (by rfl) (by rfl) (fun w' hb hn => ?_) ?_ ?_; rotate_left 1; (have hB := Ps.relI.below hb (Nat.le_refl _); have q0 := (hB.cell (p := ⟨b, 6, none⟩) hbl).trans K6.out; have q1 := (hB.cell (p := ⟨ib, 0, none⟩) hil).trans L0.out; first | (go_simp; (try simp (disch := omega) only [IntWalk.i64_in, IntWalk.i32_in, IntWalk.u64_in, IntWalk.u8_in, IntWalk.u32_in, toNatUp, iteOmega]); with_reducible rfl) | (go_simp; (try simp (disch := omega) only [IntWalk.i64_in, IntWalk.i32_in, IntWalk.u64_in, IntWalk.u8_in, IntWalk.u32_in, toNatUp, iteOmega]); go_simp; with_reducible rfl)); (simp only [Act.put, List.setIfInBounds_toArray, List.set_cons_zero, List.set_cons_succ]; with_reducible rfl))
  refine Ps.par_stc (a' := ?ap3k5) (f := ?fp3k5) (args := ?rp3k5) (by rfl) (by rfl) (fun w' => ?ep3k5) (fun _ _ _ _ _ => trivial) (fun _ _ _ h hb => own_but h (But.of (F := fun _ => False) hb) (fun _ _ h => h)) (fun w' hb hn hr => ?hp3k5) (fun u => ?pp3k5) (fun u5 hu5 => ?gp3k5)
  case ep3k5 => (go_simp; constructor <;> with_reducible rfl)
  case hp3k5 => (have hB := Ps.relI.below hb (Nat.le_refl _); refine (cloneNat_any w' (HF.out.grow hB) (natsV_one _) (by omega)).mono ?_; rintro e w2 ⟨v2, rfl, ho, h3⟩; exact ⟨v2, rfl, trivial, trivial, Ps.relI.of' h3, ownsRow_base ho hB.size⟩)
  case pp3k5 => (simp only [Act.put, List.setIfInBounds_toArray, List.set_cons_zero, List.set_cons_succ]; with_reducible rfl)
  iterate 1
    first
      | (refine Ps.par_skip (a' := ?_) (by rfl) (by rfl) ?_ ?_ ?_; rotate_left 1; with_reducible rfl; (simp only [Act.put, List.setIfInBounds_toArray, List.set_cons_zero, List.set_cons_succ]; with_reducible rfl))
      | (refine Ps.par_run (a' := ?_) (by rfl) (by rfl) (fun w' hb hn => ?_) ?_ ?_; rotate_left 1; (have hB := Ps.relI.below hb (Nat.le_refl _); have q0 := (hB.cell (p := ⟨b, 6, none⟩) hbl).trans K6.out; have q1 := (hB.cell (p := ⟨ib, 0, none⟩) hil).trans L0.out; first | (go_simp; (try simp (disch := omega) only [IntWalk.i64_in, IntWalk.i32_in, IntWalk.u64_in, IntWalk.u8_in, IntWalk.u32_in, toNatUp, iteOmega]); with_reducible rfl) | (go_simp; (try simp (disch := omega) only [IntWalk.i64_in, IntWalk.i32_in, IntWalk.u64_in, IntWalk.u8_in, IntWalk.u32_in, toNatUp, iteOmega]); go_simp; with_reducible rfl)); (simp only [Act.put, List.setIfInBounds_toArray, List.set_cons_zero, List.set_cons_succ]; with_reducible rfl))
  refine Ps.par_valN (a' := ?ap4k7) (by rfl) (by rfl) (OneAt.st) (fun w' hb hn => ?hp4k7) (fun u => ?pp4k7) (fun u => ?gp4k7)
  case hp4k7 => (have hB := Ps.relI.below hb (Nat.le_refl _); have q1 := (hB.cell (p := ⟨ib, 0, none⟩) hil).trans L0.out; exact ⟨.slice (some ⟨w'.heap.size, 0, none⟩) 1 1, w'.alloc (.cells #[U inst] 22), by (go_simp; try with_reducible rfl), ⟨_, rfl, alloc_new _ _⟩, (Below.refl _ _).alloc (Nat.le_refl _) _⟩)
  case pp4k7 => (simp only [Act.put, List.setIfInBounds_toArray, List.set_cons_zero, List.set_cons_succ]; with_reducible rfl)
  refine Ps.par_str (a' := ?ap5k8) (by rfl) (by rfl) (fun _ _ _ _ _ => trivial) (fun _ _ _ h hb => own_but h (But.of (F := fun _ => False) hb) (fun _ _ h => h)) (fun w' hb hn hr => ?hp5k8) (fun u => ?pp5k8) (fun u8 hu8 => ?gp5k8)
  case hp5k8 => (have hB := Ps.relI.below hb (Nat.le_refl _); obtain ⟨v', w2, hrun, ho2, hg2⟩ := Ps.run_app_I (P := Tryz.prog) 64 22 64 Tryz.underlying64 infoNat rfl hr hB.size ((hn _ (List.mem_cons_self ..) (by kernel_rfl)).flat) (by unfold maxLen; omega) (by omega) rfl; obtain ⟨a2, c2, rfl⟩ := own_slice ho2; exact ⟨_, w2, by (unfold execOp; simp only [resolve, invoke, builtin, Sem.run_bind, Sem.run_pure, Result.andThen_ok, List.map_toArray, List.map_cons, List.map_nil]; simp [Act.eval]; rw [hrun]; rfl), ⟨_, _, rfl⟩, trivial, hg2, ho2⟩)
  case pp5k8 => (simp only [Act.put, List.setIfInBounds_toArray, List.set_cons_zero, List.set_cons_succ]; with_reducible rfl)
  refine Ps.par_end (fun w9 hb9 hf9 hr9 => ?_)
  try refine Ps.wpList_none ?_
  obtain ⟨au8, cu8, rfl⟩ := hu8
  have HB := hid (Ps.relI.below hb9 (Nat.le_refl _))
  have HR := hid hr9
  have HG9 := hid ((HB.out.block b hbl).trans HG.out)
  have k6 := cell_of HG9.out 6
  have f6 := free_of HG9.out 6
  clear hf9 hr9 hb9
  go_wp2
  go_end0
  have hs : But (fun i => i = b) w9 (w9.setCell ⟨b, 6, none⟩ (.slice au8 (x.insts.length + 1) cu8)) := (relC_set b 6 w9 _).1
  have ho := own_sans (S := fun i => S i ∨ i = b) (own_but HR.out hs (fun k hk e => by omega)) (fun k hk h => h.elim (fun h => by have := hS k h; omega) (fun h => by omega))
  have e1 : natsV (x.insts ++ [inst]) = natsV x.insts ++ [U inst] := by simp [natsV]
  refine ⟨rfl, (But.of HB.out).trans hs, _, setCell_at HG9.out 6 _, ?_⟩
  rw [e1]
  exact (FlatAt.of_own ho).slr
theorem missed11_cl (W : World) (k : Nat) (inst : Nat) (ib : Nat) (hi : W.heap[ib]? = some (.cells #[U inst] 22 (0, 0))) :
    Calls Tryz.prog 158 #[U k, .pointer (some ⟨ib, 0, none⟩)] W fun e w' => e = .returned (.bool (decide (k = inst))) ∧ Below W.heap.size W w' := by
  have k0 := cell_of hi 0
  clear hi
  rw [← beq_nat]
  go_enter Tryz.func158, Tryz.ntmps158
  go_wp2
  go_ret
  exact ⟨rfl, Below.refl _ _⟩
theorem natsV_css (l : List Nat) : (l.map fun n : Nat => [U n]).flatten = natsV l := by
  induction l with
  | nil => rfl
  | cons a l ih => simpa [natsV] using ih
theorem missed1_cl (W : World) (b ib : Nat) (x : MsgV) (v u : Value) (rest : List Value) (inst : Nat) (S : Nat → Prop) (hS : ∀ i, S i → i < W.heap.size) (hg : W.heap[b]? = some (.cells (U x.key :: .string x.name :: .string x.for_ :: .string x.id :: I x.till :: v :: u :: rest).toArray 66 (0, 0)))
    (hi : W.heap[ib]? = some (.cells #[U inst] 22 (0, 0))) (hu : SlR (sans (fun i => S i ∨ i = b) W) u (natsV x.insts)) (hlen : x.insts.length ≤ 1) :
    Calls Tryz.prog 156 #[.pointer (some ⟨b, 0, none⟩), .pointer (some ⟨ib, 0, none⟩)] W fun e w' => e = .returned (.tuple #[]) ∧ But (fun i => i = b) W w' ∧
      ∃ u', w'.heap[b]? = some (.cells (U x.key :: .string x.name :: .string x.for_ :: .string x.id :: I x.till :: v :: u' :: rest).toArray 66 (0, 0)) ∧ SlR (sans (fun i => S i ∨ i = b) w') u' (natsV (withoutBy (fun k => decide (k = inst)) x.insts)) := by
  have HG := hid hg
  have K6 := hid (cell_of hg 6)
  have HI := hid hi
  have hnl : (natsV x.insts).length = x.insts.length := by simp [natsV]
  have hf := hu.flat.seen
  rw [hnl, ← natsV_css] at hf
  have HF := hid hf
  have hbl := heap_lt hg
  have k6 : W.cell? ⟨b, 6, none⟩ = some u := K6.out
  obtain ⟨q, hq⟩ := bool_list (css := x.insts.map fun n : Nat => [U n]) (l := x.insts) (fun k => decide (k = inst))
  have Hq := hid hq
  clear hg hi hu hnl hf hq
  go_enter Tryz.func156, Tryz.ntmps156
  go_wp2_with fail
  refine (withoutNat_any W HF.out (by rw [natsV_css]; exact natsV_one _) (fun cs h => by obtain ⟨n, -, rfl⟩ := List.mem_map.1 h; rfl) (by simp) hlen q _ _ (enters_of Tryz.func158 (by kernel_rfl) rfl) (fun W' i cs hcs hb => ?_)).mono ?_
  · simp only [List.getElem?_map] at hcs
    obtain ⟨n, hn, rfl⟩ := Option.map_eq_some_iff.1 hcs
    rw [Hq.out i n hn]
    exact missed11_cl W' n inst ib ((hb.block ib (heap_lt HI.out)).trans HI.out)
  rintro e w1 ⟨v', rfl, hb, hF⟩
  have hF1 := hF (fun i => S i ∨ i = b) (fun i h1 h2 => h2.elim (fun h => by have := hS i h; omega) (fun h => by omega))
  have hv' : ∃ a n c, v' = .slice a n c := by
    obtain ⟨a, c, rfl, -⟩ := hF1
    exact ⟨a, _, c, rfl⟩
  have HF1 := hid hF1
  have HB := hid hb
  have HG1 := hid ((hb.block b hbl).trans HG.out)
  have k6' := cell_of HG1.out 6
  have f6 := free_of HG1.out 6
  clear hb hF hF1 k6
  obtain ⟨a, n, c, rfl⟩ := hv'
  go_wp2
  go_end0
  have hs : But (fun i => i = b) w1 (w1.setCell ⟨b, 6, none⟩ (.slice a n c)) := (relC_set b 6 w1 _).1
  refine ⟨rfl, (But.of HB.out).trans hs, _, setCell_at HG1.out 6 _, ?_⟩
  have hF2 := HF1.out.grow (goes_but (S := S) hs).sans
  rw [natsV_css] at hF2
  have e : keptC (q 0) (natsV x.insts) = natsV (withoutBy (fun k => decide (k = inst)) x.insts) := by
    rcases one_list hlen with h | ⟨y, h⟩
    · rw [h]; unfold keptC; split <;> rfl
    · have h0 := Hq.out 0 y (by rw [h]; rfl)
      rw [h0, h]
      unfold keptC withoutBy
      by_cases hy : y = inst <;> simp [natsV, hy]
  have e2 : keptN (q 0) x.insts.length = (keptC (q 0) (natsV x.insts)).length := by
    unfold keptN keptC
    split <;> simp [natsV]
  rw [← e]
  rw [e2] at hF2
  exact hF2.slr'
end Go.Proofs.YtjkbfoeakeoeiaaGreat
namespace Go.Proofs.YtjkbfoeakeoeiaaGreat
set_option maxRecDepth 100000
set_option maxHeartbeats 40000000
set_option linter.unusedSimpArgs false
set_option linter.unusedVariables false
open Go.RowKit
section
variable {w : World} {A B C D : Obj}
theorem box1_at : (w.alloc A).heap[w.heap.size]? = some A := alloc_new w A
theorem box1_b : Below w.heap.size w (w.alloc A) := (Below.refl _ w).alloc (Nat.le_refl _) _
theorem box2_a : ((w.alloc A).alloc B).heap[w.heap.size]? = some A := (alloc_old B (by simp)).trans (alloc_new w A)
theorem box2_at : ((w.alloc A).alloc B).heap[w.heap.size + 1]? = some B := by have := alloc_new (w.alloc A) B; simpa using this
theorem box2_b : Below w.heap.size w ((w.alloc A).alloc B) := box1_b.alloc (by simp) _
theorem box3_a : (((w.alloc A).alloc B).alloc C).heap[w.heap.size]? = some A := (alloc_old C (by simp; omega)).trans box2_a
theorem box3_at : (((w.alloc A).alloc B).alloc C).heap[w.heap.size + 1]? = some B := (alloc_old C (by simp)).trans box2_at
theorem box3_att : (((w.alloc A).alloc B).alloc C).heap[w.heap.size + 1 + 1]? = some C := by have := alloc_new ((w.alloc A).alloc B) C; simpa using this
theorem box3_b : Below w.heap.size w (((w.alloc A).alloc B).alloc C) := box2_b.alloc (by simp; omega) _
variable {P : Program} {f : FuncId} {args : Array Value} {R : Ending → World → Prop}
theorem calls_box1 (h : ∀ W, Hid (W.heap[w.heap.size]? = some A) → Hid (Below w.heap.size w W) → W.heap.size = w.heap.size + 1 → Calls P f args W R) : Calls P f args (w.alloc A) R := h _ box1_at box1_b (by simp)
theorem calls_box2 (h : ∀ W, Hid (W.heap[w.heap.size]? = some A) → Hid (W.heap[w.heap.size + 1]? = some B) → Hid (Below w.heap.size w W) → W.heap.size = w.heap.size + 2 → Calls P f args W R) : Calls P f args ((w.alloc A).alloc B) R := h _ box2_a box2_at box2_b (by simp)
theorem calls_box3 (h : ∀ W, Hid (W.heap[w.heap.size]? = some A) → Hid (W.heap[w.heap.size + 1]? = some B) → Hid (W.heap[w.heap.size + 1 + 1]? = some C) → Hid (Below w.heap.size w W) → W.heap.size = w.heap.size + 3 → Calls P f args W R) : Calls P f args (((w.alloc A).alloc B).alloc C) R := h _ box3_a box3_at box3_att box3_b (by simp)
variable {c : Code} {Q : Exit → Act → World → Prop} {a : Act}
theorem wp_box1 (h : ∀ W, Hid (W.heap[w.heap.size]? = some A) → Hid (Below w.heap.size w W) → W.heap.size = w.heap.size + 1 → c.wp P Q a W) : c.wp P Q a (w.alloc A) := h _ box1_at box1_b (by simp)
theorem wp_box2 (h : ∀ W, Hid (W.heap[w.heap.size]? = some A) → Hid (W.heap[w.heap.size + 1]? = some B) → Hid (Below w.heap.size w W) → W.heap.size = w.heap.size + 2 → c.wp P Q a W) : c.wp P Q a ((w.alloc A).alloc B) := h _ box2_a box2_at box2_b (by simp)
theorem wp_box3 (h : ∀ W, Hid (W.heap[w.heap.size]? = some A) → Hid (W.heap[w.heap.size + 1]? = some B) → Hid (W.heap[w.heap.size + 1 + 1]? = some C) → Hid (Below w.heap.size w W) → W.heap.size = w.heap.size + 3 → c.wp P Q a W) : c.wp P Q a (((w.alloc A).alloc B).alloc C) := h _ box3_a box3_at box3_att box3_b (by simp)
end
theorem keep_at {w w' : World} {b : Nat} {o : Obj} (hb : Below w.heap.size w w') (h : w.heap[b]? = some o) : w'.heap[b]? = some o := (hb.block b (heap_lt h)).trans h
theorem cells12 {w : World} {b : Nat} {v0 v1 v2 v3 v4 v5 v6 v7 v8 v9 v10 v11 : Value} {T : TypeId} {fr : Nat × Nat} (h : w.heap[b]? = some (.cells #[v0, v1, v2, v3, v4, v5, v6, v7, v8, v9, v10, v11] T fr)) :
    w.cell? ⟨b, 0, none⟩ = some v0 ∧ w.cell? ⟨b, 1, none⟩ = some v1 ∧ w.cell? ⟨b, 2, none⟩ = some v2 ∧ w.cell? ⟨b, 3, none⟩ = some v3 ∧ w.cell? ⟨b, 4, none⟩ = some v4 ∧ w.cell? ⟨b, 5, none⟩ = some v5 ∧ w.cell? ⟨b, 6, none⟩ = some v6 ∧ w.cell? ⟨b, 7, none⟩ = some v7 ∧ w.cell? ⟨b, 8, none⟩ = some v8 ∧ w.cell? ⟨b, 9, none⟩ = some v9 ∧ w.cell? ⟨b, 10, none⟩ = some v10 ∧ w.cell? ⟨b, 11, none⟩ = some v11 :=
  ⟨cell_of h 0, cell_of h 1, cell_of h 2, cell_of h 3, cell_of h 4, cell_of h 5, cell_of h 6, cell_of h 7, cell_of h 8, cell_of h 9, cell_of h 10, cell_of h 11⟩
theorem frees12 {w : World} {b : Nat} {cs : Array Value} {T : TypeId} (h : w.heap[b]? = some (.cells cs T (0, 0))) :
    w.frozen? ⟨b, 0, none⟩ = false ∧ w.frozen? ⟨b, 1, none⟩ = false ∧ w.frozen? ⟨b, 2, none⟩ = false ∧ w.frozen? ⟨b, 3, none⟩ = false ∧ w.frozen? ⟨b, 4, none⟩ = false ∧ w.frozen? ⟨b, 5, none⟩ = false ∧ w.frozen? ⟨b, 6, none⟩ = false ∧ w.frozen? ⟨b, 7, none⟩ = false ∧ w.frozen? ⟨b, 8, none⟩ = false ∧ w.frozen? ⟨b, 9, none⟩ = false ∧ w.frozen? ⟨b, 10, none⟩ = false ∧ w.frozen? ⟨b, 11, none⟩ = false :=
  ⟨free_of h 0, free_of h 1, free_of h 2, free_of h 3, free_of h 4, free_of h 5, free_of h 6, free_of h 7, free_of h 8, free_of h 9, free_of h 10, free_of h 11⟩
theorem set_other {w : World} {b : Nat} {o : Obj} (h : w.heap[b]? = some o) {p : Addr} (hp : p.block ≠ b) (v : Value) : (w.setCell p v).heap[b]? = some o :=
  ((But.setCell (F := fun i => i = p.block) (But.refl _ w) (p := p) (fun _ => rfl) v).block b (heap_lt h) (fun e => hp e.symm)).trans h
theorem set_but (w : World) (b i : Nat) (v : Value) : But (fun k => k = b) w (w.setCell ⟨b, i, none⟩ v) := But.setCell (F := fun k => k = b) (But.refl _ w) (p := ⟨b, i, none⟩) (fun _ => rfl) v
theorem post_set12 {P : Program} {f : Func} {R : Ending → World → Prop} {e : Exit} {a : Act} {W : World} {b : Nat} {v0 v1 v2 v3 v4 v5 v6 v7 v8 v9 v10 v11 z0 z1 z2 z3 z4 z5 z6 z7 z8 z9 z10 z11 : Value} {T : TypeId} (h : W.heap[b]? = some (.cells #[z0, z1, z2, z3, z4, z5, z6, z7, z8, z9, z10, z11] T (0, 0)))
    (k : ∀ W', Hid (W'.heap[b]? = some (.cells #[v0, v1, v2, v3, v4, v5, v6, v7, v8, v9, v10, v11] T (0, 0))) → Hid (But (fun i => i = b) W W') → bodyPost P f R e a W') : bodyPost P f R e a ((((((((((((W.setCell ⟨b, 0, none⟩ v0).setCell ⟨b, 1, none⟩ v1).setCell ⟨b, 2, none⟩ v2).setCell ⟨b, 3, none⟩ v3).setCell ⟨b, 4, none⟩ v4).setCell ⟨b, 5, none⟩ v5).setCell ⟨b, 6, none⟩ v6).setCell ⟨b, 7, none⟩ v7).setCell ⟨b, 8, none⟩ v8).setCell ⟨b, 9, none⟩ v9).setCell ⟨b, 10, none⟩ v10).setCell ⟨b, 11, none⟩ v11) := by
  have e0 := setCell_at h 0 v0
  have e1 := setCell_at e0 1 v1
  have e2 := setCell_at e1 2 v2
  have e3 := setCell_at e2 3 v3
  have e4 := setCell_at e3 4 v4
  have e5 := setCell_at e4 5 v5
  have e6 := setCell_at e5 6 v6
  have e7 := setCell_at e6 7 v7
  have e8 := setCell_at e7 8 v8
  have e9 := setCell_at e8 9 v9
  have e10 := setCell_at e9 10 v10
  have e11 := setCell_at e10 11 v11
  simp only [List.setIfInBounds_toArray, List.set_cons_zero, List.set_cons_succ] at e11
  refine k _ e11 ?_
  · exact (((((((((((set_but _ b 0 _).trans (set_but _ b 1 _)).trans (set_but _ b 2 _)).trans (set_but _ b 3 _)).trans (set_but _ b 4 _)).trans (set_but _ b 5 _)).trans (set_but _ b 6 _)).trans (set_but _ b 7 _)).trans (set_but _ b 8 _)).trans (set_but _ b 9 _)).trans (set_but _ b 10 _)).trans (set_but _ b 11 _)
theorem wp_set1 {P : Program} {c : Code} {Q : Exit → Act → World → Prop} {a : Act} {W : World} {b : Nat} {z v : Value} {T : TypeId} (h : W.heap[b]? = some (.cells #[z] T (0, 0)))
    (k : ∀ W', Hid (W'.heap[b]? = some (.cells #[v] T (0, 0))) → Hid (But (fun i => i = b) W W') → c.wp P Q a W') : c.wp P Q a (W.setCell ⟨b, 0, none⟩ v) := k _ (setCell_at h 0 v) (set_but W b 0 v)
theorem wp_set10 {P : Program} {c : Code} {Q : Exit → Act → World → Prop} {a : Act} {W : World} {b : Nat} {v0 v1 v2 v3 v4 v5 v6 v7 v8 v9 v10 v11 x : Value} {T : TypeId} (h : W.heap[b]? = some (.cells #[v0, v1, v2, v3, v4, v5, v6, v7, v8, v9, v10, v11] T (0, 0)))
    (k : ∀ W', Hid (W'.heap[b]? = some (.cells #[v0, v1, v2, v3, v4, v5, v6, v7, v8, v9, x, v11] T (0, 0))) → Hid (But (fun i => i = b) W W') → c.wp P Q a W') : c.wp P Q a (W.setCell ⟨b, 10, none⟩ x) := by
  refine k _ ?_ (set_but W b 10 x)
  have e := setCell_at h 10 x
  simp only [List.setIfInBounds_toArray, List.set_cons_zero, List.set_cons_succ] at e
  exact e
theorem wp_setc {P : Program} {c : Code} {Q : Exit → Act → World → Prop} {a : Act} {W : World} {b i : Nat} {cs : Array Value} {v : Value} {T : TypeId} (h : W.heap[b]? = some (.cells cs T (0, 0)))
    (k : ∀ W', W'.heap[b]? = some (.cells (cs.setIfInBounds i v) T (0, 0)) → Hid (But (fun i => i = b) W W') → c.wp P Q a W') : c.wp P Q a (W.setCell ⟨b, i, none⟩ v) := k _ (setCell_at h i v) (set_but W b i v)
end Go.Proofs.YtjkbfoeakeoeiaaGreat
namespace Go.Proofs.YtjkbfoeakeoeiaaGreat
set_option maxRecDepth 100000
set_option maxHeartbeats 40000000
set_option linter.unusedSimpArgs false
set_option linter.unusedVariables false
open Go.RowKit
theorem sees_grow {S T : Nat → Prop} {w W : World} (hb : Below w.heap.size w W) (h : ∀ b, b < w.heap.size → T b → S b) : Sees (sans S w) (sans T W) := ⟨fun p v hc => by
  obtain ⟨h1, h2⟩ := sans_cell hc
  have hlt := World.block_lt_of_cell? w _ h1
  rw [sans_cell' (fun h' => h2 (h _ hlt h')), hb.cell (p := p) hlt]
  exact h1⟩
theorem sees_refl {w : World} : Sees w w := ⟨fun _ _ h => h⟩
theorem sees_trans {a b c : World} (h : Sees a b) (k : Sees b c) : Sees a c := ⟨fun p v hc => k.cell p v (h.cell p v hc)⟩
def hidB (S : Nat → Prop) (n k : Nat) : Nat → Prop := fun i => S i ∨ (n ≤ i ∧ i < n + k)
theorem hidB_lt {S : Nat → Prop} {n k m : Nat} (hS : ∀ b, S b → b < n) (hk : n + k ≤ m) : ∀ b, hidB S n k b → b < m := fun b h => h.elim (fun h => by have := hS b h; omega) (fun h => by omega)
theorem hidB_old {S : Nat → Prop} {n k : Nat} : ∀ b, b < n → hidB S n k b → S b := fun b hb h => h.elim id (fun h => by omega)
theorem hidB_sees {S : Nat → Prop} {n k : Nat} {w : World} : Sees (sans (hidB S n k) w) (sans S w) := sees_sans (fun _ h => .inl h)
theorem goes_hid {S F : Nat → Prop} {w w' : World} (h : But F w w') (hF : ∀ i, F i → S i) : Goes S w S w' := ⟨h.mono (fun i _ hi => hF i hi), fun _ _ => Iff.rfl⟩
theorem StateAt.put {w0 W : World} {cs : List Value} {s : StateV} {vp vi vt vj vr vs vk vl vm : Value} (h : StateAt w0 cs s vp vi vt vj vr vs vk vl vm) (hb : Below w0.heap.size w0 W) (pos done made : Nat) {vl' vm' : Value} {l' : List LisV} {m' : List MsgV}
    (hl : ListAt LisV.at_ 7 W vl' l') (hm : ListAt MsgV.at_ 7 W vm' m') : StateAt W [U pos, U done, U made, vp, vi, vt, vj, vr, vs, vk, vl', vm'] { s with pos := pos, done := done, made := made, listed := l', msgs := m' } vp vi vt vj vr vs vk vl' vm' :=
  ⟨rfl, h.procs.grow DepV.st hb, h.insts.grow InstV.st hb, h.tokens.grow TokV.st hb, h.jobs.grow JobV.st hb, h.timers.grow TimV.st hb, h.subs.grow SubV.st hb, h.kept.grow KeptV.st hb, hl, hm⟩
theorem evListed_any (S : Nat → Prop) (w : World) (s : StateV) (r : RecV) (cs rc : List Value) (hS : ∀ b, S b → b < w.heap.size) (hs : StAt S w cs s) (hrec : RecAt S w rc r) (hl0 : s.listed = []) :
    Calls Tryz.prog 102 #[.agg cs.toArray, .agg rc.toArray] w fun e w' => ∃ cs', e = .returned (.agg cs'.toArray) ∧ StAt S w' cs' (evListed s r) ∧ Below w.heap.size w w' := by
  obtain ⟨vp, vi, vt, vj, vr, vs, vk, vl, vm, hs⟩ := hs
  have Hs := hid hs
  obtain ⟨hcs, hp, hi, ht, hj, hr, hs, hk, hl, hm⟩ := hs
  obtain ⟨xap, xcp, rfl, -⟩ := hp
  obtain ⟨xai, xci, rfl, -⟩ := hi
  obtain ⟨xat, xct, rfl, -⟩ := ht
  obtain ⟨xaj, xcj, rfl, -⟩ := hj
  obtain ⟨xar, xcr, rfl, -⟩ := hr
  obtain ⟨xas, xcs, rfl, -⟩ := hs
  obtain ⟨xak, xck, rfl, -⟩ := hk
  obtain ⟨xal, xcl, rfl, -⟩ := hl
  obtain ⟨xam, xcm, rfl, -⟩ := hm
  subst hcs
  obtain ⟨rv, hrc, hrv⟩ := hrec
  subst hrc
  have Hrv := hid hrv
  obtain ⟨ra, rk, rfl, -⟩ := hrv
  go_enter Tryz.func102, Tryz.ntmps102
  go_wp2_with fail
  refine calls_box3 ?_
  intro W0 h0 h1 h2 B0 hz
  rw [hl0]
  refine (putLis_nil _ _ _ _ _ _ _ _ W0 ⟨xal, xcl, rfl, Nat.zero_le _, by simp [maxLen], rfl, fun j u h => by cases h⟩ (by simp [Value.oneCell'])).mono ?_
  rintro e w1 ⟨v', rfl, ho, b1⟩
  obtain ⟨a1, c1, rfl⟩ := own_slice ho
  have HO := hid ho
  have B1 := hid b1
  have g0 := hid (keep_at b1 h0.out)
  have g2 := hid (keep_at b1 h2.out)
  obtain ⟨k0, k1, k2, k3, k4, k5, k6, k7, k8, k9, k10, k11⟩ := cells12 g0.out
  obtain ⟨z0, z1, z2, z3, z4, z5, z6, z7, z8, z9, z10, z11⟩ := cells12 g2.out
  have f10 := free_of g0.out 10
  obtain ⟨y0, y1, y2, y3, y4, y5, y6, y7, y8, y9, y10, y11⟩ := frees12 g2.out
  clear ho b1 h0 h1 h2
  go_wp2
  refine post_set12 (set_other g2.out (by simp; omega) _) ?_
  intro W9 h9 b9
  have B9 : Hid (Below w.heap.size w W9) := (B0.out.trans (B1.out.mono B0.out.size)).trans (((set_but w1 w.heap.size 10 _).below (by have := B1.out.size; omega) (fun k h => by omega)).trans (b9.out.below (by have := B1.out.size; simp; omega) (fun k h => by omega)))
  have HO9 := hid (own_but (own_but HO.out (set_but w1 w.heap.size 10 (.slice a1 1 c1)) (fun k h1 h2 => by omega)) b9.out (fun k h1 h2 => by omega))
  have hls : ListAt LisV.at_ 7 (sans S W9) (.slice a1 1 c1) [⟨r.key, r.key2, r.n, r.a, r.b, 0, []⟩] := own_list (css := [[U r.key, U r.key2, I r.n, .string r.a, .string r.b, .int .u64 0, .slice none 0 0]]) (by omega) HO9.out rfl (fun cs h => by simp at h; subst h; rfl) (fun i cs x h1 h2 => by
    match i, h1, h2 with
    | 0, h1, h2 => simp at h1 h2; subst h1 h2; exact ⟨.slice none 0 0, rfl, none, 0, rfl, Nat.le_refl _, by simp, fun i x h => by cases h⟩) (fun b h1 h2 => by have := hS b h2; omega)
  obtain ⟨k0, k1, k2, k3, k4, k5, k6, k7, k8, k9, k10, k11⟩ := cells12 h9.out
  have hst := Hs.out.put (sans_grow B9.out) s.pos s.done s.made hls (Hs.out.msgs.grow MsgV.st (sans_grow B9.out))
  have e : evListed s r = { s with pos := s.pos, done := s.done, made := s.made, listed := [⟨r.key, r.key2, r.n, r.a, r.b, 0, []⟩], msgs := s.msgs } := by
    unfold evListed
    rw [hl0]
    rfl
  rw [e]
  exact bodyPost_ret (v := .agg #[U s.pos, U s.done, U s.made, .slice xap s.procs.length xcp, .slice xai s.insts.length xci, .slice xat s.tokens.length xct, .slice xaj s.jobs.length xcj, .slice xar s.timers.length xcr, .slice xas s.subs.length xcs, .slice xak s.kept.length xck, .slice a1 1 c1, .slice xam s.msgs.length xcm]) (by simp [results, Tryz.results102, go_sem, k0, k1, k2, k3, k4, k5, k6, k7, k8, k9, k10, k11]) rfl ⟨[U s.pos, U s.done, U s.made, .slice xap s.procs.length xcp, .slice xai s.insts.length xci, .slice xat s.tokens.length xct, .slice xaj s.jobs.length xcj, .slice xar s.timers.length xcr, .slice xas s.subs.length xcs, .slice xak s.kept.length xck, .slice a1 1 c1, .slice xam s.msgs.length xcm], rfl, ⟨_, _, _, _, _, _, _, _, _, hst⟩, B9.out⟩
end Go.Proofs.YtjkbfoeakeoeiaaGreat
