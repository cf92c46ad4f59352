/- Keep: contracts (Gc Gd Ge). -/
import Derived.Test.YtjkbfoeakeoeiaaGreatV3
import Derived.Test.YtjkbfoeakeoeiaaGreatV7
import Derived.Lib.SliceRun
import Derived.Laws.CopyRow
namespace Go.Proofs.YtjkbfoeakeoeiaaGreat
set_option maxRecDepth 100000
set_option maxHeartbeats 40000000
set_option linter.unusedSimpArgs false
set_option linter.unusedVariables false
open Go.RowKit
theorem run_clear_row {P : Program} (w : World) (t e ty : TypeId) (z : Value) (size : Nat) (ht : P.underlying t = some (.slice e)) (hv : ∀ w, (zeroValue e).run P w = .ok z w) (hz : z.cells.size = size) (h1 : ∀ u ∈ z.cells, u.oneCell' = true)
    (g n c : Nat) (cur : Array Value) (t' : TypeId) (hb : w.heap[g]? = some (.cells cur t' (0, 0))) (hl : n * size ≤ cur.size) (hn : 0 < n) : ∃ cur', (Builtin.clear_ #[t] ty #[.slice (some ⟨g, 0, none⟩) n c]).run P w = .ok (.tuple #[]) (w.setRow g cur') := by
  obtain ⟨m, rfl⟩ : ∃ m, n = m + 1 := ⟨n - 1, by omega⟩
  have hst := run_storeCells_at (P := P) g 0 t' (Builtin.zeroCells z.cells (m + 1)).toList 0 cur w hb (by simp [Builtin.zeroCells, hz]; omega) (by
    intro v hv'
    simp only [Builtin.zeroCells, Array.toList_map, List.mem_map] at hv'
    obtain ⟨i, hi, rfl⟩ := hv'
    by_cases h0 : size = 0
    · simp [hz, h0] at hi
    · have hlt : i % z.cells.size < z.cells.size := Nat.mod_lt _ (by omega)
      rw [getElem!_pos z.cells _ hlt]
      exact h1 _ (Array.getElem_mem hlt))
  refine ⟨_, by
    simp [Builtin.clear_, run_underlying ht, hv]
    rw [hst]
    rfl⟩
theorem setRow_but (w : World) (g : Nat) (cur : Array Value) : But (fun b => b = g) w (w.setRow g cur) :=
  ⟨rfl, rfl, rfl, by simp [World.setRow], fun k _ hk => by
    simp only [World.setRow, Array.getElem?_modify]
    rw [if_neg (fun e => hk e.symm)]⟩
def delPost (b : Bool) (n : Nat) (v v' : Value) (w w' : World) : Prop := if b = true ∧ 0 < n then ∃ a c, v' = .slice a 0 c else v' = v ∧ Below w.heap.size w w'
def keptN (b : Bool) (n : Nat) : Nat := if b = true then 0 else n
def keptC (b : Bool) (l : List Value) : List Value := if b = true then [] else l
def overC (cur : Array Value) (o : Nat) (us : List Value) : Array Value := (cur.toList.take o ++ us ++ cur.toList.drop (o + us.length)).toArray
theorem zeroLis (w : World) : (zeroValue 58).run Tryz.prog w = .ok (.agg #[.int .u64 0, .int .u64 0, .int .i64 0, .string ⟨#[]⟩, .string ⟨#[]⟩, .int .u64 0, .slice none 0 0]) w := by kernel_rfl
theorem delLis_any {n base : Nat} {v : Value} {css : List (List Value)} (w : World) (hown : w.ownsRow base 58 7 v n css.flatten) (hs : ∀ cs ∈ css, cs.length = 7) (hl : css.length = n) (hn1 : n ≤ 1) (q : Nat → Bool) (g : Nat) (lb : Array Value)
    (eg : ∀ args w, (callFunc g args).run Tryz.prog w = .ok (.enter g args) w)
    (hp : ∀ (W : World) (i : Nat) (cs : List Value), css[i]? = some cs → Below w.heap.size w W → Calls Tryz.prog g (#[.agg cs.toArray] ++ lb) W fun e w' => e = .returned (.bool (q i)) ∧ Below W.heap.size W w') :
    Calls Tryz.prog 213 #[v, .func (.func g) #[] lb] w fun e w' => ∃ v', e = .returned v' ∧ But (ownB v) w w' ∧ delPost (q 0) n v v' w w' := by
  have hi := idxLis_any w (FlatAt.of_own hown) hs hl q g lb eg hp
  have HI := hid hi
  have HO := hid hown
  clear hi hp
  obtain ⟨ag, cp, rfl⟩ := own_slice hown
  by_cases hq : q 0 = true ∧ 0 < n
  · have hn : n = 1 := by omega
    subst hn
    obtain ⟨hq0, -⟩ := hq
    have hf : fstI q 1 = ((0 : Nat) : Int) := fstI_hit (by omega) hq0 (fun j hj => by omega)
    have Hq : Hid (q 0 = true) := hq0
    clear hq0
    rcases hown.2 with ⟨hv, h0⟩ | ⟨b, cap, cur, hv, hb, hg, hnc, hcm, hcur, htk⟩
    · omega
    · cases hv
      have HG := hid hg
      have Hcur := hid hcur
      clear hg hcur htk hown
      unfold maxLen at hcm
      go_enter Tryz.func213, Tryz.ntmps213
      go_wp2_with fail
      rw [hf] at HI
      refine HI.out.mono ?_
      rintro e w1 ⟨rfl, b1⟩
      have hg1 := hid ((b1.block b (heap_lt HG.out)).trans HG.out)
      obtain ⟨cur', hcl⟩ := run_clear_row (P := Tryz.prog) w1 30 58 0 (.agg #[.int .u64 0, .int .u64 0, .int .i64 0, .string ⟨#[]⟩, .string ⟨#[]⟩, .int .u64 0, .slice none 0 0]) 7 Tryz.underlying30 zeroLis rfl (by simp [Value.cells, Value.oneCell']) b 1 cp cur _ hg1.out (by rw [Hcur.out]; omega) (by omega)
      go_wp2_with fail
      go_loopw [5, 6] (fun va vi wr => va = .int .i64 0 ∧ vi = .int .i64 1 ∧ wr = w1) (fun _ _ _ => 0)
      case atStart => exact ⟨rfl, rfl, rfl⟩
      case round =>
        obtain ⟨rfl, rfl, rfl⟩ := hrel
        have hcp0 : (cp = 0) = False := by simp; omega
        go_wp2_with fail
        go_ret
        refine ⟨_, rfl, (But.of b1).trans ((setRow_but _ _ _).mono (fun i _ hi => by subst hi; rfl)), ?_⟩
        unfold delPost
        rw [if_pos ⟨Hq.out, by omega⟩]
        exact ⟨_, _, rfl⟩
  · have hf : fstI q n = -1 := fstI_miss fun j hj => by
      have : j = 0 := by omega
      subst this
      cases h : q 0 with
      | true => exact absurd ⟨h, hj⟩ hq
      | false => rfl
    have Hq := hid hq
    clear hq hown
    go_enter Tryz.func213, Tryz.ntmps213
    go_wp2_with fail
    rw [hf] at HI
    refine HI.out.mono ?_
    rintro e w1 ⟨rfl, b1⟩
    go_wp2
    go_ret
    refine ⟨_, rfl, But.of b1, ?_⟩
    unfold delPost
    rw [if_neg Hq.out]
    exact ⟨rfl, b1⟩
theorem withoutLis_any {n : Nat} {v : Value} {css : List (List Value)} (w : World) (hF : FlatAt 7 w v n css.flatten) (h1 : ∀ u ∈ css.flatten, u.oneCell' = true) (hs : ∀ cs ∈ css, cs.length = 7) (hl : css.length = n) (hn1 : n ≤ 1) (q : Nat → Bool) (g : Nat) (lb : Array Value)
    (eg : ∀ args w, (callFunc g args).run Tryz.prog w = .ok (.enter g args) w)
    (hp : ∀ (W : World) (i : Nat) (cs : List Value), css[i]? = some cs → Below w.heap.size w W → Calls Tryz.prog g (#[.agg cs.toArray] ++ lb) W fun e w' => e = .returned (.bool (q i)) ∧ Below W.heap.size W w') :
    Calls Tryz.prog 155 #[v, .func (.func g) #[] lb] w fun e w' => ∃ v', e = .returned v' ∧ Below w.heap.size w w' ∧ ∀ S : Nat → Prop, (∀ b, w.heap.size ≤ b → ¬ S b) → FlatAt 7 (sans S w') v' (keptN (q 0) n) (keptC (q 0) css.flatten) := by
  have hc := cloneLis_any w hF h1 (by omega)
  go_enter Tryz.func155, Tryz.ntmps155
  have HF := hid hF
  have Hp := hid hp
  clear hp hF
  go_wp2_with fail
  refine hc.mono ?_
  rintro e w1 ⟨u, rfl, hown, b1⟩
  have HO := hid hown
  have B1 := hid b1
  clear hown b1
  go_wp2_with fail
  refine (delLis_any w1 HO.out hs hl hn1 q g lb eg (fun W i cs hx hb => Hp.out W i cs hx (B1.out.trans (hb.mono B1.out.size)))).mono ?_
  rintro e w2 ⟨v', rfl, hb2, h2⟩
  have H2 := hid h2
  have B2 := hid (B1.out.trans (hb2.below B1.out.size (fun k hk => (HO.out.lt k hk).1)))
  clear hb2 h2
  go_wp2
  go_ret
  refine ⟨_, rfl, B2.out, fun S hS => ?_⟩
  have h2 := H2.out
  unfold delPost at h2
  unfold keptN keptC
  by_cases hq : q 0 = true
  · rw [if_pos hq, if_pos hq]
    by_cases hn : 0 < n
    · rw [if_pos ⟨hq, hn⟩] at h2
      obtain ⟨a, c, rfl⟩ := h2
      exact ⟨a, c, rfl, Nat.zero_le _, by simp [maxLen], by simp, fun j u hu => by cases hu⟩
    · rw [if_neg (fun h => hn h.2)] at h2
      obtain ⟨rfl, -⟩ := h2
      obtain rfl : n = 0 := by omega
      obtain ⟨a, c, rfl⟩ := own_slice HO.out
      exact ⟨a, c, rfl, Nat.zero_le _, by simp [maxLen], by simp, fun j u hu => by cases hu⟩
  · rw [if_neg hq, if_neg hq]
    rw [if_neg (fun h => hq h.1)] at h2
    obtain ⟨rfl, b2⟩ := h2
    exact FlatAt.of_own (own_sans (own_but HO.out (But.of (F := fun _ => False) b2) (fun k _ h => h)) hS)
theorem zeroMsg (w : World) : (zeroValue 66).run Tryz.prog w = .ok (.agg #[.int .u64 0, .string ⟨#[]⟩, .string ⟨#[]⟩, .string ⟨#[]⟩, .int .i64 0, .slice none 0 0, .slice none 0 0]) w := by kernel_rfl
theorem delMsg_any {n base : Nat} {v : Value} {css : List (List Value)} (w : World) (hown : w.ownsRow base 66 7 v n css.flatten) (hs : ∀ cs ∈ css, cs.length = 7) (hl : css.length = n) (hn1 : n ≤ 1) (q : Nat → Bool) (g : Nat) (lb : Array Value)
    (eg : ∀ args w, (callFunc g args).run Tryz.prog w = .ok (.enter g args) w)
    (hp : ∀ (W : World) (i : Nat) (cs : List Value), css[i]? = some cs → Below w.heap.size w W → Calls Tryz.prog g (#[.agg cs.toArray] ++ lb) W fun e w' => e = .returned (.bool (q i)) ∧ Below W.heap.size W w') :
    Calls Tryz.prog 210 #[v, .func (.func g) #[] lb] w fun e w' => ∃ v', e = .returned v' ∧ But (ownB v) w w' ∧ delPost (q 0) n v v' w w' := by
  have hi := idxMsg_any w (FlatAt.of_own hown) hs hl q g lb eg hp
  have HI := hid hi
  have HO := hid hown
  clear hi hp
  obtain ⟨ag, cp, rfl⟩ := own_slice hown
  by_cases hq : q 0 = true ∧ 0 < n
  · have hn : n = 1 := by omega
    subst hn
    obtain ⟨hq0, -⟩ := hq
    have hf : fstI q 1 = ((0 : Nat) : Int) := fstI_hit (by omega) hq0 (fun j hj => by omega)
    have Hq : Hid (q 0 = true) := hq0
    clear hq0
    rcases hown.2 with ⟨hv, h0⟩ | ⟨b, cap, cur, hv, hb, hg, hnc, hcm, hcur, htk⟩
    · omega
    · cases hv
      have HG := hid hg
      have Hcur := hid hcur
      clear hg hcur htk hown
      unfold maxLen at hcm
      go_enter Tryz.func210, Tryz.ntmps210
      go_wp2_with fail
      rw [hf] at HI
      refine HI.out.mono ?_
      rintro e w1 ⟨rfl, b1⟩
      have hg1 := hid ((b1.block b (heap_lt HG.out)).trans HG.out)
      obtain ⟨cur', hcl⟩ := run_clear_row (P := Tryz.prog) w1 31 66 0 (.agg #[.int .u64 0, .string ⟨#[]⟩, .string ⟨#[]⟩, .string ⟨#[]⟩, .int .i64 0, .slice none 0 0, .slice none 0 0]) 7 Tryz.underlying31 zeroMsg rfl (by simp [Value.cells, Value.oneCell']) b 1 cp cur _ hg1.out (by rw [Hcur.out]; omega) (by omega)
      go_wp2_with fail
      go_loopw [5, 6] (fun va vi wr => va = .int .i64 0 ∧ vi = .int .i64 1 ∧ wr = w1) (fun _ _ _ => 0)
      case atStart => exact ⟨rfl, rfl, rfl⟩
      case round =>
        obtain ⟨rfl, rfl, rfl⟩ := hrel
        have hcp0 : (cp = 0) = False := by simp; omega
        go_wp2_with fail
        go_ret
        refine ⟨_, rfl, (But.of b1).trans ((setRow_but _ _ _).mono (fun i _ hi => by subst hi; rfl)), ?_⟩
        unfold delPost
        rw [if_pos ⟨Hq.out, by omega⟩]
        exact ⟨_, _, rfl⟩
  · have hf : fstI q n = -1 := fstI_miss fun j hj => by
      have : j = 0 := by omega
      subst this
      cases h : q 0 with
      | true => exact absurd ⟨h, hj⟩ hq
      | false => rfl
    have Hq := hid hq
    clear hq hown
    go_enter Tryz.func210, Tryz.ntmps210
    go_wp2_with fail
    rw [hf] at HI
    refine HI.out.mono ?_
    rintro e w1 ⟨rfl, b1⟩
    go_wp2
    go_ret
    refine ⟨_, rfl, But.of b1, ?_⟩
    unfold delPost
    rw [if_neg Hq.out]
    exact ⟨rfl, b1⟩
theorem withoutMsg_any {n : Nat} {v : Value} {css : List (List Value)} (w : World) (hF : FlatAt 7 w v n css.flatten) (h1 : ∀ u ∈ css.flatten, u.oneCell' = true) (hs : ∀ cs ∈ css, cs.length = 7) (hl : css.length = n) (hn1 : n ≤ 1) (q : Nat → Bool) (g : Nat) (lb : Array Value)
    (eg : ∀ args w, (callFunc g args).run Tryz.prog w = .ok (.enter g args) w)
    (hp : ∀ (W : World) (i : Nat) (cs : List Value), css[i]? = some cs → Below w.heap.size w W → Calls Tryz.prog g (#[.agg cs.toArray] ++ lb) W fun e w' => e = .returned (.bool (q i)) ∧ Below W.heap.size W w') :
    Calls Tryz.prog 147 #[v, .func (.func g) #[] lb] w fun e w' => ∃ v', e = .returned v' ∧ Below w.heap.size w w' ∧ ∀ S : Nat → Prop, (∀ b, w.heap.size ≤ b → ¬ S b) → FlatAt 7 (sans S w') v' (keptN (q 0) n) (keptC (q 0) css.flatten) := by
  have hc := cloneMsg_any w hF h1 (by omega)
  go_enter Tryz.func147, Tryz.ntmps147
  have HF := hid hF
  have Hp := hid hp
  clear hp hF
  go_wp2_with fail
  refine hc.mono ?_
  rintro e w1 ⟨u, rfl, hown, b1⟩
  have HO := hid hown
  have B1 := hid b1
  clear hown b1
  go_wp2_with fail
  refine (delMsg_any w1 HO.out hs hl hn1 q g lb eg (fun W i cs hx hb => Hp.out W i cs hx (B1.out.trans (hb.mono B1.out.size)))).mono ?_
  rintro e w2 ⟨v', rfl, hb2, h2⟩
  have H2 := hid h2
  have B2 := hid (B1.out.trans (hb2.below B1.out.size (fun k hk => (HO.out.lt k hk).1)))
  clear hb2 h2
  go_wp2
  go_ret
  refine ⟨_, rfl, B2.out, fun S hS => ?_⟩
  have h2 := H2.out
  unfold delPost at h2
  unfold keptN keptC
  by_cases hq : q 0 = true
  · rw [if_pos hq, if_pos hq]
    by_cases hn : 0 < n
    · rw [if_pos ⟨hq, hn⟩] at h2
      obtain ⟨a, c, rfl⟩ := h2
      exact ⟨a, c, rfl, Nat.zero_le _, by simp [maxLen], by simp, fun j u hu => by cases hu⟩
    · rw [if_neg (fun h => hn h.2)] at h2
      obtain ⟨rfl, -⟩ := h2
      obtain rfl : n = 0 := by omega
      obtain ⟨a, c, rfl⟩ := own_slice HO.out
      exact ⟨a, c, rfl, Nat.zero_le _, by simp [maxLen], by simp, fun j u hu => by cases hu⟩
  · rw [if_neg hq, if_neg hq]
    rw [if_neg (fun h => hq h.1)] at h2
    obtain ⟨rfl, b2⟩ := h2
    exact FlatAt.of_own (own_sans (own_but HO.out (But.of (F := fun _ => False) b2) (fun k _ h => h)) hS)
theorem zeroNat (w : World) : (zeroValue 22).run Tryz.prog w = .ok (.int .u64 0) w := by kernel_rfl
theorem delNat_any {n base : Nat} {v : Value} {css : List (List Value)} (w : World) (hown : w.ownsRow base 22 1 v n css.flatten) (hs : ∀ cs ∈ css, cs.length = 1) (hl : css.length = n) (hn1 : n ≤ 1) (q : Nat → Bool) (g : Nat) (lb : Array Value)
    (eg : ∀ args w, (callFunc g args).run Tryz.prog w = .ok (.enter g args) w)
    (hp : ∀ (W : World) (i : Nat) (cs : List Value), css[i]? = some cs → Below w.heap.size w W → Calls Tryz.prog g (#[cs.headD undef] ++ lb) W fun e w' => e = .returned (.bool (q i)) ∧ Below W.heap.size W w') :
    Calls Tryz.prog 214 #[v, .func (.func g) #[] lb] w fun e w' => ∃ v', e = .returned v' ∧ But (ownB v) w w' ∧ delPost (q 0) n v v' w w' := by
  have hi := idxNat_any w (FlatAt.of_own hown) hs hl q g lb eg hp
  have HI := hid hi
  have HO := hid hown
  clear hi hp
  obtain ⟨ag, cp, rfl⟩ := own_slice hown
  by_cases hq : q 0 = true ∧ 0 < n
  · have hn : n = 1 := by omega
    subst hn
    obtain ⟨hq0, -⟩ := hq
    have hf : fstI q 1 = ((0 : Nat) : Int) := fstI_hit (by omega) hq0 (fun j hj => by omega)
    have Hq : Hid (q 0 = true) := hq0
    clear hq0
    rcases hown.2 with ⟨hv, h0⟩ | ⟨b, cap, cur, hv, hb, hg, hnc, hcm, hcur, htk⟩
    · omega
    · cases hv
      have HG := hid hg
      have Hcur := hid hcur
      clear hg hcur htk hown
      unfold maxLen at hcm
      go_enter Tryz.func214, Tryz.ntmps214
      go_wp2_with fail
      rw [hf] at HI
      refine HI.out.mono ?_
      rintro e w1 ⟨rfl, b1⟩
      have hg1 := hid ((b1.block b (heap_lt HG.out)).trans HG.out)
      obtain ⟨cur', hcl⟩ := run_clear_row (P := Tryz.prog) w1 64 22 0 (.int .u64 0) 1 Tryz.underlying64 zeroNat rfl (by simp [Value.cells, Value.oneCell']) b 1 cp cur _ hg1.out (by rw [Hcur.out]; omega) (by omega)
      go_wp2_with fail
      go_loopw [5, 6] (fun va vi wr => va = .int .i64 0 ∧ vi = .int .i64 1 ∧ wr = w1) (fun _ _ _ => 0)
      case atStart => exact ⟨rfl, rfl, rfl⟩
      case round =>
        obtain ⟨rfl, rfl, rfl⟩ := hrel
        have hcp0 : (cp = 0) = False := by simp; omega
        go_wp2_with fail
        go_ret
        refine ⟨_, rfl, (But.of b1).trans ((setRow_but _ _ _).mono (fun i _ hi => by subst hi; rfl)), ?_⟩
        unfold delPost
        rw [if_pos ⟨Hq.out, by omega⟩]
        exact ⟨_, _, rfl⟩
  · have hf : fstI q n = -1 := fstI_miss fun j hj => by
      have : j = 0 := by omega
      subst this
      cases h : q 0 with
      | true => exact absurd ⟨h, hj⟩ hq
      | false => rfl
    have Hq := hid hq
    clear hq hown
    go_enter Tryz.func214, Tryz.ntmps214
    go_wp2_with fail
    rw [hf] at HI
    refine HI.out.mono ?_
    rintro e w1 ⟨rfl, b1⟩
    go_wp2
    go_ret
    refine ⟨_, rfl, But.of b1, ?_⟩
    unfold delPost
    rw [if_neg Hq.out]
    exact ⟨rfl, b1⟩
theorem withoutNat_any {n : Nat} {v : Value} {css : List (List Value)} (w : World) (hF : FlatAt 1 w v n css.flatten) (h1 : ∀ u ∈ css.flatten, u.oneCell' = true) (hs : ∀ cs ∈ css, cs.length = 1) (hl : css.length = n) (hn1 : n ≤ 1) (q : Nat → Bool) (g : Nat) (lb : Array Value)
    (eg : ∀ args w, (callFunc g args).run Tryz.prog w = .ok (.enter g args) w)
    (hp : ∀ (W : World) (i : Nat) (cs : List Value), css[i]? = some cs → Below w.heap.size w W → Calls Tryz.prog g (#[cs.headD undef] ++ lb) W fun e w' => e = .returned (.bool (q i)) ∧ Below W.heap.size W w') :
    Calls Tryz.prog 157 #[v, .func (.func g) #[] lb] w fun e w' => ∃ v', e = .returned v' ∧ Below w.heap.size w w' ∧ ∀ S : Nat → Prop, (∀ b, w.heap.size ≤ b → ¬ S b) → FlatAt 1 (sans S w') v' (keptN (q 0) n) (keptC (q 0) css.flatten) := by
  have hc := cloneNat_any w hF h1 (by omega)
  go_enter Tryz.func157, Tryz.ntmps157
  have HF := hid hF
  have Hp := hid hp
  clear hp hF
  go_wp2_with fail
  refine hc.mono ?_
  rintro e w1 ⟨u, rfl, hown, b1⟩
  have HO := hid hown
  have B1 := hid b1
  clear hown b1
  go_wp2_with fail
  refine (delNat_any w1 HO.out hs hl hn1 q g lb eg (fun W i cs hx hb => Hp.out W i cs hx (B1.out.trans (hb.mono B1.out.size)))).mono ?_
  rintro e w2 ⟨v', rfl, hb2, h2⟩
  have H2 := hid h2
  have B2 := hid (B1.out.trans (hb2.below B1.out.size (fun k hk => (HO.out.lt k hk).1)))
  clear hb2 h2
  go_wp2
  go_ret
  refine ⟨_, rfl, B2.out, fun S hS => ?_⟩
  have h2 := H2.out
  unfold delPost at h2
  unfold keptN keptC
  by_cases hq : q 0 = true
  · rw [if_pos hq, if_pos hq]
    by_cases hn : 0 < n
    · rw [if_pos ⟨hq, hn⟩] at h2
      obtain ⟨a, c, rfl⟩ := h2
      exact ⟨a, c, rfl, Nat.zero_le _, by simp [maxLen], by simp, fun j u hu => by cases hu⟩
    · rw [if_neg (fun h => hn h.2)] at h2
      obtain ⟨rfl, -⟩ := h2
      obtain rfl : n = 0 := by omega
      obtain ⟨a, c, rfl⟩ := own_slice HO.out
      exact ⟨a, c, rfl, Nat.zero_le _, by simp [maxLen], by simp, fun j u hu => by cases hu⟩
  · rw [if_neg hq, if_neg hq]
    rw [if_neg (fun h => hq h.1)] at h2
    obtain ⟨rfl, b2⟩ := h2
    exact FlatAt.of_own (own_sans (own_but HO.out (But.of (F := fun _ => False) b2) (fun k _ h => h)) hS)
end Go.Proofs.YtjkbfoeakeoeiaaGreat
namespace Go.Proofs.YtjkbfoeakeoeiaaGreat
set_option maxRecDepth 100000
set_option maxHeartbeats 40000000
set_option linter.unusedSimpArgs false
set_option linter.unusedVariables false
open Go.RowKit
def chgPost (b : Bool) (n k : Nat) (T : TypeId) (v v' : Value) (F : Nat → List Value → World → Prop) (w w' : World) : Prop :=
  if b = true ∧ 0 < n then ∃ blk us, us.length = k ∧ v'.ownBlock = some blk ∧ F blk us w' ∧ w'.ownsRow w.heap.size T k v' 1 us else v' = v
theorem over_take {cur : Array Value} {us : List Value} {k : Nat} (hk : us.length = k) : (overC cur 0 us).toList.take (1 * k) = us := by
  subst hk
  simp [overC]
theorem over_size {cur : Array Value} {us : List Value} (h : us.length ≤ cur.size) : (overC cur 0 us).size = cur.size := by
  simp [overC]
  omega
theorem changeLis_any {n : Nat} {v : Value} {css : List (List Value)} (w : World) (hF : FlatAt 7 w v n css.flatten) (h1 : ∀ u ∈ css.flatten, u.oneCell' = true) (hs : ∀ cs ∈ css, cs.length = 7) (hl : css.length = n) (hn1 : n ≤ 1) (q : Nat → Bool) (g : Nat) (lb : Array Value)
    (eg : ∀ args w, (callFunc g args).run Tryz.prog w = .ok (.enter g args) w)
    (hp : ∀ (W : World) (i : Nat) (cs : List Value), css[i]? = some cs → Below w.heap.size w W → Calls Tryz.prog g (#[.agg cs.toArray] ++ lb) W fun e w' => e = .returned (.bool (q i)) ∧ Below W.heap.size W w')
    (t : Nat) (lt : Array Value) (et : ∀ args w, (callFunc t args).run Tryz.prog w = .ok (.enter t args) w) (F : Nat → List Value → World → Prop)
    (ht : ∀ (W : World) (cs : List Value) (b : Nat) (cur : Array Value), css = [cs] → Below w.heap.size w W → w.heap.size ≤ b → W.heap[b]? = some (.cells cur 58 (0, 0)) → 7 ≤ cur.size → cur.toList.take 7 = cs →
      Calls Tryz.prog t (#[.pointer (some ⟨b, 0, none⟩)] ++ lt) W fun e w' => e = .returned (.tuple #[]) ∧ But (fun x => x = b) W w' ∧ ∃ us, us.length = 7 ∧ w'.heap[b]? = some (.cells (overC cur 0 us) 58 (0, 0)) ∧ F b us w') :
    Calls Tryz.prog 151 #[v, .func (.func g) #[] lb, .func (.func t) #[] lt] w fun e w' => ∃ v', e = .returned v' ∧ Below w.heap.size w w' ∧ chgPost (q 0) n 7 58 v v' F w w' := by
  have HI := hid (idxLis_any w hF hs hl q g lb eg hp)
  have HF := hid hF
  have HT := hid ht
  have H1 := hid h1
  clear hp ht hF h1
  by_cases hq : q 0 = true ∧ 0 < n
  · have hn : n = 1 := by omega
    subst hn
    obtain ⟨hq0, -⟩ := hq
    have hf : fstI q 1 = ((0 : Nat) : Int) := fstI_hit (by omega) hq0 (fun j hj => by omega)
    have Hq : Hid (q 0 = true) := hq0
    clear hq0
    obtain ⟨cs, hcs⟩ : ∃ cs, css = [cs] := List.length_eq_one_iff.1 hl
    have Hcs := hid hcs
    clear hcs
    go_enter Tryz.func151, Tryz.ntmps151
    go_wp2_with fail
    rw [hf] at HI
    refine HI.out.mono ?_
    rintro e w1 ⟨rfl, b1⟩
    have B1 := hid b1
    clear b1
    go_wp2_with fail
    refine (cloneLis_any w1 (HF.out.grow B1.out) H1.out (by omega)).mono ?_
    rintro e w2 ⟨u, rfl, hown, b2⟩
    have B2 := hid (B1.out.trans (b2.mono B1.out.size))
    rcases hown.2 with ⟨-, h0⟩ | ⟨b, cap, cur, rfl, hb, hg, hnc, hcm, hcur, htk⟩
    · omega
    have HO := hid hown
    have HG := hid hg
    have hlen := B1.out.size
    have htk' := htk
    rw [Hcs.out] at htk'
    simp only [List.flatten_cons, List.flatten_nil, List.append_nil, Nat.one_mul] at htk'
    have HC := hid (HT.out w2 cs b cur Hcs.out B2.out (by omega) HG.out (by omega) htk')
    have Hcur := hid hcur
    clear hown hg htk htk' b2 hcur
    unfold maxLen at hcm
    go_wp2_with (go_at_fn t; refine HC.out.mono ?_; rintro e w3 ⟨rfl, hb3, us, hus, hg3, hF3⟩)
    go_ret
    have B3 := B2.out.trans (hb3.below B2.out.size (fun k hk => by subst hk; omega))
    refine ⟨_, rfl, B3, ?_⟩
    unfold chgPost
    rw [if_pos ⟨Hq.out, by omega⟩]
    have hc := Hcur.out
    refine ⟨b, us, hus, rfl, hF3, by rw [hus], .inr ⟨b, cap, _, rfl, by omega, hg3, hnc, by unfold maxLen; omega, by rw [over_size (by omega)]; exact hc, over_take hus⟩⟩
  · have hf : fstI q n = -1 := fstI_miss fun j hj => by
      have : j = 0 := by omega
      subst this
      cases h : q 0 with
      | true => exact absurd ⟨h, hj⟩ hq
      | false => rfl
    have Hq := hid hq
    clear hq
    go_enter Tryz.func151, Tryz.ntmps151
    go_wp2_with fail
    rw [hf] at HI
    refine HI.out.mono ?_
    rintro e w1 ⟨rfl, b1⟩
    go_wp2
    go_ret
    refine ⟨_, rfl, b1, ?_⟩
    unfold chgPost
    rw [if_neg Hq.out]
    rfl
theorem changeMsg_any {n : Nat} {v : Value} {css : List (List Value)} (w : World) (hF : FlatAt 7 w v n css.flatten) (h1 : ∀ u ∈ css.flatten, u.oneCell' = true) (hs : ∀ cs ∈ css, cs.length = 7) (hl : css.length = n) (hn1 : n ≤ 1) (q : Nat → Bool) (g : Nat) (lb : Array Value)
    (eg : ∀ args w, (callFunc g args).run Tryz.prog w = .ok (.enter g args) w)
    (hp : ∀ (W : World) (i : Nat) (cs : List Value), css[i]? = some cs → Below w.heap.size w W → Calls Tryz.prog g (#[.agg cs.toArray] ++ lb) W fun e w' => e = .returned (.bool (q i)) ∧ Below W.heap.size W w')
    (t : Nat) (lt : Array Value) (et : ∀ args w, (callFunc t args).run Tryz.prog w = .ok (.enter t args) w) (F : Nat → List Value → World → Prop)
    (ht : ∀ (W : World) (cs : List Value) (b : Nat) (cur : Array Value), css = [cs] → Below w.heap.size w W → w.heap.size ≤ b → W.heap[b]? = some (.cells cur 66 (0, 0)) → 7 ≤ cur.size → cur.toList.take 7 = cs →
      Calls Tryz.prog t (#[.pointer (some ⟨b, 0, none⟩)] ++ lt) W fun e w' => e = .returned (.tuple #[]) ∧ But (fun x => x = b) W w' ∧ ∃ us, us.length = 7 ∧ w'.heap[b]? = some (.cells (overC cur 0 us) 66 (0, 0)) ∧ F b us w') :
    Calls Tryz.prog 153 #[v, .func (.func g) #[] lb, .func (.func t) #[] lt] w fun e w' => ∃ v', e = .returned v' ∧ Below w.heap.size w w' ∧ chgPost (q 0) n 7 66 v v' F w w' := by
  have HI := hid (idxMsg_any w hF hs hl q g lb eg hp)
  have HF := hid hF
  have HT := hid ht
  have H1 := hid h1
  clear hp ht hF h1
  by_cases hq : q 0 = true ∧ 0 < n
  · have hn : n = 1 := by omega
    subst hn
    obtain ⟨hq0, -⟩ := hq
    have hf : fstI q 1 = ((0 : Nat) : Int) := fstI_hit (by omega) hq0 (fun j hj => by omega)
    have Hq : Hid (q 0 = true) := hq0
    clear hq0
    obtain ⟨cs, hcs⟩ : ∃ cs, css = [cs] := List.length_eq_one_iff.1 hl
    have Hcs := hid hcs
    clear hcs
    go_enter Tryz.func153, Tryz.ntmps153
    go_wp2_with fail
    rw [hf] at HI
    refine HI.out.mono ?_
    rintro e w1 ⟨rfl, b1⟩
    have B1 := hid b1
    clear b1
    go_wp2_with fail
    refine (cloneMsg_any w1 (HF.out.grow B1.out) H1.out (by omega)).mono ?_
    rintro e w2 ⟨u, rfl, hown, b2⟩
    have B2 := hid (B1.out.trans (b2.mono B1.out.size))
    rcases hown.2 with ⟨-, h0⟩ | ⟨b, cap, cur, rfl, hb, hg, hnc, hcm, hcur, htk⟩
    · omega
    have HO := hid hown
    have HG := hid hg
    have hlen := B1.out.size
    have htk' := htk
    rw [Hcs.out] at htk'
    simp only [List.flatten_cons, List.flatten_nil, List.append_nil, Nat.one_mul] at htk'
    have HC := hid (HT.out w2 cs b cur Hcs.out B2.out (by omega) HG.out (by omega) htk')
    have Hcur := hid hcur
    clear hown hg htk htk' b2 hcur
    unfold maxLen at hcm
    go_wp2_with (go_at_fn t; refine HC.out.mono ?_; rintro e w3 ⟨rfl, hb3, us, hus, hg3, hF3⟩)
    go_ret
    have B3 := B2.out.trans (hb3.below B2.out.size (fun k hk => by subst hk; omega))
    refine ⟨_, rfl, B3, ?_⟩
    unfold chgPost
    rw [if_pos ⟨Hq.out, by omega⟩]
    have hc := Hcur.out
    refine ⟨b, us, hus, rfl, hF3, by rw [hus], .inr ⟨b, cap, _, rfl, by omega, hg3, hnc, by unfold maxLen; omega, by rw [over_size (by omega)]; exact hc, over_take hus⟩⟩
  · have hf : fstI q n = -1 := fstI_miss fun j hj => by
      have : j = 0 := by omega
      subst this
      cases h : q 0 with
      | true => exact absurd ⟨h, hj⟩ hq
      | false => rfl
    have Hq := hid hq
    clear hq
    go_enter Tryz.func153, Tryz.ntmps153
    go_wp2_with fail
    rw [hf] at HI
    refine HI.out.mono ?_
    rintro e w1 ⟨rfl, b1⟩
    go_wp2
    go_ret
    refine ⟨_, rfl, b1, ?_⟩
    unfold chgPost
    rw [if_neg Hq.out]
    rfl
theorem insertLis_nil {v : Value} {B : Nat} (c0 c1 c2 c3 c4 c5 c6 : Value) (w : World) (hown : w.ownsRow B 58 7 v 0 []) (hB : B ≤ w.heap.size) {x : Value} (hx : FlatAt 7 w x 1 [c0, c1, c2, c3, c4, c5, c6]) (h1 : ∀ u ∈ [c0, c1, c2, c3, c4, c5, c6], u.oneCell' = true) :
    Calls Tryz.prog 206 #[v, .int .i64 0, x] w fun e w' => ∃ v', e = .returned v' ∧ w'.ownsRow B 58 7 v' 1 [c0, c1, c2, c3, c4, c5, c6] ∧ Below B w w' := by
  have HO := hid hown
  have HX := hid hx
  obtain ⟨ag, cp, rfl⟩ := own_slice hown
  obtain ⟨ax, cx, rfl, -⟩ := hx
  have hz : Hid (0 ≤ cp) := Nat.zero_le _
  clear hown
  go_enter Tryz.func206, Tryz.ntmps206
  go_wp2_with (at_builtin; refine app_flat 30 58 Tryz.underlying30 infoLis rfl (by decide) HO.out hB HX.out (by unfold maxLen; omega) (by omega) h1 rfl rfl rfl rfl ?_; intro v' w1 hown1 hb)
  go_ret
  simp only [Nat.zero_add, List.nil_append] at hown1
  exact ⟨_, rfl, hown1, hb⟩
theorem putLis_nil {v : Value} (ff : Nat) (c0 c1 c2 c3 c4 c5 c6 : Value) (w : World) (hF : FlatAt 7 w v 0 []) (h1 : ∀ u ∈ [c0, c1, c2, c3, c4, c5, c6], u.oneCell' = true) :
    Calls Tryz.prog 143 #[v, .agg #[c0, c1, c2, c3, c4, c5, c6], .func (.func ff) #[] #[]] w fun e w' => ∃ v', e = .returned v' ∧ w'.ownsRow w.heap.size 58 7 v' 1 [c0, c1, c2, c3, c4, c5, c6] ∧ Below w.heap.size w w' := by
  have HF := hid hF
  clear hF
  go_enter Tryz.func143, Tryz.ntmps143
  go_wp2_with fail
  have hA := hid ((alloc_old (.cells #[.func (.func ff) #[] #[]] 201) (heap_lt (alloc_new w (.cells #[c0, c1, c2, c3, c4, c5, c6] 58)))).trans (alloc_new w (.cells #[c0, c1, c2, c3, c4, c5, c6] 58)))
  have B0 : Hid (Below w.heap.size w ((w.alloc (.cells #[c0, c1, c2, c3, c4, c5, c6] 58)).alloc (.cells #[.func (.func ff) #[] #[]] 201))) := ((Below.refl _ w).alloc (Nat.le_refl _) _).alloc (by simp) _
  generalize (w.alloc (.cells #[c0, c1, c2, c3, c4, c5, c6] 58)).alloc (.cells #[.func (.func ff) #[] #[]] 201) = W0 at hA B0 ⊢
  refine (cloneLis_any W0 (HF.out.grow B0.out) (fun u hu => by cases hu) (by omega)).mono ?_
  rintro e w1 ⟨u, rfl, hown, b1⟩
  obtain ⟨au, cu, rfl⟩ := own_slice hown
  have HO := hid hown
  have hA1 := hid ((b1.block _ (heap_lt hA.out)).trans hA.out)
  have B1 := hid (B0.out.trans (b1.mono B0.out.size))
  have h01 := b1.size
  clear hown b1 hA
  have hf0 : fstI (fun _ => false) 0 = -1 := rfl
  go_wp2_with fail
  refine (idxLis_any (n := 0) (css := []) w1 (FlatAt.of_own HO.out) (fun cs h => by cases h) rfl (fun _ => false) _ _ (enters_of Tryz.func204 (by kernel_rfl) rfl) (fun W i cs h => by cases h)).mono ?_
  rintro e w2 ⟨rfl, b2⟩
  rw [hf0]
  have hA2 := hid ((b2.block _ (heap_lt hA1.out)).trans hA1.out)
  have B2 := hid (B1.out.trans (b2.mono B1.out.size))
  have HO2 := hid (own_but HO.out (But.of (F := fun _ => False) b2) (fun _ _ h => h))
  have h02 := b2.size
  clear b2 hA1 HO
  go_wp2_with fail
  refine (idxLis_any (n := 0) (css := []) w2 (FlatAt.of_own HO2.out) (fun cs h => by cases h) rfl (fun _ => false) _ _ (enters_of Tryz.func205 (by kernel_rfl) rfl) (fun W i cs h => by cases h)).mono ?_
  rintro e w3 ⟨rfl, b3⟩
  rw [hf0]
  have hA3 := hid ((b3.block _ (heap_lt hA2.out)).trans hA2.out)
  have B3 := hid (B2.out.trans (b3.mono B2.out.size))
  have HO3 := hid (own_but HO2.out (But.of (F := fun _ => False) b3) (fun _ _ h => h))
  have h03 := b3.size
  clear b3 hA2 HO2
  have hB0 := B0.out.size
  have k0 := cell_of hA3.out 0
  have k1 := cell_of hA3.out 1
  have k2 := cell_of hA3.out 2
  have k3 := cell_of hA3.out 3
  have k4 := cell_of hA3.out 4
  have k5 := cell_of hA3.out 5
  have k6 := cell_of hA3.out 6
  go_wp2_with fail
  clear k0 k1 k2 k3 k4 k5 k6
  refine (insertLis_nil (B := W0.heap.size) c0 c1 c2 c3 c4 c5 c6 _ (HO3.out.alloc _) (by simp; omega) (FlatAt.made w3 [c0, c1, c2, c3, c4, c5, c6] _ rfl (by simp [maxLen])) h1).mono ?_
  rintro e w4 ⟨v', rfl, hown4, b4⟩
  go_wp2
  go_ret
  refine ⟨_, rfl, ownsRow_base hown4 (by omega), B3.out.trans (((Below.refl _ _).alloc (by omega) _).trans (b4.mono (by omega)))⟩
theorem insertMsg_nil {v : Value} {B : Nat} (c0 c1 c2 c3 c4 c5 c6 : Value) (w : World) (hown : w.ownsRow B 66 7 v 0 []) (hB : B ≤ w.heap.size) {x : Value} (hx : FlatAt 7 w x 1 [c0, c1, c2, c3, c4, c5, c6]) (h1 : ∀ u ∈ [c0, c1, c2, c3, c4, c5, c6], u.oneCell' = true) :
    Calls Tryz.prog 209 #[v, .int .i64 0, x] w fun e w' => ∃ v', e = .returned v' ∧ w'.ownsRow B 66 7 v' 1 [c0, c1, c2, c3, c4, c5, c6] ∧ Below B w w' := by
  have HO := hid hown
  have HX := hid hx
  obtain ⟨ag, cp, rfl⟩ := own_slice hown
  obtain ⟨ax, cx, rfl, -⟩ := hx
  have hz : Hid (0 ≤ cp) := Nat.zero_le _
  clear hown
  go_enter Tryz.func209, Tryz.ntmps209
  go_wp2_with (at_builtin; refine app_flat 31 66 Tryz.underlying31 infoMsg rfl (by decide) HO.out hB HX.out (by unfold maxLen; omega) (by omega) h1 rfl rfl rfl rfl ?_; intro v' w1 hown1 hb)
  go_ret
  simp only [Nat.zero_add, List.nil_append] at hown1
  exact ⟨_, rfl, hown1, hb⟩
theorem putMsg_nil {v : Value} (ff : Nat) (c0 c1 c2 c3 c4 c5 c6 : Value) (w : World) (hF : FlatAt 7 w v 0 []) (h1 : ∀ u ∈ [c0, c1, c2, c3, c4, c5, c6], u.oneCell' = true) :
    Calls Tryz.prog 145 #[v, .agg #[c0, c1, c2, c3, c4, c5, c6], .func (.func ff) #[] #[]] w fun e w' => ∃ v', e = .returned v' ∧ w'.ownsRow w.heap.size 66 7 v' 1 [c0, c1, c2, c3, c4, c5, c6] ∧ Below w.heap.size w w' := by
  have HF := hid hF
  clear hF
  go_enter Tryz.func145, Tryz.ntmps145
  go_wp2_with fail
  have hA := hid ((alloc_old (.cells #[.func (.func ff) #[] #[]] 203) (heap_lt (alloc_new w (.cells #[c0, c1, c2, c3, c4, c5, c6] 66)))).trans (alloc_new w (.cells #[c0, c1, c2, c3, c4, c5, c6] 66)))
  have B0 : Hid (Below w.heap.size w ((w.alloc (.cells #[c0, c1, c2, c3, c4, c5, c6] 66)).alloc (.cells #[.func (.func ff) #[] #[]] 203))) := ((Below.refl _ w).alloc (Nat.le_refl _) _).alloc (by simp) _
  generalize (w.alloc (.cells #[c0, c1, c2, c3, c4, c5, c6] 66)).alloc (.cells #[.func (.func ff) #[] #[]] 203) = W0 at hA B0 ⊢
  refine (cloneMsg_any W0 (HF.out.grow B0.out) (fun u hu => by cases hu) (by omega)).mono ?_
  rintro e w1 ⟨u, rfl, hown, b1⟩
  obtain ⟨au, cu, rfl⟩ := own_slice hown
  have HO := hid hown
  have hA1 := hid ((b1.block _ (heap_lt hA.out)).trans hA.out)
  have B1 := hid (B0.out.trans (b1.mono B0.out.size))
  have h01 := b1.size
  clear hown b1 hA
  have hf0 : fstI (fun _ => false) 0 = -1 := rfl
  go_wp2_with fail
  refine (idxMsg_any (n := 0) (css := []) w1 (FlatAt.of_own HO.out) (fun cs h => by cases h) rfl (fun _ => false) _ _ (enters_of Tryz.func207 (by kernel_rfl) rfl) (fun W i cs h => by cases h)).mono ?_
  rintro e w2 ⟨rfl, b2⟩
  rw [hf0]
  have hA2 := hid ((b2.block _ (heap_lt hA1.out)).trans hA1.out)
  have B2 := hid (B1.out.trans (b2.mono B1.out.size))
  have HO2 := hid (own_but HO.out (But.of (F := fun _ => False) b2) (fun _ _ h => h))
  have h02 := b2.size
  clear b2 hA1 HO
  go_wp2_with fail
  refine (idxMsg_any (n := 0) (css := []) w2 (FlatAt.of_own HO2.out) (fun cs h => by cases h) rfl (fun _ => false) _ _ (enters_of Tryz.func208 (by kernel_rfl) rfl) (fun W i cs h => by cases h)).mono ?_
  rintro e w3 ⟨rfl, b3⟩
  rw [hf0]
  have hA3 := hid ((b3.block _ (heap_lt hA2.out)).trans hA2.out)
  have B3 := hid (B2.out.trans (b3.mono B2.out.size))
  have HO3 := hid (own_but HO2.out (But.of (F := fun _ => False) b3) (fun _ _ h => h))
  have h03 := b3.size
  clear b3 hA2 HO2
  have hB0 := B0.out.size
  have k0 := cell_of hA3.out 0
  have k1 := cell_of hA3.out 1
  have k2 := cell_of hA3.out 2
  have k3 := cell_of hA3.out 3
  have k4 := cell_of hA3.out 4
  have k5 := cell_of hA3.out 5
  have k6 := cell_of hA3.out 6
  go_wp2_with fail
  clear k0 k1 k2 k3 k4 k5 k6
  refine (insertMsg_nil (B := W0.heap.size) c0 c1 c2 c3 c4 c5 c6 _ (HO3.out.alloc _) (by simp; omega) (FlatAt.made w3 [c0, c1, c2, c3, c4, c5, c6] _ rfl (by simp [maxLen])) h1).mono ?_
  rintro e w4 ⟨v', rfl, hown4, b4⟩
  go_wp2
  go_ret
  refine ⟨_, rfl, ownsRow_base hown4 (by omega), B3.out.trans (((Below.refl _ _).alloc (by omega) _).trans (b4.mono (by omega)))⟩
end Go.Proofs.YtjkbfoeakeoeiaaGreat
namespace Go.Proofs.YtjkbfoeakeoeiaaGreat
set_option maxRecDepth 100000
set_option maxHeartbeats 40000000
set_option linter.unusedSimpArgs false
set_option linter.unusedVariables false
open Go.RowKit
structure Lst {α : Type} (R : World → List Value → α → Prop) (k : Nat) (w : World) (v : Value) (l : List α) (css : List (List Value)) : Prop where
  len : css.length = l.length
  size : ∀ cs ∈ css, cs.length = k
  at_ : ∀ (i : Nat) cs x, css[i]? = some cs → l[i]? = some x → R w cs x
  flat : FlatAt k w v l.length css.flatten
  one : ∀ u ∈ css.flatten, u.oneCell' = true
def OneR {α : Type} (R : World → List Value → α → Prop) : Prop := ∀ w cs x, R w cs x → ∀ u ∈ cs, u.oneCell' = true
theorem lst_of {α : Type} {R : World → List Value → α → Prop} {k : Nat} {w : World} {v : Value} {l : List α} (h1 : OneR R) (h : ListAt R k w v l) : ∃ css, Lst R k w v l css := by
  obtain ⟨css, a, b, c, d⟩ := h.css
  refine ⟨css, a, b, c, d, fun u hu => ?_⟩
  obtain ⟨cs, hcs, hu⟩ := List.mem_flatten.1 hu
  obtain ⟨i, hi⟩ := List.mem_iff_getElem?.1 hcs
  have hlt : i < l.length := by rw [← a]; exact (List.getElem?_eq_some_iff.1 hi).1
  exact h1 _ _ _ (c i cs _ hi (List.getElem?_eq_getElem hlt)) u hu
theorem Lst.list {α : Type} {R : World → List Value → α → Prop} {k : Nat} {w : World} {v : Value} {l : List α} {css : List (List Value)} (h : Lst R k w v l css) (hk : 0 < k) : ListAt R k w v l :=
  ListAt.of_css hk h.len h.size h.at_ h.flat
theorem vars_one {w : World} {v : Value} {l : List VarV} (h : VarsAt w v l) : v.oneCell' = true := by
  obtain ⟨a, cap, rfl, -⟩ := h
  rfl
theorem DepV.one : OneR DepV.at_ := fun _ _ _ h u hu => by unfold DepV.at_ at h; subst h; revert u; simp [Value.oneCell']
theorem TokV.one : OneR TokV.at_ := fun _ _ _ h u hu => by unfold TokV.at_ at h; subst h; revert u; simp [Value.oneCell']
theorem JobV.one : OneR JobV.at_ := fun _ _ _ h u hu => by unfold JobV.at_ at h; subst h; revert u; simp [Value.oneCell']
theorem TimV.one : OneR TimV.at_ := fun _ _ _ h u hu => by unfold TimV.at_ at h; subst h; revert u; simp [Value.oneCell']
theorem SubV.one : OneR SubV.at_ := fun _ _ _ h u hu => by unfold SubV.at_ at h; subst h; revert u; simp [Value.oneCell']
theorem KeptV.one : OneR KeptV.at_ := fun _ _ _ h u hu => by unfold KeptV.at_ at h; subst h; revert u; simp [Value.oneCell']
theorem InstV.one : OneR InstV.at_ := fun _ _ _ h u hu => by obtain ⟨v, rfl, a, cap, rfl, -⟩ := h; revert u; simp [Value.oneCell']
theorem LisV.one : OneR LisV.at_ := fun _ _ _ h u hu => by obtain ⟨v, rfl, a, cap, rfl, -⟩ := h; revert u; simp [Value.oneCell']
theorem MsgV.one : OneR MsgV.at_ := fun _ _ _ h u hu => by obtain ⟨v, z, rfl, ⟨a, cap, rfl, -⟩, a', cap', rfl, -⟩ := h; revert u; simp [Value.oneCell']
theorem RecV.one : OneR RecV.at_ := fun _ _ _ h u hu => by obtain ⟨v, rfl, a, cap, rfl, -⟩ := h; revert u; simp [Value.oneCell']
structure Sees (a b : World) : Prop where
  cell : ∀ p v, a.cell? p = some v → b.cell? p = some v
theorem sees_sans {S T : Nat → Prop} {w : World} (h : ∀ b, S b → T b) : Sees (sans T w) (sans S w) := ⟨fun p v hc => by
  obtain ⟨h1, h2⟩ := sans_cell hc
  rw [sans_cell' (fun h' => h2 (h _ h'))]
  exact h1⟩
theorem sees_seen {S : Nat → Prop} {w : World} : Sees (sans S w) w := ⟨fun _ _ hc => (sans_cell hc).1⟩
theorem VarsAt.sees {a b : World} {v : Value} {l : List VarV} (hs : Sees a b) (h : VarsAt a v l) : VarsAt b v l := by
  obtain ⟨a, cap, hv, h1, h2, h3⟩ := h
  refine ⟨a, cap, hv, h1, h2, fun i x hx => ?_⟩
  obtain ⟨b, off, ha, c0, c1, c2, c3⟩ := h3 i x hx
  exact ⟨b, off, ha, hs.cell _ _ c0, hs.cell _ _ c1, hs.cell _ _ c2, hs.cell _ _ c3⟩
theorem SlR.sees {a b : World} {v : Value} {l : List Value} (hs : Sees a b) (h : SlR a v l) : SlR b v l := by
  obtain ⟨p, cap, hv, h1, h2, h3⟩ := h
  refine ⟨p, cap, hv, h1, h2, fun j u hu => ?_⟩
  obtain ⟨b, off, ha, hc⟩ := h3 j u hu
  exact ⟨b, off, ha, hs.cell _ _ hc⟩
theorem FlatAt.sees {a b : World} {size n : Nat} {v : Value} {cs : List Value} (hs : Sees a b) (h : FlatAt size a v n cs) : FlatAt size b v n cs := by
  obtain ⟨a, cap, hv, h1, h2, h3, h4⟩ := h
  refine ⟨a, cap, hv, h1, h2, h3, fun j u hu => ?_⟩
  obtain ⟨b, off, ha, hc⟩ := h4 j u hu
  exact ⟨b, off, ha, hs.cell _ _ hc⟩
def SeesR {α : Type} (R : World → List Value → α → Prop) : Prop := ∀ a b cs x, Sees a b → R a cs x → R b cs x
theorem DepV.sees : SeesR DepV.at_ := fun _ _ _ _ _ h => h
theorem TokV.sees : SeesR TokV.at_ := fun _ _ _ _ _ h => h
theorem JobV.sees : SeesR JobV.at_ := fun _ _ _ _ _ h => h
theorem TimV.sees : SeesR TimV.at_ := fun _ _ _ _ _ h => h
theorem SubV.sees : SeesR SubV.at_ := fun _ _ _ _ _ h => h
theorem KeptV.sees : SeesR KeptV.at_ := fun _ _ _ _ _ h => h
theorem InstV.sees : SeesR InstV.at_ := fun _ _ _ _ hs h => by obtain ⟨v, h1, h2⟩ := h; exact ⟨v, h1, h2.sees hs⟩
theorem LisV.sees : SeesR LisV.at_ := fun _ _ _ _ hs h => by obtain ⟨v, h1, h2⟩ := h; exact ⟨v, h1, h2.sees hs⟩
theorem MsgV.sees : SeesR MsgV.at_ := fun _ _ _ _ hs h => by obtain ⟨v, u, h1, h2, h3⟩ := h; exact ⟨v, u, h1, h2.sees hs, h3.sees hs⟩
theorem RecV.sees : SeesR RecV.at_ := fun _ _ _ _ hs h => by obtain ⟨v, h1, h2⟩ := h; exact ⟨v, h1, h2.sees hs⟩
theorem ListAt.sees {α : Type} {R : World → List Value → α → Prop} {size : Nat} {w w' : World} {v : Value} {l : List α} (hR : SeesR R) (hs : Sees w w') (h : ListAt R size w v l) : ListAt R size w' v l := by
  obtain ⟨a, cap, hv, h1, h2, h3⟩ := h
  refine ⟨a, cap, hv, h1, h2, fun i x hx => ?_⟩
  obtain ⟨b, off, cs, ha, hl, hr, hc⟩ := h3 i x hx
  exact ⟨b, off, cs, ha, hl, hR _ _ _ _ hs hr, fun j u hu => hs.cell _ _ (hc j u hu)⟩
theorem own_list {α : Type} {R : World → List Value → α → Prop} {S : Nat → Prop} {k base e : Nat} {w : World} {v : Value} {l : List α} {css : List (List Value)} (hk : 0 < k) (ho : w.ownsRow base e k v l.length css.flatten) (h1 : css.length = l.length) (h2 : ∀ cs ∈ css, cs.length = k)
    (h3 : ∀ (i : Nat) cs x, css[i]? = some cs → l[i]? = some x → R (sans S w) cs x) (hS : ∀ b, base ≤ b → ¬ S b) : ListAt R k (sans S w) v l :=
  ListAt.of_css hk h1 h2 h3 (FlatAt.of_own (own_sans ho hS))
theorem bool_list {α : Type} {css : List (List Value)} {l : List α} (p : α → Bool) : ∃ q : Nat → Bool, ∀ i x, l[i]? = some x → q i = p x :=
  ⟨fun i => match l[i]? with | some x => p x | none => false, fun i x hx => by simp [hx]⟩
theorem one_list {α : Type} {l : List α} (h : l.length ≤ 1) : l = [] ∨ ∃ x, l = [x] := by
  match l, h with
  | [], _ => exact .inl rfl
  | [x], _ => exact .inr ⟨x, rfl⟩
theorem idxLis_list {S : Nat → Prop} {v : Value} {l : List LisV} {w0 : World} (w : World) (hL : ListAt LisV.at_ 7 w0 v l) (hs : Sees w0 (sans S w)) (g : Nat) (lb : Array Value) (eg : ∀ args w, (callFunc g args).run Tryz.prog w = .ok (.enter g args) w) (p : LisV → Bool)
    (hp : ∀ (W : World) (x : LisV) (cs : List Value), x ∈ l → LisV.at_ w0 cs x → Below w.heap.size w W → Calls Tryz.prog g (#[.agg cs.toArray] ++ lb) W fun e w' => e = .returned (.bool (p x)) ∧ Below W.heap.size W w') :
    Calls Tryz.prog 71 #[v, .func (.func g) #[] lb] w fun e w' => e = .returned (.int .i64 (idxOf p l)) ∧ Below w.heap.size w w' := by
  obtain ⟨css, hc⟩ := lst_of LisV.one hL
  obtain ⟨q, hq⟩ := bool_list (css := css) (l := l) p
  rw [← fstI_list p l q hq]
  refine idxLis_any w ((hc.flat.sees hs).seen) hc.size hc.len q g lb eg fun W i cs hi hb => ?_
  have hlt : i < l.length := by rw [← hc.len]; exact (List.getElem?_eq_some_iff.1 hi).1
  have hx : l[i]? = some l[i] := List.getElem?_eq_getElem hlt
  rw [hq i _ hx]
  exact hp W _ cs (List.getElem_mem hlt) (hc.at_ i cs _ hi hx) hb
theorem withoutLis_list {S : Nat → Prop} {v : Value} {l : List LisV} {w0 : World} (w : World) (hL : ListAt LisV.at_ 7 w0 v l) (hs : Sees w0 (sans S w)) (hl1 : l.length ≤ 1) (hS : ∀ b, S b → b < w.heap.size) (g : Nat) (lb : Array Value) (eg : ∀ args w, (callFunc g args).run Tryz.prog w = .ok (.enter g args) w) (p : LisV → Bool)
    (hp : ∀ (W : World) (x : LisV) (cs : List Value), x ∈ l → LisV.at_ w0 cs x → Below w.heap.size w W → Calls Tryz.prog g (#[.agg cs.toArray] ++ lb) W fun e w' => e = .returned (.bool (p x)) ∧ Below W.heap.size W w') :
    Calls Tryz.prog 155 #[v, .func (.func g) #[] lb] w fun e w' => ∃ v', e = .returned v' ∧ ListAt LisV.at_ 7 (sans S w') v' (withoutBy p l) ∧ Below w.heap.size w w' := by
  obtain ⟨css, hc⟩ := lst_of LisV.one hL
  obtain ⟨q, hq⟩ := bool_list (css := css) (l := l) p
  refine (withoutLis_any w ((hc.flat.sees hs).seen) hc.one hc.size hc.len hl1 q g lb eg fun W i cs hi hb => ?_).mono ?_
  · have hlt : i < l.length := by rw [← hc.len]; exact (List.getElem?_eq_some_iff.1 hi).1
    have hx : l[i]? = some l[i] := List.getElem?_eq_getElem hlt
    rw [hq i _ hx]
    exact hp W _ cs (List.getElem_mem hlt) (hc.at_ i cs _ hi hx) hb
  · rintro e w' ⟨v', rfl, hb, hF⟩
    refine ⟨v', rfl, ?_, hb⟩
    have hF := hF S (fun b h1 h2 => by have := hS b h2; omega)
    rcases one_list hl1 with rfl | ⟨x, rfl⟩
    · have hcs : css = [] := List.eq_nil_of_length_eq_zero hc.len
      subst hcs
      have e1 : keptN (q 0) ([] : List LisV).length = 0 := by unfold keptN; split <;> rfl
      have e2 : keptC (q 0) ([] : List (List Value)).flatten = [] := by unfold keptC; split <;> rfl
      rw [e1, e2] at hF
      exact ListAt.of_css (css := []) (by omega) rfl (fun cs h => by cases h) (fun i cs x h => by cases h) hF
    · have hqx := hq 0 x rfl
      unfold withoutBy
      cases hpx : p x with
      | true =>
        rw [hqx, hpx] at hF
        simp only [List.filter, hpx, Bool.not_true]
        exact ListAt.of_css (css := []) (by omega) rfl (fun cs h => by cases h) (fun i cs x h => by cases h) hF
      | false =>
        rw [hqx, hpx] at hF
        simp only [List.filter, hpx, Bool.not_false]
        exact ListAt.of_css (by omega) hc.len hc.size (fun i cs x h1 h2 => LisV.st _ _ _ _ (LisV.sees _ _ _ _ hs (hc.at_ i cs x h1 h2)) (sans_grow hb)) hF
theorem changeLis_list {S : Nat → Prop} {v : Value} {l : List LisV} {w0 : World} (w : World) (hL : ListAt LisV.at_ 7 w0 v l) (hs : Sees w0 (sans S w)) (hl1 : l.length ≤ 1) (hS : ∀ b, S b → b < w.heap.size) (g : Nat) (lb : Array Value) (eg : ∀ args w, (callFunc g args).run Tryz.prog w = .ok (.enter g args) w) (p : LisV → Bool)
    (hp : ∀ (W : World) (x : LisV) (cs : List Value), x ∈ l → LisV.at_ w0 cs x → Below w.heap.size w W → Calls Tryz.prog g (#[.agg cs.toArray] ++ lb) W fun e w' => e = .returned (.bool (p x)) ∧ Below W.heap.size W w')
    (t : Nat) (lt : Array Value) (et : ∀ args w, (callFunc t args).run Tryz.prog w = .ok (.enter t args) w) (f : LisV → LisV)
    (ht : ∀ (W : World) (x : LisV) (cs : List Value) (b : Nat) (cur : Array Value), x ∈ l → LisV.at_ w0 cs x → Below w.heap.size w W → w.heap.size ≤ b → W.heap[b]? = some (.cells cur 58 (0, 0)) → 7 ≤ cur.size → cur.toList.take 7 = cs →
      Calls Tryz.prog t (#[.pointer (some ⟨b, 0, none⟩)] ++ lt) W fun e w' => e = .returned (.tuple #[]) ∧ But (fun x => x = b) W w' ∧ ∃ us, us.length = 7 ∧ w'.heap[b]? = some (.cells (overC cur 0 us) 58 (0, 0)) ∧ LisV.at_ (sans (fun i => S i ∨ i = b) w') us (f x)) :
    Calls Tryz.prog 151 #[v, .func (.func g) #[] lb, .func (.func t) #[] lt] w fun e w' => ∃ v', e = .returned v' ∧ ListAt LisV.at_ 7 (sans S w') v' (changeBy p f l) ∧ Below w.heap.size w w' := by
  obtain ⟨css, hc⟩ := lst_of LisV.one hL
  obtain ⟨q, hq⟩ := bool_list (css := css) (l := l) p
  refine (changeLis_any w ((hc.flat.sees hs).seen) hc.one hc.size hc.len hl1 q g lb eg (fun W i cs hi hb => ?_) t lt et (fun b us W => ∀ x, l = [x] → LisV.at_ (sans (fun i => S i ∨ i = b) W) us (f x)) ?_).mono ?_
  · have hlt : i < l.length := by rw [← hc.len]; exact (List.getElem?_eq_some_iff.1 hi).1
    have hx : l[i]? = some l[i] := List.getElem?_eq_getElem hlt
    rw [hq i _ hx]
    exact hp W _ cs (List.getElem_mem hlt) (hc.at_ i cs _ hi hx) hb
  · intro W cs b cur hcs hb hbb hg hsz htk
    have hl : l.length = 1 := by rw [← hc.len, hcs]; rfl
    obtain ⟨x, rfl⟩ := List.length_eq_one_iff.1 hl
    refine (ht W x cs b cur (by simp) (hc.at_ 0 cs x (by rw [hcs]; rfl) rfl) hb hbb hg hsz htk).mono ?_
    rintro e w' ⟨he, hb', us, h1, h2, h3⟩
    exact ⟨he, hb', us, h1, h2, fun y hy => by cases hy; exact h3⟩
  · rintro e w' ⟨v', rfl, hb, hF⟩
    refine ⟨v', rfl, ?_, hb⟩
    unfold chgPost at hF
    rcases one_list hl1 with rfl | ⟨x, rfl⟩
    · rw [if_neg (fun h => absurd h.2 (by simp))] at hF
      subst hF
      exact (hL.sees LisV.sees hs).grow LisV.st (sans_grow hb)
    · have hqx := hq 0 x rfl
      unfold changeBy
      cases hpx : p x with
      | true =>
        rw [hqx, hpx, if_pos ⟨rfl, by simp⟩] at hF
        obtain ⟨blk, us, hu, hbk, hx, ho⟩ := hF
        simp only [List.findIdx?_cons, hpx, if_true, List.modify_cons, List.modify_nil]
        have hlt : w.heap.size ≤ blk := (ho.lt blk hbk).1
        exact own_list (css := [us]) (by omega) (by simpa using ho) rfl (fun cs h => by simp at h; subst h; exact hu) (fun i cs y h1 h2 => by
          match i, h1, h2 with
          | 0, h1, h2 => simp at h1 h2; subst h1 h2; exact LisV.sees _ _ _ _ (sees_sans (fun b h => .inl h)) (hx x rfl)) (fun b h1 h2 => by have := hS b h2; omega)
      | false =>
        rw [hqx, hpx, if_neg (fun h => by cases h.1)] at hF
        subst hF
        simp only [List.findIdx?_cons, hpx, List.findIdx?_nil, Bool.false_eq_true, if_false, Option.map_none]
        exact (hL.sees LisV.sees hs).grow LisV.st (sans_grow hb)
theorem idxMsg_list {S : Nat → Prop} {v : Value} {l : List MsgV} {w0 : World} (w : World) (hL : ListAt MsgV.at_ 7 w0 v l) (hs : Sees w0 (sans S w)) (g : Nat) (lb : Array Value) (eg : ∀ args w, (callFunc g args).run Tryz.prog w = .ok (.enter g args) w) (p : MsgV → Bool)
    (hp : ∀ (W : World) (x : MsgV) (cs : List Value), x ∈ l → MsgV.at_ w0 cs x → Below w.heap.size w W → Calls Tryz.prog g (#[.agg cs.toArray] ++ lb) W fun e w' => e = .returned (.bool (p x)) ∧ Below W.heap.size W w') :
    Calls Tryz.prog 42 #[v, .func (.func g) #[] lb] w fun e w' => e = .returned (.int .i64 (idxOf p l)) ∧ Below w.heap.size w w' := by
  obtain ⟨css, hc⟩ := lst_of MsgV.one hL
  obtain ⟨q, hq⟩ := bool_list (css := css) (l := l) p
  rw [← fstI_list p l q hq]
  refine idxMsg_any w ((hc.flat.sees hs).seen) hc.size hc.len q g lb eg fun W i cs hi hb => ?_
  have hlt : i < l.length := by rw [← hc.len]; exact (List.getElem?_eq_some_iff.1 hi).1
  have hx : l[i]? = some l[i] := List.getElem?_eq_getElem hlt
  rw [hq i _ hx]
  exact hp W _ cs (List.getElem_mem hlt) (hc.at_ i cs _ hi hx) hb
theorem withoutMsg_list {S : Nat → Prop} {v : Value} {l : List MsgV} {w0 : World} (w : World) (hL : ListAt MsgV.at_ 7 w0 v l) (hs : Sees w0 (sans S w)) (hl1 : l.length ≤ 1) (hS : ∀ b, S b → b < w.heap.size) (g : Nat) (lb : Array Value) (eg : ∀ args w, (callFunc g args).run Tryz.prog w = .ok (.enter g args) w) (p : MsgV → Bool)
    (hp : ∀ (W : World) (x : MsgV) (cs : List Value), x ∈ l → MsgV.at_ w0 cs x → Below w.heap.size w W → Calls Tryz.prog g (#[.agg cs.toArray] ++ lb) W fun e w' => e = .returned (.bool (p x)) ∧ Below W.heap.size W w') :
    Calls Tryz.prog 147 #[v, .func (.func g) #[] lb] w fun e w' => ∃ v', e = .returned v' ∧ ListAt MsgV.at_ 7 (sans S w') v' (withoutBy p l) ∧ Below w.heap.size w w' := by
  obtain ⟨css, hc⟩ := lst_of MsgV.one hL
  obtain ⟨q, hq⟩ := bool_list (css := css) (l := l) p
  refine (withoutMsg_any w ((hc.flat.sees hs).seen) hc.one hc.size hc.len hl1 q g lb eg fun W i cs hi hb => ?_).mono ?_
  · have hlt : i < l.length := by rw [← hc.len]; exact (List.getElem?_eq_some_iff.1 hi).1
    have hx : l[i]? = some l[i] := List.getElem?_eq_getElem hlt
    rw [hq i _ hx]
    exact hp W _ cs (List.getElem_mem hlt) (hc.at_ i cs _ hi hx) hb
  · rintro e w' ⟨v', rfl, hb, hF⟩
    refine ⟨v', rfl, ?_, hb⟩
    have hF := hF S (fun b h1 h2 => by have := hS b h2; omega)
    rcases one_list hl1 with rfl | ⟨x, rfl⟩
    · have hcs : css = [] := List.eq_nil_of_length_eq_zero hc.len
      subst hcs
      have e1 : keptN (q 0) ([] : List MsgV).length = 0 := by unfold keptN; split <;> rfl
      have e2 : keptC (q 0) ([] : List (List Value)).flatten = [] := by unfold keptC; split <;> rfl
      rw [e1, e2] at hF
      exact ListAt.of_css (css := []) (by omega) rfl (fun cs h => by cases h) (fun i cs x h => by cases h) hF
    · have hqx := hq 0 x rfl
      unfold withoutBy
      cases hpx : p x with
      | true =>
        rw [hqx, hpx] at hF
        simp only [List.filter, hpx, Bool.not_true]
        exact ListAt.of_css (css := []) (by omega) rfl (fun cs h => by cases h) (fun i cs x h => by cases h) hF
      | false =>
        rw [hqx, hpx] at hF
        simp only [List.filter, hpx, Bool.not_false]
        exact ListAt.of_css (by omega) hc.len hc.size (fun i cs x h1 h2 => MsgV.st _ _ _ _ (MsgV.sees _ _ _ _ hs (hc.at_ i cs x h1 h2)) (sans_grow hb)) hF
theorem changeMsg_list {S : Nat → Prop} {v : Value} {l : List MsgV} {w0 : World} (w : World) (hL : ListAt MsgV.at_ 7 w0 v l) (hs : Sees w0 (sans S w)) (hl1 : l.length ≤ 1) (hS : ∀ b, S b → b < w.heap.size) (g : Nat) (lb : Array Value) (eg : ∀ args w, (callFunc g args).run Tryz.prog w = .ok (.enter g args) w) (p : MsgV → Bool)
    (hp : ∀ (W : World) (x : MsgV) (cs : List Value), x ∈ l → MsgV.at_ w0 cs x → Below w.heap.size w W → Calls Tryz.prog g (#[.agg cs.toArray] ++ lb) W fun e w' => e = .returned (.bool (p x)) ∧ Below W.heap.size W w')
    (t : Nat) (lt : Array Value) (et : ∀ args w, (callFunc t args).run Tryz.prog w = .ok (.enter t args) w) (f : MsgV → MsgV)
    (ht : ∀ (W : World) (x : MsgV) (cs : List Value) (b : Nat) (cur : Array Value), x ∈ l → MsgV.at_ w0 cs x → Below w.heap.size w W → w.heap.size ≤ b → W.heap[b]? = some (.cells cur 66 (0, 0)) → 7 ≤ cur.size → cur.toList.take 7 = cs →
      Calls Tryz.prog t (#[.pointer (some ⟨b, 0, none⟩)] ++ lt) W fun e w' => e = .returned (.tuple #[]) ∧ But (fun x => x = b) W w' ∧ ∃ us, us.length = 7 ∧ w'.heap[b]? = some (.cells (overC cur 0 us) 66 (0, 0)) ∧ MsgV.at_ (sans (fun i => S i ∨ i = b) w') us (f x)) :
    Calls Tryz.prog 153 #[v, .func (.func g) #[] lb, .func (.func t) #[] lt] w fun e w' => ∃ v', e = .returned v' ∧ ListAt MsgV.at_ 7 (sans S w') v' (changeBy p f l) ∧ Below w.heap.size w w' := by
  obtain ⟨css, hc⟩ := lst_of MsgV.one hL
  obtain ⟨q, hq⟩ := bool_list (css := css) (l := l) p
  refine (changeMsg_any w ((hc.flat.sees hs).seen) hc.one hc.size hc.len hl1 q g lb eg (fun W i cs hi hb => ?_) t lt et (fun b us W => ∀ x, l = [x] → MsgV.at_ (sans (fun i => S i ∨ i = b) W) us (f x)) ?_).mono ?_
  · have hlt : i < l.length := by rw [← hc.len]; exact (List.getElem?_eq_some_iff.1 hi).1
    have hx : l[i]? = some l[i] := List.getElem?_eq_getElem hlt
    rw [hq i _ hx]
    exact hp W _ cs (List.getElem_mem hlt) (hc.at_ i cs _ hi hx) hb
  · intro W cs b cur hcs hb hbb hg hsz htk
    have hl : l.length = 1 := by rw [← hc.len, hcs]; rfl
    obtain ⟨x, rfl⟩ := List.length_eq_one_iff.1 hl
    refine (ht W x cs b cur (by simp) (hc.at_ 0 cs x (by rw [hcs]; rfl) rfl) hb hbb hg hsz htk).mono ?_
    rintro e w' ⟨he, hb', us, h1, h2, h3⟩
    exact ⟨he, hb', us, h1, h2, fun y hy => by cases hy; exact h3⟩
  · rintro e w' ⟨v', rfl, hb, hF⟩
    refine ⟨v', rfl, ?_, hb⟩
    unfold chgPost at hF
    rcases one_list hl1 with rfl | ⟨x, rfl⟩
    · rw [if_neg (fun h => absurd h.2 (by simp))] at hF
      subst hF
      exact (hL.sees MsgV.sees hs).grow MsgV.st (sans_grow hb)
    · have hqx := hq 0 x rfl
      unfold changeBy
      cases hpx : p x with
      | true =>
        rw [hqx, hpx, if_pos ⟨rfl, by simp⟩] at hF
        obtain ⟨blk, us, hu, hbk, hx, ho⟩ := hF
        simp only [List.findIdx?_cons, hpx, if_true, List.modify_cons, List.modify_nil]
        have hlt : w.heap.size ≤ blk := (ho.lt blk hbk).1
        exact own_list (css := [us]) (by omega) (by simpa using ho) rfl (fun cs h => by simp at h; subst h; exact hu) (fun i cs y h1 h2 => by
          match i, h1, h2 with
          | 0, h1, h2 => simp at h1 h2; subst h1 h2; exact MsgV.sees _ _ _ _ (sees_sans (fun b h => .inl h)) (hx x rfl)) (fun b h1 h2 => by have := hS b h2; omega)
      | false =>
        rw [hqx, hpx, if_neg (fun h => by cases h.1)] at hF
        subst hF
        simp only [List.findIdx?_cons, hpx, List.findIdx?_nil, Bool.false_eq_true, if_false, Option.map_none]
        exact (hL.sees MsgV.sees hs).grow MsgV.st (sans_grow hb)
end Go.Proofs.YtjkbfoeakeoeiaaGreat
