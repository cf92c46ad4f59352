/- Keep: contracts (Hb Hc He Hf). -/
import Derived.Test.YtjkbfoeakeoeiaaGreatQ18
namespace Go.Proofs.YtjkbfoeakeoeiaaGreat
set_option maxRecDepth 100000
set_option maxHeartbeats 40000000
set_option linter.unusedSimpArgs false
set_option linter.unusedVariables false
open Go.RowKit
theorem SmW.to {b c : Nat} {k : WorkV} (h : SmW b k) (hc : b ≤ c) : SmW c k := ⟨h.sm, h.part, h.pos, h.now, Nat.le_trans h.spos hc, Nat.le_trans h.made hc, h.done, Nat.le_trans h.ev hc, h.evv, fun m hm => Nat.le_trans (h.ins m hm) hc⟩
theorem step_sm (k : WorkV) (key left b : Nat) (x : LisV) (h : SmW b k) (hb : b < 1000) : SmW (b + 1) (pubStep key (k, left) x).1 := by
  unfold pubStep
  dsimp only
  split
  · split
    · exact emit_sm k _ b h hb (fun h => by revert h; simp [sendR]) (fun h => by revert h; simp [sendR]) (by simp [sendR, rec0])
    · exact h.up
  · exact h.up
theorem pub_sm (k : WorkV) (r : RecV) (b : Nat) (h : SmW b k) (hb : b < 900) (hm : (publishV k r).2 = 6 ∨ k.s.msgs = []) : SmW (b + 3) (publishV k r).1 := by
  by_cases hg : pubBad r
  · have : publishV k r = (k, 1) := by unfold publishV; exact if_pos hg
    rw [this]
    exact h.to (by omega)
  by_cases hs : r.c.size ≠ 0 ∧ k.s.msgs.any (pubSame k r) = true
  · rw [pub_same k r hg hs]
    exact h.to (by omega)
  have hv : r.vars.length ≤ 1048576 := by
    have hr : rightV r.vars = true := by
      cases h : rightV r.vars with
      | true => rfl
      | false => exact absurd (show pubBad r from .inr (.inr (.inr (.inr (.inr h))))) hg
    have := right_le hr
    omega
  have hp := pub_eq k r hg hs
  rw [hp] at hm
  rw [hp]
  split
  · exact h.to (by omega)
  · rename_i h13
    rw [if_neg h13] at hm
    have hm0 : k.s.msgs = [] := hm.elim (fun h => by cases h) id
    have h1 : SmW (b + 1) (pub1 k r) := emit_sm k _ b h (by omega) (fun h => by revert h; simp [pubR]) (fun _ => hm0) hv
    have h2 : SmW (b + 2) (pub2 k r) := by
      unfold pub2
      obtain hl | ⟨x, hx⟩ := list_le1 h1.sm.l1
      · rw [hl]
        exact h1.up
      · rw [hx]
        exact step_sm (pub1 k r) _ _ _ x h1 (by omega)
    show SmW (b + 3) (pub3 k r)
    unfold pub3
    split
    · exact emit_sm _ _ _ h2 (by omega) (fun h => by revert h; simp) (fun h => by revert h; simp) (by simp [rec0])
    · exact h2.up
theorem open_sm (k : WorkV) (r : RecV) (b : Nat) (h : SmW b k) (hb : b < 900) (h0 : k.s.listed = []) : SmW (b + 2) (openV k r).1 := by
  by_cases hg : named r.a = false ∨ 1024 < r.b.size ∨ r.n < 0 ∨ 30000 < r.n
  · have : openV k r = (k, 1) := by unfold openV; exact if_pos hg
    rw [this]
    exact h.to (by omega)
  rw [opn_eq k r h0 hg]
  have h1 : SmW (b + 1) (emitV k (opnR r)) := emit_sm k _ b h (by omega) (fun _ => h0) (fun h => by revert h; simp [opnR]) (by simp [opnR, rec0])
  split
  · exact emit_sm _ _ _ h1 (by omega) (fun h => by revert h; simp [sendR]) (fun h => by revert h; simp [sendR]) (by simp [sendR, rec0])
  · exact h1.up
theorem begin_sm (s : StateV) (pos : Nat) (now : Int) (b : Nat) (hs : SmS s) (hp : 1 ≤ pos ∧ pos ≤ 1000000) (hn : 0 ≤ now ∧ now ≤ 1000000) (h1 : s.pos ≤ b) (h2 : s.made ≤ b) (h3 : s.done ≤ 1000000) (h4 : ∀ m ∈ s.msgs, m.insts.length ≤ b) : SmW b (beginV s 0 pos now) :=
  ⟨hs, rfl, hp, hn, h1, h2, h3, Nat.zero_le _, (fun r h => by cases h), h4⟩
theorem nil_list {α : Type} (R : World → List Value → α → Prop) (k : Nat) (w : World) : ListAt R k w (.slice none 0 0) [] := ⟨none, 0, rfl, Nat.le_refl _, by simp [maxLen], fun i x h => by simp at h⟩
theorem stateE_at (S : Nat → Prop) (w : World) : StAt S w [U 0, U 0, U 0, .slice none 0 0, .slice none 0 0, .slice none 0 0, .slice none 0 0, .slice none 0 0, .slice none 0 0, .slice none 0 0, .slice none 0 0, .slice none 0 0] stateE :=
  ⟨_, _, _, _, _, _, _, _, _, rfl, nil_list _ _ _, nil_list _ _ _, nil_list _ _ _, nil_list _ _ _, nil_list _ _ _, nil_list _ _ _, nil_list _ _ _, nil_list _ _ _, nil_list _ _ _⟩
theorem smE : SmS stateE := ⟨by simp [stateE], rfl, by simp [stateE], by simp [stateE], by simp [stateE], by simp [stateE]⟩
theorem pub_six (k : WorkV) (r : RecV) (h : (publishV k r).2 = 6) : (publishV k r).1 = k := by
  by_cases hg : pubBad r
  · have : publishV k r = (k, 1) := by unfold publishV; exact if_pos hg
    rw [this]
  by_cases hs : r.c.size ≠ 0 ∧ k.s.msgs.any (pubSame k r) = true
  · rw [pub_same k r hg hs]
  rw [pub_eq k r hg hs] at h
  split at h <;> cases h
theorem smSh : SmS shS := ⟨by simp [shS, stateE], rfl, by simp [shS], by simp [shS, stateE], by simp [shS], by simp [shS, stateE]⟩
theorem shS_at (w : World) (b : Nat) (h : w.heap[b]? = some (.cells #[U 3, U 2, I 1, .string ⟨#[112, 97, 105, 100]⟩, .string ⟨#[107]⟩, U 0, .slice none 0 0] 58 (0, 0))) : StAt (fun _ => False) w [U 0, U 0, U 0, .slice none 0 0, .slice none 0 0, .slice none 0 0, .slice none 0 0, .slice none 0 0, .slice none 0 0, .slice none 0 0, .slice (some ⟨b, 0, none⟩) 1 1, .slice none 0 0] shS := by
  refine ⟨_, _, _, _, _, _, _, _, _, rfl, nil_list _ _ _, nil_list _ _ _, nil_list _ _ _, nil_list _ _ _, nil_list _ _ _, nil_list _ _ _, nil_list _ _ _, ?_, nil_list _ _ _⟩
  refine ⟨_, _, rfl, Nat.le_refl _, by simp [shS, maxLen], fun i x hx => ?_⟩
  match i, hx with
  | 0, hx =>
    simp [shS] at hx
    subst hx
    refine ⟨b, 0, [U 3, U 2, I 1, .string paidS, .string keyKS, U 0, .slice none 0 0], rfl, rfl, ⟨_, rfl, vnil _⟩, fun j u hu => ?_⟩
    rw [sans_cell' (fun h => h)]
    show w.cell? ⟨b, 0 + 0 * 7 + j, none⟩ = some u
    rw [show 0 + 0 * 7 + j = j by omega, cell_of h j]
    match j, hu with
    | 0, hu => exact hu
    | 1, hu => exact hu
    | 2, hu => exact hu
    | 3, hu => exact hu
    | 4, hu => exact hu
    | 5, hu => exact hu
    | 6, hu => exact hu
    | n + 7, hu => simp at hu
  | i + 1, hx => simp [shS] at hx
theorem shR_ok : RecOk shR := ⟨by constructor <;> decide, by constructor <;> decide, by unfold U64; decide, by constructor <;> decide, by unfold U64; decide, by unfold U64; decide, by unfold U64; decide, by constructor <;> decide, by constructor <;> decide, by unfold Sz; decide, by unfold Sz; decide, by unfold Sz; decide, fun y h => by cases h⟩
theorem mshown_any (w : World) : Calls Tryz.prog 6 #[] w fun e w' => e = .returned (.bool true) ∧ Below w.heap.size w w' := by
  go_enter Tryz.func6, Tryz.ntmps6
  go_wp2_with fail
  refine calls_box2 ?_
  intro W0 h0 h1 B0 hz
  refine (begin_any W0 (fun _ => False) shS [U 0, U 0, U 0, .slice none 0 0, .slice none 0 0, .slice none 0 0, .slice none 0 0, .slice none 0 0, .slice none 0 0, .slice none 0 0, .slice (some ⟨w.heap.size, 0, none⟩) 1 1, .slice none 0 0] 0 1 10 (fun _ h => h.elim) (shS_at W0 w.heap.size h0.out) smSh).mono ?_
  rintro e w1 ⟨wb, rfl, hw1, hwb, b1⟩
  have HW1 := hid hw1
  have B1 := hid (B0.out.trans (b1.mono B0.out.size))
  have hlt1 := hid (hw1.lt)
  clear hw1 b1 h0 h1 hz
  have hk0 := begin_sm shS 1 10 1 smSh (by omega) (by omega) (by decide) (by decide) (by decide) (by simp [shS, stateE])
  have hp1 := pub_sm (beginV shS 0 1 10) shR 1 hk0 (by omega) (.inr rfl)
  have HK0 := hid hk0
  have HK1 := hid hp1
  have E1 := shown_one
  have E2 := shown_two
  have EV := hid shown_ev
  have E3 := hid (pub_six _ _ E2)
  go_wp2_with fail
  refine calls_box1 ?_
  intro W2 h2 B2 hz2
  refine (publish_any W2 wb (fun b => b = wb) (.slice none 0 0) (beginV shS 0 1 10) shR none 0 1 (HW1.out.grow B2.out) HK0.out (by omega) (fun _ => shR_ok) (vnil _) (.inr rfl)).mono ?_
  rintro e w3 ⟨rfl, S2, ve2, hw2, g2⟩
  rw [E1]
  have HW2 := hid hw2
  have hww : w.heap.size ≤ wb := Nat.le_trans B0.out.size hwb
  have B22 := hid (B1.out.trans (B2.out.mono B1.out.size))
  have B3 := hid (B22.out.trans (g2.below B22.out.size (fun b h => by subst h; exact hww)))
  have HS2 : Hid (∀ b, S2 b → w.heap.size ≤ b) := fun b h => by
    rcases Nat.lt_or_ge b W2.heap.size with h1 | h1
    · have := (g2.same b h1).1 h
      omega
    · exact Nat.le_trans B22.out.size h1
  have h3 := hid (g2.keep (fun h => by have := (hlt1.out wb rfl).1; omega) h2.out)
  generalize (publishV (beginV shS 0 1 10) shR).1 = k1 at *
  clear hw2 g2 hk0 hp1 h2 hz2 HK0 HW1 E1
  obtain ⟨r0, r1, r2, r3, r4, r5, r6, r7, r8, r9, r10, r11, r12⟩ := cells13 h3.out
  go_wp2_with fail
  refine (publish_any w3 wb S2 ve2 k1 shR none 0 4 HW2.out HK1.out (by omega) (fun _ => shR_ok) (vnil _) (.inl E2)).mono ?_
  rintro e w4 ⟨rfl, S3, ve3, hw3, g3⟩
  rw [E2]
  rw [E3.out] at hw3
  have HW3 := hid hw3
  have B4 := hid (B3.out.trans (g3.below B3.out.size HS2.out))
  clear hw3 g3 E2 r0 r1 r2 r3 r4 r5 r6 r7 r8 r9 r10 r11 r12
  go_wp2_with fail
  refine (events_any w4 wb S3 ve3 k1 HW3.out HK1.out.evv (by have := HK1.out.ev; omega)).mono ?_
  rintro e w5 ⟨v, rfl, hl5, b5⟩
  have hlen : k1.ev.length = 2 := by have := congrArg List.length EV.out; simpa using this
  obtain ⟨e1, he1⟩ : ∃ e1, k1.ev[1]? = some e1 := ⟨_, List.getElem?_eq_getElem (by omega)⟩
  have hf : (e1.kind, e1.key, e1.key2) = ((21 : Int), 3, 1) := by
    have h := congrArg (fun l => l[1]?) EV.out
    simp only [List.getElem?_map, he1, Option.map_some] at h
    simpa using h
  injection hf with hf1 hf2
  injection hf2 with hf2 hf3
  obtain ⟨a, cap, rfl, -, -, hl5⟩ := hl5
  obtain ⟨bb, off, cs, rfl, -, ⟨vv, rfl, -⟩, hc⟩ := hl5 1 e1 he1
  have q1 := (sans_cell (hc 1 _ rfl)).1
  have q4 := (sans_cell (hc 4 _ rfl)).1
  have q5 := (sans_cell (hc 5 _ rfl)).1
  rw [hf1] at q1
  rw [hf2] at q4
  rw [hf3] at q5
  rw [show off + 1 * 13 + 1 = off + 14 by omega] at q1
  rw [show off + 1 * 13 + 4 = off + 17 by omega] at q4
  rw [show off + 1 * 13 + 5 = off + 18 by omega] at q5
  have q1' : w5.cell? ⟨bb, off + 13 + 1, none⟩ = some (I 21) := q1
  have q4' : w5.cell? ⟨bb, off + 13 + 4, none⟩ = some (U 3) := q4
  have q5' : w5.cell? ⟨bb, off + 13 + 5, none⟩ = some (U 1) := q5
  have B5 := hid (B4.out.trans (b5.mono B4.out.size))
  rw [hlen]
  clear hl5 hc he1 hf1 hf2 hf3 b5 hlen
  go_wp2_with fail
  refine (mshard_any ⟨#[97, 98]⟩ 4 (by decide) (by decide) (by decide) w5).mono ?_
  rintro e w6 ⟨rfl, rfl⟩
  rw [shown_shard]
  go_wp2_with fail
  refine (mhome_any 2199023255553 (by decide) _).mono ?_
  rintro e w6 ⟨rfl, rfl⟩
  rw [shown_home]
  go_wp2
  go_ret
  exact ⟨rfl, B5.out⟩
end Go.Proofs.YtjkbfoeakeoeiaaGreat
namespace Go.Proofs.YtjkbfoeakeoeiaaGreat
set_option maxRecDepth 100000
set_option maxHeartbeats 40000000
set_option linter.unusedSimpArgs false
set_option linter.unusedVariables false
open Go.RowKit
structure RecIn (r : RecV) : Prop where
  cls : I64 r.cls
  kind : I64 r.kind
  from_ : U64 r.from_
  time : I64 r.time
  key : U64 r.key
  key2 : U64 r.key2
  key3 : U64 r.key3
  n : I64 r.n
  m : I64 r.m
  vars : ∀ y ∈ r.vars, I64 y.v.n
theorem eS_size {s : ByteArray} (h : eS s = true) : s.size = 0 := by
  unfold eS at h
  have h1 : s.toList = [] := by simpa using h
  rw [Lib.toList_data] at h1
  rw [← ByteArray.size_data, ← Array.length_toList, h1]
  rfl
theorem mayV_size {v : ValV} (h : mayV v = true) : v.s.size ≤ 1024 := by
  unfold mayV at h
  split at h
  · simp only [Bool.and_eq_true, decide_eq_true_eq] at h
    exact h.2
  · split at h
    · rw [eS_size h]; omega
    · split at h
      · simp only [Bool.and_eq_true] at h
        rw [eS_size h.2]; omega
      · cases h
theorem right_at {l : List VarV} (h : rightV l = true) : ∀ x ∈ l, named x.name = true ∧ mayV x.v = true := by
  intro x hx
  obtain ⟨i, hi⟩ := List.mem_iff_getElem?.1 hx
  unfold rightV at h
  simp only [Bool.and_eq_true, List.all_eq_true] at h
  have h1 := h.2 i (List.mem_range.2 (List.getElem?_eq_some_iff.1 hi).1)
  unfold okAt at h1
  rw [hi] at h1
  simp only [Bool.and_eq_true] at h1
  exact ⟨h1.1.1, h1.1.2⟩
theorem rec_ok {r : RecV} (h : RecIn r) (hg : ¬ pubBad r) : RecOk r := by
  unfold pubBad at hg
  simp only [not_or, Bool.not_eq_false, Nat.not_lt] at hg
  obtain ⟨h1, h2, h3, -, -, h6⟩ := hg
  have ha := named_len h1
  refine ⟨h.cls, h.kind, h.from_, h.time, h.key, h.key2, h.key3, h.n, h.m, (by unfold Sz; omega), (by unfold Sz; omega), (by unfold Sz; omega), fun y hy => ?_⟩
  have hr := right_at h6 y hy
  have hn := named_len hr.1
  have hm := mayV_size hr.2
  have hi := h.vars y hy
  exact ⟨by omega, hi.1, hi.2, by omega⟩
end Go.Proofs.YtjkbfoeakeoeiaaGreat
namespace Go.Proofs.YtjkbfoeakeoeiaaGreat
set_option maxRecDepth 100000
set_option maxHeartbeats 40000000
set_option linter.unusedSimpArgs false
set_option linter.unusedVariables false
open Go.RowKit
def NoStr (cs : Array Value) : Prop := ∀ (i : Nat) (s : ByteArray), cs[i]? ≠ some (.string s)
theorem NoStr.apart {w : World} {sb b o : Nat} {cs : Array Value} {T : TypeId} {fr : Nat × Nat} {s : ByteArray} (hn : NoStr cs) (h : w.heap[sb]? = some (.cells cs T fr)) (hc : w.cell? ⟨b, o, none⟩ = some (.string s)) : ¬ b = sb := by
  rintro rfl
  rw [cell_of h o] at hc
  exact hn o s hc
theorem sans_keep {S : Nat → Prop} {w w' : World} {sb b o : Nat} {v : Value} (hB : But (fun i => i = sb) w w') (hb : ¬ b = sb) (h : (sans S w).cell? ⟨b, o, none⟩ = some v) : (sans S w').cell? ⟨b, o, none⟩ = some v := by
  obtain ⟨h1, h2⟩ := sans_cell h
  rw [sans_cell' h2]
  exact hB.cell h1 hb
theorem vars_keep {S : Nat → Prop} {w w' : World} {sb : Nat} {cs : Array Value} {T : TypeId} {fr : Nat × Nat} {v : Value} {l : List VarV} (hn : NoStr cs) (h : w.heap[sb]? = some (.cells cs T fr)) (hB : But (fun i => i = sb) w w') (hv : VarsAt (sans S w) v l) : VarsAt (sans S w') v l := by
  obtain ⟨a, cap, hv, h1, h2, h3⟩ := hv
  refine ⟨a, cap, hv, h1, h2, fun i x hx => ?_⟩
  obtain ⟨b, off, ha, c0, c1, c2, c3⟩ := h3 i x hx
  have hb := hn.apart h (sans_cell c0).1
  exact ⟨b, off, ha, sans_keep hB hb c0, sans_keep hB hb c1, sans_keep hB hb c2, sans_keep hB hb c3⟩
theorem slr_nil {w w' : World} {v : Value} (h : SlR w v []) : SlR w' v [] := by
  obtain ⟨a, cap, hv, h1, h2, -⟩ := h
  exact ⟨a, cap, hv, h1, h2, fun i u hu => by simp at hu⟩
theorem list_keep {α : Type} {R : World → List Value → α → Prop} {size : Nat} {S : Nat → Prop} {w w' : World} {sb : Nat} {cs : Array Value} {T : TypeId} {fr : Nat × Nat} {v : Value} {l : List α} (hn : NoStr cs) (h : w.heap[sb]? = some (.cells cs T fr)) (hB : But (fun i => i = sb) w w') (j : Nat)
    (hs : ∀ c x, R (sans S w) c x → ∃ s, c[j]? = some (.string s)) (hr : ∀ c x, x ∈ l → R (sans S w) c x → R (sans S w') c x) (hl : ListAt R size (sans S w) v l) : ListAt R size (sans S w') v l := by
  obtain ⟨a, cap, hv, h1, h2, h3⟩ := hl
  refine ⟨a, cap, hv, h1, h2, fun i x hx => ?_⟩
  obtain ⟨b, off, c, ha, hc, hx1, hu⟩ := h3 i x hx
  obtain ⟨s, hj⟩ := hs _ _ hx1
  have hb := hn.apart h (sans_cell (hu j _ hj)).1
  exact ⟨b, off, c, ha, hc, hr _ _ (List.mem_of_getElem? hx) hx1, fun k u hk => sans_keep hB hb (hu k u hk)⟩
theorem list_nil {α : Type} {R : World → List Value → α → Prop} {size : Nat} {w w' : World} {v : Value} (hl : ListAt R size w v []) : ListAt R size w' v [] := by
  obtain ⟨a, cap, hv, h1, h2, -⟩ := hl
  exact ⟨a, cap, hv, h1, h2, fun i x hx => by simp at hx⟩
structure Lone (s : StateV) : Prop where
  procs : s.procs = []
  insts : s.insts = []
  tokens : s.tokens = []
  jobs : s.jobs = []
  timers : s.timers = []
  subs : s.subs = []
  kept : s.kept = []
  ins : ∀ m ∈ s.msgs, m.insts = []
theorem StAt.keep {S : Nat → Prop} {w w' : World} {sb : Nat} {cs : Array Value} {T : TypeId} {fr : Nat × Nat} {c : List Value} {s : StateV} (hn : NoStr cs) (h : w.heap[sb]? = some (.cells cs T fr)) (hB : But (fun i => i = sb) w w') (hl : Lone s) (hs : StAt S w c s) : StAt S w' c s := by
  obtain ⟨vp, vi, vt, vj, vr, vs, vk, vl, vm, hc, h1, h2, h3, h4, h5, h6, h7, h8, h9⟩ := hs
  refine ⟨vp, vi, vt, vj, vr, vs, vk, vl, vm, hc, ?_, ?_, ?_, ?_, ?_, ?_, ?_, ?_, ?_⟩
  · rw [hl.procs] at h1 ⊢; exact list_nil h1
  · rw [hl.insts] at h2 ⊢; exact list_nil h2
  · rw [hl.tokens] at h3 ⊢; exact list_nil h3
  · rw [hl.jobs] at h4 ⊢; exact list_nil h4
  · rw [hl.timers] at h5 ⊢; exact list_nil h5
  · rw [hl.subs] at h6 ⊢; exact list_nil h6
  · rw [hl.kept] at h7 ⊢; exact list_nil h7
  · refine list_keep hn h hB 3 ?_ ?_ h8
    · rintro c x ⟨v, rfl, -⟩
      exact ⟨_, rfl⟩
    · rintro c x - ⟨v, rfl, hv⟩
      exact ⟨v, rfl, vars_keep hn h hB hv⟩
  · refine list_keep hn h hB 1 ?_ ?_ h9
    · rintro c x ⟨v, u, rfl, -⟩
      exact ⟨_, rfl⟩
    · rintro c x hx ⟨v, u, rfl, hv, hu⟩
      refine ⟨v, u, rfl, vars_keep hn h hB hv, ?_⟩
      rw [hl.ins x hx] at hu ⊢
      exact slr_nil hu
theorem listed_keep {S : Nat → Prop} {w w' : World} {sb : Nat} {cs : Array Value} {T : TypeId} {fr : Nat × Nat} {v : Value} {l : List LisV} (hn : NoStr cs) (h : w.heap[sb]? = some (.cells cs T fr)) (hB : But (fun i => i = sb) w w') (hl : ListAt LisV.at_ 7 (sans S w) v l) : ListAt LisV.at_ 7 (sans S w') v l := by
  refine list_keep hn h hB 3 ?_ ?_ hl
  · rintro c x ⟨v, rfl, -⟩
    exact ⟨_, rfl⟩
  · rintro c x - ⟨v, rfl, hv⟩
    exact ⟨v, rfl, vars_keep hn h hB hv⟩
theorem noStr12 {n0 n1 n2 : Nat} {a3 a4 a5 a6 a7 a8 a9 a10 a11 : Option Addr} {l3 l4 l5 l6 l7 l8 l9 l10 l11 c3 c4 c5 c6 c7 c8 c9 c10 c11 : Nat} : NoStr #[U n0, U n1, U n2, .slice a3 l3 c3, .slice a4 l4 c4, .slice a5 l5 c5, .slice a6 l6 c6, .slice a7 l7 c7, .slice a8 l8 c8, .slice a9 l9 c9, .slice a10 l10 c10, .slice a11 l11 c11] := by
  intro i s
  match i with
  | 0 => simp
  | 1 => simp
  | 2 => simp
  | 3 => simp
  | 4 => simp
  | 5 => simp
  | 6 => simp
  | 7 => simp
  | 8 => simp
  | 9 => simp
  | 10 => simp
  | 11 => simp
  | n + 12 => simp
theorem lone_E : Lone stateE := ⟨rfl, rfl, rfl, rfl, rfl, rfl, rfl, fun m h => by simp [stateE] at h⟩
theorem lone_pub1 (a : RecV) : Lone (publishV (beginV stateE 0 1 0) a).1.s := by
  have hs : ∀ k : WorkV, k = beginV stateE 0 1 0 → Lone k.s := fun k h => by rw [h]; exact lone_E
  by_cases hg : pubBad a
  · have : publishV (beginV stateE 0 1 0) a = (beginV stateE 0 1 0, 1) := by unfold publishV; exact if_pos hg
    rw [this]
    exact lone_E
  rw [pub_eq _ a hg (by simp [beginV, stateE])]
  split
  · exact lone_E
  · unfold pub3 pub2 pub1
    by_cases h0 : a.n = 0
    · rw [if_pos h0]
      constructor <;> simp [emitV, applyV, eventV, evPublished, evExpired, put_one, beginV, pubR, rec0, stateE, withoutBy]
    · rw [if_neg h0]
      constructor <;> simp [emitV, applyV, eventV, evPublished, evExpired, put_one, beginV, pubR, rec0, stateE, withoutBy]
theorem lone_open1 (b : RecV) : Lone (openV (beginV stateE 0 1 0) b).1.s := by
  by_cases hg : named b.a = false ∨ 1024 < b.b.size ∨ b.n < 0 ∨ 30000 < b.n
  · have : openV (beginV stateE 0 1 0) b = (beginV stateE 0 1 0, 1) := by unfold openV; exact if_pos hg
    rw [this]
    exact lone_E
  rw [opn_eq _ b rfl hg]
  have : (emitV (beginV stateE 0 1 0) (opnR b)).s.msgs = [] := by simp [emitV, applyV, eventV, evListed, put_one, beginV, opnR, rec0, stateE]
  rw [this]
  constructor <;> simp [emitV, applyV, eventV, evListed, put_one, beginV, opnR, rec0, stateE]
theorem pub1_listed (a : RecV) : (publishV (beginV stateE 0 1 0) a).1.s.listed = [] := by
  by_cases hg : pubBad a
  · have : publishV (beginV stateE 0 1 0) a = (beginV stateE 0 1 0, 1) := by unfold publishV; exact if_pos hg
    rw [this]
    rfl
  rw [pub_eq _ a hg (by simp [beginV, stateE])]
  split
  · rfl
  · unfold pub3 pub2 pub1
    by_cases h0 : a.n = 0
    · rw [if_pos h0]
      simp [emitV, applyV, eventV, evPublished, evExpired, put_one, beginV, pubR, rec0, stateE, withoutBy]
    · rw [if_neg h0]
      simp [emitV, applyV, eventV, evPublished, evExpired, put_one, beginV, pubR, rec0, stateE, withoutBy]
theorem open1_msgs (b : RecV) : (openV (beginV stateE 0 1 0) b).1.s.msgs = [] := by
  by_cases hg : named b.a = false ∨ 1024 < b.b.size ∨ b.n < 0 ∨ 30000 < b.n
  · have : openV (beginV stateE 0 1 0) b = (beginV stateE 0 1 0, 1) := by unfold openV; exact if_pos hg
    rw [this]
    rfl
  rw [opn_eq _ b rfl hg]
  have : (emitV (beginV stateE 0 1 0) (opnR b)).s.msgs = [] := by simp [emitV, applyV, eventV, evListed, put_one, beginV, opnR, rec0, stateE]
  rw [this]
  exact this
end Go.Proofs.YtjkbfoeakeoeiaaGreat
namespace Go.Proofs.YtjkbfoeakeoeiaaGreat
set_option maxRecDepth 100000
set_option maxHeartbeats 40000000
set_option linter.unusedSimpArgs false
set_option linter.unusedVariables false
open Go.RowKit
def mK1 (a b : RecV) (first : Bool) : WorkV × Int := if first = true then publishV (beginV stateE 0 1 0) a else openV (beginV stateE 0 1 0) b
def mK2 (a b : RecV) (first : Bool) (wait : Int) : WorkV × Int := if first = true then openV (beginV (mK1 a b first).1.s 0 2 wait) b else publishV (beginV (mK1 a b first).1.s 0 2 wait) a
def mSt (a b : RecV) (first : Bool) (wait : Int) : Nat → StateV
  | 0 => stateE
  | 1 => (mK1 a b first).1.s
  | _ => (mK2 a b first wait).1.s
theorem k1_sm (a b : RecV) (first : Bool) : SmW 3 (mK1 a b first).1 := by
  have h0 := begin_sm stateE 1 0 0 smE (by omega) (by omega) (by decide) (by decide) (by decide) (by simp [stateE])
  unfold mK1
  cases first with
  | true => exact pub_sm _ a 0 h0 (by omega) (.inr rfl)
  | false => exact (open_sm _ b 0 h0 (by omega) rfl).to (by omega)
theorem k1b_sm (a b : RecV) (first : Bool) (wait : Int) (hw : 0 ≤ wait ∧ wait ≤ 1000000) : SmW 3 (beginV (mK1 a b first).1.s 0 2 wait) := by
  have h := k1_sm a b first
  exact begin_sm _ 2 wait 3 h.sm (by omega) hw h.spos h.made h.done h.ins
theorem k1_lone (a b : RecV) (first : Bool) : Lone (mK1 a b first).1.s := by
  unfold mK1
  cases first with
  | true => exact lone_pub1 a
  | false => exact lone_open1 b
theorem k2_sm (a b : RecV) (first : Bool) (wait : Int) (hw : 0 ≤ wait ∧ wait ≤ 1000000) : SmW 6 (mK2 a b first wait).1 := by
  have h := k1b_sm a b first wait hw
  unfold mK2
  cases first with
  | true => exact (open_sm _ b 3 h (by omega) (pub1_listed a)).to (by omega)
  | false => exact pub_sm _ a 3 h (by omega) (.inr (open1_msgs b))
theorem mk_all (a b : RecV) (first : Bool) (wait : Int) (hw : 0 ≤ wait) :
    ((mK1 a b first).2 = 1 ∨ ((mK1 a b first).2 = 13 ∧ first = true) ∨ (mK1 a b first).2 = 0) ∧
    ((mK1 a b first).2 = 0 → ((mK2 a b first wait).2 = 1 ∨ ((mK2 a b first wait).2 = 13 ∧ first = false) ∨ ((mK2 a b first wait).2 = 0 ∧
      ∃ x, (mK2 a b first wait).1.s.listed = [x] ∧ (x.msg ≠ 0 ↔ (a.a = b.a ∧ a.b = b.b ∧ (first = false ∨ wait < a.n)))))) := by
  cases first with
  | true =>
    have e1 : mK1 a b true = publishV (beginV stateE 0 1 0) a := rfl
    have e2 : mK2 a b true wait = openV (beginV (publishV (beginV stateE 0 1 0) a).1.s 0 2 wait) b := rfl
    rw [e1, e2]
    rcases meets_first a b wait hw with h | h | ⟨h, h2⟩
    · exact ⟨.inl h, fun h0 => by rw [h] at h0; cases h0⟩
    · exact ⟨.inr (.inl ⟨h, rfl⟩), fun h0 => by rw [h] at h0; cases h0⟩
    · refine ⟨.inr (.inr h), fun _ => ?_⟩
      rcases h2 with h2 | ⟨h2, x, hx, h3⟩
      · exact .inl h2
      · refine .inr (.inr ⟨h2, x, hx, h3.trans ?_⟩)
        constructor
        · rintro ⟨p, q, r⟩
          exact ⟨p, q, .inr r⟩
        · rintro ⟨p, q, r | r⟩
          · cases r
          · exact ⟨p, q, r⟩
  | false =>
    have e1 : mK1 a b false = openV (beginV stateE 0 1 0) b := rfl
    have e2 : mK2 a b false wait = publishV (beginV (openV (beginV stateE 0 1 0) b).1.s 0 2 wait) a := rfl
    rw [e1, e2]
    rcases meets_late a b wait with h | ⟨h, h2⟩
    · exact ⟨.inl h, fun h0 => by rw [h] at h0; cases h0⟩
    · refine ⟨.inr (.inr h), fun _ => ?_⟩
      rcases h2 with h2 | h2 | ⟨h2, x, hx, h3⟩
      · exact .inl h2
      · exact .inr (.inl ⟨h2, rfl⟩)
      · refine .inr (.inr ⟨h2, x, hx, h3.trans ?_⟩)
        constructor
        · rintro ⟨p, q⟩
          exact ⟨p, q, .inl rfl⟩
        · rintro ⟨p, q, -⟩
          exact ⟨p, q⟩
theorem vars_sans {S : Nat → Prop} {w W : World} {v : Value} {l : List VarV} (h : VarsAt w v l) (hb : Below w.heap.size w W) (hS : ∀ b, S b → w.heap.size ≤ b) : VarsAt (sans S W) v l := by
  obtain ⟨a, cap, hv, h1, h2, h3⟩ := h
  refine ⟨a, cap, hv, h1, h2, fun i x hx => ?_⟩
  obtain ⟨b, off, ha, c0, c1, c2, c3⟩ := h3 i x hx
  have hlt := World.block_lt_of_cell? w _ c0
  dsimp only at hlt
  have hn : ¬ S b := fun h => by have := hS b h; omega
  have k : ∀ o v, w.cell? ⟨b, o, none⟩ = some v → (sans S W).cell? ⟨b, o, none⟩ = some v := fun o v h => (sans_cell' (p := ⟨b, o, none⟩) hn).trans ((hb.cell (p := ⟨b, o, none⟩) hlt).trans h)
  exact ⟨b, off, ha, k _ _ c0, k _ _ c1, k _ _ c2, k _ _ c3⟩
def Sh12 (cs : List Value) : Prop := ∃ (n0 n1 n2 : Nat) (a3 a4 a5 a6 a7 a8 a9 a10 a11 : Option Addr) (l3 l4 l5 l6 l7 l8 l9 l10 l11 c3 c4 c5 c6 c7 c8 c9 c10 c11 : Nat), cs = [U n0, U n1, U n2, .slice a3 l3 c3, .slice a4 l4 c4, .slice a5 l5 c5, .slice a6 l6 c6, .slice a7 l7 c7, .slice a8 l8 c8, .slice a9 l9 c9, .slice a10 l10 c10, .slice a11 l11 c11]
theorem sh_of {S : Nat → Prop} {w : World} {cs : List Value} {s : StateV} (h : StAt S w cs s) : Sh12 cs := by
  obtain ⟨vp, vi, vt, vj, vr, vs, vk, vl, vm, hs⟩ := h
  have hcs := hs.cells
  obtain ⟨⟨pa, pc, rfl⟩, ⟨ia, ic, rfl⟩, ⟨ta, tc, rfl⟩, ⟨ja, jc, rfl⟩, ⟨ra, rc, rfl⟩, ⟨sa, sc, rfl⟩, ⟨ka, kc, rfl⟩, ⟨la, lc, rfl⟩, ⟨ma, mc, rfl⟩⟩ := hs.shapes
  exact ⟨_, _, _, _, _, _, _, _, _, _, _, _, _, _, _, _, _, _, _, _, _, _, _, _, _, _, _, _, _, _, hcs⟩
structure MR (sb ab bb : Nat) (ca cb : Array Value) (TA TS : TypeId) (B : Nat) (w0 W : World) (s : StateV) : Prop where
  a : W.heap[ab]? = some (.cells ca TA (0, 0))
  b : W.heap[bb]? = some (.cells cb TA (0, 0))
  st : ∃ S cs vl, (∀ b, S b → b < W.heap.size) ∧ Sh12 cs ∧ W.heap[sb]? = some (.cells cs.toArray TS (0, 0)) ∧ (Lone s → StAt S W cs s) ∧ cs[10]? = some vl ∧ ListAt LisV.at_ 7 (sans S W) vl s.listed
  low : Below B w0 W
theorem mr_next {S : Nat → Prop} {sb ab bb : Nat} {ca cb old : Array Value} {TA TS : TypeId} {B : Nat} {w0 W W' : World} {cs : List Value} {s : StateV} (hS : ∀ b, S b → b < W.heap.size) (hst : StAt S W cs s) (hsb : W.heap[sb]? = some (.cells old TS (0, 0))) (hn : NoStr old)
    (h' : W'.heap[sb]? = some (.cells cs.toArray TS (0, 0))) (hB : But (fun i => i = sb) W W') (ha : W.heap[ab]? = some (.cells ca TA (0, 0))) (hb : W.heap[bb]? = some (.cells cb TA (0, 0))) (hab : ab ≠ sb) (hbb : bb ≠ sb) (hlow : Below B w0 W) (hle : B ≤ sb) : MR sb ab bb ca cb TA TS B w0 W' s := by
  refine ⟨(hB.block _ (heap_lt ha) hab).trans ha, (hB.block _ (heap_lt hb) hbb).trans hb, ?_, hlow.trans (hB.below (by have := heap_lt hsb; omega) (fun k h => by omega))⟩
  have hsh := sh_of hst
  have hst' := hst
  obtain ⟨vp, vi, vt, vj, vr, vs, vk, vl, vm, hs⟩ := hst'
  have hcs := hs.cells
  exact ⟨S, cs, vl, fun b h => Nat.lt_of_lt_of_le (hS b h) hB.size, hsh, h', fun hl => StAt.keep hn hsb hB hl hst, by rw [hcs]; rfl, listed_keep hn hsb hB hs.listed⟩
end Go.Proofs.YtjkbfoeakeoeiaaGreat
