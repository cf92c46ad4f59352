/- Keep: contracts (Hb Hc He Hf Ht Hd Hu Ru Rd Hg Hv). -/
import Derived.Test.YtjkbfoeakeoeiaaGreatT1
import Derived.Test.YtjkbfoeakeoeiaaGreatT6
import Derived.Test.YtjkbfoeakeoeiaaGreatT19
import Derived.Test.YtjkbfoeakeoeiaaGreatT21
import Derived.Test.YtjkbfoeakeoeiaaGreatRows
import Derived.Deep.Slices
import Derived.ProofKit
import Derived.SizedLaws
import Derived.KernelRfl
namespace Go.Proofs.YtjkbfoeakeoeiaaGreat
set_option maxRecDepth 100000
set_option maxHeartbeats 40000000
set_option linter.unusedSimpArgs false
set_option linter.unusedVariables false
open Go.RowKit
theorem SmW.to {b c : Nat} {k : WorkV} (h : SmW b k) (hc : b ≤ c) : SmW c k := ⟨h.sm, h.part, h.pos, h.now, Nat.le_trans h.spos hc, Nat.le_trans h.made hc, h.done, Nat.le_trans h.ev hc, h.evv, fun m hm => Nat.le_trans (h.ins m hm) hc⟩
theorem step_sm (k : WorkV) (key left b : Nat) (x : LisV) (h : SmW b k) (hb : b < 1000) : SmW (b + 1) (pubStep key (k, left) x).1 := by
  unfold pubStep
  dsimp only
  split
  · split
    · exact emit_sm k _ b h hb (fun h => by revert h; simp [sendR]) (fun h => by revert h; simp [sendR]) (by simp [sendR, rec0])
    · exact h.up
  · exact h.up
theorem pub_sm (k : WorkV) (r : RecV) (b : Nat) (h : SmW b k) (hb : b < 900) (hm : (publishV k r).2 = 6 ∨ k.s.msgs = []) : SmW (b + 3) (publishV k r).1 := by
  by_cases hg : pubBad r
  · have : publishV k r = (k, 1) := by unfold publishV; exact if_pos hg
    rw [this]
    exact h.to (by omega)
  by_cases hs : r.c.size ≠ 0 ∧ k.s.msgs.any (pubSame k r) = true
  · rw [pub_same k r hg hs]
    exact h.to (by omega)
  have hv : r.vars.length ≤ 1048576 := by
    have hr : rightV r.vars = true := by
      cases h : rightV r.vars with
      | true => rfl
      | false => exact absurd (show pubBad r from .inr (.inr (.inr (.inr (.inr h))))) hg
    have := right_le hr
    omega
  have hp := pub_eq k r hg hs
  rw [hp] at hm
  rw [hp]
  split
  · exact h.to (by omega)
  · rename_i h13
    rw [if_neg h13] at hm
    have hm0 : k.s.msgs = [] := hm.elim (fun h => by cases h) id
    have h1 : SmW (b + 1) (pub1 k r) := emit_sm k _ b h (by omega) (fun h => by revert h; simp [pubR]) (fun _ => hm0) hv
    have h2 : SmW (b + 2) (pub2 k r) := by
      unfold pub2
      obtain hl | ⟨x, hx⟩ := list_le1 h1.sm.l1
      · rw [hl]
        exact h1.up
      · rw [hx]
        exact step_sm (pub1 k r) _ _ _ x h1 (by omega)
    show SmW (b + 3) (pub3 k r)
    unfold pub3
    split
    · exact emit_sm _ _ _ h2 (by omega) (fun h => by revert h; simp) (fun h => by revert h; simp) (by simp [rec0])
    · exact h2.up
theorem open_sm (k : WorkV) (r : RecV) (b : Nat) (h : SmW b k) (hb : b < 900) (h0 : k.s.listed = []) : SmW (b + 2) (openV k r).1 := by
  by_cases hg : named r.a = false ∨ 1024 < r.b.size ∨ r.n < 0 ∨ 30000 < r.n
  · have : openV k r = (k, 1) := by unfold openV; exact if_pos hg
    rw [this]
    exact h.to (by omega)
  rw [opn_eq k r h0 hg]
  have h1 : SmW (b + 1) (emitV k (opnR r)) := emit_sm k _ b h (by omega) (fun _ => h0) (fun h => by revert h; simp [opnR]) (by simp [opnR, rec0])
  split
  · exact emit_sm _ _ _ h1 (by omega) (fun h => by revert h; simp [sendR]) (fun h => by revert h; simp [sendR]) (by simp [sendR, rec0])
  · exact h1.up
theorem begin_sm (s : StateV) (pos : Nat) (now : Int) (b : Nat) (hs : SmS s) (hp : 1 ≤ pos ∧ pos ≤ 1000000) (hn : 0 ≤ now ∧ now ≤ 1000000) (h1 : s.pos ≤ b) (h2 : s.made ≤ b) (h3 : s.done ≤ 1000000) (h4 : ∀ m ∈ s.msgs, m.insts.length ≤ b) : SmW b (beginV s 0 pos now) :=
  ⟨hs, rfl, hp, hn, h1, h2, h3, Nat.zero_le _, (fun r h => by cases h), h4⟩
theorem nil_list {α : Type} (R : World → List Value → α → Prop) (k : Nat) (w : World) : ListAt R k w (.slice none 0 0) [] := ⟨none, 0, rfl, Nat.le_refl _, by simp [maxLen], fun i x h => by simp at h⟩
theorem stateE_at (S : Nat → Prop) (w : World) : StAt S w [U 0, U 0, U 0, .slice none 0 0, .slice none 0 0, .slice none 0 0, .slice none 0 0, .slice none 0 0, .slice none 0 0, .slice none 0 0, .slice none 0 0, .slice none 0 0] stateE :=
  ⟨_, _, _, _, _, _, _, _, _, rfl, nil_list _ _ _, nil_list _ _ _, nil_list _ _ _, nil_list _ _ _, nil_list _ _ _, nil_list _ _ _, nil_list _ _ _, nil_list _ _ _, nil_list _ _ _⟩
theorem smE : SmS stateE := ⟨by simp [stateE], rfl, by simp [stateE], by simp [stateE], by simp [stateE], by simp [stateE]⟩
theorem pub_six (k : WorkV) (r : RecV) (h : (publishV k r).2 = 6) : (publishV k r).1 = k := by
  by_cases hg : pubBad r
  · have : publishV k r = (k, 1) := by unfold publishV; exact if_pos hg
    rw [this]
  by_cases hs : r.c.size ≠ 0 ∧ k.s.msgs.any (pubSame k r) = true
  · rw [pub_same k r hg hs]
  rw [pub_eq k r hg hs] at h
  split at h <;> cases h
theorem smSh : SmS shS := ⟨by simp [shS, stateE], rfl, by simp [shS], by simp [shS, stateE], by simp [shS], by simp [shS, stateE]⟩
theorem shS_at (w : World) (b : Nat) (h : w.heap[b]? = some (.cells #[U 3, U 2, I 1, .string ⟨#[112, 97, 105, 100]⟩, .string ⟨#[107]⟩, U 0, .slice none 0 0] 58 (0, 0))) : StAt (fun _ => False) w [U 0, U 0, U 0, .slice none 0 0, .slice none 0 0, .slice none 0 0, .slice none 0 0, .slice none 0 0, .slice none 0 0, .slice none 0 0, .slice (some ⟨b, 0, none⟩) 1 1, .slice none 0 0] shS := by
  refine ⟨_, _, _, _, _, _, _, _, _, rfl, nil_list _ _ _, nil_list _ _ _, nil_list _ _ _, nil_list _ _ _, nil_list _ _ _, nil_list _ _ _, nil_list _ _ _, ?_, nil_list _ _ _⟩
  refine ⟨_, _, rfl, Nat.le_refl _, by simp [shS, maxLen], fun i x hx => ?_⟩
  match i, hx with
  | 0, hx =>
    simp [shS] at hx
    subst hx
    refine ⟨b, 0, [U 3, U 2, I 1, .string paidS, .string keyKS, U 0, .slice none 0 0], rfl, rfl, ⟨_, rfl, vnil _⟩, fun j u hu => ?_⟩
    rw [sans_cell' (fun h => h)]
    show w.cell? ⟨b, 0 + 0 * 7 + j, none⟩ = some u
    rw [show 0 + 0 * 7 + j = j by omega, cell_of h j]
    match j, hu with
    | 0, hu => exact hu
    | 1, hu => exact hu
    | 2, hu => exact hu
    | 3, hu => exact hu
    | 4, hu => exact hu
    | 5, hu => exact hu
    | 6, hu => exact hu
    | n + 7, hu => simp at hu
  | i + 1, hx => simp [shS] at hx
theorem shR_ok : RecOk shR := ⟨by constructor <;> decide, by constructor <;> decide, by unfold U64; decide, by constructor <;> decide, by unfold U64; decide, by unfold U64; decide, by unfold U64; decide, by constructor <;> decide, by constructor <;> decide, by unfold Sz; decide, by unfold Sz; decide, by unfold Sz; decide, fun y h => by cases h⟩
theorem mshown_any (w : World) : Calls Tryz.prog 6 #[] w fun e w' => e = .returned (.bool true) ∧ Below w.heap.size w w' := by
  go_enter Tryz.func6, Tryz.ntmps6
  go_wp2_with fail
  refine calls_box2 ?_
  intro W0 h0 h1 B0 hz
  refine (begin_any W0 (fun _ => False) shS [U 0, U 0, U 0, .slice none 0 0, .slice none 0 0, .slice none 0 0, .slice none 0 0, .slice none 0 0, .slice none 0 0, .slice none 0 0, .slice (some ⟨w.heap.size, 0, none⟩) 1 1, .slice none 0 0] 0 1 10 (fun _ h => h.elim) (shS_at W0 w.heap.size h0.out) smSh).mono ?_
  rintro e w1 ⟨wb, rfl, hw1, hwb, b1⟩
  have HW1 := hid hw1
  have B1 := hid (B0.out.trans (b1.mono B0.out.size))
  have hlt1 := hid (hw1.lt)
  clear hw1 b1 h0 h1 hz
  have hk0 := begin_sm shS 1 10 1 smSh (by omega) (by omega) (by decide) (by decide) (by decide) (by simp [shS, stateE])
  have hp1 := pub_sm (beginV shS 0 1 10) shR 1 hk0 (by omega) (.inr rfl)
  have HK0 := hid hk0
  have HK1 := hid hp1
  have E1 := shown_one
  have E2 := shown_two
  have EV := hid shown_ev
  have E3 := hid (pub_six _ _ E2)
  go_wp2_with fail
  refine calls_box1 ?_
  intro W2 h2 B2 hz2
  refine (publish_any W2 wb (fun b => b = wb) (.slice none 0 0) (beginV shS 0 1 10) shR none 0 1 (HW1.out.grow B2.out) HK0.out (by omega) (fun _ => shR_ok) (vnil _) (.inr rfl)).mono ?_
  rintro e w3 ⟨rfl, S2, ve2, hw2, g2⟩
  rw [E1]
  have HW2 := hid hw2
  have hww : w.heap.size ≤ wb := Nat.le_trans B0.out.size hwb
  have B22 := hid (B1.out.trans (B2.out.mono B1.out.size))
  have B3 := hid (B22.out.trans (g2.below B22.out.size (fun b h => by subst h; exact hww)))
  have HS2 : Hid (∀ b, S2 b → w.heap.size ≤ b) := fun b h => by
    rcases Nat.lt_or_ge b W2.heap.size with h1 | h1
    · have := (g2.same b h1).1 h
      omega
    · exact Nat.le_trans B22.out.size h1
  have h3 := hid (g2.keep (fun h => by have := (hlt1.out wb rfl).1; omega) h2.out)
  generalize (publishV (beginV shS 0 1 10) shR).1 = k1 at *
  clear hw2 g2 hk0 hp1 h2 hz2 HK0 HW1 E1
  obtain ⟨r0, r1, r2, r3, r4, r5, r6, r7, r8, r9, r10, r11, r12⟩ := cells13 h3.out
  go_wp2_with fail
  refine (publish_any w3 wb S2 ve2 k1 shR none 0 4 HW2.out HK1.out (by omega) (fun _ => shR_ok) (vnil _) (.inl E2)).mono ?_
  rintro e w4 ⟨rfl, S3, ve3, hw3, g3⟩
  rw [E2]
  rw [E3.out] at hw3
  have HW3 := hid hw3
  have B4 := hid (B3.out.trans (g3.below B3.out.size HS2.out))
  clear hw3 g3 E2 r0 r1 r2 r3 r4 r5 r6 r7 r8 r9 r10 r11 r12
  go_wp2_with fail
  refine (events_any w4 wb S3 ve3 k1 HW3.out HK1.out.evv (by have := HK1.out.ev; omega)).mono ?_
  rintro e w5 ⟨v, rfl, hl5, b5⟩
  have hlen : k1.ev.length = 2 := by have := congrArg List.length EV.out; simpa using this
  obtain ⟨e1, he1⟩ : ∃ e1, k1.ev[1]? = some e1 := ⟨_, List.getElem?_eq_getElem (by omega)⟩
  have hf : (e1.kind, e1.key, e1.key2) = ((21 : Int), 3, 1) := by
    have h := congrArg (fun l => l[1]?) EV.out
    simp only [List.getElem?_map, he1, Option.map_some] at h
    simpa using h
  injection hf with hf1 hf2
  injection hf2 with hf2 hf3
  obtain ⟨a, cap, rfl, -, -, hl5⟩ := hl5
  obtain ⟨bb, off, cs, rfl, -, ⟨vv, rfl, -⟩, hc⟩ := hl5 1 e1 he1
  have q1 := (sans_cell (hc 1 _ rfl)).1
  have q4 := (sans_cell (hc 4 _ rfl)).1
  have q5 := (sans_cell (hc 5 _ rfl)).1
  rw [hf1] at q1
  rw [hf2] at q4
  rw [hf3] at q5
  rw [show off + 1 * 13 + 1 = off + 14 by omega] at q1
  rw [show off + 1 * 13 + 4 = off + 17 by omega] at q4
  rw [show off + 1 * 13 + 5 = off + 18 by omega] at q5
  have q1' : w5.cell? ⟨bb, off + 13 + 1, none⟩ = some (I 21) := q1
  have q4' : w5.cell? ⟨bb, off + 13 + 4, none⟩ = some (U 3) := q4
  have q5' : w5.cell? ⟨bb, off + 13 + 5, none⟩ = some (U 1) := q5
  have B5 := hid (B4.out.trans (b5.mono B4.out.size))
  rw [hlen]
  clear hl5 hc he1 hf1 hf2 hf3 b5 hlen
  go_wp2_with fail
  refine (mshard_any ⟨#[97, 98]⟩ 4 (by decide) (by decide) (by decide) w5).mono ?_
  rintro e w6 ⟨rfl, rfl⟩
  rw [shown_shard]
  go_wp2_with fail
  refine (mhome_any 2199023255553 (by decide) _).mono ?_
  rintro e w6 ⟨rfl, rfl⟩
  rw [shown_home]
  go_wp2
  go_ret
  exact ⟨rfl, B5.out⟩
end Go.Proofs.YtjkbfoeakeoeiaaGreat
namespace Go.Proofs.YtjkbfoeakeoeiaaGreat
set_option maxRecDepth 100000
set_option maxHeartbeats 40000000
set_option linter.unusedSimpArgs false
set_option linter.unusedVariables false
open Go.RowKit
end Go.Proofs.YtjkbfoeakeoeiaaGreat
namespace Go.Proofs.YtjkbfoeakeoeiaaGreat
set_option maxRecDepth 100000
set_option maxHeartbeats 40000000
set_option linter.unusedSimpArgs false
set_option linter.unusedVariables false
open Go.RowKit
def NoStr (cs : Array Value) : Prop := ∀ (i : Nat) (s : ByteArray), cs[i]? ≠ some (.string s)
theorem NoStr.apart {w : World} {sb b o : Nat} {cs : Array Value} {T : TypeId} {fr : Nat × Nat} {s : ByteArray} (hn : NoStr cs) (h : w.heap[sb]? = some (.cells cs T fr)) (hc : w.cell? ⟨b, o, none⟩ = some (.string s)) : ¬ b = sb := by
  rintro rfl
  rw [cell_of h o] at hc
  exact hn o s hc
theorem sans_keep {S : Nat → Prop} {w w' : World} {sb b o : Nat} {v : Value} (hB : But (fun i => i = sb) w w') (hb : ¬ b = sb) (h : (sans S w).cell? ⟨b, o, none⟩ = some v) : (sans S w').cell? ⟨b, o, none⟩ = some v := by
  obtain ⟨h1, h2⟩ := sans_cell h
  rw [sans_cell' h2]
  exact hB.cell h1 hb
theorem vars_keep {S : Nat → Prop} {w w' : World} {sb : Nat} {cs : Array Value} {T : TypeId} {fr : Nat × Nat} {v : Value} {l : List VarV} (hn : NoStr cs) (h : w.heap[sb]? = some (.cells cs T fr)) (hB : But (fun i => i = sb) w w') (hv : VarsAt (sans S w) v l) : VarsAt (sans S w') v l := by
  obtain ⟨a, cap, hv, h1, h2, h3⟩ := hv
  refine ⟨a, cap, hv, h1, h2, fun i x hx => ?_⟩
  obtain ⟨b, off, ha, c0, c1, c2, c3⟩ := h3 i x hx
  have hb := hn.apart h (sans_cell c0).1
  exact ⟨b, off, ha, sans_keep hB hb c0, sans_keep hB hb c1, sans_keep hB hb c2, sans_keep hB hb c3⟩
theorem slr_nil {w w' : World} {v : Value} (h : SlR w v []) : SlR w' v [] := by
  obtain ⟨a, cap, hv, h1, h2, -⟩ := h
  exact ⟨a, cap, hv, h1, h2, fun i u hu => by simp at hu⟩
theorem list_keep {α : Type} {R : World → List Value → α → Prop} {size : Nat} {S : Nat → Prop} {w w' : World} {sb : Nat} {cs : Array Value} {T : TypeId} {fr : Nat × Nat} {v : Value} {l : List α} (hn : NoStr cs) (h : w.heap[sb]? = some (.cells cs T fr)) (hB : But (fun i => i = sb) w w') (j : Nat)
    (hs : ∀ c x, R (sans S w) c x → ∃ s, c[j]? = some (.string s)) (hr : ∀ c x, x ∈ l → R (sans S w) c x → R (sans S w') c x) (hl : ListAt R size (sans S w) v l) : ListAt R size (sans S w') v l := by
  obtain ⟨a, cap, hv, h1, h2, h3⟩ := hl
  refine ⟨a, cap, hv, h1, h2, fun i x hx => ?_⟩
  obtain ⟨b, off, c, ha, hc, hx1, hu⟩ := h3 i x hx
  obtain ⟨s, hj⟩ := hs _ _ hx1
  have hb := hn.apart h (sans_cell (hu j _ hj)).1
  exact ⟨b, off, c, ha, hc, hr _ _ (List.mem_of_getElem? hx) hx1, fun k u hk => sans_keep hB hb (hu k u hk)⟩
theorem list_nil {α : Type} {R : World → List Value → α → Prop} {size : Nat} {w w' : World} {v : Value} (hl : ListAt R size w v []) : ListAt R size w' v [] := by
  obtain ⟨a, cap, hv, h1, h2, -⟩ := hl
  exact ⟨a, cap, hv, h1, h2, fun i x hx => by simp at hx⟩
structure Lone (s : StateV) : Prop where
  procs : s.procs = []
  insts : s.insts = []
  tokens : s.tokens = []
  jobs : s.jobs = []
  timers : s.timers = []
  subs : s.subs = []
  kept : s.kept = []
  ins : ∀ m ∈ s.msgs, m.insts = []
theorem StAt.keep {S : Nat → Prop} {w w' : World} {sb : Nat} {cs : Array Value} {T : TypeId} {fr : Nat × Nat} {c : List Value} {s : StateV} (hn : NoStr cs) (h : w.heap[sb]? = some (.cells cs T fr)) (hB : But (fun i => i = sb) w w') (hl : Lone s) (hs : StAt S w c s) : StAt S w' c s := by
  obtain ⟨vp, vi, vt, vj, vr, vs, vk, vl, vm, hc, h1, h2, h3, h4, h5, h6, h7, h8, h9⟩ := hs
  refine ⟨vp, vi, vt, vj, vr, vs, vk, vl, vm, hc, ?_, ?_, ?_, ?_, ?_, ?_, ?_, ?_, ?_⟩
  · rw [hl.procs] at h1 ⊢; exact list_nil h1
  · rw [hl.insts] at h2 ⊢; exact list_nil h2
  · rw [hl.tokens] at h3 ⊢; exact list_nil h3
  · rw [hl.jobs] at h4 ⊢; exact list_nil h4
  · rw [hl.timers] at h5 ⊢; exact list_nil h5
  · rw [hl.subs] at h6 ⊢; exact list_nil h6
  · rw [hl.kept] at h7 ⊢; exact list_nil h7
  · refine list_keep hn h hB 3 ?_ ?_ h8
    · rintro c x ⟨v, rfl, -⟩
      exact ⟨_, rfl⟩
    · rintro c x - ⟨v, rfl, hv⟩
      exact ⟨v, rfl, vars_keep hn h hB hv⟩
  · refine list_keep hn h hB 1 ?_ ?_ h9
    · rintro c x ⟨v, u, rfl, -⟩
      exact ⟨_, rfl⟩
    · rintro c x hx ⟨v, u, rfl, hv, hu⟩
      refine ⟨v, u, rfl, vars_keep hn h hB hv, ?_⟩
      rw [hl.ins x hx] at hu ⊢
      exact slr_nil hu
end Go.Proofs.YtjkbfoeakeoeiaaGreat
namespace Go.Proofs.YtjkbfoeakeoeiaaGreat
set_option maxRecDepth 100000
set_option maxHeartbeats 40000000
set_option linter.unusedSimpArgs false
set_option linter.unusedVariables false
open Go.RowKit
end Go.Proofs.YtjkbfoeakeoeiaaGreat
namespace Go.Proofs.YtjkbfoeakeoeiaaGreat
set_option maxRecDepth 100000
set_option maxHeartbeats 40000000
set_option linter.unusedSimpArgs false
set_option linter.unusedVariables false
open Go.RowKit
def PendAt (S : Nat → Prop) (w : World) (sb pb : Nat) (s : StateV) (parts : Int) : Prop :=
  ∃ (vp vi vt vj vr vk vm : Value) (sa la : Option Addr) (sc lc : Nat), (∀ b, S b → b < w.heap.size) ∧ ListAt SubV.at_ 6 (sans S w) (.slice sa s.subs.length sc) s.subs ∧ ListAt LisV.at_ 7 (sans S w) (.slice la s.listed.length lc) s.listed ∧
    w.heap[sb]? = some (.cells #[U s.pos, U s.done, U s.made, vp, vi, vt, vj, vr, .slice sa s.subs.length sc, vk, .slice la s.listed.length lc, vm] 33 (0, 0)) ∧ w.heap[pb]? = some (.cells #[I parts] 3 (0, 0))
theorem mpending_any (w : World) (S : Nat → Prop) (s : StateV) (cs : List Value) (parts : Int) (hS : ∀ b, S b → b < w.heap.size) (hs : StAt S w cs s) :
    Calls Tryz.prog 14 #[.agg cs.toArray, I parts] w fun e w' => ∃ sb pb, e = .returned (.func (.func 23) #[] #[.pointer (some ⟨sb, 0, none⟩), .pointer (some ⟨pb, 0, none⟩)]) ∧ PendAt S w' sb pb s parts ∧ Below w.heap.size w w' := by
  obtain ⟨vp, vi, vt, vj, vr, vs, vk, vl, vm, hs⟩ := hs
  have hcs := hs.cells
  obtain ⟨⟨pa, pc, rfl⟩, ⟨ia, ic, rfl⟩, ⟨ta, tc, rfl⟩, ⟨ja, jc, rfl⟩, ⟨ra, rc, rfl⟩, ⟨sa, sc, rfl⟩, ⟨ka, kc, rfl⟩, ⟨la, lc, rfl⟩, ⟨ma, mc, rfl⟩⟩ := hs.shapes
  subst hcs
  have Hs := hid hs
  have hS' := hid hS
  clear hs hS
  go_enter Tryz.func14, Tryz.ntmps14
  go_wp2
  refine post_box2 ?_
  intro W9 h0 h1 B0
  exact bodyPost_ret (v := .func (.func 23) #[] #[.pointer (some ⟨w.heap.size, 0, none⟩), .pointer (some ⟨w.heap.size + 1, 0, none⟩)]) (by simp [results, Tryz.results14, go_sem]) rfl
    ⟨_, _, rfl, ⟨_, _, _, _, _, _, _, _, _, _, _, (fun b h => Nat.lt_of_lt_of_le (hS'.out b h) B0.out.size), Hs.out.subs.grow SubV.st (sans_grow B0.out), Hs.out.listed.grow LisV.st (sans_grow B0.out), h0.out, h1.out⟩, B0.out⟩
theorem sends_any (w : World) (S : Nat → Prop) (sb pb : Nat) (s : StateV) (parts most : Int) (h : PendAt S w sb pb s parts) (hp1 : -9223372036854775808 ≤ parts) (hp2 : parts ≤ 9223372036854775807)
    (hsub : ∀ x ∈ s.subs, x.key.size ≤ 140737488355328) (hlis : ∀ x ∈ s.listed, x.token < 18446744073709551616 ∧ x.vars.length ≤ 1048576) (hN : (pendingV s parts).length ≤ 4194304) (hm : I64 most) :
    Calls Tryz.prog 13 #[.func (.func 23) #[] #[.pointer (some ⟨sb, 0, none⟩), .pointer (some ⟨pb, 0, none⟩)], I most] w fun e w' => ∃ u, e = .returned u ∧ SendsAt S w' u (cutM most (pendingV s parts)) ∧ Below w.heap.size w w' := by
  obtain ⟨vp, vi, vt, vj, vr, vk, vm, sa, la, sc, lc, hS, hs, hl, hsb, hpb⟩ := h
  exact (callsIn_wide (n := 3)).1 (sends_in 3 (by omega) sb pb S w s parts most vp vi vt vj vr vk vm sa la sc lc hS hs hl hsb hpb hp1 hp2 hsub hlis hN hm)
theorem SendsAt.shape {S : Nat → Prop} {W : World} {v : Value} {l : List (Int × RecV)} (h : SendsAt S W v l) : ∃ a c, v = .slice a l.length c := by
  obtain ⟨xs, rfl, ⟨a, cap, hv, -⟩, -⟩ := h
  exact ⟨a, cap, by rw [hv, List.length_map]⟩
theorem SendsAt.one {S : Nat → Prop} {W : World} {v : Value} {to : Int} {r : RecV} (h : SendsAt S W v [(to, r)]) : ∃ b off c u, v = .slice (some ⟨b, off, none⟩) 1 c ∧
    ∀ j x, ([I to, I r.cls, I r.kind, U r.from_, I r.time, U r.key, U r.key2, U r.key3, I r.n, I r.m, .string r.a, .string r.b, .string r.c, u] : List Value)[j]? = some x → W.cell? ⟨b, off + j, none⟩ = some x := by
  obtain ⟨xs, hx, ⟨a, cap, hv, -, -, -, hc⟩, -⟩ := h
  match xs, hx with
  | [x], hx =>
    obtain ⟨t, r', u⟩ := x
    simp only [List.map_cons, List.map_nil, pj, List.cons.injEq, Prod.mk.injEq, and_true] at hx
    obtain ⟨rfl, rfl⟩ := hx
    simp only [List.flatMap_cons, List.flatMap_nil, List.append_nil, toldC] at hc
    obtain ⟨b, off, rfl, -⟩ := hc 0 _ rfl
    refine ⟨b, off, cap, u, hv, fun j x hj => ?_⟩
    obtain ⟨b', off', e, h⟩ := hc j x hj
    cases e
    exact h
theorem puR_ok : RecOk puR := ⟨by constructor <;> decide, by constructor <;> decide, by unfold U64; decide, by constructor <;> decide, by unfold U64; decide, by unfold U64; decide, by unfold U64; decide, by constructor <;> decide, by constructor <;> decide, by unfold Sz; decide, by unfold Sz; decide, by unfold Sz; decide, fun y h => by cases h⟩
def tS3 (insts : List Nat) : StateV := { stateE with pos := 4, done := 1, made := 1, msgs := [⟨1, paidS, keyKS, ⟨#[]⟩, 10, [], insts⟩] }
theorem tells4s (token inst : Nat) (node : Int) (ev : List RecV) : ∃ ev', (matchedV ⟨tS2 token inst node, 0, 1, 0, ev, 0⟩ (acR token node 1)).1 = ⟨tS3 [inst], 0, 1, 0, ev', 0⟩ := by
  have h : underV ⟨tS2 token inst node, 0, 1, 0, ev, 0⟩ (acR token node 1) = true := by simp [underV, tS2, acR, ofLis, stateE, rec0, List.find?]
  unfold matchedV
  rw [if_neg (by rw [h]; decide)]
  simp [emitV, applyV, eventV, evMatched, withoutBy, goesOnV, livesV, suitsV, tS2, tS3, acR, ofLis, stateE, rec0, w64]
theorem tells5s (token inst : Nat) (node : Int) (ev : List RecV) : ∃ ev', (missedV ⟨tS2 token inst node, 0, 1, 0, ev, 0⟩ (acR token node 1)).1 = ⟨tS3 [], 0, 1, 0, ev', 0⟩ := by
  have h : underV ⟨tS2 token inst node, 0, 1, 0, ev, 0⟩ (acR token node 1) = true := by simp [underV, tS2, acR, ofLis, stateE, rec0, List.find?]
  unfold missedV
  rw [if_neg (by rw [h]; decide)]
  simp [emitV, applyV, eventV, evMissed, withoutBy, changeBy, goesOnV, livesV, suitsV, tS2, tS3, acR, ofLis, ofMsg, stateE, rec0, w64, List.find?]
theorem tunder (token inst : Nat) (node : Int) (ev : List RecV) : underV ⟨tS2 token inst node, 0, 1, 0, ev, 0⟩ (acR token node 1) = true := by simp [underV, tS2, acR, ofLis, stateE, rec0, List.find?]
theorem smS2 (token inst : Nat) (node : Int) : SmS (tS2 token inst node) := ⟨by simp [tS2, stateE], rfl, by simp [tS2], by simp [tS2], by simp [tS2], by simp [tS2]⟩
theorem smS3 (l : List Nat) (hl : l.length ≤ 1000) : SmS (tS3 l) := ⟨by simp [tS3, stateE], rfl, by simp [tS3, stateE], by simp [tS3], by simp [tS3, stateE], by simpa [tS3] using hl⟩
end Go.Proofs.YtjkbfoeakeoeiaaGreat
namespace Go.Proofs.YtjkbfoeakeoeiaaGreat
set_option maxRecDepth 100000
set_option maxHeartbeats 40000000
set_option linter.unusedSimpArgs false
set_option linter.unusedVariables false
open Go.RowKit
section
variable {P : Program} {c : Code} {Q : Exit → Act → World → Prop} {a : Act} {W : World} {b i : Nat} {cs : Array Value} {v v2 : Value} {T : TypeId} {A : Obj}
end
end Go.Proofs.YtjkbfoeakeoeiaaGreat
namespace Go.Proofs.YtjkbfoeakeoeiaaGreat
set_option maxRecDepth 100000
set_option maxHeartbeats 40000000
set_option linter.unusedSimpArgs false
set_option linter.unusedVariables false
open Go.IntWalk Go.RowKit
theorem mhome_b (key : Nat) (h : key < 18446744073709551616) (w : World) : Calls Tryz.prog 9 #[U key] w fun e w' => e = .returned (I (homeV key)) ∧ Below w.heap.size w w' := (mhome_any key h w).mono (fun e w2 ⟨he, hw⟩ => ⟨he, hw ▸ Below.refl _ _⟩)
theorem tells_any (w : World) (token inst : Nat) (node : Int) (missed : Bool) (ht : U64 token) (hn : I64 node) :
    Calls Tryz.prog 5 #[.agg #[U token, I node, U inst, .bool missed]] w fun e w' => e = .returned (.bool true) ∧ Below w.heap.size w w' := by
  go_enter Tryz.func5, Tryz.ntmps5
  go_wp2_with fail
  refine calls_box1 ?_
  intro W0 h0 B0 hz
  refine (mshown_any W0).mono ?_
  rintro e w1 ⟨rfl, b1⟩
  have B1 := hid (B0.out.trans (b1.mono B0.out.size))
  clear b1 h0 hz
  by_cases c1 : node < 0
  · have g1 : (node < 0) = True := by simp; omega
    clear c1
    go_wp2
    go_ret
    exact ⟨rfl, B1.out⟩
  have g1 : (node < 0) = False := by simp; omega
  by_cases c2 : 30000 < node
  · have g2 : (30000 < node) = True := by simp; omega
    clear c1 c2
    go_wp2
    go_ret
    exact ⟨rfl, B1.out⟩
  have g2 : (30000 < node) = False := by simp; omega
  have hnode : 0 ≤ node ∧ node ≤ 30000 := by omega
  unfold U64 at ht
  go_wp2_with fail
  clear c1 c2 g1 g2
  refine (begin_any w1 (fun _ => False) stateE [U 0, U 0, U 0, .slice none 0 0, .slice none 0 0, .slice none 0 0, .slice none 0 0, .slice none 0 0, .slice none 0 0, .slice none 0 0, .slice none 0 0, .slice none 0 0] 0 1 0 (fun _ h => h.elim) (stateE_at _ _) smE).mono ?_
  rintro e w2 ⟨wb, rfl, hw2, hwb, b2⟩
  have HW2 := hid hw2
  have B2 := hid (B1.out.trans (b2.mono B1.out.size))
  have hww : w.heap.size ≤ wb := Nat.le_trans B1.out.size hwb
  clear hw2 b2 hwb
  have hk0 := hid (begin_sm stateE 1 0 0 smE (by omega) (by omega) (by decide) (by decide) (by decide) (by simp [stateE]))
  go_wp2_with fail
  refine calls_box1 ?_
  intro W3 h3 B23 hz
  have B3 := hid (B2.out.trans (B23.out.mono B2.out.size))
  refine (open_any W3 wb (fun b => b = wb) (.slice none 0 0) (beginV stateE 0 1 0) (opR token inst node) none 0 0 0 (HW2.out.grow B23.out) hk0.out (by omega) rfl).mono ?_
  rintro e w4 ⟨rfl, S4, ve4, hw4, g4⟩
  obtain ⟨t1, ev1, t2⟩ := tells1 token inst node hnode
  have hk1 := open_sm _ (opR token inst node) 0 hk0.out (by omega) rfl
  rw [t2] at hw4 hk1
  rw [t1]
  have HW4 := hid hw4
  have HK1 := hid hk1
  have HS4 := hid (show ∀ b, S4 b → w.heap.size ≤ b from fun b h => Nat.le_trans hww ((hw4.lt b h).2))
  have B4 := hid (B3.out.trans (g4.below B3.out.size (fun b h => by omega)))
  clear hw4 g4 h3 hz t1 t2 hk1 B23 HW2
  go_wp2_with fail
  refine (publish_any w4 wb S4 ve4 ⟨tS1 token inst node, 0, 1, 0, ev1, 0⟩ puR none 0 2 HW4.out HK1.out (by omega) (fun _ => puR_ok) (vnil _) (.inr rfl)).mono ?_
  rintro e w5 ⟨rfl, S5, ve5, hw5, g5⟩
  obtain ⟨t1, ev2, t2⟩ := tells2 token inst node ev1
  have hk2 := pub_sm _ puR 2 HK1.out (by omega) (.inr rfl)
  rw [t2] at hw5 hk2
  rw [t1]
  have HW5 := hid hw5
  have HK2 := hid hk2
  have HS5 := hid (show ∀ b, S5 b → w.heap.size ≤ b from fun b h => Nat.le_trans hww ((hw5.lt b h).2))
  have B5 := hid (B4.out.trans (g5.below B4.out.size (fun b h => HS4.out b h)))
  clear hw5 g5 t1 t2 hk2 HW4 HS4
  go_wp2_with fail
  go_loopw [12] (fun vi wr => ∃ i : Nat, i ≤ 2 ∧ vi = .int .i64 i ∧ Hid (Below w5.heap.size w5 wr)) (fun vi _ => 2 - (intOf vi).toNat)
  case atStart => exact ⟨0, by omega, rfl, Below.refl _ _⟩
  case round =>
    obtain ⟨i, hi, rfl, hR⟩ := hrel
    by_cases hi2 : i < 2
    · skip
      go_wp2_with fail
      refine (wstate_any wr wb S5 ve5 ⟨tS2 token inst node, 0, 1, 0, ev2, 0⟩ (HW5.out.grow hR.out) (smS2 token inst node)).mono ?_
      rintro e x6 ⟨cs6, rfl, hst6, bx6⟩
      have hX6 := hid (fun b h => Nat.lt_of_lt_of_le (((HW5.out.grow hR.out).lt b h).1) bx6.size)
      have BX6 := hid ((hR.out).trans (bx6.mono (hR.out).size))
      go_wp2_with fail
      refine (mpending_any x6 S5 (tS2 token inst node) cs6 4 hX6.out hst6).mono ?_
      rintro e y6 ⟨sb6, pb6, rfl, hp6, by6⟩
      have BY6 := hid (BX6.out.trans (by6.mono BX6.out.size))
      clear hst6 bx6
      go_wp2_with fail
      refine (sends_any y6 S5 sb6 pb6 (tS2 token inst node) 4 (-1) hp6 (by decide) (by decide) (by simp [tS2, stateE]) (by simp [tS2]; omega) (by rw [tells3]; simp) (by constructor <;> decide)).mono ?_
      rintro e z6 ⟨u6, rfl, hs6, bz6⟩
      have BZ6 := hid (BY6.out.trans (bz6.mono BY6.out.size))
      clear hp6 by6 bz6
      rw [tells3] at hs6
      have hs6 : SendsAt S5 z6 u6 [(homeV token, { rec0 with cls := 1, kind := 14, key := token, n := node, key2 := 1 })] := hs6
      obtain ⟨bl, ol, cl, ul, rfl, hc6⟩ := hs6.one
      have c0 := hc6 0 _ rfl
      have c2 : z6.cell? ⟨bl, ol + 1 + 1, none⟩ = some (.int .i64 14) := hc6 2 _ rfl
      have c5 : z6.cell? ⟨bl, ol + 1 + 4, none⟩ = some (U token) := hc6 5 _ rfl
      have c6 : z6.cell? ⟨bl, ol + 1 + 5, none⟩ = some (.int .u64 1) := hc6 6 _ rfl
      have c8 : z6.cell? ⟨bl, ol + 1 + 7, none⟩ = some (I node) := hc6 8 _ rfl
      rw [Nat.add_zero] at c0
      have hbl : bl < z6.heap.size := World.block_lt_of_cell? _ _ c0
      clear hs6 hc6
      go_wp2_with fail
      refine wp_par (fun _ => False) (fun _ => True) (List.replicate 38 false) _ (.fix ?_ :: .fix ?_ :: .fix ?_ :: .fix ?_ :: .fix ?_ :: .fix ?_ :: .fix ?_ :: .fix ?_ :: .fix ?_ :: .fix ?_ :: .fix ?_ :: .fix ?_ :: .fix ?_ :: .fix ?_ :: .fix ?_ :: .fix ?_ :: .fix ?_ :: .fix ?_ :: .fix ?_ :: .fix ?_ :: .fix ?_ :: .fix ?_ :: .fix ?_ :: .fix ?_ :: .fix ?_ :: .fix ?_ :: .fix ?_ :: .fix ?_ :: .fix ?_ :: .fix ?_ :: .fix ?_ :: .fix ?_ :: .fix ?_ :: .fix ?_ :: .fix ?_ :: .fix ?_ :: .fix ?_ :: .fix ?_ :: []) (by kernel_rfl) (by kernel_rfl) (by simp only [List.length_replicate, List.drop_succ_cons, List.drop_zero, List.drop_nil]; with_reducible rfl) rfl (fun _ _ _ _ _ => ⟨fun h => h, fun h => h⟩) (fun _ _ h _ => h) trivial ?_
      rotate_left 38
      iterate 9
        first
          | (refine par_skip (a' := ?_) (by rfl) (by rfl) ?_ ?_ ?_; rotate_left 1; with_reducible rfl; (simp only [Act.put, List.setIfInBounds_toArray, List.set_cons_zero, List.set_cons_succ]; with_reducible rfl))
          | (refine par_run (a' := ?_) (by rfl) (by rfl) (fun w' hb hn => ?_) ?_ ?_; rotate_left 1; (have hc := hb.cells; first | (go_simp; (try simp (disch := omega) only [IntWalk.i64_in, IntWalk.i32_in, IntWalk.u64_in, IntWalk.u8_in, IntWalk.u32_in, toNatUp, iteOmega]); with_reducible rfl) | (go_simp; (try simp (disch := omega) only [IntWalk.i64_in, IntWalk.i32_in, IntWalk.u64_in, IntWalk.u8_in, IntWalk.u32_in, toNatUp, iteOmega]); go_simp; with_reducible rfl)); (simp only [Act.put, List.setIfInBounds_toArray, List.set_cons_zero, List.set_cons_succ]; with_reducible rfl))
      refine par_call (a' := ?_) (f := ?_) (args := ?_) (by rfl) (by rfl) (fun w' => ?_) (fun w' hb hn => ?_) ?_ ?_; rotate_left 3; (go_simp; constructor <;> with_reducible rfl); (exact mhome_b token ht w'); (simp only [Act.put, List.setIfInBounds_toArray, List.set_cons_zero, List.set_cons_succ]; with_reducible rfl)
      iterate 28
        first
          | (refine par_skip (a' := ?_) (by rfl) (by rfl) ?_ ?_ ?_; rotate_left 1; with_reducible rfl; (simp only [Act.put, List.setIfInBounds_toArray, List.set_cons_zero, List.set_cons_succ]; with_reducible rfl))
          | (refine par_run (a' := ?_) (by rfl) (by rfl) (fun w' hb hn => ?_) ?_ ?_; rotate_left 1; (have hc := hb.cells; first | (go_simp; (try simp (disch := omega) only [IntWalk.i64_in, IntWalk.i32_in, IntWalk.u64_in, IntWalk.u8_in, IntWalk.u32_in, toNatUp, iteOmega]); with_reducible rfl) | (go_simp; (try simp (disch := omega) only [IntWalk.i64_in, IntWalk.i32_in, IntWalk.u64_in, IntWalk.u8_in, IntWalk.u32_in, toNatUp, iteOmega]); go_simp; with_reducible rfl)); (simp only [Act.put, List.setIfInBounds_toArray, List.set_cons_zero, List.set_cons_succ]; with_reducible rfl))
      refine par_end (fun w9 hb9 hf9 _ => ?_)
      replace hb9 := hb9.grow
      try refine wpList_none ?_
      have hB9 := hid (BZ6.out.trans (hb9.mono BZ6.out.size))
      clear hb9 hf9
      go_wp2
      go_roundw
      case rel => exact ⟨i + 1, by omega, by simp, hB9⟩
      case measure => simp [intOf]; omega
    · obtain rfl : i = 2 := by omega
      go_wp2_with fail
      refine (wstate_any wr wb S5 ve5 ⟨tS2 token inst node, 0, 1, 0, ev2, 0⟩ (HW5.out.grow hR.out) (smS2 token inst node)).mono ?_
      rintro e x6 ⟨cs6, rfl, hst6, bx6⟩
      have hX6 := hid (fun b h => Nat.lt_of_lt_of_le (((HW5.out.grow hR.out).lt b h).1) bx6.size)
      have BX6 := hid ((hR.out).trans (bx6.mono (hR.out).size))
      go_wp2_with fail
      refine (mpending_any x6 S5 (tS2 token inst node) cs6 4 hX6.out hst6).mono ?_
      rintro e y6 ⟨sb6, pb6, rfl, hp6, by6⟩
      have BY6 := hid (BX6.out.trans (by6.mono BX6.out.size))
      clear hst6 bx6
      go_wp2_with fail
      refine (sends_any y6 S5 sb6 pb6 (tS2 token inst node) 4 (-1) hp6 (by decide) (by decide) (by simp [tS2, stateE]) (by simp [tS2]; omega) (by rw [tells3]; simp) (by constructor <;> decide)).mono ?_
      rintro e z6 ⟨u6, rfl, hs6, bz6⟩
      have BZ6 := hid (BY6.out.trans (bz6.mono BY6.out.size))
      clear hp6 by6 bz6
      rw [tells3] at hs6
      have hs6 : SendsAt S5 z6 u6 [(homeV token, { rec0 with cls := 1, kind := 14, key := token, n := node, key2 := 1 })] := hs6
      obtain ⟨bl, ol, cl, ul, rfl, hc6⟩ := hs6.one
      have c0 := hc6 0 _ rfl
      have c2 : z6.cell? ⟨bl, ol + 1 + 1, none⟩ = some (.int .i64 14) := hc6 2 _ rfl
      have c5 : z6.cell? ⟨bl, ol + 1 + 4, none⟩ = some (U token) := hc6 5 _ rfl
      have c6 : z6.cell? ⟨bl, ol + 1 + 5, none⟩ = some (.int .u64 1) := hc6 6 _ rfl
      have c8 : z6.cell? ⟨bl, ol + 1 + 7, none⟩ = some (I node) := hc6 8 _ rfl
      rw [Nat.add_zero] at c0
      have hbl : bl < z6.heap.size := World.block_lt_of_cell? _ _ c0
      clear hs6 hc6
      cases missed with
      | false =>
        go_wp2_with fail
        clear c0 c2 c5 c6 c8 hbl
        refine calls_box1 ?_
        intro W8 h8 B68 hz8
        have B58 := hid (BZ6.out.trans (B68.out.mono BZ6.out.size))
        clear BX6 BY6 BZ6 hX6
        refine (matched_any W8 wb S5 ve5 ⟨tS2 token inst node, 0, 1, 0, ev2, 0⟩ (acR token node 1) none 0 0 5 (HW5.out.grow B58.out) HK2.out (by omega) (tunder token inst node ev2)).mono ?_
        rintro e w9 ⟨rfl, S9, ve9, hw9, g9⟩
        obtain ⟨ev9, e9⟩ := tells4s token inst node ev2
        rw [e9] at hw9
        have HW9 := hid hw9
        have B9 := hid ((B5.out.trans (B58.out.mono B5.out.size)).trans (g9.below (Nat.le_trans B5.out.size B58.out.size) (fun b h => HS5.out b h)))
        clear hw9 g9 e9 h8 hz8 B68
        go_wp2_with fail
        refine (wstate_any w9 wb S9 ve9 ⟨tS3 [inst], 0, 1, 0, ev9, 0⟩ (HW9.out) (smS3 [inst] (by simp))).mono ?_
        rintro e x9 ⟨cs9, rfl, hst9, bx9⟩
        have hX9 := hid (fun b h => Nat.lt_of_lt_of_le (((HW9.out).lt b h).1) bx9.size)
        have BX9 := hid ((Below.refl w9.heap.size w9).trans (bx9.mono (Below.refl w9.heap.size w9).size))
        go_wp2_with fail
        refine (mpending_any x9 S9 (tS3 [inst]) cs9 4 hX9.out hst9).mono ?_
        rintro e y9 ⟨sb9, pb9, rfl, hp9, by9⟩
        have BY9 := hid (BX9.out.trans (by9.mono BX9.out.size))
        clear hst9 bx9
        go_wp2_with fail
        refine (sends_any y9 S9 sb9 pb9 (tS3 [inst]) 4 (-1) hp9 (by decide) (by decide) (by simp [tS3, stateE]) (by simp [tS3, stateE]) (by simp [tS3, stateE, pendingV]) (by constructor <;> decide)).mono ?_
        rintro e z9 ⟨u9, rfl, hs9, bz9⟩
        have BZ9 := hid (BY9.out.trans (bz9.mono BY9.out.size))
        clear hp9 by9 bz9
        have hs9 : SendsAt S9 z9 u9 [] := hs9
        obtain ⟨a9, c9, rfl⟩ := hs9.shape
        clear hs9
        go_wp2_with fail
        refine (wstate_any z9 wb S9 ve9 ⟨tS3 [inst], 0, 1, 0, ev9, 0⟩ (HW9.out.grow BZ9.out) (smS3 [inst] (by simp))).mono ?_
        rintro e w10 ⟨cs, rfl, ⟨vp, vi, vt, vj, vr, vs, vk, vl, vm, hs⟩, b10⟩
        have hcs := hs.cells
        obtain ⟨⟨pa, pc, rfl⟩, ⟨ia, ic, rfl⟩, ⟨ta, tc, rfl⟩, ⟨ja, jc, rfl⟩, ⟨ra, rc, rfl⟩, ⟨sa, sc, rfl⟩, ⟨ka, kc, rfl⟩, ⟨la, lc, rfl⟩, ⟨ma, mc, rfl⟩⟩ := hs.shapes
        subst hcs
        have Hs := hid hs
        have B10 := hid (B9.out.trans ((BZ9.out.trans (b10.mono BZ9.out.size)).mono B9.out.size))
        obtain ⟨bm, om, csm, rfl, -, ⟨mv, mu, rfl, hmv, hmu⟩, hcm⟩ := elem0 Hs.out.msgs (show (tS3 [inst]).msgs[0]? = some ⟨1, paidS, keyKS, ⟨#[]⟩, 10, [], [inst]⟩ from rfl)
        obtain ⟨na, nc, rfl, -⟩ := hmu
        have c6 : w10.cell? ⟨bm, om + 6, none⟩ = some (.slice na 1 nc) := (sans_cell (hcm 6 _ rfl)).1
        have hbm : bm < w10.heap.size := World.block_lt_of_cell? _ _ c6
        have e1 : (tS3 [inst]).listed.length = 0 := rfl
        have e2 : (tS3 [inst]).msgs.length = 1 := rfl
        clear hs b10 hmv hcm BX9 BY9 hX9 BZ9 B9 B58 B5
        rw [e1, e2]
        go_wp2
        go_ret
        exact ⟨rfl, B10.out.alloc B10.out.size _⟩
      | true =>
        go_wp2_with fail
        clear c0 c2 c5 c6 c8 hbl
        refine calls_box1 ?_
        intro W8 h8 B68 hz8
        have B58 := hid (BZ6.out.trans (B68.out.mono BZ6.out.size))
        clear BX6 BY6 BZ6 hX6
        refine (missed_any W8 wb S5 ve5 ⟨tS2 token inst node, 0, 1, 0, ev2, 0⟩ (acR token node 1) none 0 0 5 (HW5.out.grow B58.out) HK2.out (by omega) (tunder token inst node ev2) (by simp [tS2])).mono ?_
        rintro e w9 ⟨rfl, S9, ve9, hw9, g9⟩
        obtain ⟨ev9, e9⟩ := tells5s token inst node ev2
        rw [e9] at hw9
        have HW9 := hid hw9
        have B9 := hid ((B5.out.trans (B58.out.mono B5.out.size)).trans (g9.below (Nat.le_trans B5.out.size B58.out.size) (fun b h => HS5.out b h)))
        clear hw9 g9 e9 h8 hz8 B68
        go_wp2_with fail
        refine (wstate_any w9 wb S9 ve9 ⟨tS3 [], 0, 1, 0, ev9, 0⟩ (HW9.out) (smS3 [] (by simp))).mono ?_
        rintro e x9 ⟨cs9, rfl, hst9, bx9⟩
        have hX9 := hid (fun b h => Nat.lt_of_lt_of_le (((HW9.out).lt b h).1) bx9.size)
        have BX9 := hid ((Below.refl w9.heap.size w9).trans (bx9.mono (Below.refl w9.heap.size w9).size))
        go_wp2_with fail
        refine (mpending_any x9 S9 (tS3 []) cs9 4 hX9.out hst9).mono ?_
        rintro e y9 ⟨sb9, pb9, rfl, hp9, by9⟩
        have BY9 := hid (BX9.out.trans (by9.mono BX9.out.size))
        clear hst9 bx9
        go_wp2_with fail
        refine (sends_any y9 S9 sb9 pb9 (tS3 []) 4 (-1) hp9 (by decide) (by decide) (by simp [tS3, stateE]) (by simp [tS3, stateE]) (by simp [tS3, stateE, pendingV]) (by constructor <;> decide)).mono ?_
        rintro e z9 ⟨u9, rfl, hs9, bz9⟩
        have BZ9 := hid (BY9.out.trans (bz9.mono BY9.out.size))
        clear hp9 by9 bz9
        have hs9 : SendsAt S9 z9 u9 [] := hs9
        obtain ⟨a9, c9, rfl⟩ := hs9.shape
        clear hs9
        go_wp2_with fail
        refine (wstate_any z9 wb S9 ve9 ⟨tS3 [], 0, 1, 0, ev9, 0⟩ (HW9.out.grow BZ9.out) (smS3 [] (by simp))).mono ?_
        rintro e w10 ⟨cs, rfl, ⟨vp, vi, vt, vj, vr, vs, vk, vl, vm, hs⟩, b10⟩
        have hcs := hs.cells
        obtain ⟨⟨pa, pc, rfl⟩, ⟨ia, ic, rfl⟩, ⟨ta, tc, rfl⟩, ⟨ja, jc, rfl⟩, ⟨ra, rc, rfl⟩, ⟨sa, sc, rfl⟩, ⟨ka, kc, rfl⟩, ⟨la, lc, rfl⟩, ⟨ma, mc, rfl⟩⟩ := hs.shapes
        subst hcs
        have Hs := hid hs
        have B10 := hid (B9.out.trans ((BZ9.out.trans (b10.mono BZ9.out.size)).mono B9.out.size))
        obtain ⟨bm, om, csm, rfl, -, ⟨mv, mu, rfl, hmv, hmu⟩, hcm⟩ := elem0 Hs.out.msgs (show (tS3 []).msgs[0]? = some ⟨1, paidS, keyKS, ⟨#[]⟩, 10, [], []⟩ from rfl)
        obtain ⟨na, nc, rfl, -⟩ := hmu
        have c6 : w10.cell? ⟨bm, om + 6, none⟩ = some (.slice na 0 nc) := (sans_cell (hcm 6 _ rfl)).1
        have hbm : bm < w10.heap.size := World.block_lt_of_cell? _ _ c6
        have e1 : (tS3 []).listed.length = 0 := rfl
        have e2 : (tS3 []).msgs.length = 1 := rfl
        clear hs b10 hmv hcm BX9 BY9 hX9 BZ9 B9 B58 B5
        rw [e1, e2]
        go_wp2
        go_ret
        exact ⟨rfl, B10.out.alloc B10.out.size _⟩
end Go.Proofs.YtjkbfoeakeoeiaaGreat
namespace Go.Proofs.YtjkbfoeakeoeiaaGreat
set_option maxRecDepth 100000
set_option maxHeartbeats 40000000
set_option linter.unusedSimpArgs false
set_option linter.unusedVariables false
open Go.RowKit Go.Deep
structure Rep (P : Program) (t : TypeId) (α : Type) where
  R : (Nat → Prop) → World → List Value → α → Prop
  bulk : α → Nat
  len : ∀ {S : Nat → Prop} {w : World} {cs : List Value} {x : α}, R S w cs x → cs.length = P.cellsOf t
  mono : ∀ {S : Nat → Prop} {w w' : World} {cs : List Value} {x : α}, (∀ k, S k → k < w.heap.size → w'.heap[k]? = w.heap[k]?) → R S w cs x → R S w' cs x
  weak : ∀ {S S' : Nat → Prop} {w : World} {cs : List Value} {x : α}, (∀ k, k < w.heap.size → S k → S' k) → R S w cs x → R S' w cs x
  opens : ∀ {H : Type} {enc : TypeId × Value → H} {w : World} {base : Nat} {held : Bool} {fuel : Nat} {cs : List Value} {d : DataW H} {ps : List MemPlace},
    DataW.trod enc P w base (fun _ => true) held fuel t cs = some (d, ps) → (∀ n ∈ d.weights P t, n ≤ reachBytes) → ∃ x, R (fun k => base ≤ k ∧ k < w.heap.size) w cs x ∧ bulk x ≤ Rows.uptoBulk d
theorem bulk_one {H : Type} (d : DataW H) : 1 ≤ Rows.uptoBulk d := by
  cases d with
  | lit l => cases l <;> simp [Rows.uptoBulk]
  | nil => simp [Rows.uptoBulk]
  | ptr d => simp [Rows.uptoBulk]
  | slice elems spare => simp [Rows.uptoBulk]
  | agg parts => simp [Rows.uptoBulk]
  | iface t d => simp [Rows.uptoBulk]
  | map entries => simp [Rows.uptoBulk]
  | held h => simp [Rows.uptoBulk]
theorem cell_mono {S : Nat → Prop} {w w' : World} (h : ∀ k, S k → k < w.heap.size → w'.heap[k]? = w.heap[k]?) {a : Addr} (ha : S a.block) {v : Value} (hc : w.cell? a = some v) : w'.cell? a = some v := by
  rw [World.cell?_of_block (w := w) (h a.block ha (World.block_lt_of_cell? w a hc))]
  exact hc
section
variable {P : Program} {t e : TypeId} {α β : Type}
def Rep.int (k : IntKind) (ht : P.underlying t = some (.int k)) (hc : P.cellsOf t = 1) : Rep P t Int where
  R _ _ cs x := cs = [.int k x] ∧ (Lit.int k x).wf = true
  bulk _ := 1
  len h := by rw [h.1, hc]; rfl
  mono _ h := h
  weak _ h := h
  opens h _ := by
    obtain ⟨n, rfl, _, hw⟩ := DataW.trod_int ht h
    exact ⟨n, ⟨rfl, hw⟩, bulk_one _⟩
def Rep.u64 (ht : P.underlying t = some (.int .u64)) (hc : P.cellsOf t = 1) : Rep P t Nat where
  R _ _ cs x := cs = [.int .u64 (x : Int)] ∧ x < 18446744073709551616
  bulk _ := 1
  len h := by rw [h.1, hc]; rfl
  mono _ h := h
  weak _ h := h
  opens h _ := by
    obtain ⟨n, rfl, _, hw⟩ := DataW.trod_int ht h
    have hx : 0 ≤ n ∧ n ≤ 18446744073709551615 := by simpa [Lit.wf, IntKind.min, IntKind.max, IntKind.signed, IntKind.bits] using hw
    exact ⟨n.toNat, ⟨by rw [Int.toNat_of_nonneg hx.1], by omega⟩, bulk_one _⟩
def Rep.bool (ht : P.underlying t = some .bool) (hc : P.cellsOf t = 1) : Rep P t Bool where
  R _ _ cs x := cs = [.bool x]
  bulk _ := 1
  len h := by rw [h, hc]; rfl
  mono _ h := h
  weak _ h := h
  opens h _ := by
    obtain ⟨n, rfl, _⟩ := DataW.trod_bool ht h
    exact ⟨n, rfl, bulk_one _⟩
def Rep.SR (r : Rep P e α) (S : Nat → Prop) (w : World) (v : Value) (xs : List α) : Prop :=
  ∃ a cap, v = .slice a xs.length cap ∧ xs.length ≤ cap ∧ cap ≤ maxLen ∧ cap * P.bytesOf e ≤ reachBytes ∧
    ∀ i x, xs[i]? = some x → ∃ b off, a = some ⟨b, off, none⟩ ∧ S b ∧ ∃ cs, r.R S w cs x ∧ ∀ j u, cs[j]? = some u → w.cell? ⟨b, off + (i * P.cellsOf e + j), none⟩ = some u
theorem Rep.SR.mono {r : Rep P e α} {S : Nat → Prop} {w w' : World} {v : Value} {xs : List α} (hm : ∀ k, S k → k < w.heap.size → w'.heap[k]? = w.heap[k]?) (h : r.SR S w v xs) : r.SR S w' v xs := by
  obtain ⟨a, cap, hv, h1, h2, h3, h4⟩ := h
  refine ⟨a, cap, hv, h1, h2, h3, fun i x hx => ?_⟩
  obtain ⟨b, off, ha, hb, cs, hr, hc⟩ := h4 i x hx
  exact ⟨b, off, ha, hb, cs, r.mono hm hr, fun j u hu => cell_mono hm (a := ⟨b, off + (i * P.cellsOf e + j), none⟩) hb (hc j u hu)⟩
theorem Rep.SR.weak {r : Rep P e α} {S S' : Nat → Prop} {w : World} {v : Value} {xs : List α} (hpos : 0 < P.cellsOf e) (hm : ∀ k, k < w.heap.size → S k → S' k) (h : r.SR S w v xs) : r.SR S' w v xs := by
  obtain ⟨a, cap, hv, h1, h2, h3, h4⟩ := h
  refine ⟨a, cap, hv, h1, h2, h3, fun i x hx => ?_⟩
  obtain ⟨b, off, ha, hb, cs, hr, hc⟩ := h4 i x hx
  refine ⟨b, off, ha, ?_, cs, r.weak hm hr, hc⟩
  have hl := r.len hr
  have h0 : cs[0]? = some (cs[0]'(by omega)) := List.getElem?_eq_getElem _
  exact hm b (World.block_lt_of_cell? w _ (hc 0 _ h0)) hb
theorem Rep.SR.nil (r : Rep P e α) (S : Nat → Prop) (w : World) : r.SR S w (.slice none 0 0) [] := ⟨none, 0, rfl, Nat.le_refl _, by simp [maxLen], by simp, by simp⟩
theorem mapM_len {γ δ : Type} {f : γ → Option δ} : ∀ {l : List γ} {r : List δ}, l.mapM f = some r → r.length = l.length
  | [], r, h => by simp at h; subst h; rfl
  | c :: l, r, h => by
    simp only [List.mapM_cons, Option.bind_eq_bind, Option.bind_eq_some_iff, Option.pure_def, Option.some.injEq] at h
    obtain ⟨b, hb, r', hr', rfl⟩ := h
    simp [mapM_len hr']
theorem mapM_opt {γ δ : Type} {f : γ → Option δ} : ∀ {l : List γ} {r : List δ}, l.mapM f = some r → ∀ (i : Nat) (a : γ), l[i]? = some a → f a = r[i]?
  | [], r, h, i, a, ha => by simp at ha
  | c :: l, r, h, i, a, ha => by
    simp only [List.mapM_cons, Option.bind_eq_bind, Option.bind_eq_some_iff, Option.pure_def, Option.some.injEq] at h
    obtain ⟨b, hb, r', hr', rfl⟩ := h
    cases i with
    | zero => simp at ha; subst ha; simpa using hb
    | succ i => simpa using mapM_opt hr' i a (by simpa using ha)
theorem cells_at {w : World} {base : Nat} {a : Addr} {n : Nat} {cs : List Value} (h : w.cells? base a n = some cs) : base ≤ a.block ∧ cs.length = n ∧ ∀ j u, cs[j]? = some u → w.cell? (a.add j) = some u := by
  unfold World.cells? at h
  split at h
  · rename_i hb
    have hl : cs.length = n := by have := mapM_len h; simpa using this
    refine ⟨hb, hl, fun j u hu => ?_⟩
    have hj : j < n := by have := (List.getElem?_eq_some_iff.1 hu).1; omega
    have := mapM_opt h j j (by simp [hj])
    rw [this, hu]
  · cases h
theorem list_of {γ : Type} {Q : Nat → γ → Prop} : ∀ (n : Nat), (∀ i, i < n → ∃ x, Q i x) → ∃ xs : List γ, xs.length = n ∧ ∀ i x, xs[i]? = some x → Q i x
  | 0, _ => ⟨[], rfl, by simp⟩
  | n + 1, h => by
    obtain ⟨xs, hl, hx⟩ := list_of n (fun i hi => h i (by omega))
    obtain ⟨y, hy⟩ := h n (by omega)
    refine ⟨xs ++ [y], by simp [hl], fun i x hi => ?_⟩
    rcases Nat.lt_or_ge i n with h1 | h1
    · rw [List.getElem?_append_left (by omega)] at hi
      exact hx i x hi
    · rw [List.getElem?_append_right (by omega), hl] at hi
      have : i = n := by
        have := (List.getElem?_eq_some_iff.1 hi).1
        simp at this; omega
      subst this
      simp at hi
      subst hi
      exact hy
theorem weightsAll_mem' {H : Type} {P : Program} {e : TypeId} : ∀ {l : List (DataW H)} {d : DataW H}, d ∈ l → ∀ n ∈ d.weights P e, n ∈ DataW.weightsAll P e l
  | c :: l, d, hd, n, hn => by
    simp only [DataW.weightsAll, List.mem_append]
    rcases List.mem_cons.1 hd with rfl | hd
    · exact .inl hn
    · exact .inr (weightsAll_mem' hd n hn)
theorem sum_bulk {γ H : Type} (f : γ → Nat) : ∀ (xs : List γ) (ds : List (DataW H)), xs.length = ds.length → (∀ (i : Nat) (x : γ) (d : DataW H), xs[i]? = some x → ds[i]? = some d → f x ≤ Rows.uptoBulk d) → (xs.map f).sum ≤ Rows.uptoBulkAll ds
  | [], [], _, _ => by simp [Rows.uptoBulkAll]
  | x :: xs, d :: ds, hl, h => by
    have h0 := h 0 x d rfl rfl
    have h1 := sum_bulk f xs ds (by simpa using hl) (fun i y e hy he => h (i + 1) y e (by simpa using hy) (by simpa using he))
    simp only [List.map_cons, List.sum_cons, Rows.uptoBulkAll]
    omega
  | [], _ :: _, hl, _ => by simp at hl
  | _ :: _, [], hl, _ => by simp at hl
def Rep.slice (r : Rep P e α) (ht : P.underlying t = some (.slice e)) (hc : P.cellsOf t = 1) (hpos : 0 < P.cellsOf e) : Rep P t (List α) where
  R S w cs xs := ∃ v, cs = [v] ∧ r.SR S w v xs
  bulk xs := (xs.map r.bulk).sum + 1
  len h := by obtain ⟨v, rfl, _⟩ := h; rw [hc]; rfl
  mono hm h := by obtain ⟨v, hv, hs⟩ := h; exact ⟨v, hv, hs.mono hm⟩
  weak hm h := by obtain ⟨v, hv, hs⟩ := h; exact ⟨v, hv, hs.weak hpos hm⟩
  opens {H enc w base held fuel cs d ps} h hw := by
    rcases open_slice ht h with ⟨rfl, hx⟩ | ⟨a, len, cap, m, n, D, Pl, rfl, hb, hl, hm, hmm, hx, hel⟩
    · exact ⟨[], ⟨_, rfl, Rep.SR.nil r _ w⟩, bulk_one _⟩
    · injection hx with hd _
      subst hd
      simp only [if_true] at hmm
      subst hmm
      have hwt : (len + (m - len)) * P.bytesOf e ≤ reachBytes := by
        have := hw ((len + (m - len)) * P.bytesOf e) (by simp [DataW.weights, ht])
        exact this
      have hq : ∀ i, i < len → ∃ x, r.bulk x ≤ Rows.uptoBulk (D i) ∧ ∃ b off, (some a : Option Addr) = some ⟨b, off, none⟩ ∧ (base ≤ b ∧ b < w.heap.size) ∧ ∃ cs, r.R (fun k => base ≤ k ∧ k < w.heap.size) w cs x ∧ ∀ j u, cs[j]? = some u → w.cell? ⟨b, off + (i * P.cellsOf e + j), none⟩ = some u := by
        intro i hi
        obtain ⟨cs', hcs, htr⟩ := hel i (by omega)
        obtain ⟨hba, hcl, hcc⟩ := cells_at hcs
        obtain ⟨x, hx, hbk⟩ := r.opens htr (fun q hq => hw q (by
          simp only [DataW.weights, ht, List.mem_cons, List.mem_append]
          exact .inr (.inl (weightsAll_mem' (List.mem_map.2 ⟨i, by simp [hi], rfl⟩) q hq))))
        have hlen := r.len hx
        have hc0 := hcc 0 _ (List.getElem?_eq_getElem (show 0 < cs'.length by omega))
        have hspot : a.spot = none := by
          cases hs : a.spot with
          | none => rfl
          | some s =>
            exfalso
            obtain ⟨cs0, hcs0, _⟩ := hel 0 (by omega)
            obtain ⟨_, hl0, hc00⟩ := cells_at hcs0
            have := hc00 0 _ (List.getElem?_eq_getElem (show 0 < cs0.length by omega))
            simp [Addr.add, World.cell?, hs] at this
            split at this <;> simp at this
        obtain ⟨b, off, sp⟩ := a
        simp only at hspot
        subst hspot
        have hadd : ∀ j, ((⟨b, off, none⟩ : Addr).add (i * P.cellsOf e)).add j = ⟨b, off + (i * P.cellsOf e + j), none⟩ := by
          intro j
          unfold Addr.add
          split <;> split <;> simp_all [Nat.add_assoc]
        rw [hadd] at hc0
        exact ⟨x, hbk, b, off, rfl, ⟨hb, World.block_lt_of_cell? w _ hc0⟩, cs', hx, fun j u hu => by have := hcc j u hu; rwa [hadd] at this⟩
      obtain ⟨xs, hxl, hxs⟩ := list_of len hq
      refine ⟨xs, ⟨_, rfl, some a, m, by rw [hxl], by omega, hm, ?_, fun i x hx => (hxs i x hx).2⟩, ?_⟩
      · rwa [show len + (m - len) = m by omega] at hwt
      · have hs := sum_bulk r.bulk xs ((List.range len).map D) (by simp [hxl]) (fun i x d hx hd => by
          simp only [List.getElem?_map, Option.map_eq_some_iff] at hd
          obtain ⟨j, hj, rfl⟩ := hd
          have hj' : j = i := by
            have := List.getElem?_eq_some_iff.1 hj
            obtain ⟨h1, h2⟩ := this
            simp at h2
            omega
          subst hj'
          exact (hxs j x hx).1)
        simp only [Rows.uptoBulk]
        omega
structure Fl (P : Program) (fs : List Field) (α : Type) where
  R : (Nat → Prop) → World → List Value → α → Prop
  bulk : α → Nat
  mono : ∀ {S : Nat → Prop} {w w' : World} {cs : List Value} {x : α}, (∀ k, S k → k < w.heap.size → w'.heap[k]? = w.heap[k]?) → R S w cs x → R S w' cs x
  weak : ∀ {S S' : Nat → Prop} {w : World} {cs : List Value} {x : α}, (∀ k, k < w.heap.size → S k → S' k) → R S w cs x → R S' w cs x
  opens : ∀ {H : Type} {enc : TypeId × Value → H} {w : World} {base : Nat} {held : Bool} {fuel : Nat} {cs : List Value} {xs : List (DataW H × List MemPlace)}, xs.length = fs.length →
    (∀ (i : Nat) (f : Field), fs[i]? = some f → DataW.trod enc P w base (fun _ => true) held fuel f.type ((cs.drop f.offset).take (P.cellsOf f.type)) = xs[i]?) →
    (∀ n ∈ DataW.weightsEach P (fs.map (·.type)) (xs.map (·.1)), n ≤ reachBytes) → ∃ x, R (fun k => base ≤ k ∧ k < w.heap.size) w cs x ∧ bulk x ≤ Rows.uptoBulkAll (xs.map (·.1))
def Fl.nil (P : Program) : Fl P [] Unit where
  R _ _ _ _ := True
  bulk _ := 0
  mono _ _ := trivial
  weak _ _ := trivial
  opens _ _ _ := ⟨(), trivial, Nat.zero_le _⟩
def Fl.cons {f : Field} {fs : List Field} (r : Rep P f.type α) (l : Fl P fs β) : Fl P (f :: fs) (α × β) where
  R S w cs x := r.R S w ((cs.drop f.offset).take (P.cellsOf f.type)) x.1 ∧ l.R S w cs x.2
  bulk x := r.bulk x.1 + l.bulk x.2
  mono hm h := ⟨r.mono hm h.1, l.mono hm h.2⟩
  weak hm h := ⟨r.weak hm h.1, l.weak hm h.2⟩
  opens {H enc w base held fuel cs xs} hl h hw := by
    match xs, hl with
    | y :: ys, hl =>
      have h0 := h 0 f rfl
      obtain ⟨x, hx, hb1⟩ := r.opens (d := y.1) (ps := y.2) (by simpa using h0) (fun n hn => hw n (by simp only [List.map_cons, DataW.weightsEach, List.mem_append]; exact .inl hn))
      obtain ⟨z, hz, hb2⟩ := l.opens (xs := ys) (by simpa using hl) (fun i g hg => by simpa using h (i + 1) g (by simpa using hg)) (fun n hn => hw n (by simp only [List.map_cons, DataW.weightsEach, List.mem_append]; exact .inr hn))
      exact ⟨(x, z), ⟨hx, hz⟩, by simp only [List.map_cons, Rows.uptoBulkAll]; omega⟩
def Rep.struct {fs : Array Field} (ht : P.underlying t = some (.struct fs)) (l : Fl P fs.toList α) (g : α → β) (bk : β → Nat) (hbk : ∀ x, bk (g x) ≤ l.bulk x + 1) : Rep P t β where
  R S w cs y := cs.length = P.cellsOf t ∧ ∃ x, l.R S w cs x ∧ y = g x
  bulk := bk
  len h := h.1
  mono hm h := by obtain ⟨h1, x, h2, h3⟩ := h; exact ⟨h1, x, l.mono hm h2, h3⟩
  weak hm h := by obtain ⟨h1, x, h2, h3⟩ := h; exact ⟨h1, x, l.weak hm h2, h3⟩
  opens h hw := by
    obtain ⟨xs, n, _, hx, hl, hlen, hf⟩ := DataW.trod_struct ht h
    injection hx with hd _
    subst hd
    obtain ⟨x, hx, hb⟩ := l.opens (xs := xs) (by simpa using hlen) (fun i f hf' => hf i f (by simpa using hf')) (fun n hn => hw n (by simpa [DataW.weights, ht] using hn))
    exact ⟨g x, ⟨hl, x, hx, rfl⟩, by have := hbk x; simp only [Rows.uptoBulk]; omega⟩
theorem Rep.arg (r : Rep P t α) {H : Type} {enc : TypeId × Value → H} {W : World} {held : Bool} {v : Value} {d : DataW H} {p : List MemPlace} (h : DataW.Trod enc P W 0 (fun _ => true) held t v d p)
    {ts : List TypeId} {ds : List (DataW H)} (hsz : (DataW.weightsEach P ts ds).all (· ≤ reachBytes) = true) {j : Nat} (hj : ts[j]? = some t) (hd : ds[j]? = some d) : ∃ x, r.R (fun k => k < W.heap.size) W v.cells.toList x ∧ r.bulk x ≤ Rows.uptoBulk d := by
  obtain ⟨fuel, hf⟩ := h
  obtain ⟨x, hx, hb⟩ := r.opens hf (fun n hn => by
    have := List.all_eq_true.1 hsz n (DataW.weights_mem_each hj hd n hn)
    simpa using this)
  exact ⟨x, r.weak (fun k _ hk => hk.2) hx, hb⟩
end
end Go.Proofs.YtjkbfoeakeoeiaaGreat
namespace Go.Proofs.YtjkbfoeakeoeiaaGreat
set_option maxRecDepth 100000
set_option maxHeartbeats 40000000
set_option linter.unusedSimpArgs false
set_option linter.unusedVariables false
open Go.RowKit
theorem cz_u : Tryz.prog.cellsOf 22 = 1 := by kernel_rfl
theorem cz_i64 : Tryz.prog.cellsOf 2 = 1 := by kernel_rfl
theorem cz_bool : Tryz.prog.cellsOf 4 = 1 := by kernel_rfl
noncomputable def rdU : Rep Tryz.prog 22 Nat := Rep.u64 Tryz.underlying22 cz_u
noncomputable def rdI64 : Rep Tryz.prog 2 Int := Rep.int .i64 Tryz.underlying2 cz_i64
noncomputable def rdBool : Rep Tryz.prog 4 Bool := Rep.bool Tryz.underlying4 cz_bool
theorem wf64 {n : Int} (h : (Lit.int .i64 n).wf = true) : I64 n := by
  have hx : -9223372036854775808 ≤ n ∧ n ≤ 9223372036854775807 := by simpa [Lit.wf, IntKind.min, IntKind.max, IntKind.signed, IntKind.bits] using h
  exact hx
end Go.Proofs.YtjkbfoeakeoeiaaGreat
namespace Go.Proofs.YtjkbfoeakeoeiaaGreat
set_option maxRecDepth 100000
set_option maxHeartbeats 40000000
set_option linter.unusedSimpArgs false
set_option linter.unusedVariables false
open Go.RowKit
end Go.Proofs.YtjkbfoeakeoeiaaGreat
namespace Go.Proofs.YtjkbfoeakeoeiaaGreat
set_option maxRecDepth 100000
set_option maxHeartbeats 40000000
set_option linter.unusedSimpArgs false
set_option linter.unusedVariables false
open Go.RowKit
theorem cz_Tells : Tryz.prog.cellsOf 61 = 4 := by kernel_rfl
noncomputable def rdTells : Rep Tryz.prog 61 (Nat × Int × Nat × Bool) :=
  Rep.struct Tryz.underlying61 (Fl.cons rdU (Fl.cons rdI64 (Fl.cons rdU (Fl.cons rdBool (Fl.nil _))))) (fun x => (x.1, x.2.1, x.2.2.1, x.2.2.2.1)) (fun y => rdU.bulk y.1 + (rdI64.bulk y.2.1 + (rdU.bulk y.2.2.1 + (rdBool.bulk y.2.2.2 + (0)))) + 1) (fun _ => Nat.le_refl _)
theorem tells_law (x : Nat × Int × Nat × Bool) (c : Array Value) (w : World) {S : Nat → Prop} (h : rdTells.R S w (Value.agg c).cells.toList x) :
    Calls Tryz.prog 5 #[.agg c] w fun e w' => e = .returned (.bool true) ∧ Below w.heap.size w w' := by
  obtain ⟨hl, z, ⟨h0, h1, h2, h3, -⟩, rfl⟩ := h
  obtain ⟨t, n, i, m, u⟩ := z
  rw [cz_Tells] at hl
  have hc : (Value.agg c).cells.toList = c.toList := rfl
  rw [hc] at hl h0 h1 h2 h3
  obtain ⟨h0, b0⟩ := h0
  obtain ⟨h1, b1⟩ := h1
  obtain ⟨h2, b2⟩ := h2
  change _ = [_] at h3
  simp only [cz_u, cz_i64, cz_bool] at h0 h1 h2 h3
  have e : c.toList = [U t, I n, U i, .bool m] := by
    have e1 : c.toList = (c.toList.drop 0).take 1 ++ ((c.toList.drop 1).take 1 ++ ((c.toList.drop 2).take 1 ++ (c.toList.drop 3).take 1)) := by
      generalize c.toList = l at hl
      match l, hl with
      | [_, _, _, _], _ => rfl
    rw [e1, h0, h1, h2, h3]
    rfl
  obtain rfl : c = #[U t, I n, U i, .bool m] := by
    rw [← Array.toArray_toList (xs := c), e]
  exact tells_any w t i n m b0 (wf64 b1)
end Go.Proofs.YtjkbfoeakeoeiaaGreat
