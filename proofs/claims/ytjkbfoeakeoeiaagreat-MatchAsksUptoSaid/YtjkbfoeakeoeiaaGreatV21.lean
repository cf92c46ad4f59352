/- Keep: contracts (Hb Hc He Hf Ht Sm Ma Mb). -/
import Derived.Test.YtjkbfoeakeoeiaaGreatV2
import Derived.Test.YtjkbfoeakeoeiaaGreatV6
import Derived.Test.YtjkbfoeakeoeiaaGreatV19
import Derived.Test.YtjkbfoeakeoeiaaGreatV20
namespace Go.Proofs.YtjkbfoeakeoeiaaGreat
set_option maxRecDepth 100000
set_option maxHeartbeats 40000000
set_option linter.unusedSimpArgs false
set_option linter.unusedVariables false
open Go.RowKit
theorem SmW.to {b c : Nat} {k : WorkV} (h : SmW b k) (hc : b ≤ c) : SmW c k := ⟨h.sm, h.part, h.pos, h.now, Nat.le_trans h.spos hc, Nat.le_trans h.made hc, h.done, Nat.le_trans h.ev hc, h.evv, fun m hm => Nat.le_trans (h.ins m hm) hc⟩
theorem step_sm (k : WorkV) (key left b : Nat) (x : LisV) (h : SmW b k) (hb : b < 1000) : SmW (b + 1) (pubStep key (k, left) x).1 := by
  unfold pubStep
  dsimp only
  split
  · split
    · exact emit_sm k _ b h hb (fun h => by revert h; simp [sendR]) (fun h => by revert h; simp [sendR]) (by simp [sendR, rec0])
    · exact h.up
  · exact h.up
theorem pub_sm (k : WorkV) (r : RecV) (b : Nat) (h : SmW b k) (hb : b < 900) (hm : (publishV k r).2 = 6 ∨ k.s.msgs = []) : SmW (b + 3) (publishV k r).1 := by
  by_cases hg : pubBad r
  · have : publishV k r = (k, 1) := by unfold publishV; exact if_pos hg
    rw [this]
    exact h.to (by omega)
  by_cases hs : r.c.size ≠ 0 ∧ k.s.msgs.any (pubSame k r) = true
  · rw [pub_same k r hg hs]
    exact h.to (by omega)
  have hv : r.vars.length ≤ 1048576 := by
    have hr : rightV r.vars = true := by
      cases h : rightV r.vars with
      | true => rfl
      | false => exact absurd (show pubBad r from .inr (.inr (.inr (.inr (.inr h))))) hg
    have := right_le hr
    omega
  have hp := pub_eq k r hg hs
  rw [hp] at hm
  rw [hp]
  split
  · exact h.to (by omega)
  · rename_i h13
    rw [if_neg h13] at hm
    have hm0 : k.s.msgs = [] := hm.elim (fun h => by cases h) id
    have h1 : SmW (b + 1) (pub1 k r) := emit_sm k _ b h (by omega) (fun h => by revert h; simp [pubR]) (fun _ => hm0) hv
    have h2 : SmW (b + 2) (pub2 k r) := by
      unfold pub2
      obtain hl | ⟨x, hx⟩ := list_le1 h1.sm.l1
      · rw [hl]
        exact h1.up
      · rw [hx]
        exact step_sm (pub1 k r) _ _ _ x h1 (by omega)
    show SmW (b + 3) (pub3 k r)
    unfold pub3
    split
    · exact emit_sm _ _ _ h2 (by omega) (fun h => by revert h; simp) (fun h => by revert h; simp) (by simp [rec0])
    · exact h2.up
theorem begin_sm (s : StateV) (pos : Nat) (now : Int) (b : Nat) (hs : SmS s) (hp : 1 ≤ pos ∧ pos ≤ 1000000) (hn : 0 ≤ now ∧ now ≤ 1000000) (h1 : s.pos ≤ b) (h2 : s.made ≤ b) (h3 : s.done ≤ 1000000) (h4 : ∀ m ∈ s.msgs, m.insts.length ≤ b) : SmW b (beginV s 0 pos now) :=
  ⟨hs, rfl, hp, hn, h1, h2, h3, Nat.zero_le _, (fun r h => by cases h), h4⟩
theorem nil_list {α : Type} (R : World → List Value → α → Prop) (k : Nat) (w : World) : ListAt R k w (.slice none 0 0) [] := ⟨none, 0, rfl, Nat.le_refl _, by simp [maxLen], fun i x h => by simp at h⟩
theorem pub_six (k : WorkV) (r : RecV) (h : (publishV k r).2 = 6) : (publishV k r).1 = k := by
  by_cases hg : pubBad r
  · have : publishV k r = (k, 1) := by unfold publishV; exact if_pos hg
    rw [this]
  by_cases hs : r.c.size ≠ 0 ∧ k.s.msgs.any (pubSame k r) = true
  · rw [pub_same k r hg hs]
  rw [pub_eq k r hg hs] at h
  split at h <;> cases h
theorem smSh : SmS shS := ⟨by simp [shS, stateE], rfl, by simp [shS], by simp [shS, stateE], by simp [shS], by simp [shS, stateE]⟩
theorem shS_at (w : World) (b : Nat) (h : w.heap[b]? = some (.cells #[U 3, U 2, I 1, .string ⟨#[112, 97, 105, 100]⟩, .string ⟨#[107]⟩, U 0, .slice none 0 0] 58 (0, 0))) : StAt (fun _ => False) w [U 0, U 0, U 0, .slice none 0 0, .slice none 0 0, .slice none 0 0, .slice none 0 0, .slice none 0 0, .slice none 0 0, .slice none 0 0, .slice (some ⟨b, 0, none⟩) 1 1, .slice none 0 0] shS := by
  refine ⟨_, _, _, _, _, _, _, _, _, rfl, nil_list _ _ _, nil_list _ _ _, nil_list _ _ _, nil_list _ _ _, nil_list _ _ _, nil_list _ _ _, nil_list _ _ _, ?_, nil_list _ _ _⟩
  refine ⟨_, _, rfl, Nat.le_refl _, by simp [shS, maxLen], fun i x hx => ?_⟩
  match i, hx with
  | 0, hx =>
    simp [shS] at hx
    subst hx
    refine ⟨b, 0, [U 3, U 2, I 1, .string paidS, .string keyKS, U 0, .slice none 0 0], rfl, rfl, ⟨_, rfl, vnil _⟩, fun j u hu => ?_⟩
    rw [sans_cell' (fun h => h)]
    show w.cell? ⟨b, 0 + 0 * 7 + j, none⟩ = some u
    rw [show 0 + 0 * 7 + j = j by omega, cell_of h j]
    match j, hu with
    | 0, hu => exact hu
    | 1, hu => exact hu
    | 2, hu => exact hu
    | 3, hu => exact hu
    | 4, hu => exact hu
    | 5, hu => exact hu
    | 6, hu => exact hu
    | n + 7, hu => simp at hu
  | i + 1, hx => simp [shS] at hx
theorem shR_ok : RecOk shR := ⟨by constructor <;> decide, by constructor <;> decide, by unfold U64; decide, by constructor <;> decide, by unfold U64; decide, by unfold U64; decide, by unfold U64; decide, by constructor <;> decide, by constructor <;> decide, by unfold Sz; decide, by unfold Sz; decide, by unfold Sz; decide, fun y h => by cases h⟩
theorem mshown_any (w : World) : Calls Tryz.prog 6 #[] w fun e w' => e = .returned (.bool true) ∧ Below w.heap.size w w' := by
  go_enter Tryz.func6, Tryz.ntmps6
  go_wp2_with fail
  refine calls_box2 ?_
  intro W0 h0 h1 B0 hz
  refine (begin_any W0 (fun _ => False) shS [U 0, U 0, U 0, .slice none 0 0, .slice none 0 0, .slice none 0 0, .slice none 0 0, .slice none 0 0, .slice none 0 0, .slice none 0 0, .slice (some ⟨w.heap.size, 0, none⟩) 1 1, .slice none 0 0] 0 1 10 (fun _ h => h.elim) (shS_at W0 w.heap.size h0.out) smSh).mono ?_
  rintro e w1 ⟨wb, rfl, hw1, hwb, b1⟩
  have HW1 := hid hw1
  have B1 := hid (B0.out.trans (b1.mono B0.out.size))
  have hlt1 := hid (hw1.lt)
  clear hw1 b1 h0 h1 hz
  have hk0 := begin_sm shS 1 10 1 smSh (by omega) (by omega) (by decide) (by decide) (by decide) (by simp [shS, stateE])
  have hp1 := pub_sm (beginV shS 0 1 10) shR 1 hk0 (by omega) (.inr rfl)
  have HK0 := hid hk0
  have HK1 := hid hp1
  have E1 := shown_one
  have E2 := shown_two
  have EV := hid shown_ev
  have E3 := hid (pub_six _ _ E2)
  go_wp2_with fail
  refine calls_box1 ?_
  intro W2 h2 B2 hz2
  refine (publish_any W2 wb (fun b => b = wb) (.slice none 0 0) (beginV shS 0 1 10) shR none 0 1 (HW1.out.grow B2.out) HK0.out (by omega) (fun _ => shR_ok) (vnil _) (.inr rfl)).mono ?_
  rintro e w3 ⟨rfl, S2, ve2, hw2, g2⟩
  rw [E1]
  have HW2 := hid hw2
  have hww : w.heap.size ≤ wb := Nat.le_trans B0.out.size hwb
  have B22 := hid (B1.out.trans (B2.out.mono B1.out.size))
  have B3 := hid (B22.out.trans (g2.below B22.out.size (fun b h => by subst h; exact hww)))
  have HS2 : Hid (∀ b, S2 b → w.heap.size ≤ b) := fun b h => by
    rcases Nat.lt_or_ge b W2.heap.size with h1 | h1
    · have := (g2.same b h1).1 h
      omega
    · exact Nat.le_trans B22.out.size h1
  have h3 := hid (g2.keep (fun h => by have := (hlt1.out wb rfl).1; omega) h2.out)
  generalize (publishV (beginV shS 0 1 10) shR).1 = k1 at *
  clear hw2 g2 hk0 hp1 h2 hz2 HK0 HW1 E1
  obtain ⟨r0, r1, r2, r3, r4, r5, r6, r7, r8, r9, r10, r11, r12⟩ := cells13 h3.out
  go_wp2_with fail
  refine (publish_any w3 wb S2 ve2 k1 shR none 0 4 HW2.out HK1.out (by omega) (fun _ => shR_ok) (vnil _) (.inl E2)).mono ?_
  rintro e w4 ⟨rfl, S3, ve3, hw3, g3⟩
  rw [E2]
  rw [E3.out] at hw3
  have HW3 := hid hw3
  have B4 := hid (B3.out.trans (g3.below B3.out.size HS2.out))
  clear hw3 g3 E2 r0 r1 r2 r3 r4 r5 r6 r7 r8 r9 r10 r11 r12
  go_wp2_with fail
  refine (events_any w4 wb S3 ve3 k1 HW3.out HK1.out.evv (by have := HK1.out.ev; omega)).mono ?_
  rintro e w5 ⟨v, rfl, hl5, b5⟩
  have hlen : k1.ev.length = 2 := by have := congrArg List.length EV.out; simpa using this
  obtain ⟨e1, he1⟩ : ∃ e1, k1.ev[1]? = some e1 := ⟨_, List.getElem?_eq_getElem (by omega)⟩
  have hf : (e1.kind, e1.key, e1.key2) = ((21 : Int), 3, 1) := by
    have h := congrArg (fun l => l[1]?) EV.out
    simp only [List.getElem?_map, he1, Option.map_some] at h
    simpa using h
  injection hf with hf1 hf2
  injection hf2 with hf2 hf3
  obtain ⟨a, cap, rfl, -, -, hl5⟩ := hl5
  obtain ⟨bb, off, cs, rfl, -, ⟨vv, rfl, -⟩, hc⟩ := hl5 1 e1 he1
  have q1 := (sans_cell (hc 1 _ rfl)).1
  have q4 := (sans_cell (hc 4 _ rfl)).1
  have q5 := (sans_cell (hc 5 _ rfl)).1
  rw [hf1] at q1
  rw [hf2] at q4
  rw [hf3] at q5
  rw [show off + 1 * 13 + 1 = off + 14 by omega] at q1
  rw [show off + 1 * 13 + 4 = off + 17 by omega] at q4
  rw [show off + 1 * 13 + 5 = off + 18 by omega] at q5
  have q1' : w5.cell? ⟨bb, off + 13 + 1, none⟩ = some (I 21) := q1
  have q4' : w5.cell? ⟨bb, off + 13 + 4, none⟩ = some (U 3) := q4
  have q5' : w5.cell? ⟨bb, off + 13 + 5, none⟩ = some (U 1) := q5
  have B5 := hid (B4.out.trans (b5.mono B4.out.size))
  rw [hlen]
  clear hl5 hc he1 hf1 hf2 hf3 b5 hlen
  go_wp2_with fail
  refine (mshard_any ⟨#[97, 98]⟩ 4 (by decide) (by decide) (by decide) w5).mono ?_
  rintro e w6 ⟨rfl, rfl⟩
  rw [shown_shard]
  go_wp2_with fail
  refine (mhome_any 2199023255553 (by decide) _).mono ?_
  rintro e w6 ⟨rfl, rfl⟩
  rw [shown_home]
  go_wp2
  go_ret
  exact ⟨rfl, B5.out⟩
end Go.Proofs.YtjkbfoeakeoeiaaGreat
namespace Go.Proofs.YtjkbfoeakeoeiaaGreat
set_option maxRecDepth 100000
set_option maxHeartbeats 40000000
set_option linter.unusedSimpArgs false
set_option linter.unusedVariables false
open Go.RowKit
end Go.Proofs.YtjkbfoeakeoeiaaGreat
namespace Go.Proofs.YtjkbfoeakeoeiaaGreat
set_option maxRecDepth 100000
set_option maxHeartbeats 40000000
set_option linter.unusedSimpArgs false
set_option linter.unusedVariables false
open Go.RowKit
def NoStr (cs : Array Value) : Prop := ∀ (i : Nat) (s : ByteArray), cs[i]? ≠ some (.string s)
theorem NoStr.apart {w : World} {sb b o : Nat} {cs : Array Value} {T : TypeId} {fr : Nat × Nat} {s : ByteArray} (hn : NoStr cs) (h : w.heap[sb]? = some (.cells cs T fr)) (hc : w.cell? ⟨b, o, none⟩ = some (.string s)) : ¬ b = sb := by
  rintro rfl
  rw [cell_of h o] at hc
  exact hn o s hc
theorem sans_keep {S : Nat → Prop} {w w' : World} {sb b o : Nat} {v : Value} (hB : But (fun i => i = sb) w w') (hb : ¬ b = sb) (h : (sans S w).cell? ⟨b, o, none⟩ = some v) : (sans S w').cell? ⟨b, o, none⟩ = some v := by
  obtain ⟨h1, h2⟩ := sans_cell h
  rw [sans_cell' h2]
  exact hB.cell h1 hb
theorem vars_keep {S : Nat → Prop} {w w' : World} {sb : Nat} {cs : Array Value} {T : TypeId} {fr : Nat × Nat} {v : Value} {l : List VarV} (hn : NoStr cs) (h : w.heap[sb]? = some (.cells cs T fr)) (hB : But (fun i => i = sb) w w') (hv : VarsAt (sans S w) v l) : VarsAt (sans S w') v l := by
  obtain ⟨a, cap, hv, h1, h2, h3⟩ := hv
  refine ⟨a, cap, hv, h1, h2, fun i x hx => ?_⟩
  obtain ⟨b, off, ha, c0, c1, c2, c3⟩ := h3 i x hx
  have hb := hn.apart h (sans_cell c0).1
  exact ⟨b, off, ha, sans_keep hB hb c0, sans_keep hB hb c1, sans_keep hB hb c2, sans_keep hB hb c3⟩
theorem slr_nil {w w' : World} {v : Value} (h : SlR w v []) : SlR w' v [] := by
  obtain ⟨a, cap, hv, h1, h2, -⟩ := h
  exact ⟨a, cap, hv, h1, h2, fun i u hu => by simp at hu⟩
theorem list_keep {α : Type} {R : World → List Value → α → Prop} {size : Nat} {S : Nat → Prop} {w w' : World} {sb : Nat} {cs : Array Value} {T : TypeId} {fr : Nat × Nat} {v : Value} {l : List α} (hn : NoStr cs) (h : w.heap[sb]? = some (.cells cs T fr)) (hB : But (fun i => i = sb) w w') (j : Nat)
    (hs : ∀ c x, R (sans S w) c x → ∃ s, c[j]? = some (.string s)) (hr : ∀ c x, x ∈ l → R (sans S w) c x → R (sans S w') c x) (hl : ListAt R size (sans S w) v l) : ListAt R size (sans S w') v l := by
  obtain ⟨a, cap, hv, h1, h2, h3⟩ := hl
  refine ⟨a, cap, hv, h1, h2, fun i x hx => ?_⟩
  obtain ⟨b, off, c, ha, hc, hx1, hu⟩ := h3 i x hx
  obtain ⟨s, hj⟩ := hs _ _ hx1
  have hb := hn.apart h (sans_cell (hu j _ hj)).1
  exact ⟨b, off, c, ha, hc, hr _ _ (List.mem_of_getElem? hx) hx1, fun k u hk => sans_keep hB hb (hu k u hk)⟩
theorem list_nil {α : Type} {R : World → List Value → α → Prop} {size : Nat} {w w' : World} {v : Value} (hl : ListAt R size w v []) : ListAt R size w' v [] := by
  obtain ⟨a, cap, hv, h1, h2, -⟩ := hl
  exact ⟨a, cap, hv, h1, h2, fun i x hx => by simp at hx⟩
structure Lone (s : StateV) : Prop where
  procs : s.procs = []
  insts : s.insts = []
  tokens : s.tokens = []
  jobs : s.jobs = []
  timers : s.timers = []
  subs : s.subs = []
  kept : s.kept = []
  ins : ∀ m ∈ s.msgs, m.insts = []
theorem StAt.keep {S : Nat → Prop} {w w' : World} {sb : Nat} {cs : Array Value} {T : TypeId} {fr : Nat × Nat} {c : List Value} {s : StateV} (hn : NoStr cs) (h : w.heap[sb]? = some (.cells cs T fr)) (hB : But (fun i => i = sb) w w') (hl : Lone s) (hs : StAt S w c s) : StAt S w' c s := by
  obtain ⟨vp, vi, vt, vj, vr, vs, vk, vl, vm, hc, h1, h2, h3, h4, h5, h6, h7, h8, h9⟩ := hs
  refine ⟨vp, vi, vt, vj, vr, vs, vk, vl, vm, hc, ?_, ?_, ?_, ?_, ?_, ?_, ?_, ?_, ?_⟩
  · rw [hl.procs] at h1 ⊢; exact list_nil h1
  · rw [hl.insts] at h2 ⊢; exact list_nil h2
  · rw [hl.tokens] at h3 ⊢; exact list_nil h3
  · rw [hl.jobs] at h4 ⊢; exact list_nil h4
  · rw [hl.timers] at h5 ⊢; exact list_nil h5
  · rw [hl.subs] at h6 ⊢; exact list_nil h6
  · rw [hl.kept] at h7 ⊢; exact list_nil h7
  · refine list_keep hn h hB 3 ?_ ?_ h8
    · rintro c x ⟨v, rfl, -⟩
      exact ⟨_, rfl⟩
    · rintro c x - ⟨v, rfl, hv⟩
      exact ⟨v, rfl, vars_keep hn h hB hv⟩
  · refine list_keep hn h hB 1 ?_ ?_ h9
    · rintro c x ⟨v, u, rfl, -⟩
      exact ⟨_, rfl⟩
    · rintro c x hx ⟨v, u, rfl, hv, hu⟩
      refine ⟨v, u, rfl, vars_keep hn h hB hv, ?_⟩
      rw [hl.ins x hx] at hu ⊢
      exact slr_nil hu
end Go.Proofs.YtjkbfoeakeoeiaaGreat
namespace Go.Proofs.YtjkbfoeakeoeiaaGreat
set_option maxRecDepth 100000
set_option maxHeartbeats 40000000
set_option linter.unusedSimpArgs false
set_option linter.unusedVariables false
open Go.RowKit
end Go.Proofs.YtjkbfoeakeoeiaaGreat
namespace Go.Proofs.YtjkbfoeakeoeiaaGreat
set_option maxRecDepth 100000
set_option maxHeartbeats 40000000
set_option linter.unusedSimpArgs false
set_option linter.unusedVariables false
open Go.RowKit
def PendAt (S : Nat → Prop) (w : World) (sb pb : Nat) (s : StateV) (parts : Int) : Prop :=
  ∃ (vp vi vt vj vr vk vm : Value) (sa la : Option Addr) (sc lc : Nat), (∀ b, S b → b < w.heap.size) ∧ ListAt SubV.at_ 6 (sans S w) (.slice sa s.subs.length sc) s.subs ∧ ListAt LisV.at_ 7 (sans S w) (.slice la s.listed.length lc) s.listed ∧
    w.heap[sb]? = some (.cells #[U s.pos, U s.done, U s.made, vp, vi, vt, vj, vr, .slice sa s.subs.length sc, vk, .slice la s.listed.length lc, vm] 33 (0, 0)) ∧ w.heap[pb]? = some (.cells #[I parts] 3 (0, 0))
theorem mpending_any (w : World) (S : Nat → Prop) (s : StateV) (cs : List Value) (parts : Int) (hS : ∀ b, S b → b < w.heap.size) (hs : StAt S w cs s) :
    Calls Tryz.prog 14 #[.agg cs.toArray, I parts] w fun e w' => ∃ sb pb, e = .returned (.func (.func 23) #[] #[.pointer (some ⟨sb, 0, none⟩), .pointer (some ⟨pb, 0, none⟩)]) ∧ PendAt S w' sb pb s parts ∧ Below w.heap.size w w' := by
  obtain ⟨vp, vi, vt, vj, vr, vs, vk, vl, vm, hs⟩ := hs
  have hcs := hs.cells
  obtain ⟨⟨pa, pc, rfl⟩, ⟨ia, ic, rfl⟩, ⟨ta, tc, rfl⟩, ⟨ja, jc, rfl⟩, ⟨ra, rc, rfl⟩, ⟨sa, sc, rfl⟩, ⟨ka, kc, rfl⟩, ⟨la, lc, rfl⟩, ⟨ma, mc, rfl⟩⟩ := hs.shapes
  subst hcs
  have Hs := hid hs
  have hS' := hid hS
  clear hs hS
  go_enter Tryz.func14, Tryz.ntmps14
  go_wp2
  refine post_box2 ?_
  intro W9 h0 h1 B0
  exact bodyPost_ret (v := .func (.func 23) #[] #[.pointer (some ⟨w.heap.size, 0, none⟩), .pointer (some ⟨w.heap.size + 1, 0, none⟩)]) (by simp [results, Tryz.results14, go_sem]) rfl
    ⟨_, _, rfl, ⟨_, _, _, _, _, _, _, _, _, _, _, (fun b h => Nat.lt_of_lt_of_le (hS'.out b h) B0.out.size), Hs.out.subs.grow SubV.st (sans_grow B0.out), Hs.out.listed.grow LisV.st (sans_grow B0.out), h0.out, h1.out⟩, B0.out⟩
theorem sends_any (w : World) (S : Nat → Prop) (sb pb : Nat) (s : StateV) (parts most : Int) (h : PendAt S w sb pb s parts) (hp1 : -9223372036854775808 ≤ parts) (hp2 : parts ≤ 9223372036854775807)
    (hsub : ∀ x ∈ s.subs, x.key.size ≤ 140737488355328) (hlis : ∀ x ∈ s.listed, x.token < 18446744073709551616 ∧ x.vars.length ≤ 1048576) (hN : (pendingV s parts).length ≤ 4194304) (hm : I64 most) :
    Calls Tryz.prog 13 #[.func (.func 23) #[] #[.pointer (some ⟨sb, 0, none⟩), .pointer (some ⟨pb, 0, none⟩)], I most] w fun e w' => ∃ u, e = .returned u ∧ SendsAt S w' u (cutM most (pendingV s parts)) ∧ Below w.heap.size w w' := by
  obtain ⟨vp, vi, vt, vj, vr, vk, vm, sa, la, sc, lc, hS, hs, hl, hsb, hpb⟩ := h
  exact (callsIn_wide (n := 3)).1 (sends_in 3 (by omega) sb pb S w s parts most vp vi vt vj vr vk vm sa la sc lc hS hs hl hsb hpb hp1 hp2 hsub hlis hN hm)
theorem SendsAt.shape {S : Nat → Prop} {W : World} {v : Value} {l : List (Int × RecV)} (h : SendsAt S W v l) : ∃ a c, v = .slice a l.length c := by
  obtain ⟨xs, rfl, ⟨a, cap, hv, -⟩, -⟩ := h
  exact ⟨a, cap, by rw [hv, List.length_map]⟩
theorem SendsAt.one {S : Nat → Prop} {W : World} {v : Value} {to : Int} {r : RecV} (h : SendsAt S W v [(to, r)]) : ∃ b off c u, v = .slice (some ⟨b, off, none⟩) 1 c ∧
    ∀ j x, ([I to, I r.cls, I r.kind, U r.from_, I r.time, U r.key, U r.key2, U r.key3, I r.n, I r.m, .string r.a, .string r.b, .string r.c, u] : List Value)[j]? = some x → W.cell? ⟨b, off + j, none⟩ = some x := by
  obtain ⟨xs, hx, ⟨a, cap, hv, -, -, -, hc⟩, -⟩ := h
  match xs, hx with
  | [x], hx =>
    obtain ⟨t, r', u⟩ := x
    simp only [List.map_cons, List.map_nil, pj, List.cons.injEq, Prod.mk.injEq, and_true] at hx
    obtain ⟨rfl, rfl⟩ := hx
    simp only [List.flatMap_cons, List.flatMap_nil, List.append_nil, toldC] at hc
    obtain ⟨b, off, rfl, -⟩ := hc 0 _ rfl
    refine ⟨b, off, cap, u, hv, fun j x hj => ?_⟩
    obtain ⟨b', off', e, h⟩ := hc j x hj
    cases e
    exact h
end Go.Proofs.YtjkbfoeakeoeiaaGreat
namespace Go.Proofs.YtjkbfoeakeoeiaaGreat
set_option maxRecDepth 100000
set_option maxHeartbeats 40000000
set_option linter.unusedSimpArgs false
set_option linter.unusedVariables false
open Go.IntWalk Go.RowKit
theorem take_snoc2 {α : Type} {l : List α} {i : Nat} {x : α} (h : l[i]? = some x) : l.take (i + 1) = l.take i ++ [x] := by rw [List.take_add_one, h]; rfl
theorem bytes_eq7 {a b : ByteArray} (h : a.toList = b.toList) : a = b := by
  rw [Lib.toList_data, Lib.toList_data] at h
  exact ByteArray.ext (Array.toList_inj.1 h)
theorem vsame_any (l m : List VarV) (u1 u2 : Value) (w : World) (h1 : VarsAt w u1 l) (h2 : VarsAt w u2 m) :
    Calls Tryz.prog 47 #[u1, u2] w fun e w' => (∃ o, e = .returned (.bool o) ∧ (o = true ↔ l = m)) ∧ Below w.heap.size w w' := by
  have H1 := hid h1
  have H2 := hid h2
  obtain ⟨a1, c1', rfl, hc1, hm1, -⟩ := h1
  obtain ⟨a2, c2', rfl, hc2, hm2, -⟩ := h2
  go_enter Tryz.func47, Tryz.ntmps47
  by_cases hll : l.length = m.length
  · have q0 : ((l.length : Int) != (m.length : Int)) = false := by simp [hll]
    go_wp2
    go_loopw [5] (fun vi wr => ∃ i : Nat, i ≤ l.length ∧ vi = .int .i64 i ∧ Hid (l.take i = m.take i) ∧ Hid (Below w.heap.size w wr)) (fun vi _ => l.length - (intOf vi).toNat)
    case atStart => exact ⟨0, Nat.zero_le _, rfl, rfl, Below.refl _ _⟩
    case round =>
      obtain ⟨i, hi, rfl, hT, hR⟩ := hrel
      by_cases hlt : i < l.length
      · obtain ⟨⟨xn, ⟨xk, xi, xs⟩⟩, hx⟩ : ∃ x, l[i]? = some x := ⟨_, List.getElem?_eq_getElem hlt⟩
        obtain ⟨⟨yn, ⟨yk, yi, ys⟩⟩, hy⟩ : ∃ x, m[i]? = some x := ⟨_, List.getElem?_eq_getElem (by omega)⟩
        obtain ⟨as1, cs1, es1, ls1, ms1, gx⟩ := VarsAt.below H1.out hR.out
        obtain ⟨b1, o1, rfl, x0, x1, x2, x3⟩ := gx i _ hx
        cases es1
        clear gx
        obtain ⟨as2, cs2, es2, ls2, ms2, gy⟩ := VarsAt.below H2.out hR.out
        obtain ⟨b2, o2, rfl, y0, y1, y2, y3⟩ := gy i _ hy
        cases es2
        clear gy
        have hb1 := World.block_lt_of_cell? wr _ x0
        have hb2 := World.block_lt_of_cell? wr _ y0
        dsimp only at hb1 hb2 x0 x1 x2 x3 y0 y1 y2 y3
        have hs : Hid (l.take (i + 1) = m.take (i + 1) ↔ (⟨xn, ⟨xk, xi, xs⟩⟩ : VarV) = ⟨yn, ⟨yk, yi, ys⟩⟩) := by
          show _ ↔ _
          rw [take_snoc2 hx, take_snoc2 hy, hT.out]
          simp
        clear hx hy
        by_cases he : (⟨xn, ⟨xk, xi, xs⟩⟩ : VarV) = ⟨yn, ⟨yk, yi, ys⟩⟩
        · replace hs := hid (hs.out.2 he)
          simp only [VarV.mk.injEq, ValV.mk.injEq] at he
          obtain ⟨rfl, rfl, rfl, rfl⟩ := he
          go_wp2_with fail
          refine wp_par (fun _ => False) (fun _ => True) (List.replicate 9 false) _ [.fix ?_, .fix ?_, .fix ?_, .fix ?_, .fix ?_, .fix ?_, .fix ?_, .fix ?_, .fix (.bool false)] (by kernel_rfl) (by kernel_rfl) (by simp only [List.length_replicate, List.drop_succ_cons, List.drop_zero, List.drop_nil]; with_reducible rfl) rfl (fun _ _ _ _ _ => ⟨fun h => h, fun h => h⟩) (fun _ _ h _ => h) trivial ?_
          rotate_left 8
          iterate 8
            first
              | (refine par_skip (a' := ?_) (by rfl) (by rfl) ?_ ?_ ?_; rotate_left 1; with_reducible rfl; (simp only [Act.put, List.setIfInBounds_toArray, List.set_cons_zero, List.set_cons_succ]; with_reducible rfl))
              | (refine par_run (a' := ?_) (by rfl) (by rfl) (fun w' hb hn => ?_) ?_ ?_; rotate_left 1; (have hc := hb.cells; first | (go_simp; (try simp (disch := omega) only [IntWalk.i64_in, IntWalk.i32_in, IntWalk.u64_in, IntWalk.u8_in, IntWalk.u32_in, toNatUp, iteOmega]); with_reducible rfl) | (go_simp; (try simp (disch := omega) only [IntWalk.i64_in, IntWalk.i32_in, IntWalk.u64_in, IntWalk.u8_in, IntWalk.u32_in, toNatUp, iteOmega]); go_simp; with_reducible rfl)); (simp only [Act.put, List.setIfInBounds_toArray, List.set_cons_zero, List.set_cons_succ]; with_reducible rfl))
          refine par_run (a' := ?a55k8) (by rfl) (by rfl) (fun w' hb hn => ?h55k8) ?p55k8 ?g55k8
          case h55k8 => (have hc := hb.cells; go_simp; (try simp (disch := omega) only [IntWalk.i64_in, IntWalk.i32_in, IntWalk.u64_in, IntWalk.u8_in, IntWalk.u32_in, toNatUp, iteOmega]); first | done | simp)
          case p55k8 => (simp only [Act.put, List.setIfInBounds_toArray, List.set_cons_zero, List.set_cons_succ]; with_reducible rfl)
          refine par_end (fun w9 hb9 hf9 _ => ?_)
          replace hb9 := hb9.grow
          try refine wpList_none ?_
          have hbb := hid (hR.out.trans (hb9.mono hR.out.size))
          clear hb9
          go_wp2
          go_roundw
          case rel => exact ⟨i + 1, by omega, by go_num, hs, hbb⟩
          case measure => simp [intOf]; omega
        · replace hs := hid (mt hs.out.1 he)
          replace he := hid he
          go_wp2_with fail
          refine wp_par (fun _ => False) (fun _ => True) (List.replicate 9 false) _ [.fix ?_, .fix ?_, .fix ?_, .fix ?_, .fix ?_, .fix ?_, .fix ?_, .fix ?_, .fix (.bool true)] (by kernel_rfl) (by kernel_rfl) (by simp only [List.length_replicate, List.drop_succ_cons, List.drop_zero, List.drop_nil]; with_reducible rfl) rfl (fun _ _ _ _ _ => ⟨fun h => h, fun h => h⟩) (fun _ _ h _ => h) trivial ?_
          rotate_left 8
          iterate 8
            first
              | (refine par_skip (a' := ?_) (by rfl) (by rfl) ?_ ?_ ?_; rotate_left 1; with_reducible rfl; (simp only [Act.put, List.setIfInBounds_toArray, List.set_cons_zero, List.set_cons_succ]; with_reducible rfl))
              | (refine par_run (a' := ?_) (by rfl) (by rfl) (fun w' hb hn => ?_) ?_ ?_; rotate_left 1; (have hc := hb.cells; first | (go_simp; (try simp (disch := omega) only [IntWalk.i64_in, IntWalk.i32_in, IntWalk.u64_in, IntWalk.u8_in, IntWalk.u32_in, toNatUp, iteOmega]); with_reducible rfl) | (go_simp; (try simp (disch := omega) only [IntWalk.i64_in, IntWalk.i32_in, IntWalk.u64_in, IntWalk.u8_in, IntWalk.u32_in, toNatUp, iteOmega]); go_simp; with_reducible rfl)); (simp only [Act.put, List.setIfInBounds_toArray, List.set_cons_zero, List.set_cons_succ]; with_reducible rfl))
          refine par_run (a' := ?a76k8) (by rfl) (by rfl) (fun w' hb hn => ?h76k8) ?p76k8 ?g76k8
          case h76k8 => (have hc := hb.cells; go_simp; (try simp (disch := omega) only [IntWalk.i64_in, IntWalk.i32_in, IntWalk.u64_in, IntWalk.u8_in, IntWalk.u32_in, toNatUp, iteOmega]); ((try intros); (try intro); exact absurd (by simp only [VarV.mk.injEq, ValV.mk.injEq]; (repeat' apply And.intro) <;> first | assumption | (apply bytes_eq7; assumption)) he.out))
          case p76k8 => (simp only [Act.put, List.setIfInBounds_toArray, List.set_cons_zero, List.set_cons_succ]; with_reducible rfl)
          refine par_end (fun w9 hb9 hf9 _ => ?_)
          replace hb9 := hb9.grow
          try refine wpList_none ?_
          have hbb := hid (hR.out.trans (hb9.mono hR.out.size))
          clear hb9
          go_wp2
          go_ret
          exact ⟨⟨false, rfl, by simp; intro h; exact hs.out (by rw [h])⟩, hbb.out⟩
      · obtain rfl : i = l.length := by omega
        go_wp2
        go_ret
        refine ⟨⟨true, rfl, by simp only [true_iff]; have := hT.out; rw [List.take_of_length_le (Nat.le_refl _), hll, List.take_of_length_le (Nat.le_refl _)] at this; exact this⟩, hR.out⟩
  · have q0 : ((l.length : Int) != (m.length : Int)) = true := by simp; omega
    go_wp2
    go_ret
    exact ⟨⟨false, rfl, by simp; intro h; exact hll (by rw [h])⟩, Below.refl _ _⟩
end Go.Proofs.YtjkbfoeakeoeiaaGreat
namespace Go.Proofs.YtjkbfoeakeoeiaaGreat
set_option maxRecDepth 100000
set_option maxHeartbeats 40000000
set_option linter.unusedSimpArgs false
set_option linter.unusedVariables false
open Go.RowKit
theorem rshard_any (key : ByteArray) (parts : Int) (h1 : -9223372036854775808 ≤ parts) (h2 : parts ≤ 9223372036854775807) (hk : key.size ≤ 140737488355328) (w : World) : Calls Tryz.prog 8 #[.string key, I parts] w fun e w' => e = .returned (I (shardV key parts)) ∧ Below w.heap.size w w' := by
  by_cases hp : parts < 1
  · unfold shardV
    rw [if_pos hp]
    go_enter Tryz.func8, Tryz.ntmps8
    go_wp2
    go_ret
    exact ⟨rfl, Below.refl _ _⟩
  · obtain ⟨p, rfl⟩ := Int.eq_ofNat_of_zero_le (show 0 ≤ parts by omega)
    have E : shardV key p = ((hashB key key.size % p : Nat) : Int) := by
      unfold shardV hashB
      rw [if_neg hp, List.take_of_length_le (show key.data.toList.length ≤ key.size by rw [Array.length_toList]; exact Nat.le_refl _)]
      omega
    rw [E]
    clear E
    go_enter Tryz.func8, Tryz.ntmps8
    go_wp2
    go_loopw [5, 6] (fun vh vi wr => ∃ (i n : Nat), i ≤ key.size ∧ vi = .int .i64 i ∧ vh = .int .u64 (n : Int) ∧ n < 4294967296 ∧ Hid (n = hashB key i) ∧ wr = w) (fun _ vi _ => key.size - (intOf vi).toNat)
    case atStart => exact ⟨0, 0, by omega, rfl, rfl, by omega, rfl, rfl⟩
    case round =>
      obtain ⟨i, n, hi, rfl, rfl, hn, hN, rfl⟩ := hrel
      by_cases hlt : i < key.size
      · have hst := hid (hash_step key i hlt)
        have hb8 : (key[i]'hlt).toNat < 256 := UInt8.toNat_lt _
        go_wp2_with fail
        have hN' : n = hashB key i := hN.out
        have hr := hst.out
        rw [← hN'] at hr
        exact ⟨⟨i + 1, (31 * n + (key[i]'hlt).toNat) % 4294967296, by omega, by go_num, (by first | rfl | (congr 1; done) | (congr 1; omega)), Nat.mod_lt _ (by omega), hr.symm, trivial⟩, by simp [intOf]; omega⟩
      · obtain rfl : i = key.size := by omega
        have hN' : n = hashB key key.size := hN.out
        have hnm : n % p ≤ n := Nat.mod_le _ _
        go_wp2
        go_ret
        rw [← hN']
        have hcast : ((n : Int) % (p : Int)) = ((n % p : Nat) : Int) := (Int.natCast_emod n p).symm
        refine ⟨?_, Below.refl _ _⟩
        show Ending.returned (Value.int .i64 (wrap64 ((n : Int) % (p : Int)))) = _
        rw [hcast]
        generalize n % p = q at hnm ⊢
        rw [IntWalk.wrap64_in _ (by omega)]
theorem rhome_any (key : Nat) (h : key < 18446744073709551616) (w : World) : Calls Tryz.prog 10 #[U key] w fun e w' => e = .returned (I (homeV key)) ∧ Below w.heap.size w w' := by
  unfold homeV
  go_enter Tryz.func10, Tryz.ntmps10
  go_wp2
  go_ret
  refine ⟨?_, Below.refl _ _⟩
  show Ending.returned (Value.int .i64 ((key : Int) / 1099511627776 % 2147483648)) = _
  rw [show ((key : Int) / 1099511627776 % 2147483648) = ((key / 1099511627776 % 2147483648 : Nat) : Int) by omega]
theorem rsame12_any (w : World) (r : RecV) (u1 u2 : Value) (h1 : VarsAt w u1 r.vars) (h2 : VarsAt w u2 r.vars) :
    Calls Tryz.prog 22 #[.agg #[I r.cls, I r.kind, U r.from_, I r.time, U r.key, U r.key2, U r.key3, I r.n, I r.m, .string r.a, .string r.b, .string r.c, u1], .agg #[I r.cls, I r.kind, U r.from_, I r.time, U r.key, U r.key2, U r.key3, I r.n, I r.m, .string r.a, .string r.b, .string r.c, u2]] w fun e w' => e = .returned (.bool true) ∧ Below w.heap.size w w' := by
  have H1 := hid h1
  have H2 := hid h2
  obtain ⟨a1, c1, rfl, -⟩ := h1
  obtain ⟨a2, c2, rfl, -⟩ := h2
  go_enter Tryz.func22, Tryz.ntmps22
  simp only [List.append_eq, List.cons_append, List.nil_append]
  go_wp2_with fail
  refine calls_box2 ?_
  intro W0 h0 h1 B0 hz
  refine (vsame_any r.vars r.vars _ _ W0 (H1.out.below B0.out) (H2.out.below B0.out)).mono ?_
  rintro e w1 ⟨⟨o, rfl, ho⟩, b1⟩
  obtain rfl : o = true := ho.2 rfl
  have B1 := hid (B0.out.trans (b1.mono B0.out.size))
  obtain ⟨p0, p1, p2, p3, p4, p5, p6, p7, p8, p9, p10, p11, p12⟩ := cells13 (keep_at b1 h0.out)
  obtain ⟨q0, q1, q2, q3, q4, q5, q6, q7, q8, q9, q10, q11, q12⟩ := cells13 (keep_at b1 h1.out)
  clear b1 h0 h1 hz ho
  go_wp2
  go_ret
  exact ⟨rfl, B1.out⟩
end Go.Proofs.YtjkbfoeakeoeiaaGreat
namespace Go.Proofs.YtjkbfoeakeoeiaaGreat
set_option maxRecDepth 100000
set_option maxHeartbeats 40000000
set_option linter.unusedSimpArgs false
set_option linter.unusedVariables false
open Go.IntWalk Go.RowKit
def SendsIn (W : World) (v : Value) (l : List (Int × RecV)) : Prop := ∃ xs : List Told, xs.map pj = l ∧ FlatAt 14 W v xs.length (xs.flatMap toldC) ∧ ∀ x ∈ xs, VarsAt W x.2.2 x.2.1.vars
theorem SendsAt.in_ {S : Nat → Prop} {W : World} {v : Value} {l : List (Int × RecV)} (h : SendsAt S W v l) : SendsIn W v l := by
  obtain ⟨xs, h1, h2, h3⟩ := h
  exact ⟨xs, h1, h2, fun x hx => (h3 x hx).1.seen⟩
theorem SendsIn.below {W W' : World} {v : Value} {l : List (Int × RecV)} (h : SendsIn W v l) (hb : Below W.heap.size W W') : SendsIn W' v l := by
  obtain ⟨xs, h1, h2, h3⟩ := h
  exact ⟨xs, h1, h2.grow hb, fun x hx => (h3 x hx).below hb⟩
theorem told_get : ∀ (xs : List Told) (i j : Nat) (x : Told), xs[i]? = some x → j < 14 → (xs.flatMap toldC)[i * 14 + j]? = (toldC x)[j]?
  | [], i, j, x, h, _ => by simp at h
  | y :: xs, 0, j, x, h, hj => by
    simp only [List.getElem?_cons_zero, Option.some.injEq] at h
    subst h
    rw [List.flatMap_cons, List.getElem?_append_left (by simp [toldC]; omega)]
    congr 1
    omega
  | y :: xs, i + 1, j, x, h, hj => by
    simp only [List.getElem?_cons_succ] at h
    rw [List.flatMap_cons, List.getElem?_append_right (by simp [toldC]; omega)]
    rw [← told_get xs i j x h hj]
    congr 1
    simp only [toldC, List.length_cons, List.length_nil]
    omega
theorem FlatAt.below {size n : Nat} {w w' : World} {v : Value} {cs : List Value} (h : FlatAt size w v n cs) (hb : Below w.heap.size w w') : FlatAt size w' v n cs := h.grow hb
theorem told_at {W : World} {v : Value} {n : Nat} {xs : List Told} {i : Nat} {x : Told} (h : FlatAt 14 W v n (xs.flatMap toldC)) (hx : xs[i]? = some x) : ∃ b off cap, v = .slice (some ⟨b, off, none⟩) n cap ∧ ∀ j u, (toldC x)[j]? = some u → W.cell? ⟨b, off + i * 14 + j, none⟩ = some u := by
  obtain ⟨a, cap, rfl, -, -, -, hc⟩ := h
  have h0 := told_get xs i 0 x hx (by omega)
  obtain ⟨b, off, rfl, -⟩ := hc (i * 14 + 0) _ (h0.trans rfl)
  refine ⟨b, off, cap, rfl, fun j u hu => ?_⟩
  have hj : j < 14 := (List.getElem?_eq_some_iff.1 hu).1
  obtain ⟨b', off', e, h⟩ := hc (i * 14 + j) u ((told_get xs i j x hx hj).trans hu)
  cases e
  rw [Nat.add_assoc]
  exact h
theorem ssame_any (w : World) (l : List (Int × RecV)) (u1 u2 : Value) (h1 : SendsIn w u1 l) (h2 : SendsIn w u2 l) (hl : l.length ≤ 4194304) :
    Calls Tryz.prog 12 #[u1, u2] w fun e w' => e = .returned (.bool true) ∧ Below w.heap.size w w' := by
  obtain ⟨xs, hxs, hf1, hv1⟩ := h1
  obtain ⟨ys, hys, hf2, hv2⟩ := h2
  have hln1 : xs.length = l.length := by rw [← hxs, List.length_map]
  have hln2 : ys.length = l.length := by rw [← hys, List.length_map]
  rw [hln1] at hf1
  rw [hln2] at hf2
  have F1 := hid hf1
  have F2 := hid hf2
  have V1 := hid hv1
  have V2 := hid hv2
  have X1 := hid hxs
  have X2 := hid hys
  obtain ⟨f1, d1, rfl, -⟩ := hf1
  obtain ⟨f2, d2, rfl, -⟩ := hf2
  have L1 := hid hln1
  have L2 := hid hln2
  clear hv1 hv2 hxs hys hln1 hln2
  go_enter Tryz.func12, Tryz.ntmps12
  go_wp2
  go_loopw [5] (fun vi wr => ∃ i : Nat, i ≤ l.length ∧ vi = .int .i64 i ∧ Hid (Below w.heap.size w wr)) (fun vi _ => l.length - (intOf vi).toNat)
  case atStart => exact ⟨0, Nat.zero_le _, rfl, Below.refl _ _⟩
  case round =>
    obtain ⟨i, hi, rfl, hR⟩ := hrel
    by_cases hlt : i < l.length
    · obtain ⟨x, hx1⟩ : ∃ x, xs[i]? = some x := ⟨_, List.getElem?_eq_getElem (by rw [L1.out]; exact hlt)⟩
      obtain ⟨y, hx2⟩ : ∃ y, ys[i]? = some y := ⟨_, List.getElem?_eq_getElem (by rw [L2.out]; exact hlt)⟩
      have hxy : pj x = pj y := by
        have q1 : l[i]? = some (pj x) := by rw [← X1.out, List.getElem?_map, hx1]; rfl
        have q2 : l[i]? = some (pj y) := by rw [← X2.out, List.getElem?_map, hx2]; rfl
        rw [q1] at q2
        exact Option.some.inj q2
      have hm1 := V1.out x (List.mem_of_getElem? hx1)
      have hm2 := V2.out y (List.mem_of_getElem? hx2)
      obtain ⟨t, r, v1⟩ := x
      obtain ⟨t', r', v2⟩ := y
      simp only [pj, Prod.mk.injEq] at hxy
      obtain ⟨rfl, rfl⟩ := hxy
      dsimp only at hm1 hm2
      have M1 := hid (hm1.below hR.out)
      have M2 := hid (hm2.below hR.out)
      obtain ⟨va1, vc1, rfl, -⟩ := hm1
      obtain ⟨va2, vc2, rfl, -⟩ := hm2
      obtain ⟨b1, o1, cp1, e1, g1⟩ := told_at (F1.out.below hR.out) hx1
      cases e1
      have a1 := g1 0 _ rfl
      rw [Nat.add_zero] at a1
      have a100 : wr.cell? ⟨b1, o1 + i * 14 + 1, none⟩ = some (I r.cls) := by have h := g1 1 _ rfl; rwa [show o1 + i * 14 + 1 = o1 + i * 14 + 1 by omega] at h
      have a101 : wr.cell? ⟨b1, o1 + i * 14 + 1 + 1, none⟩ = some (I r.kind) := by have h := g1 2 _ rfl; rwa [show o1 + i * 14 + 2 = o1 + i * 14 + 1 + 1 by omega] at h
      have a102 : wr.cell? ⟨b1, o1 + i * 14 + 1 + 2, none⟩ = some (U r.from_) := by have h := g1 3 _ rfl; rwa [show o1 + i * 14 + 3 = o1 + i * 14 + 1 + 2 by omega] at h
      have a103 : wr.cell? ⟨b1, o1 + i * 14 + 1 + 3, none⟩ = some (I r.time) := by have h := g1 4 _ rfl; rwa [show o1 + i * 14 + 4 = o1 + i * 14 + 1 + 3 by omega] at h
      have a104 : wr.cell? ⟨b1, o1 + i * 14 + 1 + 4, none⟩ = some (U r.key) := by have h := g1 5 _ rfl; rwa [show o1 + i * 14 + 5 = o1 + i * 14 + 1 + 4 by omega] at h
      have a105 : wr.cell? ⟨b1, o1 + i * 14 + 1 + 5, none⟩ = some (U r.key2) := by have h := g1 6 _ rfl; rwa [show o1 + i * 14 + 6 = o1 + i * 14 + 1 + 5 by omega] at h
      have a106 : wr.cell? ⟨b1, o1 + i * 14 + 1 + 6, none⟩ = some (U r.key3) := by have h := g1 7 _ rfl; rwa [show o1 + i * 14 + 7 = o1 + i * 14 + 1 + 6 by omega] at h
      have a107 : wr.cell? ⟨b1, o1 + i * 14 + 1 + 7, none⟩ = some (I r.n) := by have h := g1 8 _ rfl; rwa [show o1 + i * 14 + 8 = o1 + i * 14 + 1 + 7 by omega] at h
      have a108 : wr.cell? ⟨b1, o1 + i * 14 + 1 + 8, none⟩ = some (I r.m) := by have h := g1 9 _ rfl; rwa [show o1 + i * 14 + 9 = o1 + i * 14 + 1 + 8 by omega] at h
      have a109 : wr.cell? ⟨b1, o1 + i * 14 + 1 + 9, none⟩ = some (.string r.a) := by have h := g1 10 _ rfl; rwa [show o1 + i * 14 + 10 = o1 + i * 14 + 1 + 9 by omega] at h
      have a110 : wr.cell? ⟨b1, o1 + i * 14 + 1 + 10, none⟩ = some (.string r.b) := by have h := g1 11 _ rfl; rwa [show o1 + i * 14 + 11 = o1 + i * 14 + 1 + 10 by omega] at h
      have a111 : wr.cell? ⟨b1, o1 + i * 14 + 1 + 11, none⟩ = some (.string r.c) := by have h := g1 12 _ rfl; rwa [show o1 + i * 14 + 12 = o1 + i * 14 + 1 + 11 by omega] at h
      have a112 : wr.cell? ⟨b1, o1 + i * 14 + 1 + 12, none⟩ = some (.slice va1 r.vars.length vc1) := by have h := g1 13 _ rfl; rwa [show o1 + i * 14 + 13 = o1 + i * 14 + 1 + 12 by omega] at h
      have hl1 : b1 < wr.heap.size := World.block_lt_of_cell? _ _ a1
      clear g1
      obtain ⟨b2, o2, cp2, e2, g2⟩ := told_at (F2.out.below hR.out) hx2
      cases e2
      have a2 := g2 0 _ rfl
      rw [Nat.add_zero] at a2
      have a200 : wr.cell? ⟨b2, o2 + i * 14 + 1, none⟩ = some (I r.cls) := by have h := g2 1 _ rfl; rwa [show o2 + i * 14 + 1 = o2 + i * 14 + 1 by omega] at h
      have a201 : wr.cell? ⟨b2, o2 + i * 14 + 1 + 1, none⟩ = some (I r.kind) := by have h := g2 2 _ rfl; rwa [show o2 + i * 14 + 2 = o2 + i * 14 + 1 + 1 by omega] at h
      have a202 : wr.cell? ⟨b2, o2 + i * 14 + 1 + 2, none⟩ = some (U r.from_) := by have h := g2 3 _ rfl; rwa [show o2 + i * 14 + 3 = o2 + i * 14 + 1 + 2 by omega] at h
      have a203 : wr.cell? ⟨b2, o2 + i * 14 + 1 + 3, none⟩ = some (I r.time) := by have h := g2 4 _ rfl; rwa [show o2 + i * 14 + 4 = o2 + i * 14 + 1 + 3 by omega] at h
      have a204 : wr.cell? ⟨b2, o2 + i * 14 + 1 + 4, none⟩ = some (U r.key) := by have h := g2 5 _ rfl; rwa [show o2 + i * 14 + 5 = o2 + i * 14 + 1 + 4 by omega] at h
      have a205 : wr.cell? ⟨b2, o2 + i * 14 + 1 + 5, none⟩ = some (U r.key2) := by have h := g2 6 _ rfl; rwa [show o2 + i * 14 + 6 = o2 + i * 14 + 1 + 5 by omega] at h
      have a206 : wr.cell? ⟨b2, o2 + i * 14 + 1 + 6, none⟩ = some (U r.key3) := by have h := g2 7 _ rfl; rwa [show o2 + i * 14 + 7 = o2 + i * 14 + 1 + 6 by omega] at h
      have a207 : wr.cell? ⟨b2, o2 + i * 14 + 1 + 7, none⟩ = some (I r.n) := by have h := g2 8 _ rfl; rwa [show o2 + i * 14 + 8 = o2 + i * 14 + 1 + 7 by omega] at h
      have a208 : wr.cell? ⟨b2, o2 + i * 14 + 1 + 8, none⟩ = some (I r.m) := by have h := g2 9 _ rfl; rwa [show o2 + i * 14 + 9 = o2 + i * 14 + 1 + 8 by omega] at h
      have a209 : wr.cell? ⟨b2, o2 + i * 14 + 1 + 9, none⟩ = some (.string r.a) := by have h := g2 10 _ rfl; rwa [show o2 + i * 14 + 10 = o2 + i * 14 + 1 + 9 by omega] at h
      have a210 : wr.cell? ⟨b2, o2 + i * 14 + 1 + 10, none⟩ = some (.string r.b) := by have h := g2 11 _ rfl; rwa [show o2 + i * 14 + 11 = o2 + i * 14 + 1 + 10 by omega] at h
      have a211 : wr.cell? ⟨b2, o2 + i * 14 + 1 + 11, none⟩ = some (.string r.c) := by have h := g2 12 _ rfl; rwa [show o2 + i * 14 + 12 = o2 + i * 14 + 1 + 11 by omega] at h
      have a212 : wr.cell? ⟨b2, o2 + i * 14 + 1 + 12, none⟩ = some (.slice va2 r.vars.length vc2) := by have h := g2 13 _ rfl; rwa [show o2 + i * 14 + 13 = o2 + i * 14 + 1 + 12 by omega] at h
      have hl2 : b2 < wr.heap.size := World.block_lt_of_cell? _ _ a2
      clear g2
      clear hx1 hx2
      go_wp2_with fail
      refine wp_par (fun _ => False) (fun _ => True) (List.replicate 11 false) _ [.fix ?_, .fix ?_, .fix ?_, .fix ?_, .fix ?_, .fix ?_, .fix ?_, .fix ?_, .fix ?_, .fix ?_, .fix ?_] (by kernel_rfl) (by kernel_rfl) (by simp only [List.length_replicate, List.drop_succ_cons, List.drop_zero, List.drop_nil]; with_reducible rfl) rfl (fun _ _ _ _ _ => ⟨fun h => h, fun h => h⟩) (fun _ _ h _ => h) trivial ?_
      rotate_left 11
      iterate 10
        first
          | (refine par_skip (a' := ?_) (by rfl) (by rfl) ?_ ?_ ?_; rotate_left 1; with_reducible rfl; (simp only [Act.put, List.setIfInBounds_toArray, List.set_cons_zero, List.set_cons_succ]; with_reducible rfl))
          | (refine par_run (a' := ?_) (by rfl) (by rfl) (fun w' hb hn => ?_) ?_ ?_; rotate_left 1; (have hc := hb.cells; first | (go_simp; (try simp (disch := omega) only [IntWalk.i64_in, IntWalk.i32_in, IntWalk.u64_in, IntWalk.u8_in, IntWalk.u32_in, toNatUp, iteOmega]); with_reducible rfl) | (go_simp; (try simp (disch := omega) only [IntWalk.i64_in, IntWalk.i32_in, IntWalk.u64_in, IntWalk.u8_in, IntWalk.u32_in, toNatUp, iteOmega]); go_simp; with_reducible rfl)); (simp only [Act.put, List.setIfInBounds_toArray, List.set_cons_zero, List.set_cons_succ]; with_reducible rfl))
      refine par_call (a' := ?_) (f := ?_) (args := ?_) (by rfl) (by rfl) (fun w' => ?_) (fun w' hb hn => ?_) ?_ ?_; rotate_left 3; (go_simp; constructor <;> with_reducible rfl); (exact rsame12_any w' r _ _ (M1.out.below hb.grow) (M2.out.below hb.grow)); (simp only [Act.put, List.setIfInBounds_toArray, List.set_cons_zero, List.set_cons_succ]; with_reducible rfl)
      refine par_end (fun w9 hb9 hf9 _ => ?_)
      replace hb9 := hb9.grow
      try refine wpList_none ?_
      have hB := hid (hR.out.trans (hb9.mono hR.out.size))
      have t1 := (hb9.cell (p := ⟨b1, o1 + i * 14, none⟩) hl1).trans a1
      have t2 := (hb9.cell (p := ⟨b2, o2 + i * 14, none⟩) hl2).trans a2
      have hl1' : b1 < w9.heap.size := Nat.lt_of_lt_of_le hl1 hb9.size
      have hl2' : b2 < w9.heap.size := Nat.lt_of_lt_of_le hl2 hb9.size
      obtain ⟨w2, rfl⟩ : ∃ w2 : World, w2 = w9 := ⟨_, rfl⟩
      clear hb9 hf9 a100 a101 a102 a103 a104 a105 a106 a107 a108 a109 a110 a111 a112 a200 a201 a202 a203 a204 a205 a206 a207 a208 a209 a210 a211 a212 a1 a2 hl1 hl2
      go_wp2_with fail
      refine wp_par (fun _ => False) (fun _ => True) (List.replicate 15 false) _ [.fix ?_, .fix ?_, .fix ?_, .fix ?_, .fix ?_, .fix ?_, .fix ?_, .fix ?_, .fix ?_, .fix ?_, .fix ?_, .fix ?_, .fix ?_, .fix (.bool false), .fix ?_] (by kernel_rfl) (by kernel_rfl) (by simp only [List.length_replicate, List.drop_succ_cons, List.drop_zero, List.drop_nil]; with_reducible rfl) rfl (fun _ _ _ _ _ => ⟨fun h => h, fun h => h⟩) (fun _ _ h _ => h) trivial ?_
      rotate_left 14
      iterate 13
        first
          | (refine par_skip (a' := ?_) (by rfl) (by rfl) ?_ ?_ ?_; rotate_left 1; with_reducible rfl; (simp only [Act.put, List.setIfInBounds_toArray, List.set_cons_zero, List.set_cons_succ]; with_reducible rfl))
          | (refine par_run (a' := ?_) (by rfl) (by rfl) (fun w' hb hn => ?_) ?_ ?_; rotate_left 1; (have hc := hb.cells; first | (go_simp; (try simp (disch := omega) only [IntWalk.i64_in, IntWalk.i32_in, IntWalk.u64_in, IntWalk.u8_in, IntWalk.u32_in, toNatUp, iteOmega]); with_reducible rfl) | (go_simp; (try simp (disch := omega) only [IntWalk.i64_in, IntWalk.i32_in, IntWalk.u64_in, IntWalk.u8_in, IntWalk.u32_in, toNatUp, iteOmega]); go_simp; with_reducible rfl)); (simp only [Act.put, List.setIfInBounds_toArray, List.set_cons_zero, List.set_cons_succ]; with_reducible rfl))
      refine par_run (a' := ?a148k13) (by rfl) (by rfl) (fun w' hb hn => ?h148k13) ?p148k13 ?g148k13
      case h148k13 => (have hc := hb.cells; go_simp; (try simp (disch := omega) only [IntWalk.i64_in, IntWalk.i32_in, IntWalk.u64_in, IntWalk.u8_in, IntWalk.u32_in, toNatUp, iteOmega]); first | done | simp)
      case p148k13 => (simp only [Act.put, List.setIfInBounds_toArray, List.set_cons_zero, List.set_cons_succ]; with_reducible rfl)
      iterate 1
        first
          | (refine par_skip (a' := ?_) (by rfl) (by rfl) ?_ ?_ ?_; rotate_left 1; with_reducible rfl; (simp only [Act.put, List.setIfInBounds_toArray, List.set_cons_zero, List.set_cons_succ]; with_reducible rfl))
          | (refine par_run (a' := ?_) (by rfl) (by rfl) (fun w' hb hn => ?_) ?_ ?_; rotate_left 1; (have hc := hb.cells; first | (go_simp; (try simp (disch := omega) only [IntWalk.i64_in, IntWalk.i32_in, IntWalk.u64_in, IntWalk.u8_in, IntWalk.u32_in, toNatUp, iteOmega]); with_reducible rfl) | (go_simp; (try simp (disch := omega) only [IntWalk.i64_in, IntWalk.i32_in, IntWalk.u64_in, IntWalk.u8_in, IntWalk.u32_in, toNatUp, iteOmega]); go_simp; with_reducible rfl)); (simp only [Act.put, List.setIfInBounds_toArray, List.set_cons_zero, List.set_cons_succ]; with_reducible rfl))
      refine par_end (fun w9 hb9 hf9 _ => ?_)
      replace hb9 := hb9.grow
      try refine wpList_none ?_
      have hB9 := hid (hB.out.trans (hb9.mono hB.out.size))
      clear hb9 hf9
      go_wp2
      go_roundw
      case rel => exact ⟨i + 1, by omega, by go_num, hB9⟩
      case measure => simp [intOf]; omega
    · obtain rfl : i = l.length := by omega
      go_wp2
      go_ret
      exact ⟨rfl, hR.out⟩
end Go.Proofs.YtjkbfoeakeoeiaaGreat
