/- Keep: contracts (Go). -/
import Derived.Test.YtjkbfoeakeoeiaaGreatV13
import Derived.Test.YtjkbfoeakeoeiaaGreatV14
namespace Go.Proofs.YtjkbfoeakeoeiaaGreat
set_option maxRecDepth 100000
set_option maxHeartbeats 40000000
set_option linter.unusedSimpArgs false
set_option linter.unusedVariables false
open Go.IntWalk Go.RowKit
def Cl {α : Type} (R : World → List Value → α → Prop) (e k : Nat) (w0 : World) (base : Nat) (l : List α) (u : Value) (W : World) : Prop :=
  ∃ css : List (List Value), W.ownsRow base e k u l.length css.flatten ∧ css.length = l.length ∧ (∀ cs ∈ css, cs.length = k) ∧ ∀ (i : Nat) cs x, css[i]? = some cs → l[i]? = some x → R w0 cs x
theorem Cl.st {α : Type} {R : World → List Value → α → Prop} {e k : Nat} {w0 : World} {base : Nat} {l : List α} : ∀ u W W', Cl R e k w0 base l u W → Below W.heap.size W W' → Cl R e k w0 base l u W' :=
  fun _ _ _ ⟨css, h1, h2⟩ hb => ⟨css, own_but h1 (But.of (F := fun _ => False) hb) (fun _ _ h => h), h2⟩
theorem Cl.but {α : Type} {R : World → List Value → α → Prop} {e k : Nat} {w0 : World} {base : Nat} {l : List α} {u : Value} {W W' : World} {F : Nat → Prop} (h : Cl R e k w0 base l u W) (hb : But F W W') (hF : ∀ b, u.ownBlock = some b → ¬ F b) : Cl R e k w0 base l u W' := by
  obtain ⟨css, h1, h2⟩ := h
  exact ⟨css, own_at h1 hb hF, h2⟩
theorem Cl.shape {α : Type} {R : World → List Value → α → Prop} {e k : Nat} {w0 : World} {base : Nat} {l : List α} {u : Value} {W : World} (h : Cl R e k w0 base l u W) : ∃ a c, u = .slice a l.length c := by
  obtain ⟨css, h1, -⟩ := h
  exact own_slice h1
theorem Cl.list {α : Type} {R : World → List Value → α → Prop} {e k : Nat} {w0 : World} {base : Nat} {l : List α} {u : Value} {W : World} {S : Nat → Prop} (h : Cl R e k w0 base l u W) (hk : 0 < k) (hR : SeesR R) (hs : Sees w0 (sans S W)) (hS : ∀ b, base ≤ b → ¬ S b) : ListAt R k (sans S W) u l := by
  obtain ⟨css, h1, h2, h3, h4⟩ := h
  exact own_list hk h1 h2 h3 (fun i cs x a b => hR _ _ _ _ hs (h4 i cs x a b)) hS
theorem Cl.base {α : Type} {R : World → List Value → α → Prop} {e k : Nat} {w0 : World} {base b2 : Nat} {l : List α} {u : Value} {W : World} (h : Cl R e k w0 base l u W) (hb : b2 ≤ base) : Cl R e k w0 b2 l u W := by
  obtain ⟨css, h1, h2⟩ := h
  exact ⟨css, ownsRow_base h1 hb, h2⟩
theorem Cl.keep {α : Type} {R : World → List Value → α → Prop} {e k : Nat} {w0 : World} {base : Nat} {l : List α} {u : Value} {W W' : World} {F : Nat → Prop} (h : Cl R e k w0 base l u W) (hb : But F W W') (hF : ∀ b, F b → b < base) : Cl R e k w0 base l u W' := by
  obtain ⟨css, h1, h2⟩ := h
  exact ⟨css, own_at h1 hb (fun b hb hf => by have := (h1.lt b hb).1; have := hF b hf; omega), h2⟩
def OwnL {α : Type} (R : World → List Value → α → Prop) (e k base : Nat) (T : Nat → Prop) (l : List α) (u : Value) (W : World) : Prop :=
  ∃ css : List (List Value), W.ownsRow base e k u l.length css.flatten ∧ css.length = l.length ∧ (∀ cs ∈ css, cs.length = k) ∧ ∀ (i : Nat) cs x, css[i]? = some cs → l[i]? = some x → R (sans T W) cs x
theorem Cl.ownL {α : Type} {R : World → List Value → α → Prop} {e k : Nat} {w0 : World} {base : Nat} {l : List α} {u : Value} {W : World} {T : Nat → Prop} (h : Cl R e k w0 base l u W) (hR : SeesR R) (hs : Sees w0 (sans T W)) : OwnL R e k base T l u W := by
  obtain ⟨css, h1, h2, h3, h4⟩ := h
  exact ⟨css, h1, h2, h3, fun i cs x a b => hR _ _ _ _ hs (h4 i cs x a b)⟩
theorem OwnL.goes {α : Type} {R : World → List Value → α → Prop} {e k base : Nat} {T F : Nat → Prop} {l : List α} {u : Value} {W W' : World} (h : OwnL R e k base T l u W) (hR : Stable R) (hb : But F W W') (hF : ∀ b, F b → T b) (hu : ∀ b, u.ownBlock = some b → ¬ F b) : OwnL R e k base T l u W' := by
  obtain ⟨css, h1, h2, h3, h4⟩ := h
  exact ⟨css, own_at h1 hb hu, h2, h3, fun i cs x a b => hR _ _ _ _ (h4 i cs x a b) (goes_hid hb hF).sans⟩
theorem OwnL.below {α : Type} {R : World → List Value → α → Prop} {e k base : Nat} {T : Nat → Prop} {l : List α} {u : Value} {W W' : World} (h : OwnL R e k base T l u W) (hR : Stable R) (hb : Below W.heap.size W W') : OwnL R e k base T l u W' :=
  h.goes hR (But.of (F := fun _ => False) hb) (fun _ h => h.elim) (fun _ _ h => h)
theorem OwnL.list {α : Type} {R : World → List Value → α → Prop} {e k base : Nat} {T S : Nat → Prop} {l : List α} {u : Value} {W : World} (h : OwnL R e k base T l u W) (hk : 0 < k) (hR : SeesR R) (hT : ∀ b, S b → T b) (hS : ∀ b, base ≤ b → ¬ S b) : ListAt R k (sans S W) u l := by
  obtain ⟨css, h1, h2, h3, h4⟩ := h
  exact own_list hk h1 h2 h3 (fun i cs x a b => hR _ _ _ _ (sees_sans hT) (h4 i cs x a b)) hS
theorem OwnL.one {α : Type} {R : World → List Value → α → Prop} {e base : Nat} {T : Nat → Prop} {x : α} {u : Value} {W : World} (h : OwnL R e 7 base T [x] u W) :
    ∃ g cap cs rest, u = .slice (some ⟨g, 0, none⟩) 1 cap ∧ base ≤ g ∧ 1 ≤ cap ∧ cap ≤ maxLen ∧ W.heap[g]? = some (.cells (cs ++ rest).toArray e (0, 0)) ∧ cs.length = 7 ∧ (cs ++ rest).length = cap * 7 ∧ R (sans T W) cs x := by
  obtain ⟨css, h1, h2, h3, h4⟩ := h
  obtain ⟨cs, rfl⟩ := List.length_eq_one_iff.1 h2
  have hl := h3 cs (by simp)
  have hr := h4 0 cs x rfl rfl
  rcases h1.2 with ⟨-, h0⟩ | ⟨g, cap, cur, rfl, hb, hg, hnc, hcm, hcur, htk⟩
  · simp at h0
  · simp only [List.flatten_cons, List.flatten_nil, List.append_nil, List.length_cons, List.length_nil] at htk
    refine ⟨g, cap, cs, cur.toList.drop 7, rfl, hb, hnc, hcm, ?_, hl, ?_, hr⟩
    · rw [hg, ← htk]
      simp
    · rw [← htk]
      simp [hcur]
theorem OwnL.of_one {α : Type} {R : World → List Value → α → Prop} {e base : Nat} {T : Nat → Prop} {x : α} {W : World} {g cap : Nat} {cs rest : List Value} (hb : base ≤ g) (hc : 1 ≤ cap) (hm : cap ≤ maxLen) (hg : W.heap[g]? = some (.cells (cs ++ rest).toArray e (0, 0))) (hl : cs.length = 7) (hs : (cs ++ rest).length = cap * 7) (hr : R (sans T W) cs x) : OwnL R e 7 base T [x] (.slice (some ⟨g, 0, none⟩) 1 cap) W := by
  refine ⟨[cs], ⟨by simp [hl], .inr ⟨g, cap, _, rfl, hb, hg, hc, hm, by simpa using hs, ?_⟩⟩, rfl, fun c h => by simp at h; subst h; exact hl, fun i c y h1 h2 => by
    match i, h1, h2 with
    | 0, h1, h2 => simp at h1 h2; subst h1 h2; exact hr⟩
  simp [← hl]
theorem relC_setp (n p j : Nat) (w : World) (v : Value) (hj : j ≠ p) : (Ps.relC (fun k => k = n) (fun b i => b ≠ n ∨ i = p)).G w (w.setCell ⟨n, j, none⟩ v) := by
  refine ⟨set_but w n j v, fun b i u hs hc => ?_⟩
  rw [World.cell?_setCell_other]
  · exact hc
  · intro e
    injection e with e1 e2
    rcases hs with h | h
    · exact h e1.symm
    · exact hj (e2.trans h)
theorem ps_need_tail {ops : Array Oper} {i : Nat} {x : Nat × (World → Prop)} {Φ : List (Nat × (World → Prop))} {w : World} (hn : Ps.Need ops i (x :: Φ) w) : Ps.Need ops i Φ w := fun p hp he => hn p (List.mem_cons_of_mem _ hp) he
theorem own_ne {w : World} {b1 b2 e1 e2 k1 k2 n1 n2 : Nat} {v1 v2 : Value} {x1 x2 : List Value} (h1 : w.ownsRow b1 e1 k1 v1 n1 x1) (h2 : w.ownsRow b2 e2 k2 v2 n2 x2) (he : e1 ≠ e2) : ∀ b, v1.ownBlock = some b → ¬ ownB v2 b := by
  intro b hb1 hb2
  rcases h1.2 with ⟨rfl, -⟩ | ⟨g1, c1, cu1, rfl, -, hg1, -⟩
  · cases hb1
  rcases h2.2 with ⟨rfl, -⟩ | ⟨g2, c2, cu2, rfl, -, hg2, -⟩
  · cases hb2
  cases hb1
  cases hb2
  rw [hg1] at hg2
  injection hg2 with e
  injection e with _ e _
  exact he e
theorem cloneDep_cl {v : Value} {l : List DepV} {w0 : World} {S : Nat → Prop} (w : World) (hL : ListAt DepV.at_ 2 w0 v l) (hs : Sees w0 (sans S w)) (hn : l.length * 32 ≤ 140737488355328) :
    Calls Tryz.prog 48 #[v] w fun e w' => ∃ v', e = .returned v' ∧ Cl DepV.at_ 109 2 w0 w.heap.size l v' w' ∧ Below w.heap.size w w' := by
  obtain ⟨css, hc⟩ := lst_of DepV.one hL
  refine (cloneDep_any w ((hc.flat.sees hs).seen) hc.one hn).mono ?_
  rintro e w' ⟨v', rfl, hown, hb⟩
  exact ⟨v', rfl, ⟨css, hown, hc.len, hc.size, hc.at_⟩, hb⟩
theorem cloneIns_cl {v : Value} {l : List InstV} {w0 : World} {S : Nat → Prop} (w : World) (hL : ListAt InstV.at_ 3 w0 v l) (hs : Sees w0 (sans S w)) (hn : l.length * 48 ≤ 140737488355328) :
    Calls Tryz.prog 54 #[v] w fun e w' => ∃ v', e = .returned v' ∧ Cl InstV.at_ 125 3 w0 w.heap.size l v' w' ∧ Below w.heap.size w w' := by
  obtain ⟨css, hc⟩ := lst_of InstV.one hL
  refine (cloneIns_any w ((hc.flat.sees hs).seen) hc.one hn).mono ?_
  rintro e w' ⟨v', rfl, hown, hb⟩
  exact ⟨v', rfl, ⟨css, hown, hc.len, hc.size, hc.at_⟩, hb⟩
theorem cloneTok_cl {v : Value} {l : List TokV} {w0 : World} {S : Nat → Prop} (w : World) (hL : ListAt TokV.at_ 6 w0 v l) (hs : Sees w0 (sans S w)) (hn : l.length * 56 ≤ 140737488355328) :
    Calls Tryz.prog 49 #[v] w fun e w' => ∃ v', e = .returned v' ∧ Cl TokV.at_ 112 6 w0 w.heap.size l v' w' ∧ Below w.heap.size w w' := by
  obtain ⟨css, hc⟩ := lst_of TokV.one hL
  refine (cloneTok_any w ((hc.flat.sees hs).seen) hc.one hn).mono ?_
  rintro e w' ⟨v', rfl, hown, hb⟩
  exact ⟨v', rfl, ⟨css, hown, hc.len, hc.size, hc.at_⟩, hb⟩
theorem cloneJob_cl {v : Value} {l : List JobV} {w0 : World} {S : Nat → Prop} (w : World) (hL : ListAt JobV.at_ 6 w0 v l) (hs : Sees w0 (sans S w)) (hn : l.length * 64 ≤ 140737488355328) :
    Calls Tryz.prog 50 #[v] w fun e w' => ∃ v', e = .returned v' ∧ Cl JobV.at_ 115 6 w0 w.heap.size l v' w' ∧ Below w.heap.size w w' := by
  obtain ⟨css, hc⟩ := lst_of JobV.one hL
  refine (cloneJob_any w ((hc.flat.sees hs).seen) hc.one hn).mono ?_
  rintro e w' ⟨v', rfl, hown, hb⟩
  exact ⟨v', rfl, ⟨css, hown, hc.len, hc.size, hc.at_⟩, hb⟩
theorem cloneTim_cl {v : Value} {l : List TimV} {w0 : World} {S : Nat → Prop} (w : World) (hL : ListAt TimV.at_ 3 w0 v l) (hs : Sees w0 (sans S w)) (hn : l.length * 24 ≤ 140737488355328) :
    Calls Tryz.prog 51 #[v] w fun e w' => ∃ v', e = .returned v' ∧ Cl TimV.at_ 118 3 w0 w.heap.size l v' w' ∧ Below w.heap.size w w' := by
  obtain ⟨css, hc⟩ := lst_of TimV.one hL
  refine (cloneTim_any w ((hc.flat.sees hs).seen) hc.one hn).mono ?_
  rintro e w' ⟨v', rfl, hown, hb⟩
  exact ⟨v', rfl, ⟨css, hown, hc.len, hc.size, hc.at_⟩, hb⟩
theorem cloneSub_cl {v : Value} {l : List SubV} {w0 : World} {S : Nat → Prop} (w : World) (hL : ListAt SubV.at_ 6 w0 v l) (hs : Sees w0 (sans S w)) (hn : l.length * 64 ≤ 140737488355328) :
    Calls Tryz.prog 52 #[v] w fun e w' => ∃ v', e = .returned v' ∧ Cl SubV.at_ 73 6 w0 w.heap.size l v' w' ∧ Below w.heap.size w w' := by
  obtain ⟨css, hc⟩ := lst_of SubV.one hL
  refine (cloneSub_any w ((hc.flat.sees hs).seen) hc.one hn).mono ?_
  rintro e w' ⟨v', rfl, hown, hb⟩
  exact ⟨v', rfl, ⟨css, hown, hc.len, hc.size, hc.at_⟩, hb⟩
theorem cloneKep_cl {v : Value} {l : List KeptV} {w0 : World} {S : Nat → Prop} (w : World) (hL : ListAt KeptV.at_ 3 w0 v l) (hs : Sees w0 (sans S w)) (hn : l.length * 24 ≤ 140737488355328) :
    Calls Tryz.prog 53 #[v] w fun e w' => ∃ v', e = .returned v' ∧ Cl KeptV.at_ 122 3 w0 w.heap.size l v' w' ∧ Below w.heap.size w w' := by
  obtain ⟨css, hc⟩ := lst_of KeptV.one hL
  refine (cloneKep_any w ((hc.flat.sees hs).seen) hc.one hn).mono ?_
  rintro e w' ⟨v', rfl, hown, hb⟩
  exact ⟨v', rfl, ⟨css, hown, hc.len, hc.size, hc.at_⟩, hb⟩
theorem cloneLis_cl {v : Value} {l : List LisV} {w0 : World} {S : Nat → Prop} (w : World) (hL : ListAt LisV.at_ 7 w0 v l) (hs : Sees w0 (sans S w)) (hn : l.length * 88 ≤ 140737488355328) :
    Calls Tryz.prog 55 #[v] w fun e w' => ∃ v', e = .returned v' ∧ Cl LisV.at_ 58 7 w0 w.heap.size l v' w' ∧ Below w.heap.size w w' := by
  obtain ⟨css, hc⟩ := lst_of LisV.one hL
  refine (cloneLis_any w ((hc.flat.sees hs).seen) hc.one hn).mono ?_
  rintro e w' ⟨v', rfl, hown, hb⟩
  exact ⟨v', rfl, ⟨css, hown, hc.len, hc.size, hc.at_⟩, hb⟩
theorem cloneMsg_cl {v : Value} {l : List MsgV} {w0 : World} {S : Nat → Prop} (w : World) (hL : ListAt MsgV.at_ 7 w0 v l) (hs : Sees w0 (sans S w)) (hn : l.length * 112 ≤ 140737488355328) :
    Calls Tryz.prog 56 #[v] w fun e w' => ∃ v', e = .returned v' ∧ Cl MsgV.at_ 66 7 w0 w.heap.size l v' w' ∧ Below w.heap.size w w' := by
  obtain ⟨css, hc⟩ := lst_of MsgV.one hL
  refine (cloneMsg_any w ((hc.flat.sees hs).seen) hc.one hn).mono ?_
  rintro e w' ⟨v', rfl, hown, hb⟩
  exact ⟨v', rfl, ⟨css, hown, hc.len, hc.size, hc.at_⟩, hb⟩
theorem fclone_any (S : Nat → Prop) (w : World) (s : StateV) (cs : List Value) (hS : ∀ b, S b → b < w.heap.size) (hs : StAt S w cs s) (hz0 : s.procs.length ≤ 1000 ∧ s.tokens.length ≤ 1000 ∧ s.jobs.length ≤ 1000 ∧ s.timers.length ≤ 1000 ∧ s.subs.length ≤ 1000 ∧ s.kept.length ≤ 1000) (hin : s.insts = []) (hl1 : s.listed.length ≤ 1) (hm1 : s.msgs.length ≤ 1)
    (hlv : ∀ x ∈ s.listed, x.vars.length ≤ 1048576) (hmv : ∀ x ∈ s.msgs, x.vars.length ≤ 1048576 ∧ x.insts.length ≤ 1000) :
    Calls Tryz.prog 25 #[.agg cs.toArray] w fun e w' => ∃ cs', e = .returned (.agg cs'.toArray) ∧ StAt S w' cs' s ∧ Below w.heap.size w w' := by
  have Hin := hid hin
  have hin' : s.insts.length = 0 := by rw [hin]; rfl
  have hin0 : s.insts.length ≤ 0 := by omega
  have Hlv := hid hlv
  have Hmv := hid hmv
  clear hin hlv hmv hin'
  obtain ⟨vp, vi, vt, vj, vr, vs, vk, vl, vm, hs⟩ := hs
  have Hs := hid hs
  obtain ⟨hcs, hp, hi, ht, hj, hr, hs, hk, hl, hm⟩ := hs
  obtain ⟨xap, xcp, rfl, -⟩ := hp
  obtain ⟨xai, xci, rfl, -⟩ := hi
  obtain ⟨xat, xct, rfl, -⟩ := ht
  obtain ⟨xaj, xcj, rfl, -⟩ := hj
  obtain ⟨xar, xcr, rfl, -⟩ := hr
  obtain ⟨xas, xcs, rfl, -⟩ := hs
  obtain ⟨xak, xck, rfl, -⟩ := hk
  obtain ⟨xal, xcl, rfl, -⟩ := hl
  obtain ⟨xam, xcm, rfl, -⟩ := hm
  subst hcs
  go_enter Tryz.func25, Tryz.ntmps25
  go_wp2_with fail
  refine wp_box2 ?_
  intro W0 h0 h1 B0 hz
  have hsee0 : Sees (sans S w) (sans S W0) := sees_grow B0.out (fun _ _ h => h)
  obtain ⟨k0, k1, k2, k3, k4, k5, k6, k7, k8, k9, k10, k11⟩ := cells12 h0.out
  have hl0 := heap_lt h0.out
  refine wp_par (fun _ => False) (fun _ => True) (List.replicate 13 false) _ [.fix ?_, .fix ?_, .new (Cl DepV.at_ 109 2 (sans S w) W0.heap.size s.procs), .fix ?_, .fix ?_, .new (Cl TokV.at_ 112 6 (sans S w) W0.heap.size s.tokens), .fix ?_, .fix ?_, .new (Cl JobV.at_ 115 6 (sans S w) W0.heap.size s.jobs), .fix ?_, .fix ?_, .new (Cl TimV.at_ 118 3 (sans S w) W0.heap.size s.timers), .fix ?_] (by kernel_rfl) (by kernel_rfl) (by simp only [List.length_replicate, List.drop_succ_cons, List.drop_zero, List.drop_nil]; with_reducible rfl) rfl (fun _ _ _ _ _ => ⟨fun h => h, fun h => h⟩) (fun _ _ h _ => h) trivial ?_
  rotate_left 9
  iterate 2
    first
      | (refine par_skip (a' := ?_) (by rfl) (by rfl) ?_ ?_ ?_; rotate_left 1; with_reducible rfl; (simp only [Act.put, List.setIfInBounds_toArray, List.set_cons_zero, List.set_cons_succ]; with_reducible rfl))
      | (refine par_run (a' := ?_) (by rfl) (by rfl) (fun w' hb hn => ?_) ?_ ?_; rotate_left 1; (have hc := hb.cells; first | (go_simp; (try simp (disch := omega) only [IntWalk.i64_in, IntWalk.i32_in, IntWalk.u64_in, IntWalk.u8_in, IntWalk.u32_in, toNatUp, iteOmega]); with_reducible rfl) | (go_simp; (try simp (disch := omega) only [IntWalk.i64_in, IntWalk.i32_in, IntWalk.u64_in, IntWalk.u8_in, IntWalk.u32_in, toNatUp, iteOmega]); go_simp; with_reducible rfl)); (simp only [Act.put, List.setIfInBounds_toArray, List.set_cons_zero, List.set_cons_succ]; with_reducible rfl))
  refine par_callF (a' := ?a173k2) (f := ?f173k2) (args := ?r173k2) (by rfl) (by rfl) (fun w' => ?e173k2) Cl.st (fun w' hb hn => ?h173k2) (fun u => ?p173k2) (fun u => ?g173k2)
  case e173k2 => (go_simp; constructor <;> with_reducible rfl)
  case h173k2 => (exact (cloneDep_cl w' Hs.out.procs (sees_trans hsee0 (sees_grow (S := S) (T := S) (hb.grow) (fun _ _ h => h))) (by omega)).mono (fun e w2 ⟨v', he, h1, h2⟩ => ⟨v', he, h1.base (by have := (hb.grow).size; omega), h2⟩))
  case p173k2 => (simp only [Act.put, List.setIfInBounds_toArray, List.set_cons_zero, List.set_cons_succ]; with_reducible rfl)
  iterate 2
    first
      | (refine par_skip (a' := ?_) (by rfl) (by rfl) ?_ ?_ ?_; rotate_left 1; with_reducible rfl; (simp only [Act.put, List.setIfInBounds_toArray, List.set_cons_zero, List.set_cons_succ]; with_reducible rfl))
      | (refine par_run (a' := ?_) (by rfl) (by rfl) (fun w' hb hn => ?_) ?_ ?_; rotate_left 1; (have hc := hb.cells; first | (go_simp; (try simp (disch := omega) only [IntWalk.i64_in, IntWalk.i32_in, IntWalk.u64_in, IntWalk.u8_in, IntWalk.u32_in, toNatUp, iteOmega]); with_reducible rfl) | (go_simp; (try simp (disch := omega) only [IntWalk.i64_in, IntWalk.i32_in, IntWalk.u64_in, IntWalk.u8_in, IntWalk.u32_in, toNatUp, iteOmega]); go_simp; with_reducible rfl)); (simp only [Act.put, List.setIfInBounds_toArray, List.set_cons_zero, List.set_cons_succ]; with_reducible rfl))
  refine par_callF (a' := ?a181k5) (f := ?f181k5) (args := ?r181k5) (by rfl) (by rfl) (fun w' => ?e181k5) Cl.st (fun w' hb hn => ?h181k5) (fun u => ?p181k5) (fun u => ?g181k5)
  case e181k5 => (go_simp; constructor <;> with_reducible rfl)
  case h181k5 => (exact (cloneTok_cl w' Hs.out.tokens (sees_trans hsee0 (sees_grow (S := S) (T := S) (hb.grow) (fun _ _ h => h))) (by omega)).mono (fun e w2 ⟨v', he, h1, h2⟩ => ⟨v', he, h1.base (by have := (hb.grow).size; omega), h2⟩))
  case p181k5 => (simp only [Act.put, List.setIfInBounds_toArray, List.set_cons_zero, List.set_cons_succ]; with_reducible rfl)
  iterate 2
    first
      | (refine par_skip (a' := ?_) (by rfl) (by rfl) ?_ ?_ ?_; rotate_left 1; with_reducible rfl; (simp only [Act.put, List.setIfInBounds_toArray, List.set_cons_zero, List.set_cons_succ]; with_reducible rfl))
      | (refine par_run (a' := ?_) (by rfl) (by rfl) (fun w' hb hn => ?_) ?_ ?_; rotate_left 1; (have hc := hb.cells; first | (go_simp; (try simp (disch := omega) only [IntWalk.i64_in, IntWalk.i32_in, IntWalk.u64_in, IntWalk.u8_in, IntWalk.u32_in, toNatUp, iteOmega]); with_reducible rfl) | (go_simp; (try simp (disch := omega) only [IntWalk.i64_in, IntWalk.i32_in, IntWalk.u64_in, IntWalk.u8_in, IntWalk.u32_in, toNatUp, iteOmega]); go_simp; with_reducible rfl)); (simp only [Act.put, List.setIfInBounds_toArray, List.set_cons_zero, List.set_cons_succ]; with_reducible rfl))
  refine par_callF (a' := ?a189k8) (f := ?f189k8) (args := ?r189k8) (by rfl) (by rfl) (fun w' => ?e189k8) Cl.st (fun w' hb hn => ?h189k8) (fun u => ?p189k8) (fun u => ?g189k8)
  case e189k8 => (go_simp; constructor <;> with_reducible rfl)
  case h189k8 => (exact (cloneJob_cl w' Hs.out.jobs (sees_trans hsee0 (sees_grow (S := S) (T := S) (hb.grow) (fun _ _ h => h))) (by omega)).mono (fun e w2 ⟨v', he, h1, h2⟩ => ⟨v', he, h1.base (by have := (hb.grow).size; omega), h2⟩))
  case p189k8 => (simp only [Act.put, List.setIfInBounds_toArray, List.set_cons_zero, List.set_cons_succ]; with_reducible rfl)
  iterate 2
    first
      | (refine par_skip (a' := ?_) (by rfl) (by rfl) ?_ ?_ ?_; rotate_left 1; with_reducible rfl; (simp only [Act.put, List.setIfInBounds_toArray, List.set_cons_zero, List.set_cons_succ]; with_reducible rfl))
      | (refine par_run (a' := ?_) (by rfl) (by rfl) (fun w' hb hn => ?_) ?_ ?_; rotate_left 1; (have hc := hb.cells; first | (go_simp; (try simp (disch := omega) only [IntWalk.i64_in, IntWalk.i32_in, IntWalk.u64_in, IntWalk.u8_in, IntWalk.u32_in, toNatUp, iteOmega]); with_reducible rfl) | (go_simp; (try simp (disch := omega) only [IntWalk.i64_in, IntWalk.i32_in, IntWalk.u64_in, IntWalk.u8_in, IntWalk.u32_in, toNatUp, iteOmega]); go_simp; with_reducible rfl)); (simp only [Act.put, List.setIfInBounds_toArray, List.set_cons_zero, List.set_cons_succ]; with_reducible rfl))
  refine par_callF (a' := ?a197k11) (f := ?f197k11) (args := ?r197k11) (by rfl) (by rfl) (fun w' => ?e197k11) Cl.st (fun w' hb hn => ?h197k11) (fun u => ?p197k11) (fun u => ?g197k11)
  case e197k11 => (go_simp; constructor <;> with_reducible rfl)
  case h197k11 => (exact (cloneTim_cl w' Hs.out.timers (sees_trans hsee0 (sees_grow (S := S) (T := S) (hb.grow) (fun _ _ h => h))) (by omega)).mono (fun e w2 ⟨v', he, h1, h2⟩ => ⟨v', he, h1.base (by have := (hb.grow).size; omega), h2⟩))
  case p197k11 => (simp only [Act.put, List.setIfInBounds_toArray, List.set_cons_zero, List.set_cons_succ]; with_reducible rfl)
  iterate 1
    first
      | (refine par_skip (a' := ?_) (by rfl) (by rfl) ?_ ?_ ?_; rotate_left 1; with_reducible rfl; (simp only [Act.put, List.setIfInBounds_toArray, List.set_cons_zero, List.set_cons_succ]; with_reducible rfl))
      | (refine par_run (a' := ?_) (by rfl) (by rfl) (fun w' hb hn => ?_) ?_ ?_; rotate_left 1; (have hc := hb.cells; first | (go_simp; (try simp (disch := omega) only [IntWalk.i64_in, IntWalk.i32_in, IntWalk.u64_in, IntWalk.u8_in, IntWalk.u32_in, toNatUp, iteOmega]); with_reducible rfl) | (go_simp; (try simp (disch := omega) only [IntWalk.i64_in, IntWalk.i32_in, IntWalk.u64_in, IntWalk.u8_in, IntWalk.u32_in, toNatUp, iteOmega]); go_simp; with_reducible rfl)); (simp only [Act.put, List.setIfInBounds_toArray, List.set_cons_zero, List.set_cons_succ]; with_reducible rfl))
  refine par_end (fun w9 hb9 hf9 _ => ?_)
  replace hb9 := hb9.grow
  try refine wpList_none ?_
  simp only [List.forall_mem_cons] at hf9
  obtain ⟨fr, fj, ft, fp, -⟩ := hf9
  have FR := hid fr
  have FJ := hid fj
  have FT := hid ft
  have FP := hid fp
  obtain ⟨pa, pc, rfl⟩ := fp.shape
  obtain ⟨ta, tc, rfl⟩ := ft.shape
  obtain ⟨ja, jc, rfl⟩ := fj.shape
  obtain ⟨ra, rc, rfl⟩ := fr.shape
  have g0 := hid (keep_at hb9 h0.out)
  have g1 := hid (keep_at hb9 h1.out)
  have B1 := hid hb9
  clear hb9 fr fj ft fp k0 k1 k2 k3 k4 k5 k6 k7 k8 k9 k10 k11 hl0
  obtain ⟨k0, k1, k2, k3, k4, k5, k6, k7, k8, k9, k10, k11⟩ := cells12 g0.out
  obtain ⟨x0, x1, x2, x3, x4, x5, x6, x7, x8, x9, x10, x11⟩ := frees12 g0.out
  obtain ⟨w1, rfl⟩ : ∃ w1 : World, w1 = w9 := ⟨_, rfl⟩
  go_wp2_with fail
  have Bw1 := hid (B0.out.trans (B1.out.mono B0.out.size))
  have hz1 := B1.out.size
  refine wp_set4 g0.out ?_
  intro W2 hh bs
  simp only [List.setIfInBounds_toArray, List.set_cons_zero, List.set_cons_succ] at hh
  have g02 := hid hh
  have g12 := hid ((bs.out.block _ (heap_lt g1.out) (by omega)).trans g1.out)
  have BW2 : Hid (Below w.heap.size w W2) := Bw1.out.trans (bs.out.below Bw1.out.size (fun k h => by omega))
  replace FP := hid (FP.out.keep bs.out (fun b e => by omega))
  replace FT := hid (FT.out.keep bs.out (fun b e => by omega))
  replace FJ := hid (FJ.out.keep bs.out (fun b e => by omega))
  replace FR := hid (FR.out.keep bs.out (fun b e => by omega))
  have hzz := bs.out.size
  clear hh bs g0 g1 k0 k1 k2 k3 k4 k5 k6 k7 k8 k9 k10 k11 x0 x1 x2 x3 x4 x5 x6 x7 x8 x9 x10 x11
  obtain ⟨k0, k1, k2, k3, k4, k5, k6, k7, k8, k9, k10, k11⟩ := cells12 g02.out
  have hl2 := heap_lt g02.out
  refine wp_par (fun _ => False) (fun _ => True) (List.replicate 7 false) _ [.fix ?_, .fix ?_, .new (Cl SubV.at_ 73 6 (sans S w) W0.heap.size s.subs), .fix ?_, .fix ?_, .new (Cl KeptV.at_ 122 3 (sans S w) W0.heap.size s.kept), .fix ?_] (by kernel_rfl) (by kernel_rfl) (by simp only [List.length_replicate, List.drop_succ_cons, List.drop_zero, List.drop_nil]; with_reducible rfl) rfl (fun _ _ _ _ _ => ⟨fun h => h, fun h => h⟩) (fun _ _ h _ => h) trivial ?_
  rotate_left 5
  iterate 2
    first
      | (refine par_skip (a' := ?_) (by rfl) (by rfl) ?_ ?_ ?_; rotate_left 1; with_reducible rfl; (simp only [Act.put, List.setIfInBounds_toArray, List.set_cons_zero, List.set_cons_succ]; with_reducible rfl))
      | (refine par_run (a' := ?_) (by rfl) (by rfl) (fun w' hb hn => ?_) ?_ ?_; rotate_left 1; (have hc := hb.cells; first | (go_simp; (try simp (disch := omega) only [IntWalk.i64_in, IntWalk.i32_in, IntWalk.u64_in, IntWalk.u8_in, IntWalk.u32_in, toNatUp, iteOmega]); with_reducible rfl) | (go_simp; (try simp (disch := omega) only [IntWalk.i64_in, IntWalk.i32_in, IntWalk.u64_in, IntWalk.u8_in, IntWalk.u32_in, toNatUp, iteOmega]); go_simp; with_reducible rfl)); (simp only [Act.put, List.setIfInBounds_toArray, List.set_cons_zero, List.set_cons_succ]; with_reducible rfl))
  refine par_callF (a' := ?a248k2) (f := ?f248k2) (args := ?r248k2) (by rfl) (by rfl) (fun w' => ?e248k2) Cl.st (fun w' hb hn => ?h248k2) (fun u => ?p248k2) (fun u => ?g248k2)
  case e248k2 => (go_simp; constructor <;> with_reducible rfl)
  case h248k2 => (exact (cloneSub_cl w' Hs.out.subs (sees_grow (S := S) (T := S) (BW2.out.trans (hb.grow.mono BW2.out.size)) (fun _ _ h => h)) (by omega)).mono (fun e w2 ⟨v', he, h1, h2⟩ => ⟨v', he, h1.base (by have := hb.grow.size; omega), h2⟩))
  case p248k2 => (simp only [Act.put, List.setIfInBounds_toArray, List.set_cons_zero, List.set_cons_succ]; with_reducible rfl)
  iterate 2
    first
      | (refine par_skip (a' := ?_) (by rfl) (by rfl) ?_ ?_ ?_; rotate_left 1; with_reducible rfl; (simp only [Act.put, List.setIfInBounds_toArray, List.set_cons_zero, List.set_cons_succ]; with_reducible rfl))
      | (refine par_run (a' := ?_) (by rfl) (by rfl) (fun w' hb hn => ?_) ?_ ?_; rotate_left 1; (have hc := hb.cells; first | (go_simp; (try simp (disch := omega) only [IntWalk.i64_in, IntWalk.i32_in, IntWalk.u64_in, IntWalk.u8_in, IntWalk.u32_in, toNatUp, iteOmega]); with_reducible rfl) | (go_simp; (try simp (disch := omega) only [IntWalk.i64_in, IntWalk.i32_in, IntWalk.u64_in, IntWalk.u8_in, IntWalk.u32_in, toNatUp, iteOmega]); go_simp; with_reducible rfl)); (simp only [Act.put, List.setIfInBounds_toArray, List.set_cons_zero, List.set_cons_succ]; with_reducible rfl))
  refine par_callF (a' := ?a256k5) (f := ?f256k5) (args := ?r256k5) (by rfl) (by rfl) (fun w' => ?e256k5) Cl.st (fun w' hb hn => ?h256k5) (fun u => ?p256k5) (fun u => ?g256k5)
  case e256k5 => (go_simp; constructor <;> with_reducible rfl)
  case h256k5 => (exact (cloneKep_cl w' Hs.out.kept (sees_grow (S := S) (T := S) (BW2.out.trans (hb.grow.mono BW2.out.size)) (fun _ _ h => h)) (by omega)).mono (fun e w2 ⟨v', he, h1, h2⟩ => ⟨v', he, h1.base (by have := hb.grow.size; omega), h2⟩))
  case p256k5 => (simp only [Act.put, List.setIfInBounds_toArray, List.set_cons_zero, List.set_cons_succ]; with_reducible rfl)
  iterate 1
    first
      | (refine par_skip (a' := ?_) (by rfl) (by rfl) ?_ ?_ ?_; rotate_left 1; with_reducible rfl; (simp only [Act.put, List.setIfInBounds_toArray, List.set_cons_zero, List.set_cons_succ]; with_reducible rfl))
      | (refine par_run (a' := ?_) (by rfl) (by rfl) (fun w' hb hn => ?_) ?_ ?_; rotate_left 1; (have hc := hb.cells; first | (go_simp; (try simp (disch := omega) only [IntWalk.i64_in, IntWalk.i32_in, IntWalk.u64_in, IntWalk.u8_in, IntWalk.u32_in, toNatUp, iteOmega]); with_reducible rfl) | (go_simp; (try simp (disch := omega) only [IntWalk.i64_in, IntWalk.i32_in, IntWalk.u64_in, IntWalk.u8_in, IntWalk.u32_in, toNatUp, iteOmega]); go_simp; with_reducible rfl)); (simp only [Act.put, List.setIfInBounds_toArray, List.set_cons_zero, List.set_cons_succ]; with_reducible rfl))
  refine par_end (fun w9 hb9 hf9 _ => ?_)
  replace hb9 := hb9.grow
  try refine wpList_none ?_
  simp only [List.forall_mem_cons] at hf9
  obtain ⟨fk, fs, -⟩ := hf9
  have FK := hid fk
  have FS := hid fs
  obtain ⟨sa, sc, rfl⟩ := fs.shape
  obtain ⟨ka, kc, rfl⟩ := fk.shape
  have g03 := hid (keep_at hb9 g02.out)
  have g13 := hid (keep_at hb9 g12.out)
  replace FP := hid (Cl.st _ _ _ FP.out hb9)
  replace FT := hid (Cl.st _ _ _ FT.out hb9)
  replace FJ := hid (Cl.st _ _ _ FJ.out hb9)
  replace FR := hid (Cl.st _ _ _ FR.out hb9)
  have BW3 := hid (BW2.out.trans (hb9.mono BW2.out.size))
  have hz3 := hb9.size
  clear hb9 fk fs g02 g12 k0 k1 k2 k3 k4 k5 k6 k7 k8 k9 k10 k11 hl2
  obtain ⟨k0, k1, k2, k3, k4, k5, k6, k7, k8, k9, k10, k11⟩ := cells12 g03.out
  obtain ⟨x0, x1, x2, x3, x4, x5, x6, x7, x8, x9, x10, x11⟩ := frees12 g03.out
  obtain ⟨w3, rfl⟩ : ∃ w3 : World, w3 = w9 := ⟨_, rfl⟩
  go_wp2_with fail
  refine wp_set2 g03.out ?_
  intro W4 hh bs
  simp only [List.setIfInBounds_toArray, List.set_cons_zero, List.set_cons_succ] at hh
  have g04 := hid hh
  have g14 := hid ((bs.out.block _ (heap_lt g13.out) (by omega)).trans g13.out)
  have BW4 : Hid (Below w.heap.size w W4) := BW3.out.trans (bs.out.below BW3.out.size (fun k h => by omega))
  replace FP := hid (FP.out.keep bs.out (fun b e => by omega))
  replace FT := hid (FT.out.keep bs.out (fun b e => by omega))
  replace FJ := hid (FJ.out.keep bs.out (fun b e => by omega))
  replace FR := hid (FR.out.keep bs.out (fun b e => by omega))
  replace FS := hid (FS.out.keep bs.out (fun b e => by omega))
  replace FK := hid (FK.out.keep bs.out (fun b e => by omega))
  have hz4 := bs.out.size
  clear hh bs g03 g13 k0 k1 k2 k3 k4 k5 k6 k7 k8 k9 k10 k11 x0 x1 x2 x3 x4 x5 x6 x7 x8 x9 x10 x11
  obtain ⟨k0, k1, k2, k3, k4, k5, k6, k7, k8, k9, k10, k11⟩ := cells12 g04.out
  have hl4 := heap_lt g04.out
  refine wp_par (fun _ => False) (fun _ => True) (List.replicate 10 false) _ [.fix ?_, .fix ?_, .new (Cl InstV.at_ 125 3 (sans S w) W0.heap.size s.insts), .fix ?_, .fix ?_, .new (Cl LisV.at_ 58 7 (sans S w) W0.heap.size s.listed), .fix ?_, .fix ?_, .new (Cl MsgV.at_ 66 7 (sans S w) W0.heap.size s.msgs), .fix ?_] (by kernel_rfl) (by kernel_rfl) (by simp only [List.length_replicate, List.drop_succ_cons, List.drop_zero, List.drop_nil]; with_reducible rfl) rfl (fun _ _ _ _ _ => ⟨fun h => h, fun h => h⟩) (fun _ _ h _ => h) trivial ?_
  rotate_left 7
  iterate 2
    first
      | (refine par_skip (a' := ?_) (by rfl) (by rfl) ?_ ?_ ?_; rotate_left 1; with_reducible rfl; (simp only [Act.put, List.setIfInBounds_toArray, List.set_cons_zero, List.set_cons_succ]; with_reducible rfl))
      | (refine par_run (a' := ?_) (by rfl) (by rfl) (fun w' hb hn => ?_) ?_ ?_; rotate_left 1; (have hc := hb.cells; first | (go_simp; (try simp (disch := omega) only [IntWalk.i64_in, IntWalk.i32_in, IntWalk.u64_in, IntWalk.u8_in, IntWalk.u32_in, toNatUp, iteOmega]); with_reducible rfl) | (go_simp; (try simp (disch := omega) only [IntWalk.i64_in, IntWalk.i32_in, IntWalk.u64_in, IntWalk.u8_in, IntWalk.u32_in, toNatUp, iteOmega]); go_simp; with_reducible rfl)); (simp only [Act.put, List.setIfInBounds_toArray, List.set_cons_zero, List.set_cons_succ]; with_reducible rfl))
  refine par_callF (a' := ?a308k2) (f := ?f308k2) (args := ?r308k2) (by rfl) (by rfl) (fun w' => ?e308k2) Cl.st (fun w' hb hn => ?h308k2) (fun u => ?p308k2) (fun u => ?g308k2)
  case e308k2 => (go_simp; constructor <;> with_reducible rfl)
  case h308k2 => (exact (cloneIns_cl w' Hs.out.insts (sees_grow (S := S) (T := S) (BW4.out.trans (hb.grow.mono BW4.out.size)) (fun _ _ h => h)) (by omega)).mono (fun e w2 ⟨v', he, h1, h2⟩ => ⟨v', he, h1.base (by have := hb.grow.size; omega), h2⟩))
  case p308k2 => (simp only [Act.put, List.setIfInBounds_toArray, List.set_cons_zero, List.set_cons_succ]; with_reducible rfl)
  iterate 2
    first
      | (refine par_skip (a' := ?_) (by rfl) (by rfl) ?_ ?_ ?_; rotate_left 1; with_reducible rfl; (simp only [Act.put, List.setIfInBounds_toArray, List.set_cons_zero, List.set_cons_succ]; with_reducible rfl))
      | (refine par_run (a' := ?_) (by rfl) (by rfl) (fun w' hb hn => ?_) ?_ ?_; rotate_left 1; (have hc := hb.cells; first | (go_simp; (try simp (disch := omega) only [IntWalk.i64_in, IntWalk.i32_in, IntWalk.u64_in, IntWalk.u8_in, IntWalk.u32_in, toNatUp, iteOmega]); with_reducible rfl) | (go_simp; (try simp (disch := omega) only [IntWalk.i64_in, IntWalk.i32_in, IntWalk.u64_in, IntWalk.u8_in, IntWalk.u32_in, toNatUp, iteOmega]); go_simp; with_reducible rfl)); (simp only [Act.put, List.setIfInBounds_toArray, List.set_cons_zero, List.set_cons_succ]; with_reducible rfl))
  refine par_callF (a' := ?a316k5) (f := ?f316k5) (args := ?r316k5) (by rfl) (by rfl) (fun w' => ?e316k5) Cl.st (fun w' hb hn => ?h316k5) (fun u => ?p316k5) (fun u => ?g316k5)
  case e316k5 => (go_simp; constructor <;> with_reducible rfl)
  case h316k5 => (exact (cloneLis_cl w' Hs.out.listed (sees_grow (S := S) (T := S) (BW4.out.trans (hb.grow.mono BW4.out.size)) (fun _ _ h => h)) (by omega)).mono (fun e w2 ⟨v', he, h1, h2⟩ => ⟨v', he, h1.base (by have := hb.grow.size; omega), h2⟩))
  case p316k5 => (simp only [Act.put, List.setIfInBounds_toArray, List.set_cons_zero, List.set_cons_succ]; with_reducible rfl)
  iterate 2
    first
      | (refine par_skip (a' := ?_) (by rfl) (by rfl) ?_ ?_ ?_; rotate_left 1; with_reducible rfl; (simp only [Act.put, List.setIfInBounds_toArray, List.set_cons_zero, List.set_cons_succ]; with_reducible rfl))
      | (refine par_run (a' := ?_) (by rfl) (by rfl) (fun w' hb hn => ?_) ?_ ?_; rotate_left 1; (have hc := hb.cells; first | (go_simp; (try simp (disch := omega) only [IntWalk.i64_in, IntWalk.i32_in, IntWalk.u64_in, IntWalk.u8_in, IntWalk.u32_in, toNatUp, iteOmega]); with_reducible rfl) | (go_simp; (try simp (disch := omega) only [IntWalk.i64_in, IntWalk.i32_in, IntWalk.u64_in, IntWalk.u8_in, IntWalk.u32_in, toNatUp, iteOmega]); go_simp; with_reducible rfl)); (simp only [Act.put, List.setIfInBounds_toArray, List.set_cons_zero, List.set_cons_succ]; with_reducible rfl))
  refine par_callF (a' := ?a324k8) (f := ?f324k8) (args := ?r324k8) (by rfl) (by rfl) (fun w' => ?e324k8) Cl.st (fun w' hb hn => ?h324k8) (fun u => ?p324k8) (fun u => ?g324k8)
  case e324k8 => (go_simp; constructor <;> with_reducible rfl)
  case h324k8 => (exact (cloneMsg_cl w' Hs.out.msgs (sees_grow (S := S) (T := S) (BW4.out.trans (hb.grow.mono BW4.out.size)) (fun _ _ h => h)) (by omega)).mono (fun e w2 ⟨v', he, h1, h2⟩ => ⟨v', he, h1.base (by have := hb.grow.size; omega), h2⟩))
  case p324k8 => (simp only [Act.put, List.setIfInBounds_toArray, List.set_cons_zero, List.set_cons_succ]; with_reducible rfl)
  iterate 1
    first
      | (refine par_skip (a' := ?_) (by rfl) (by rfl) ?_ ?_ ?_; rotate_left 1; with_reducible rfl; (simp only [Act.put, List.setIfInBounds_toArray, List.set_cons_zero, List.set_cons_succ]; with_reducible rfl))
      | (refine par_run (a' := ?_) (by rfl) (by rfl) (fun w' hb hn => ?_) ?_ ?_; rotate_left 1; (have hc := hb.cells; first | (go_simp; (try simp (disch := omega) only [IntWalk.i64_in, IntWalk.i32_in, IntWalk.u64_in, IntWalk.u8_in, IntWalk.u32_in, toNatUp, iteOmega]); with_reducible rfl) | (go_simp; (try simp (disch := omega) only [IntWalk.i64_in, IntWalk.i32_in, IntWalk.u64_in, IntWalk.u8_in, IntWalk.u32_in, toNatUp, iteOmega]); go_simp; with_reducible rfl)); (simp only [Act.put, List.setIfInBounds_toArray, List.set_cons_zero, List.set_cons_succ]; with_reducible rfl))
  refine par_end (fun w9 hb9 hf9 _ => ?_)
  replace hb9 := hb9.grow
  try refine wpList_none ?_
  simp only [List.forall_mem_cons] at hf9
  obtain ⟨fm, fl, fi, -⟩ := hf9
  have FM := hid fm
  have FL := hid fl
  have FI := hid fi
  obtain ⟨ia, ic, rfl⟩ := fi.shape
  obtain ⟨la, lc, rfl⟩ := fl.shape
  obtain ⟨ma, mc, rfl⟩ := fm.shape
  have g05 := hid (keep_at hb9 g04.out)
  have g15 := hid (keep_at hb9 g14.out)
  replace FP := hid (Cl.st _ _ _ FP.out hb9)
  replace FT := hid (Cl.st _ _ _ FT.out hb9)
  replace FJ := hid (Cl.st _ _ _ FJ.out hb9)
  replace FR := hid (Cl.st _ _ _ FR.out hb9)
  replace FS := hid (Cl.st _ _ _ FS.out hb9)
  replace FK := hid (Cl.st _ _ _ FK.out hb9)
  have BW5 := hid (BW4.out.trans (hb9.mono BW4.out.size))
  have hz5 := hb9.size
  clear hb9 fm fl fi g04 g14 k0 k1 k2 k3 k4 k5 k6 k7 k8 k9 k10 k11 hl4
  obtain ⟨k0, k1, k2, k3, k4, k5, k6, k7, k8, k9, k10, k11⟩ := cells12 g05.out
  obtain ⟨x0, x1, x2, x3, x4, x5, x6, x7, x8, x9, x10, x11⟩ := frees12 g05.out
  obtain ⟨w5, rfl⟩ : ∃ w5 : World, w5 = w9 := ⟨_, rfl⟩
  go_wp2_with fail
  refine wp_set3 g05.out ?_
  intro W6 hh bs
  simp only [List.setIfInBounds_toArray, List.set_cons_zero, List.set_cons_succ] at hh
  have g06 := hid hh
  have g16 := hid ((bs.out.block _ (heap_lt g15.out) (by omega)).trans g15.out)
  have BW6 : Hid (Below w.heap.size w W6) := BW5.out.trans (bs.out.below BW5.out.size (fun k h => by omega))
  replace FP := hid (FP.out.keep bs.out (fun b e => by omega))
  replace FT := hid (FT.out.keep bs.out (fun b e => by omega))
  replace FJ := hid (FJ.out.keep bs.out (fun b e => by omega))
  replace FR := hid (FR.out.keep bs.out (fun b e => by omega))
  replace FS := hid (FS.out.keep bs.out (fun b e => by omega))
  replace FK := hid (FK.out.keep bs.out (fun b e => by omega))
  replace FI := hid (FI.out.keep bs.out (fun b e => by omega))
  replace FL := hid (FL.out.keep bs.out (fun b e => by omega))
  replace FM := hid (FM.out.keep bs.out (fun b e => by omega))
  have hz6 := bs.out.size
  clear hh bs g05 g15 k0 k1 k2 k3 k4 k5 k6 k7 k8 k9 k10 k11 x0 x1 x2 x3 x4 x5 x6 x7 x8 x9 x10 x11
  have hT : ∀ b, hidB S w.heap.size 2 b → b < W0.heap.size := hidB_lt hS (by omega)
  have hTn : ∀ b, W0.heap.size ≤ b → ¬ hidB S w.heap.size 2 b := fun b h1 h2 => by have := hT b h2; omega
  have HT := hid hTn
  obtain ⟨k0, k1, k2, k3, k4, k5, k6, k7, k8, k9, k10, k11⟩ := cells12 g06.out
  go_loopw [45] (fun vi wr => vi = .int .i64 0 ∧ wr = W6) (fun _ _ => 0)
  case atStart => exact ⟨rfl, rfl⟩
  case round =>
    obtain ⟨rfl, rfl⟩ := hrel
    go_wp2_with fail
    clear k0 k1 k2 k3 k4 k5 k6 k7 k8 k9 k10 k11
    obtain ⟨W6, rfl⟩ : ∃ W6 : World, W6 = wr := ⟨_, rfl⟩
    obtain ⟨TT, hTT⟩ : ∃ TT : Nat → Prop, TT = fun b => hidB S w.heap.size 2 b ∨ ownB (.slice la s.listed.length lc) b ∨ ownB (.slice ma s.msgs.length mc) b := ⟨_, rfl⟩
    have hTl : ∀ b, ownB (.slice la s.listed.length lc) b → TT b := fun b h => by rw [hTT]; exact .inr (.inl h)
    have hTm : ∀ b, ownB (.slice ma s.msgs.length mc) b → TT b := fun b h => by rw [hTT]; exact .inr (.inr h)
    have hTb : ∀ b, hidB S w.heap.size 2 b → TT b := fun b h => by rw [hTT]; exact .inl h
    have hbl : ∀ b, ownB (.slice la s.listed.length lc) b → W0.heap.size ≤ b ∧ b < W6.heap.size := fun b h => by obtain ⟨_, h1, -⟩ := FL.out; exact h1.lt b h
    have hbm : ∀ b, ownB (.slice ma s.msgs.length mc) b → W0.heap.size ≤ b ∧ b < W6.heap.size := fun b h => by obtain ⟨_, h1, -⟩ := FM.out; exact h1.lt b h
    have hTold : ∀ b, b < w.heap.size → TT b → S b := fun b hb h => by
      rw [hTT] at h
      rcases h with h | h | h
      · exact hidB_old b hb h
      · have := (hbl b h).1; omega
      · have := (hbm b h).1; omega
    have hTlt : ∀ b, TT b → b < W6.heap.size := fun b h => by
      rw [hTT] at h
      rcases h with h | h | h
      · have := hT b h; have := BW6.out.size; omega
      · exact (hbl b h).2
      · exact (hbm b h).2
    have hnlm : Hid (∀ b, ownB (.slice la s.listed.length lc) b → ¬ ownB (.slice ma s.msgs.length mc) b) := fun b h => by
      obtain ⟨_, h1, -⟩ := FL.out
      obtain ⟨_, h2, -⟩ := FM.out
      exact own_ne h1 h2 (by decide) b h
    have hsee6 : Sees (sans S w) (sans TT W6) := sees_grow BW6.out hTold
    have OL := hid (FL.out.ownL LisV.sees hsee6)
    have OM := hid (FM.out.ownL MsgV.sees hsee6)
    have HTT := hid (And.intro hTl (And.intro hTm (And.intro hTb (And.intro hTold hTlt))))
    have HTQ : Hid (∀ b, TT b → hidB S w.heap.size 2 b ∨ ownB (.slice la s.listed.length lc) b ∨ ownB (.slice ma s.msgs.length mc) b) := fun b h => by rw [hTT] at h; exact h
    have HBL := hid hbl
    have HBM := hid hbm
    have hl06 := heap_lt g06.out
    clear hTT hTl hTm hTb hTold hTlt hbl hbm hsee6
    go_loopw [64] (fun vi wr => ∃ i : Nat, i ≤ s.listed.length ∧ vi = .int .i64 i ∧ Hid (But (ownB (.slice la s.listed.length lc)) W6 wr ∧ OwnL LisV.at_ 58 7 W0.heap.size TT s.listed (.slice la s.listed.length lc) wr)) (fun vi _ => s.listed.length - (intOf vi).toNat)
    case atStart => exact ⟨0, Nat.zero_le _, rfl, But.refl _ _, OL.out⟩
    case round =>
      obtain ⟨i, hi, rfl, hR⟩ := hrel
      have hszr := hR.out.1.size
      have hnb0 : ¬ ownB (.slice la s.listed.length lc) w.heap.size := fun h => by have := (HBL.out _ h).1; omega
      have gr := hid ((hR.out.1.block _ hl06 hnb0).trans g06.out)
      obtain ⟨k0, k1, k2, k3, k4, k5, k6, k7, k8, k9, k10, k11⟩ := cells12 gr.out
      have hl0r := heap_lt gr.out
      by_cases hlt : i < s.listed.length
      · obtain rfl : i = 0 := by omega
        obtain ⟨x, hx⟩ : ∃ x, s.listed = [x] := List.length_eq_one_iff.1 (by omega)
        have Hx := hid hx
        have hOr := hR.out.2
        rw [hx] at hOr
        obtain ⟨g, cap, cs, rest, hu, hbg, hc1, hcm, hg, hcl, hcap, ⟨v, hcs, hv⟩⟩ := hOr.one
        simp only [List.length_cons, List.length_nil, Nat.zero_add] at hu
        injection hu with hu1 hu2 hu3
        subst hu1
        have Hcap := hid hcap
        subst hcs
        have Hv := hid hv
        have Hg := hid hg
        have Hlc := hid hu3
        have hvl := Hlv.out x (by rw [hx]; simp)
        have c6 := cell_of Hg.out 6
        obtain ⟨va, vc, rfl, -⟩ := hv
        have hlg := heap_lt hg
        unfold maxLen at hcm
        clear hx hOr hcap hg hu2 hu3
        go_wp2_with fail
        refine wp_par (fun _ => False) (fun _ => True) (List.replicate 10 false) _ [.fix ?_, .fix ?_, .fix ?_, .fix ?_, .fix ?_, .fix ?_, .fix ?_, .fix ?_, .fix ?_, .new (fun u W => VarsAt (sans TT W) u x.vars)] (by kernel_rfl) (by kernel_rfl) (by simp only [List.length_replicate, List.drop_succ_cons, List.drop_zero, List.drop_nil]; with_reducible rfl) rfl (fun _ _ _ _ _ => ⟨fun h => h, fun h => h⟩) (fun _ _ h _ => h) trivial ?_
        rotate_left 9
        iterate 9
          first
            | (refine par_skip (a' := ?_) (by rfl) (by rfl) ?_ ?_ ?_; rotate_left 1; with_reducible rfl; (simp only [Act.put, List.setIfInBounds_toArray, List.set_cons_zero, List.set_cons_succ]; with_reducible rfl))
            | (refine par_run (a' := ?_) (by rfl) (by rfl) (fun w' hb hn => ?_) ?_ ?_; rotate_left 1; (have hc := hb.cells; first | (go_simp; (try simp (disch := omega) only [IntWalk.i64_in, IntWalk.i32_in, IntWalk.u64_in, IntWalk.u8_in, IntWalk.u32_in, toNatUp, iteOmega]); with_reducible rfl) | (go_simp; (try simp (disch := omega) only [IntWalk.i64_in, IntWalk.i32_in, IntWalk.u64_in, IntWalk.u8_in, IntWalk.u32_in, toNatUp, iteOmega]); go_simp; with_reducible rfl)); (simp only [Act.put, List.setIfInBounds_toArray, List.set_cons_zero, List.set_cons_succ]; with_reducible rfl))
        refine par_callF (a' := ?a454k9) (f := ?f454k9) (args := ?r454k9) (by rfl) (by rfl) (fun w' => ?e454k9) (fun _ _ _ h hb => h.below (sans_grow hb)) (fun w' hb hn => ?h454k9) (fun u => ?p454k9) (fun u => ?g454k9)
        case e454k9 => (go_simp; constructor <;> with_reducible rfl)
        case h454k9 => ((refine (vars_list (S := TT) w' (Hv.out.below (sans_grow hb.grow)) sees_seen hvl (fun b h => Nat.lt_of_lt_of_le (HTT.out.2.2.2.2 b h) (Nat.le_trans hszr hb.grow.size))).mono ?_; rintro e w2 ⟨v', he, h1, -, h2⟩; exact ⟨v', he, h1, h2⟩))
        case p454k9 => (simp only [Act.put, List.setIfInBounds_toArray, List.set_cons_zero, List.set_cons_succ]; with_reducible rfl)
        refine par_end (fun w9 hb9 hf9 _ => ?_)
        replace hb9 := hb9.grow
        try refine wpList_none ?_
        simp only [List.forall_mem_cons] at hf9
        obtain ⟨hv2, -⟩ := hf9
        have Hv2 := hid hv2
        obtain ⟨ua, uc, rfl, -⟩ := hv2
        have Hb9 := hid hb9
        have Hg9 := hid (keep_at hb9 Hg.out)
        have c6' := cell_of Hg9.out 6
        have f6' := free_of Hg9.out 6
        clear hb9 c6 k0 k1 k2 k3 k4 k5 k6 k7 k8 k9 k10 k11
        go_wp2_with fail
        go_roundw
        case rel =>
          have hgo : But (fun b => b = g) w9 (w9.setCell ⟨g, 6, none⟩ (.slice ua x.vars.length uc)) := set_but w9 g 6 _
          have h9 := setCell_at Hg9.out 6 (.slice ua x.vars.length uc)
          simp only [List.cons_append, List.nil_append, List.setIfInBounds_toArray, List.set_cons_zero, List.set_cons_succ] at h9
          refine ⟨1, by omega, by go_num, (show Hid _ from ⟨hR.out.1.trans ((But.of Hb9.out).trans (hgo.mono (fun b _ e => by subst e; rfl))), ?_⟩)⟩
          have hL : s.listed.length = 1 := by rw [Hx.out]; rfl
          rw [Hx.out]
          show OwnL _ _ _ _ _ _ (.slice (some ⟨g, 0, none⟩) 1 lc) _
          rw [Hlc.out]
          refine OwnL.of_one (cs := [U x.token, U x.inst, I x.node, .string x.name, .string x.key, U x.msg, .slice ua x.vars.length uc]) (rest := rest) hbg hc1 (by unfold maxLen; omega) h9 rfl (by have := Hcap.out; simpa using this) ⟨_, rfl, Hv2.out.below (goes_hid (S := TT) hgo (fun b e => by subst e; exact HTT.out.1 _ rfl)).sans⟩
        case measure => simp [intOf]; omega
      · obtain rfl : i = s.listed.length := by omega
        go_wp2_with fail
        obtain ⟨W7, rfl⟩ : ∃ W7 : World, W7 = wr := ⟨_, rfl⟩
        have g07 := gr
        have hnb1 : ¬ ownB (.slice la s.listed.length lc) (w.heap.size + 1) := fun h => by have := (HBL.out _ h).1; omega
        have g17 := hid ((hR.out.1.block _ (heap_lt g16.out) hnb1).trans g16.out)
        have OL7 := hid hR.out.2
        have OM7 := hid (OM.out.goes MsgV.st hR.out.1 HTT.out.1 (fun b hb hb2 => hnlm.out b hb2 hb))
        have B7 := hid hR.out.1
        clear hR OL OM gr k0 k1 k2 k3 k4 k5 k6 k7 k8 k9 k10 k11
        go_loopw [83] (fun vi wr => ∃ i : Nat, i ≤ s.msgs.length ∧ vi = .int .i64 i ∧ Hid (But (ownB (.slice ma s.msgs.length mc)) W7 wr ∧ OwnL MsgV.at_ 66 7 W0.heap.size TT s.msgs (.slice ma s.msgs.length mc) wr)) (fun vi _ => s.msgs.length - (intOf vi).toNat)
        case atStart => exact ⟨0, Nat.zero_le _, rfl, But.refl _ _, OM7.out⟩
        case round =>
          obtain ⟨i, hi, rfl, hR⟩ := hrel
          have hszr := hR.out.1.size
          have hnb0 : ¬ ownB (.slice ma s.msgs.length mc) w.heap.size := fun h => by have := (HBM.out _ h).1; omega
          have gr := hid ((hR.out.1.block _ (heap_lt g07.out) hnb0).trans g07.out)
          by_cases hlt : i < s.msgs.length
          · obtain rfl : i = 0 := by omega
            obtain ⟨x, hx⟩ : ∃ x, s.msgs = [x] := List.length_eq_one_iff.1 (by omega)
            have Hx := hid hx
            have hOr := hR.out.2
            rw [hx] at hOr
            obtain ⟨g, cap, cs, rest, hu, hbg, hc1, hcm, hg, hcl, hcap, ⟨v, u, hcs, hv, hsu⟩⟩ := hOr.one
            simp only [List.length_cons, List.length_nil, Nat.zero_add] at hu
            injection hu with hu1 hu2 hu3
            subst hu1
            have Hcap := hid hcap
            subst hcs
            have Hv := hid hv
            have Hsu := hid hsu
            have Hlc := hid hu3
            have hvl := Hmv.out x (by rw [hx]; simp)
            obtain ⟨va, vc, rfl, -⟩ := hv
            obtain ⟨na, nc, rfl, -⟩ := hsu
            obtain ⟨nn, hnn⟩ : ∃ nn, nn = (natsV x.insts).length := ⟨_, rfl⟩
            rw [← hnn] at hg Hsu
            have Hnn := hid hnn
            have Hg := hid hg
            have C6 := hid (cell_of hg 6)
            have K11 := hid (cell_of gr.out 11)
            have hng : w.heap.size ≠ g := by omega
            have hlg := heap_lt hg
            unfold maxLen at hcm
            clear hx hOr hcap hg hu2 hu3 hnn
            go_wp2_with fail
            refine Ps.wp_par (Ps.relC (fun b => b = g) (fun b i => b ≠ g ∨ i = 6)) (fun W => W.heap[g]? = some (.cells ([U x.key, .string x.name, .string x.for_, .string x.id, I x.till, .slice va x.vars.length vc, .slice na nn nc] ++ rest).toArray 66 (0, 0))) (false :: false :: false :: false :: false :: false :: false :: false :: false :: false :: false :: true :: true :: false :: false :: false :: false :: false :: false :: true :: false :: false :: true :: []) _ (.fix ?_ :: .fix ?_ :: .fix ?_ :: .fix ?_ :: .fix ?_ :: .fix ?_ :: .fix ?_ :: .fix ?_ :: .fix ?_ :: .fix ?_ :: .fix ?_ :: .sf (.slice va x.vars.length vc) (fun W => W.heap[g]? = some (.cells ([U x.key, .string x.name, .string x.for_, .string x.id, I x.till, .slice va x.vars.length vc, .slice na nn nc] ++ rest).toArray 66 (0, 0))) :: .st (some x.vars.length) (fun u W => VarsAt (sans TT W) u x.vars) (fun _ W => W.heap[g]? = some (.cells ([U x.key, .string x.name, .string x.for_, .string x.id, I x.till, .slice va x.vars.length vc, .slice na nn nc] ++ rest).toArray 66 (0, 0))) :: .fix ?_ :: .fix ?_ :: .fix ?_ :: .fix ?_ :: .fix ?_ :: .fix ?_ :: .st (some x.insts.length) (fun u W => SlR (sans TT W) u (natsV x.insts)) (fun _ W => W.heap[g]? = some (.cells ([U x.key, .string x.name, .string x.for_, .string x.id, I x.till, .slice va x.vars.length vc, .slice na nn nc] ++ rest).toArray 66 (0, 0))) :: .fix ?_ :: .fix ?_ :: .sf undef (fun W => ∃ v', W.heap[g]? = some (.cells ([U x.key, .string x.name, .string x.for_, .string x.id, I x.till, v', .slice na nn nc] ++ rest).toArray 66 (0, 0)) ∧ VarsAt (sans TT W) v' x.vars) :: []) (by kernel_rfl) (by kernel_rfl) (by simp only [List.length_cons, List.length_nil, List.drop_succ_cons, List.drop_zero, List.drop_nil]; with_reducible rfl) rfl (fun _ _ _ _ _ => ⟨fun h => h, fun h => h⟩) (fun _ _ h hb => keep_at hb h) (Hg.out) ?_
            rotate_left 19
            iterate 11
              first
                | (refine Ps.par_skip (a' := ?_) (by rfl) (by rfl) ?_ ?_ ?_; rotate_left 1; with_reducible rfl; (simp only [Act.put, List.setIfInBounds_toArray, List.set_cons_zero, List.set_cons_succ]; with_reducible rfl))
                | (refine Ps.par_run (a' := ?_) (by rfl) (by rfl) (fun w' hb hn => ?_) ?_ ?_; rotate_left 1; (have q0 := hb.2 w.heap.size 11 _ (.inl hng) K11.out; have q6 := hb.2 g 6 _ (.inr rfl) C6.out; first | (go_simp; (try simp (disch := omega) only [IntWalk.i64_in, IntWalk.i32_in, IntWalk.u64_in, IntWalk.u8_in, IntWalk.u32_in, toNatUp, iteOmega]); with_reducible rfl) | (go_simp; (try simp (disch := omega) only [IntWalk.i64_in, IntWalk.i32_in, IntWalk.u64_in, IntWalk.u8_in, IntWalk.u32_in, toNatUp, iteOmega]); go_simp; with_reducible rfl)); (simp only [Act.put, List.setIfInBounds_toArray, List.set_cons_zero, List.set_cons_succ]; with_reducible rfl))
            refine Ps.par_sfr (a' := ?ap1k11) (by rfl) (by rfl) (fun _ _ h hb => keep_at hb h) (fun w' hb hn hr => ?hp1k11) ?pp1k11 ?gp1k11
            case hp1k11 => (have c5 := cell_of hr 5; exact ⟨w', (by go_simp; try with_reducible rfl), ⟨But.refl _ _, fun _ _ _ _ h => h⟩, hr⟩)
            case pp1k11 => (simp only [Act.put, List.setIfInBounds_toArray, List.set_cons_zero, List.set_cons_succ]; with_reducible rfl)
            refine Ps.par_stc (a' := ?ap2k12) (f := ?fp2k12) (args := ?rp2k12) (by rfl) (by rfl) (fun w' => ?ep2k12) (fun _ _ _ h hb => h.below (goes_hid (S := TT) hb.1 (fun b e => by subst e; exact HTT.out.2.1 _ rfl)).sans) (fun _ _ _ h hb => keep_at hb h) (fun w' hb hn hr => ?hp2k12) (fun u => ?pp2k12) (fun u12 hu12 => ?gp2k12)
            case ep2k12 => (go_simp; constructor <;> with_reducible rfl)
            case hp2k12 => (refine (vars_list (S := TT) w' (Hv.out.below (goes_hid (S := TT) hb.1 (fun b e => by subst e; exact HTT.out.2.1 _ rfl)).sans) sees_seen hvl.1 (fun b h => Nat.lt_of_lt_of_le (HTT.out.2.2.2.2 b h) (Nat.le_trans B7.out.size (Nat.le_trans hszr hb.1.size)))).mono ?_; rintro e w2 ⟨u, rfl, h1, -, h3⟩; exact ⟨u, rfl, vars_shape h1, h1, (Ps.relC _ _).of _ _ h3, keep_at h3 hr⟩)
            case pp2k12 => (simp only [Act.put, List.setIfInBounds_toArray, List.set_cons_zero, List.set_cons_succ]; with_reducible rfl)
            obtain ⟨au12, cu12, rfl⟩ := hu12
            iterate 6
              first
                | (refine Ps.par_skip (a' := ?_) (by rfl) (by rfl) ?_ ?_ ?_; rotate_left 1; with_reducible rfl; (simp only [Act.put, List.setIfInBounds_toArray, List.set_cons_zero, List.set_cons_succ]; with_reducible rfl))
                | (refine Ps.par_run (a' := ?_) (by rfl) (by rfl) (fun w' hb hn => ?_) ?_ ?_; rotate_left 1; (have q0 := hb.2 w.heap.size 11 _ (.inl hng) K11.out; have q6 := hb.2 g 6 _ (.inr rfl) C6.out; first | (go_simp; (try simp (disch := omega) only [IntWalk.i64_in, IntWalk.i32_in, IntWalk.u64_in, IntWalk.u8_in, IntWalk.u32_in, toNatUp, iteOmega]); with_reducible rfl) | (go_simp; (try simp (disch := omega) only [IntWalk.i64_in, IntWalk.i32_in, IntWalk.u64_in, IntWalk.u8_in, IntWalk.u32_in, toNatUp, iteOmega]); go_simp; with_reducible rfl)); (simp only [Act.put, List.setIfInBounds_toArray, List.set_cons_zero, List.set_cons_succ]; with_reducible rfl))
            refine Ps.par_stc (a' := ?ap3k19) (f := ?fp3k19) (args := ?rp3k19) (by rfl) (by rfl) (fun w' => ?ep3k19) (fun _ _ _ h hb => h.below (goes_hid (S := TT) hb.1 (fun b e => by subst e; exact HTT.out.2.1 _ rfl)).sans) (fun _ _ _ h hb => keep_at hb h) (fun w' hb hn hr => ?hp3k19) (fun u => ?pp3k19) (fun u19 hu19 => ?gp3k19)
            case ep3k19 => (go_simp; constructor <;> with_reducible rfl)
            case hp3k19 => (have hfl := (Hsu.out.below (goes_hid (S := TT) hb.1 (fun b e => by subst e; exact HTT.out.2.1 _ rfl)).sans).flat.seen; have hnl : (natsV x.insts).length = x.insts.length := (by simp [natsV]); rw [hnl] at hfl; refine (cloneNat_any w' hfl (natsV_one _) (by have := hvl.2; omega)).mono ?_; rintro e w2 ⟨u, rfl, ho, h3⟩; have hs2 := (FlatAt.of_own (own_sans (S := TT) ho (fun b h1 h2 => by have := HTT.out.2.2.2.2 b h2; have := B7.out.size; have := hb.1.size; omega))).slr; exact ⟨u, rfl, (by obtain ⟨a, c, e⟩ := own_slice ho; exact ⟨a, c, e⟩), hs2, (Ps.relC _ _).of _ _ h3, keep_at h3 hr⟩)
            case pp3k19 => (simp only [Act.put, List.setIfInBounds_toArray, List.set_cons_zero, List.set_cons_succ]; with_reducible rfl)
            obtain ⟨au19, cu19, rfl⟩ := hu19
            iterate 2
              first
                | (refine Ps.par_skip (a' := ?_) (by rfl) (by rfl) ?_ ?_ ?_; rotate_left 1; with_reducible rfl; (simp only [Act.put, List.setIfInBounds_toArray, List.set_cons_zero, List.set_cons_succ]; with_reducible rfl))
                | (refine Ps.par_run (a' := ?_) (by rfl) (by rfl) (fun w' hb hn => ?_) ?_ ?_; rotate_left 1; (have q0 := hb.2 w.heap.size 11 _ (.inl hng) K11.out; have q6 := hb.2 g 6 _ (.inr rfl) C6.out; first | (go_simp; (try simp (disch := omega) only [IntWalk.i64_in, IntWalk.i32_in, IntWalk.u64_in, IntWalk.u8_in, IntWalk.u32_in, toNatUp, iteOmega]); with_reducible rfl) | (go_simp; (try simp (disch := omega) only [IntWalk.i64_in, IntWalk.i32_in, IntWalk.u64_in, IntWalk.u8_in, IntWalk.u32_in, toNatUp, iteOmega]); go_simp; with_reducible rfl)); (simp only [Act.put, List.setIfInBounds_toArray, List.set_cons_zero, List.set_cons_succ]; with_reducible rfl))
            refine Ps.par_sfs (a' := ?ap4k22) (by rfl) (by rfl) (fun _ _ ⟨v', h, hv⟩ hb => ⟨v', keep_at hb h, hv.below (sans_grow hb)⟩) (fun w' hb hn hr => ?hp4k22) (by rfl) ?pp4k22 ?gp4k22
            case hp4k22 => (have c5 := cell_of hr 5; have f5 := free_of hr 5; have hv2 := Ps.need_head (ps_need_tail hn) (by kernel_rfl); have hset := setCell_at hr 5 (.slice au12 x.vars.length cu12); simp only [List.cons_append, List.nil_append, List.setIfInBounds_toArray, List.set_cons_zero, List.set_cons_succ] at hset; exact ⟨w'.setCell ⟨g, 5, none⟩ (.slice au12 x.vars.length cu12), (by go_simp; try with_reducible rfl), relC_setp g 6 5 _ _ (by decide), _, hset, hv2.below (goes_hid (S := TT) (relC_setp g 6 5 w' (.slice au12 x.vars.length cu12) (by decide)).1 (fun b e => by subst e; exact HTT.out.2.1 _ rfl)).sans⟩)
            case pp4k22 => with_reducible rfl
            refine Ps.par_end (fun w9 hb9 hf9 hr9 => ?_)
            try refine Ps.wpList_none ?_
            simp only [List.forall_mem_cons] at hf9
            have Hs2 := hid hf9.1
            obtain ⟨v', hg9, hv9⟩ := hr9
            have Hg9 := hid hg9
            have Hv9 := hid hv9
            have Hb9 := hid hb9.1
            have c6' := cell_of hg9 6
            have f6' := free_of hg9 6
            clear hb9 hf9 hg9 hv9
            go_wp2_with fail
            go_roundw
            case rel =>
              have hgo : But (fun b => b = g) w9 (w9.setCell ⟨g, 6, none⟩ (.slice au19 x.insts.length cu19)) := set_but w9 g 6 _
              have h9 := setCell_at Hg9.out 6 (.slice au19 x.insts.length cu19)
              simp only [List.cons_append, List.nil_append, List.setIfInBounds_toArray, List.set_cons_zero, List.set_cons_succ] at h9
              refine ⟨1, by omega, by go_num, (show Hid _ from ⟨hR.out.1.trans ((Hb9.out.trans hgo).mono (fun b _ e => by subst e; rfl)), ?_⟩)⟩
              have hL : s.msgs.length = 1 := by rw [Hx.out]; rfl
              rw [Hx.out]
              show OwnL _ _ _ _ _ _ (.slice (some ⟨g, 0, none⟩) 1 mc) _
              rw [Hlc.out]
              have hq := goes_hid (S := TT) hgo (fun b e => by subst e; exact HTT.out.2.1 _ rfl)
              refine OwnL.of_one (cs := [U x.key, .string x.name, .string x.for_, .string x.id, I x.till, v', .slice au19 x.insts.length cu19]) (rest := rest) hbg hc1 (by unfold maxLen; omega) h9 rfl (by have := Hcap.out; simpa using this) ⟨_, _, rfl, Hv9.out.below hq.sans, Hs2.out.below hq.sans⟩
            case measure => simp [intOf]; omega
          · obtain rfl : i = s.msgs.length := by omega
            obtain ⟨W8, rfl⟩ : ∃ W8 : World, W8 = wr := ⟨_, rfl⟩
            have hnb1 : ¬ ownB (.slice ma s.msgs.length mc) (w.heap.size + 1) := fun h => by have := (HBM.out _ h).1; omega
            have g18 := hid ((hR.out.1.block _ (heap_lt g17.out) hnb1).trans g17.out)
            have OM8 := hid hR.out.2
            have B78 := hid hR.out.1
            have OL8 := hid (OL7.out.goes LisV.st hR.out.1 HTT.out.2.1 hnlm.out)
            have B8 : Hid (But TT W6 W8) := (B7.out.mono (fun b _ h => HTT.out.1 b h)).trans (hR.out.1.mono (fun b _ h => HTT.out.2.1 b h))
            obtain ⟨k0, k1, k2, k3, k4, k5, k6, k7, k8, k9, k10, k11⟩ := cells12 gr.out
            obtain ⟨z0, z1, z2, z3, z4, z5, z6, z7, z8, z9, z10, z11⟩ := cells12 g18.out
            obtain ⟨y0, y1, y2, y3, y4, y5, y6, y7, y8, y9, y10, y11⟩ := frees12 g18.out
            clear hR OL7 OM7
            go_wp2
            refine post_set12 g18.out ?_
            intro W9 h9 b9
            have hRow : ∀ b, TT b → w.heap.size ≤ b ∨ S b := fun b h => by
              rcases Nat.lt_or_ge b w.heap.size with h1 | h1
              · exact .inr (HTT.out.2.2.2.1 b h1 h)
              · exact .inl h1
            -- what of the old blocks is not the callers' stays
            have hB9 : But (fun b => TT b ∧ w.heap.size ≤ b) W6 W9 := by
              have q1 : But (fun b => TT b ∧ w.heap.size ≤ b) W6 W7 := B7.out.mono (fun b _ h => ⟨HTT.out.1 b h, by have := (HBL.out b h).1; omega⟩)
              have q2 : But (fun b => TT b ∧ w.heap.size ≤ b) W7 W8 := B78.out.mono (fun b _ h => ⟨HTT.out.2.1 b h, by have := (HBM.out b h).1; omega⟩)
              exact (q1.trans q2).trans (b9.out.mono (fun b _ e => ⟨HTT.out.2.2.1 b (.inr (by omega)), by omega⟩))
            have B9 : Hid (Below w.heap.size w W9) := BW6.out.trans (hB9.below BW6.out.size (fun b h => h.2))
            have hs9 : Sees (sans S w) (sans S W9) := sees_grow B9.out (fun _ _ h => h)
            have hSn : ∀ b, W0.heap.size ≤ b → ¬ S b := fun b h1 h2 => by have := hS b h2; omega
            have hlm : ∀ b, TT b ∧ w.heap.size ≤ b → b < W0.heap.size ∨ ownB (.slice la s.listed.length lc) b ∨ ownB (.slice ma s.msgs.length mc) b := fun b h => by
              have h1 := HTQ.out b h.1
              rcases h1 with h1 | h1 | h1
              · exact .inl (hT b h1)
              · exact .inr (.inl h1)
              · exact .inr (.inr h1)
            have LFP := ((FP.out.but hB9 (fun b hb hf => by
              obtain ⟨_, h1, -⟩ := FP.out
              obtain ⟨_, h2, -⟩ := FL.out
              obtain ⟨_, h3, -⟩ := FM.out
              rcases hlm b hf with h | h | h
              · have := (h1.lt b hb).1; omega
              · exact own_ne h1 h2 (by decide) b hb h
              · exact own_ne h1 h3 (by decide) b hb h)).list (S := S) (by omega) DepV.sees hs9 hSn)
            have LFT := ((FT.out.but hB9 (fun b hb hf => by
              obtain ⟨_, h1, -⟩ := FT.out
              obtain ⟨_, h2, -⟩ := FL.out
              obtain ⟨_, h3, -⟩ := FM.out
              rcases hlm b hf with h | h | h
              · have := (h1.lt b hb).1; omega
              · exact own_ne h1 h2 (by decide) b hb h
              · exact own_ne h1 h3 (by decide) b hb h)).list (S := S) (by omega) TokV.sees hs9 hSn)
            have LFJ := ((FJ.out.but hB9 (fun b hb hf => by
              obtain ⟨_, h1, -⟩ := FJ.out
              obtain ⟨_, h2, -⟩ := FL.out
              obtain ⟨_, h3, -⟩ := FM.out
              rcases hlm b hf with h | h | h
              · have := (h1.lt b hb).1; omega
              · exact own_ne h1 h2 (by decide) b hb h
              · exact own_ne h1 h3 (by decide) b hb h)).list (S := S) (by omega) JobV.sees hs9 hSn)
            have LFR := ((FR.out.but hB9 (fun b hb hf => by
              obtain ⟨_, h1, -⟩ := FR.out
              obtain ⟨_, h2, -⟩ := FL.out
              obtain ⟨_, h3, -⟩ := FM.out
              rcases hlm b hf with h | h | h
              · have := (h1.lt b hb).1; omega
              · exact own_ne h1 h2 (by decide) b hb h
              · exact own_ne h1 h3 (by decide) b hb h)).list (S := S) (by omega) TimV.sees hs9 hSn)
            have LFS := ((FS.out.but hB9 (fun b hb hf => by
              obtain ⟨_, h1, -⟩ := FS.out
              obtain ⟨_, h2, -⟩ := FL.out
              obtain ⟨_, h3, -⟩ := FM.out
              rcases hlm b hf with h | h | h
              · have := (h1.lt b hb).1; omega
              · exact own_ne h1 h2 (by decide) b hb h
              · exact own_ne h1 h3 (by decide) b hb h)).list (S := S) (by omega) SubV.sees hs9 hSn)
            have LFK := ((FK.out.but hB9 (fun b hb hf => by
              obtain ⟨_, h1, -⟩ := FK.out
              obtain ⟨_, h2, -⟩ := FL.out
              obtain ⟨_, h3, -⟩ := FM.out
              rcases hlm b hf with h | h | h
              · have := (h1.lt b hb).1; omega
              · exact own_ne h1 h2 (by decide) b hb h
              · exact own_ne h1 h3 (by decide) b hb h)).list (S := S) (by omega) KeptV.sees hs9 hSn)
            have LFI := ((FI.out.but hB9 (fun b hb hf => by
              obtain ⟨_, h1, -⟩ := FI.out
              obtain ⟨_, h2, -⟩ := FL.out
              obtain ⟨_, h3, -⟩ := FM.out
              rcases hlm b hf with h | h | h
              · have := (h1.lt b hb).1; omega
              · exact own_ne h1 h2 (by decide) b hb h
              · exact own_ne h1 h3 (by decide) b hb h)).list (S := S) (by omega) InstV.sees hs9 hSn)
            have hq9 : But (fun b => b = w.heap.size + 1) W8 W9 := b9.out
            have LL := ((OL8.out.goes LisV.st hq9 (fun b e => by subst e; exact HTT.out.2.2.1 _ (.inr (by omega))) (fun b hb e => by have := (HBL.out b hb).1; omega)).list (S := S) (by omega) LisV.sees (fun b h => HTT.out.2.2.1 b (.inl h)) hSn)
            have LM := ((OM8.out.goes MsgV.st hq9 (fun b e => by subst e; exact HTT.out.2.2.1 _ (.inr (by omega))) (fun b hb e => by have := (HBM.out b hb).1; omega)).list (S := S) (by omega) MsgV.sees (fun b h => HTT.out.2.2.1 b (.inl h)) hSn)
            obtain ⟨k0, k1, k2, k3, k4, k5, k6, k7, k8, k9, k10, k11⟩ := cells12 h9.out
            exact bodyPost_ret (v := .agg #[U s.pos, U s.done, U s.made, .slice pa s.procs.length pc, .slice ia s.insts.length ic, .slice ta s.tokens.length tc, .slice ja s.jobs.length jc, .slice ra s.timers.length rc, .slice sa s.subs.length sc, .slice ka s.kept.length kc, .slice la s.listed.length lc, .slice ma s.msgs.length mc]) (by simp [results, Tryz.results25, go_sem, k0, k1, k2, k3, k4, k5, k6, k7, k8, k9, k10, k11]) rfl ⟨[U s.pos, U s.done, U s.made, .slice pa s.procs.length pc, .slice ia s.insts.length ic, .slice ta s.tokens.length tc, .slice ja s.jobs.length jc, .slice ra s.timers.length rc, .slice sa s.subs.length sc, .slice ka s.kept.length kc, .slice la s.listed.length lc, .slice ma s.msgs.length mc], rfl, ⟨_, _, _, _, _, _, _, _, _, ⟨rfl, LFP, LFI, LFT, LFJ, LFR, LFS, LFK, LL, LM⟩⟩, B9.out⟩
end Go.Proofs.YtjkbfoeakeoeiaaGreat
