/- KeepReads: contracts (Rr). -/
import Derived.Test.YthikijlbclckdaaGreatQ12
import Derived.Test.YthikijlbclckdaaGreatQ24
import Derived.Test.YthikijlbclckdaaGreatQ25
namespace Go.Proofs.YthikijlbclckdaaGreat
set_option maxRecDepth 100000
set_option maxHeartbeats 40000000
set_option linter.unusedSimpArgs false
set_option linter.unusedVariables false
open Go.IntWalk Go.RowKit
def RnH (w : World) (base xb : Nat) (s : StateV) : Prop :=
 ∃ p vp vi vt vj vr vs vk vl vm, w.heap[xb]? = some (.cells #[U s.pos, U s.done, U s.made, vp, vi, vt, vj, vr, vs, vk, vl, vm, .pointer p, .bool false] 89 (0, 0)) ∧ ListsOwn w base s vp vi vt vj vr vs vk vl vm
theorem first_bad {x : RowV} (h : x.1 ≠ c1 97) (l : List RowV) : readS (x :: l) = none := by
 have h1 : readF [x] = none := by
  show rdStep (some rd0) x = none
  simp only [rdStep, rd0, Option.bind_some]
  unfold rowStep
  by_cases h0 : x.1.size = 0
  ·
   rw [if_pos h0]; rfl
  ·
   rw [if_neg h0, if_pos (by rw [decide_eq_false h]; rfl)]; rfl
 unfold readS
 rw [show readF (x :: l) = none from readF_bad (pre := [x]) ⟨l, rfl⟩ h1]
 rfl
theorem rr13 {w : World} {base xb : Nat} {s : StateV} {p : Option Addr} {vp vi vt vj vr vs vk vl vm : Value} (hx : w.heap[xb]? = some (.cells #[U s.pos, U s.done, U s.made, vp, vi, vt, vj, vr, vs, vk, vl, vm, .pointer p, .bool false] 89 (0, 0))) (hL : ListsOwn w base s vp vi vt vj vr vs vk vl vm) (rv : ByteArray) :
  RnC ((w.alloc (.cells #[.string rv, .int .i64 0] 92)).setCell ⟨xb, 12, none⟩ (.pointer (some ⟨w.heap.size, 0, none⟩))) xb (U s.pos) (U s.done) (U s.made) vp vi vt vj vr vs vk vl vm w.heap.size false ∧
  ListsOwn ((w.alloc (.cells #[.string rv, .int .i64 0] 92)).setCell ⟨xb, 12, none⟩ (.pointer (some ⟨w.heap.size, 0, none⟩))) base s vp vi vt vj vr vs vk vl vm ∧
  IsR 92 ((w.alloc (.cells #[.string rv, .int .i64 0] 92)).setCell ⟨xb, 12, none⟩ (.pointer (some ⟨w.heap.size, 0, none⟩))) w.heap.size ⟨rv, 0⟩ ∧
  Rb xb w ((w.alloc (.cells #[.string rv, .int .i64 0] 92)).setCell ⟨xb, 12, none⟩ (.pointer (some ⟨w.heap.size, 0, none⟩))) := by
 have l1 := heap_lt hx
 have b1 := (Below.refl _ w).alloc (Nat.le_refl _) (.cells #[.string rv, .int .i64 0] 92)
 have hxa := (alloc_old (.cells #[.string rv, .int .i64 0] 92) l1).trans hx
 have r2 := Rb.set (w := w.alloc (.cells #[.string rv, .int .i64 0] 92)) xb 12 (.pointer (some ⟨w.heap.size, 0, none⟩))
 have t2 := TyBut.rb (base := 0) (ts := [89]) hxa (by decide) (Nat.zero_le _) r2
 exact ⟨setCell_at hxa 12 _, (hL.keepC (cells_below b1) (by simp) (by simp) (by simp)).keep t2 (by decide) (by decide) (by decide), r2.at (alloc_new w _) (by omega), (But.of b1).trans r2⟩
theorem rr_end {R : Ending → World → Prop} {tmps : Array Value} {b2 : Nat} {W : World} {v0 v1 v2 v3 v4 v5 v6 v7 v8 v9 v10 v11 : Value} {e : Int} (ht2 : tmps[2]? = some (.pointer (some ⟨b2, 0, none⟩))) (ht3 : tmps[3]? = some (.int .i64 e))
  (h2 : W.heap[b2]? = some (.cells #[v0, v1, v2, v3, v4, v5, v6, v7, v8, v9, v10, v11] 33 (0, 0))) (h : R (.returned (.tuple #[.agg #[v0, v1, v2, v3, v4, v5, v6, v7, v8, v9, v10, v11], .int .i64 e])) W) : bodyPost Tryz.prog Tryz.f20 R .ret { tmps := tmps, defers := [] } W := by
 obtain ⟨k0, k1, k2, k3, k4, k5, k6, k7, k8, k9, k10, k11⟩ := cells12 h2
 exact bodyPost_ret (by simp [results, Tryz.results20, go_sem, ht2, ht3, k0, k1, k2, k3, k4, k5, k6, k7, k8, k9, k10, k11]) rfl h
theorem zero_end {tmps : Array Value} {b2 : Nat} {W w : World} (rs : List RowV) (ht2 : tmps[2]? = some (.pointer (some ⟨b2, 0, none⟩))) (ht3 : tmps[3]? = some (.int .i64 3))
  (h2 : W.heap[b2]? = some (.cells cells0.toArray 33 (0, 0))) (hn : readS rs = none) (hB : Below w.heap.size w W) :
  bodyPost Tryz.prog Tryz.f20 (fun e w' => ∃ u, e = .returned u ∧ ReadT rs w u w' ∧ Below w.heap.size w w') .ret { tmps := tmps, defers := [] } W :=
 rr_end ht2 ht3 h2 ⟨_, rfl, ReadT.no hn _ _, hB⟩
structure LastOk (l : List RowV) (j : Nat) (a : Rd3) : Prop where
 last : 0 < j → ∃ x, l[j - 1]? = some x ∧ a.last = x.1 ∧ a.fst = false ∧ (a.last = c1 97 ∨ ltS (c1 97) a.last = true)
 fst : a.fst = decide (j = 0)
theorem rread_any (l : List RowV) (hl : l.length ≤ 2097152) (hsz : ∀ x ∈ l, Sz x.1 ∧ Sz x.2) (v : Value) (w : World) (h : rowsF l v w) :
  Calls Tryz.prog 20 #[v] w fun e w' => ∃ u, e = .returned u ∧ ReadT l w u w' ∧ Below w.heap.size w w' := by
 have H := hid h
 have Hsz := hid hsz
 obtain ⟨a, c', rfl, hc1, hcm, -⟩ := h
 unfold maxLen at hcm
 clear hsz
 go_enter Tryz.func20, Tryz.ntmps20
 have rA := alloc_old (.cells #[.int .u64 0, .int .u64 0, .int .u64 0, .slice none 0 0, .slice none 0 0, .slice none 0 0, .slice none 0 0, .slice none 0 0, .slice none 0 0, .slice none 0 0, .slice none 0 0, .slice none 0 0, .pointer none, .bool false] 89) (heap_lt (alloc_new w (.cells #[.int .u64 0, .int .u64 0, .int .u64 0, .slice none 0 0, .slice none 0 0, .slice none 0 0, .slice none 0 0, .slice none 0 0, .slice none 0 0, .slice none 0 0, .slice none 0 0, .slice none 0 0] 33)))
 have r2 := rA.trans (alloc_new w (.cells #[.int .u64 0, .int .u64 0, .int .u64 0, .slice none 0 0, .slice none 0 0, .slice none 0 0, .slice none 0 0, .slice none 0 0, .slice none 0 0, .slice none 0 0, .slice none 0 0, .slice none 0 0] 33))
 have rx := alloc_new2 w (.cells #[.int .u64 0, .int .u64 0, .int .u64 0, .slice none 0 0, .slice none 0 0, .slice none 0 0, .slice none 0 0, .slice none 0 0, .slice none 0 0, .slice none 0 0, .slice none 0 0, .slice none 0 0] 33) (.cells #[.int .u64 0, .int .u64 0, .int .u64 0, .slice none 0 0, .slice none 0 0, .slice none 0 0, .slice none 0 0, .slice none 0 0, .slice none 0 0, .slice none 0 0, .slice none 0 0, .slice none 0 0, .pointer none, .bool false] 89)
 have hB : Below w.heap.size w ((w.alloc (.cells #[.int .u64 0, .int .u64 0, .int .u64 0, .slice none 0 0, .slice none 0 0, .slice none 0 0, .slice none 0 0, .slice none 0 0, .slice none 0 0, .slice none 0 0, .slice none 0 0, .slice none 0 0] 33)).alloc (.cells #[.int .u64 0, .int .u64 0, .int .u64 0, .slice none 0 0, .slice none 0 0, .slice none 0 0, .slice none 0 0, .slice none 0 0, .slice none 0 0, .slice none 0 0, .slice none 0 0, .slice none 0 0, .pointer none, .bool false] 89)) := ((Below.refl _ w).alloc (Nat.le_refl _) _).alloc (by simp) _
 replace r2 := hid r2
 replace rx := hid rx
 replace hB := hid hB
 clear rA
 cases l with
 | nil =>
  go_wp2
  exact zero_end [] rfl rfl r2.out rfl hB.out
 | cons x0 l0 =>
  obtain ⟨b, off, cap', he, d0, d1⟩ := rows_at H.out (i := 0) (r := x0) rfl
  cases he
  simp only [List.length_cons]
  have d0' : ((w.alloc (.cells #[.int .u64 0, .int .u64 0, .int .u64 0, .slice none 0 0, .slice none 0 0, .slice none 0 0, .slice none 0 0, .slice none 0 0, .slice none 0 0, .slice none 0 0, .slice none 0 0, .slice none 0 0] 33)).alloc (.cells #[.int .u64 0, .int .u64 0, .int .u64 0, .slice none 0 0, .slice none 0 0, .slice none 0 0, .slice none 0 0, .slice none 0 0, .slice none 0 0, .slice none 0 0, .slice none 0 0, .slice none 0 0, .pointer none, .bool false] 89)).cell? ⟨b, off, none⟩ = some (.string x0.1) := (hB.out.cell (p := ⟨b, off, none⟩) (World.block_lt_of_cell? w _ (by simpa using d0))).trans (by simpa using d0)
  clear d0 d1
  have hA := is_a x0.1
  have hl0 : ((l0.length : Int) + 1 == 0) = false := by rw [beq_eq_false_iff_ne]; omega
  by_cases ha : x0.1 = c1 97
  ·
   rw [decide_eq_true ha] at hA
   replace ha := hid ha
   go_wp2_with fail
   have h00 : RnH ((w.alloc (.cells #[.int .u64 0, .int .u64 0, .int .u64 0, .slice none 0 0, .slice none 0 0, .slice none 0 0, .slice none 0 0, .slice none 0 0, .slice none 0 0, .slice none 0 0, .slice none 0 0, .slice none 0 0] 33)).alloc (.cells #[.int .u64 0, .int .u64 0, .int .u64 0, .slice none 0 0, .slice none 0 0, .slice none 0 0, .slice none 0 0, .slice none 0 0, .slice none 0 0, .slice none 0 0, .slice none 0 0, .slice none 0 0, .pointer none, .bool false] 89)) (w.heap.size + 1) (w.heap.size + 1) state0 := ⟨none, _, _, _, _, _, _, _, _, _, rx.out, ⟨LOwn.nil _ _ _ _ _, LOwn.nil _ _ _ _ _, LOwn.nil _ _ _ _ _, LOwn.nil _ _ _ _ _, LOwn.nil _ _ _ _ _, LOwn.nil _ _ _ _ _, LOwn.nil _ _ _ _ _, LOwn.nil _ _ _ _ _, LOwn.nil _ _ _ _ _⟩⟩
   replace h00 := hid h00
   clear d0' hA hl0
   generalize (w.alloc (.cells #[.int .u64 0, .int .u64 0, .int .u64 0, .slice none 0 0, .slice none 0 0, .slice none 0 0, .slice none 0 0, .slice none 0 0, .slice none 0 0, .slice none 0 0, .slice none 0 0, .slice none 0 0] 33)).alloc (.cells #[.int .u64 0, .int .u64 0, .int .u64 0, .slice none 0 0, .slice none 0 0, .slice none 0 0, .slice none 0 0, .slice none 0 0, .slice none 0 0, .slice none 0 0, .slice none 0 0, .slice none 0 0, .pointer none, .bool false] 89) = w2 at r2 rx hB h00 ⊢
   go_loopw [5] (fun vi wr => ∃ j : Nat, j ≤ l0.length + 1 ∧ vi = .int .i64 j ∧ Hid (∃ a, readF ((x0 :: l0).take j) = some a ∧ LastOk (x0 :: l0) j a ∧ wr.heap[w.heap.size]? = some (.cells cells0.toArray 33 (0, 0)) ∧ RnH wr (w.heap.size + 1) (w.heap.size + 1) a.s ∧ Below w.heap.size w wr)) (fun vi _ => l0.length + 1 - (intOf vi).toNat)
   case atStart => exact ⟨0, by omega, rfl, rd0, rfl, ⟨fun h => absurd h (by omega), rfl⟩, r2.out, h00.out, hB.out⟩
   case round =>
    obtain ⟨j, hj, rfl, hR⟩ := hrel
    by_cases hlt : j < l0.length + 1
    ·
     have hbad : ∀ k, k ≤ l0.length + 1 → readF ((x0 :: l0).take k) = none → readS (x0 :: l0) = none := fun k _ h => by unfold readS; rw [readF_bad (List.take_prefix k _) h]; rfl
     replace hbad := hid (hbad (j + 1) (by omega))
     obtain ⟨a, hra, hla, h2, hH, hBw⟩ := hR.out
     obtain ⟨⟨rk, rv⟩, hx⟩ : ∃ x, (x0 :: l0)[j]? = some x := ⟨_, List.getElem?_eq_getElem (by simpa using hlt)⟩
     obtain ⟨b', off', cap', he, d0, d1⟩ := rows_at H.out hx
     cases he
     dsimp only at d0 d1
     have D0 := (hBw.cell (p := ⟨b, off + j * 2, none⟩) (World.block_lt_of_cell? w _ d0)).trans d0
     have D1 := hid ((hBw.cell (p := ⟨b, off + j * 2 + 1, none⟩) (World.block_lt_of_cell? w _ d1)).trans d1)
     have hsx := Hsz.out _ (List.mem_of_getElem? hx)
     have hnext : readF ((x0 :: l0).take (j + 1)) = rdStep (some a) (rk, rv) := by rw [take_snoc hx, readF_snoc, hra]
     have Hnext := hid hnext
     have Hra := hid hra
     have Hx := hid hx
     have Hla := hid hla
     have H2 := hid h2
     have HH := hid hH
     have HBw := hid hBw
     clear hra hla h2 hH hBw d0 d1 hR hx hnext
     dsimp only at hsx
     cases j with
     | zero =>
      simp only [Nat.zero_mul, Nat.add_zero] at D0 D1
      obtain rfl : rk = c1 97 := by have := Hx.out; simp at this; rw [← ha.out, this]
      obtain ⟨pp, vp, vi, vt, vj, vr, vs, vk, vl, vm, hx, hL⟩ := HH.out
      replace hx := hid hx
      replace hL := hid hL
      have hfst : Hid (a.fst = true) := by show _ = _; rw [Hla.out.fst]; rfl
      have HN := hid (Hnext.out.trans (rdz a hfst.out rv))
      go_wp2_with fail
      refine (size14_any 97 (by omega) wr).mono ?_
      rintro e w1 ⟨rfl, hw⟩
      obtain rfl : wr = w1 := hw.symm
      clear hw
      have e97 : sizeK 97 = 0 := rfl
      have ew : (wrap64 (((c1 97).size : Int) - 1) != 0) = false := by rw [show (c1 97).size = 1 from rfl]; simp [wrap64]
      have d1 := D1.out
      have s97 : 0 < (c1 97).size := by decide
      rw [e97]
      have k12 := cell_of hx.out 12
      have f12 := free_of hx.out 12
      have hxa := (alloc_old (.cells #[.string rv, .int .i64 0] 92) (heap_lt hx.out)).trans hx.out
      have hx1 : RnC ((wr.alloc (.cells #[.string rv, .int .i64 0] 92)).setCell ⟨w.heap.size + 1, 12, none⟩ (.pointer (some ⟨wr.heap.size, 0, none⟩))) (w.heap.size + 1) (U a.s.pos) (U a.s.done) (U a.s.made) vp vi vt vj vr vs vk vl vm wr.heap.size false := setCell_at hxa 12 _
      have k12b := cell_of hx1 12
      have k12a := cell_of hxa 12
      have f12a := free_of hxa 12
      replace hxa := hid hxa
      replace hx1 := hid hx1
      go_wp2_with fail
      clear k12 f12 hxa hx1 k12a f12a
      obtain ⟨hx1, hL1, hr1, hb1⟩ := rr13 hx.out hL.out rv
      have hlx := heap_lt hx.out
      have h21 := hid (hb1.at H2.out (by omega))
      have hB1 := hid (HBw.out.trans (Rb_below hb1 (by omega) HBw.out.size))
      replace hx1 := hid hx1
      replace hL1 := hid hL1
      replace hr1 := hid hr1
      clear hb1
      clear k12b d1 ew e97 s97 D0
      generalize ((wr.alloc (.cells #[.string rv, .int .i64 0] 92)).setCell ⟨w.heap.size + 1, 12, none⟩ (.pointer (some ⟨wr.heap.size, 0, none⟩))) = w1 at hx1 hL1 hr1 h21 hB1 ⊢
      have hrbx : w.heap.size + 1 < wr.heap.size := hlx
      generalize wr.heap.size = rb at hx1 hr1 hrbx ⊢
      clear hlx
      have hsv : rv.size ≤ 2097152 := hsx.2
      clear hx hL HH HBw H2
      obtain ⟨⟨v1, r1⟩, hq1⟩ : ∃ p, uintR ⟨rv, 0⟩ = p := ⟨_, rfl⟩
      have sz1 := uintR_size ⟨rv, 0⟩
      rw [hq1] at sz1
      dsimp only at sz1
      have Hc1 : Hid (∀ W : World, IsR 92 W rb ⟨rv, 0⟩ → Calls Tryz.prog 39 #[.pointer (some ⟨rb, 0, none⟩)] W fun e' w' => e' = .returned (.int .u64 v1) ∧ IsR 92 w' rb r1 ∧ Rb rb W w') := fun W h => by have := rrUint_any rb ⟨rv, 0⟩ W h (by show rv.size ≤ _; omega); rw [hq1] at this; exact this
      obtain ⟨⟨v2, r2⟩, hq2⟩ : ∃ p, uintR r1 = p := ⟨_, rfl⟩
      have sz2 := uintR_size r1
      rw [hq2] at sz2
      dsimp only at sz2
      have Hc2 : Hid (∀ W : World, IsR 92 W rb r1 → Calls Tryz.prog 39 #[.pointer (some ⟨rb, 0, none⟩)] W fun e' w' => e' = .returned (.int .u64 v2) ∧ IsR 92 w' rb r2 ∧ Rb rb W w') := fun W h => by have := rrUint_any rb r1 W h (by omega); rw [hq2] at this; exact this
      obtain ⟨⟨v3, r3⟩, hq3⟩ : ∃ p, uintR r2 = p := ⟨_, rfl⟩
      have sz3 := uintR_size r2
      rw [hq3] at sz3
      dsimp only at sz3
      have Hc3 : Hid (∀ W : World, IsR 92 W rb r2 → Calls Tryz.prog 39 #[.pointer (some ⟨rb, 0, none⟩)] W fun e' w' => e' = .returned (.int .u64 v3) ∧ IsR 92 w' rb r3 ∧ Rb rb W w') := fun W h => by have := rrUint_any rb r2 W h (by omega); rw [hq3] at this; exact this
      have hst : stepA a.s ⟨rv, 0⟩ = ⟨{ a.s with pos := v1, done := v2, made := v3 }, r3, false⟩ := by simp only [stepA, hq1, hq2, hq3]
      rw [hst] at HN
      dsimp only at HN
      clear hst hq1 hq2 hq3
      refine (Hc1.out w1 hr1.out).mono ?_
      rintro e w2 ⟨rfl, hr', b'⟩
      have hx' := b'.at hx1.out (show w.heap.size + 1 ≠ rb by omega)
      have h2' := b'.at h21.out (show w.heap.size ≠ rb by omega)
      have hB' := hB1.out.trans (Rb_below b' (show w.heap.size ≤ rb by omega) hB1.out.size)
      have hL' := hL1.out.keep (TyBut.rb (base := 0) (ts := [92]) hr1.out (by decide) (Nat.zero_le _) b') (by decide) (by decide) (by decide)
      have kg := cell_of hx' 0
      have fg := free_of hx' 0
      have bs := Rb.set (w := w2) (w.heap.size + 1) 0 (.int .u64 v1)
      have hx2 : RnC (w2.setCell ⟨w.heap.size + 1, 0, none⟩ (.int .u64 v1)) (w.heap.size + 1) (U v1) (U a.s.done) (U a.s.made) vp vi vt vj vr vs vk vl vm rb false := setCell_at hx' 0 _
      have k12 := cell_of hx2 12
      have k13 := cell_of hx2 13
      have h22 := hid (bs.at h2' (show w.heap.size ≠ w.heap.size + 1 by omega))
      have hr2 := hid (bs.at hr' (show rb ≠ w.heap.size + 1 by omega))
      have hB2 := hid (hB'.trans (Rb_below bs (show w.heap.size ≤ w.heap.size + 1 by omega) hB'.size))
      have hL2 := hid (hL'.keep (TyBut.rb (base := 0) (ts := [89]) hx' (by decide) (Nat.zero_le _) bs) (by decide) (by decide) (by decide))
      replace hx2 := hid hx2
      clear hr' b' hx' h2' hB' hL' bs
      go_wp2_with fail
      clear kg fg k12 k13
      generalize (w2.setCell ⟨w.heap.size + 1, 0, none⟩ (.int .u64 v1)) = w3 at hx2 h22 hr2 hB2 hL2 ⊢
      refine (Hc2.out w3 hr2.out).mono ?_
      rintro e w4 ⟨rfl, hr', b'⟩
      have hx' := b'.at hx2.out (show w.heap.size + 1 ≠ rb by omega)
      have h2' := b'.at h22.out (show w.heap.size ≠ rb by omega)
      have hB' := hB2.out.trans (Rb_below b' (show w.heap.size ≤ rb by omega) hB2.out.size)
      have hL' := hL2.out.keep (TyBut.rb (base := 0) (ts := [92]) hr2.out (by decide) (Nat.zero_le _) b') (by decide) (by decide) (by decide)
      have kg := cell_of hx' 1
      have fg := free_of hx' 1
      have bs := Rb.set (w := w4) (w.heap.size + 1) 1 (.int .u64 v2)
      have hx3 : RnC (w4.setCell ⟨w.heap.size + 1, 1, none⟩ (.int .u64 v2)) (w.heap.size + 1) (U v1) (U v2) (U a.s.made) vp vi vt vj vr vs vk vl vm rb false := setCell_at hx' 1 _
      have k12 := cell_of hx3 12
      have k13 := cell_of hx3 13
      have h23 := hid (bs.at h2' (show w.heap.size ≠ w.heap.size + 1 by omega))
      have hr3 := hid (bs.at hr' (show rb ≠ w.heap.size + 1 by omega))
      have hB3 := hid (hB'.trans (Rb_below bs (show w.heap.size ≤ w.heap.size + 1 by omega) hB'.size))
      have hL3 := hid (hL'.keep (TyBut.rb (base := 0) (ts := [89]) hx' (by decide) (Nat.zero_le _) bs) (by decide) (by decide) (by decide))
      replace hx3 := hid hx3
      clear hr' b' hx' h2' hB' hL' bs
      go_wp2_with fail
      clear kg fg k12 k13
      generalize (w4.setCell ⟨w.heap.size + 1, 1, none⟩ (.int .u64 v2)) = w5 at hx3 h23 hr3 hB3 hL3 ⊢
      refine (Hc3.out w5 hr3.out).mono ?_
      rintro e w6 ⟨rfl, hr', b'⟩
      have hx' := b'.at hx3.out (show w.heap.size + 1 ≠ rb by omega)
      have h2' := b'.at h23.out (show w.heap.size ≠ rb by omega)
      have hB' := hB3.out.trans (Rb_below b' (show w.heap.size ≤ rb by omega) hB3.out.size)
      have hL' := hL3.out.keep (TyBut.rb (base := 0) (ts := [92]) hr3.out (by decide) (Nat.zero_le _) b') (by decide) (by decide) (by decide)
      have kg := cell_of hx' 2
      have fg := free_of hx' 2
      have bs := Rb.set (w := w6) (w.heap.size + 1) 2 (.int .u64 v3)
      have hx4 : RnC (w6.setCell ⟨w.heap.size + 1, 2, none⟩ (.int .u64 v3)) (w.heap.size + 1) (U v1) (U v2) (U v3) vp vi vt vj vr vs vk vl vm rb false := setCell_at hx' 2 _
      have k12 := cell_of hx4 12
      have k13 := cell_of hx4 13
      have h24 := hid (bs.at h2' (show w.heap.size ≠ w.heap.size + 1 by omega))
      have hr4 := hid (bs.at hr' (show rb ≠ w.heap.size + 1 by omega))
      have hB4 := hid (hB'.trans (Rb_below bs (show w.heap.size ≤ w.heap.size + 1 by omega) hB'.size))
      have hL4 := hid (hL'.keep (TyBut.rb (base := 0) (ts := [89]) hx' (by decide) (Nat.zero_le _) bs) (by decide) (by decide) (by decide))
      replace hx4 := hid hx4
      clear hr' b' hx' h2' hB' hL' bs
      go_wp2_with fail
      clear kg fg k12 k13
      generalize (w6.setCell ⟨w.heap.size + 1, 2, none⟩ (.int .u64 v3)) = w7 at hx4 h24 hr4 hB4 hL4 ⊢
      replace hL4 := hid (show ListsOwn w7 (w.heap.size + 1) { a.s with pos := v1, done := v2, made := v3 } vp vi vt vj vr vs vk vl vm from ⟨hL4.out.procs, hL4.out.insts, hL4.out.tokens, hL4.out.jobs, hL4.out.timers, hL4.out.subs, hL4.out.kept, hL4.out.listed, hL4.out.msgs⟩)
      refine (rrEnd_any _ _ w7 hr4.out).mono ?_
      rintro e wz ⟨rfl, hwz⟩
      obtain rfl : w7 = wz := hwz
      cases hE : endR r3 == 0
      ·
       have hE' : (endR r3 != 0) = true := by rw [bne, hE]; rfl
       have hE2 := hid (show endR r3 ≠ 0 from fun h => by rw [h] at hE; cases hE)
       obtain ⟨y0, z0, y1, z1, y2, z2, y3, z3, y4, z4, y5, z5, y6, z6, y7, z7, y8, z8, y9, z9, y10, z10, y11, z11⟩ := cells0_at h24.out
       go_wp2
       obtain ⟨e2, eb⟩ := set12 h24.out (.int .u64 0) (.int .u64 0) (.int .u64 0) (.slice none 0 0) (.slice none 0 0) (.slice none 0 0) (.slice none 0 0) (.slice none 0 0) (.slice none 0 0) (.slice none 0 0) (.slice none 0 0) (.slice none 0 0)
       exact zero_end _ rfl rfl e2 (hbad.out (HN.out.trans (if_pos hE2.out))) (hB4.out.trans (Rb_below eb (Nat.le_refl _) hB4.out.size))
      ·
       have hE' : (endR r3 != 0) = false := by rw [bne, hE]; rfl
       have hE2 := hid (show endR r3 = 0 from by simpa using hE)
       clear hE
       go_wp2
       go_roundw
       case rel =>
        refine ⟨0 + 1, by omega, by go_num, _, HN.out.trans (if_neg (fun h => h hE2.out)), ⟨fun _ => ⟨_, Hx.out, rfl, rfl, .inl rfl⟩, by simp⟩, h24.out, ⟨_, _, _, _, _, _, _, _, _, _, hx4.out, hL4.out⟩, hB4.out⟩
       case measure => simp [intOf] <;> omega
     | succ j' =>
      obtain ⟨⟨pk, pv⟩, hxp, hlast, hfst, hge⟩ := Hla.out.last (by omega)
      rw [Nat.add_sub_cancel] at hxp
      obtain ⟨b', off', cap', he, d0p, -⟩ := rows_at H.out hxp
      cases he
      dsimp only at d0p hge hlast
      have P0 := (HBw.out.cell (p := ⟨b, off + j' * 2, none⟩) (World.block_lt_of_cell? w _ d0p)).trans d0p
      have hpz : pk.size ≤ 4611686018427387904 := by have := (Hsz.out _ (List.mem_of_getElem? hxp)).1; unfold Sz at this; dsimp only at this; omega
      have Hlast := hid hlast
      have Hfst := hid hfst
      have Hge := hid hge
      obtain ⟨pp, vp, vi, vt, vj, vr, vs, vk, vl, vm, hx, hL⟩ := HH.out
      have hlx0 := heap_lt hx
      replace hx := hid hx
      replace hL := hid hL
      clear hxp hlast hfst hge d0p HH
      have g0 : decide (0 < ((j' : Int) + 1)) = true := decide_eq_true (by omega)
      have hl' : l0.length + 1 ≤ 2097152 := hl
      have wj : wrap64 (j' : Int) = j' := by unfold wrap64; omega
      go_wp2_with fail
      clear P0
      refine (less_any pk rk wr hpz).mono ?_
      rintro e w0 ⟨rfl, nd, hwd⟩
      have hb0 : Below wr.heap.size wr w0 := by rw [hwd]; exact below_drewN (Below.refl _ _) nd
      clear hwd
      have h20 := hid ((hb0.block _ (heap_lt H2.out)).trans H2.out)
      have hx0 := hid ((hb0.block _ (heap_lt hx.out)).trans hx.out)
      have hL0 := hid (hL.out.keepC (cells_below hb0) (by simp) (by simp) (by simp))
      have hB0 := hid (HBw.out.trans (hb0.mono HBw.out.size))
      have hsz0 := hb0.size
      have D10 := hid ((hb0.cell (p := ⟨b, off + (j' + 1) * 2 + 1, none⟩) (World.block_lt_of_cell? wr _ D1.out)).trans D1.out)
      clear hb0 D0 D1 H2 hx hL HBw
      cases hlts : ltS pk rk
      ·
       skip
       obtain ⟨y0, z0, y1, z1, y2, z2, y3, z3, y4, z4, y5, z5, y6, z6, y7, z7, y8, z8, y9, z9, y10, z10, y11, z11⟩ := cells0_at h20.out
       go_wp2
       obtain ⟨e2, eb⟩ := set12 h20.out (.int .u64 0) (.int .u64 0) (.int .u64 0) (.slice none 0 0) (.slice none 0 0) (.slice none 0 0) (.slice none 0 0) (.slice none 0 0) (.slice none 0 0) (.slice none 0 0) (.slice none 0 0) (.slice none 0 0)
       exact zero_end _ rfl rfl e2 (hbad.out (Hnext.out.trans (rds_lt a Hfst.out rk rv (by rw [Hlast.out]; exact hlts)))) (hB0.out.trans (Rb_below eb (Nat.le_refl _) hB0.out.size))
      ·
       have h0 := ltS_emp hlts
       have Hgt : Hid (ltS (c1 97) rk = true) := by
        show _ = _
        rcases Hge.out with h | h
        ·
         rw [← h, Hlast.out]; exact hlts
        ·
         rw [Hlast.out] at h; exact ltS_trans h hlts
       have hne : rk ≠ c1 97 := fun h => by have := Hgt.out; rw [h, ltS_irr] at this; cases this
       have hget : ∀ h : 0 < rk.size, (rk[0]'h).toNat = (rk.data.toList.headD 0).toNat := fun h => head_get rk h
       have hka := key_a h0
       have Hn := fun c hc => Hnext.out.trans (rds a Hfst.out rk rv (by rw [Hlast.out]; exact hlts) hne c hc)
       replace Hn := hid (Hn _ rfl)
       have hc256 : (rk.data.toList.headD 0).toNat < 256 := UInt8.toNat_lt _
       generalize (rk.data.toList.headD 0).toNat = c at hget hka Hn hc256
       have hne' := hid hne
       have hka' := hid hka
       have hlts' := hid hlts
       clear hne hka hlts
       replace hget := hid (hget h0)
       go_wp2_with fail
       rw [hget.out]
       refine (size14_any c hc256 w0).mono ?_
       rintro e w1 ⟨rfl, hw⟩
       obtain rfl : w0 = w1 := hw.symm
       have hsk : sizeK c = -2 ∨ sizeK c = 0 ∨ sizeK c = -1 ∨ sizeK c = 8 ∨ sizeK c = 10 := by unfold sizeK; (repeat' split) <;> simp
       have hrs : (rk.extract 1 rk.size).size = rk.size - 1 := by simp
       have hkz : rk.size ≤ 2097152 := hsx.1
       rcases hsk with hk | hk | hk | hk | hk <;> rw [hk]
       ·
        skip
        obtain ⟨y0, z0, y1, z1, y2, z2, y3, z3, y4, z4, y5, z5, y6, z6, y7, z7, y8, z8, y9, z9, y10, z10, y11, z11⟩ := cells0_at h20.out
        go_wp2
        obtain ⟨e2, eb⟩ := set12 h20.out (.int .u64 0) (.int .u64 0) (.int .u64 0) (.slice none 0 0) (.slice none 0 0) (.slice none 0 0) (.slice none 0 0) (.slice none 0 0) (.slice none 0 0) (.slice none 0 0) (.slice none 0 0) (.slice none 0 0)
        exact zero_end _ rfl rfl e2 (hbad.out (Hn.out.trans (if_pos hk))) (hB0.out.trans (Rb_below eb (Nat.le_refl _) hB0.out.size))
       ·
        by_cases hq : rk.size = 1
        ·
         exact absurd (hka'.out (by revert hk; unfold sizeK; (repeat' split) <;> first | (intro _; assumption) | (intro h; cases h)) hq) hne'.out
        ·
         skip
         have ew : (wrap64 ((rk.size : Int) - 1) != 0) = true := by rw [show wrap64 ((rk.size : Int) - 1) = (rk.size : Int) - 1 from by unfold wrap64; omega]; simp; omega
         obtain ⟨y0, z0, y1, z1, y2, z2, y3, z3, y4, z4, y5, z5, y6, z6, y7, z7, y8, z8, y9, z9, y10, z10, y11, z11⟩ := cells0_at h20.out
         go_wp2
         obtain ⟨e2, eb⟩ := set12 h20.out (.int .u64 0) (.int .u64 0) (.int .u64 0) (.slice none 0 0) (.slice none 0 0) (.slice none 0 0) (.slice none 0 0) (.slice none 0 0) (.slice none 0 0) (.slice none 0 0) (.slice none 0 0) (.slice none 0 0)
         exact zero_end _ rfl rfl e2 (hbad.out (Hn.out.trans (by rw [if_neg (by rw [hk]; decide), if_pos ⟨by rw [hk]; decide, by rw [hk, hrs]; omega⟩]))) (hB0.out.trans (Rb_below eb (Nat.le_refl _) hB0.out.size))
       ·
        skip
        obtain rfl : c = 112 := by revert hk; unfold sizeK; (repeat' split) <;> first | (intro _; assumption) | (intro h; cases h)
        have hsz9 : 0 ≤ sizeK 112 → (((rk.extract 1 rk.size).size : Nat) : Int) = sizeK 112 := by intro h; rw [hk] at h; omega
        have hKN := rowKN_ok 112 (rk.extract 1 rk.size) hsz9
        have Hn2 := Hn.out.trans (by rw [if_neg (by rw [hk]; decide), if_neg (fun h => h.2 (hsz9 h.1))])
        have d1 := D10.out
        have k12 := cell_of hx0.out 12
        have f12 := free_of hx0.out 12
        have hxa := (alloc_old (.cells #[.string rv, .int .i64 0] 92) (heap_lt hx0.out)).trans hx0.out
        have hx1 : RnC ((w0.alloc (.cells #[.string rv, .int .i64 0] 92)).setCell ⟨w.heap.size + 1, 12, none⟩ (.pointer (some ⟨w0.heap.size, 0, none⟩))) (w.heap.size + 1) (U a.s.pos) (U a.s.done) (U a.s.made) vp vi vt vj vr vs vk vl vm w0.heap.size false := setCell_at hxa 12 _
        have k12b := cell_of hx1 12
        have k12a := cell_of hxa 12
        have f12a := free_of hxa 12
        replace hxa := hid hxa
        replace hx1 := hid hx1
        go_wp2_with fail
        clear k12 f12 hxa hx1 k12a f12a
        obtain ⟨hx1, hL1, hr1, hb1⟩ := rr13 hx0.out hL0.out rv
        have hlx := heap_lt hx0.out
        have h21 := hid (hb1.at h20.out (by omega))
        have hB1 := hid (hB0.out.trans (Rb_below hb1 (by omega) hB0.out.size))
        replace hx1 := hid hx1
        replace hL1 := hid hL1
        replace hr1 := hid hr1
        clear hb1
        clear k12b d1 wj g0
        generalize ((w0.alloc (.cells #[.string rv, .int .i64 0] 92)).setCell ⟨w.heap.size + 1, 12, none⟩ (.pointer (some ⟨w0.heap.size, 0, none⟩))) = w1 at hx1 hL1 hr1 h21 hB1 ⊢
        have hrbx : w.heap.size + 1 < w0.heap.size := hlx
        generalize w0.heap.size = rb at hx1 hr1 hrbx ⊢
        clear hlx
        clear h20 hx0 hL0 hB0
        have hm := hid (((read_ok (l := (x0 :: l0).take (j' + 1)) (fun x hx => Hsz.out x (List.mem_of_mem_take hx)) Hra.out).each).mono (m := 2097152) (by rw [List.length_take]; omega))
        have hlr := heap_lt hr1.out
        have Hn3 := Hn2
        rw [show ∀ k n i s r, stepOf 112 k n i s r = stepP i s r from fun _ _ _ _ _ => rfl] at Hn3
        clear Hn2 hKN
        obtain ⟨⟨v1, r1⟩, hq1⟩ : ∃ p, textR 16384 ⟨rv, 0⟩ = p := ⟨_, rfl⟩
        have Hc1 : Hid (∀ W : World, W.cell? ⟨(w.heap.size + 1), 12, none⟩ = some (.pointer (some ⟨rb, 0, none⟩)) → IsR 92 W rb ⟨rv, 0⟩ → Calls Tryz.prog 38 #[.pointer (some ⟨(w.heap.size + 1), 0, none⟩)] W fun e w' => e = .returned (.string v1) ∧ IsR 92 w' rb r1 ∧ Rb rb W w') := fun W hX hR => by have := refText_any (w.heap.size + 1) rb ⟨rv, 0⟩ W hX hR (by show rv.size ≤ _; have := hsx.2; unfold Sz at this; omega); rw [hq1] at this; exact this
        have hst : stepP (rk.extract 1 rk.size) a.s ⟨rv, 0⟩ = ⟨{ a.s with procs := a.s.procs ++ [⟨rk.extract 1 rk.size, v1⟩] }, r1, false⟩ := by simp only [stepP, hq1]
        rw [hst] at Hn3
        dsimp only at Hn3
        replace Hn3 := hid Hn3
        clear hst hq1
        obtain ⟨css, a1, a2, a3, hown⟩ := hL1.out.procs
        obtain ⟨ak, ck, rfl⟩ := own_slice hown
        have n3 := hid (own_ne hown hx1.out (by decide))
        have n5 := hid (own_ne hown hr1.out (by decide))
        have n6 := hid (own_lt hown)
        have Hown := hid hown
        have A1 := hid a1
        have A2 := hid a2
        have A3 := hid a3
        clear hown a1 a2 a3
        have hpl : a.s.procs.length ≤ 2097152 := hm.out.procs
        have n1 : w.heap.size + 1 ≠ rb := by omega
        have hb1w : w.heap.size + 1 ≤ w1.heap.size := by omega
        refine Ps.wp_par (Ps.relC (fun b => b = rb ∨ ownB (.slice ak a.s.procs.length ck) b) (fun b _ => b = (w.heap.size + 1))) (fun W => IsR 92 W rb ⟨rv, 0⟩ ∧ W.ownsRow (w.heap.size + 1) 95 2 (.slice ak a.s.procs.length ck) a.s.procs.length css.flatten) (false :: false :: false :: false :: false :: false :: false :: false :: false :: true :: false :: false :: true :: []) _ (.fix ?_ :: .fix ?_ :: .fix ?_ :: .fix ?_ :: .fix ?_ :: .fix ?_ :: .fix ?_ :: .fix ?_ :: .fix ?_ :: .sf (.string v1) (fun W => IsR 92 W rb r1 ∧ W.ownsRow (w.heap.size + 1) 95 2 (.slice ak a.s.procs.length ck) a.s.procs.length css.flatten) :: .fix ?_ :: .new (Ps.rowN 2 ?_ ?_ w1.heap.size) :: .st (some (a.s.procs.length + 1)) (fun _ _ => True) (fun u W => IsR 92 W rb r1 ∧ W.ownsRow (w.heap.size + 1) 95 2 u (a.s.procs.length + 1) (css.flatten ++ [.string (rk.extract 1 rk.size), .string v1])) :: []) (by kernel_rfl) (by kernel_rfl) (by simp only [List.length_cons, List.length_nil, List.drop_succ_cons, List.drop_zero, List.drop_nil]; with_reducible rfl) rfl (fun _ _ _ _ _ => ⟨fun h => h, fun h => h⟩) (fun _ _ h hb => ⟨h.1.grow hb, own_below h.2 hb⟩) (⟨hr1.out, Hown.out⟩) ?_
        rotate_left 12
        iterate 9
         first
          | (refine Ps.par_skip (a' := ?_) (by rfl) (by rfl) ?_ ?_ ?_; rotate_left 1; with_reducible rfl; (simp only [lays]; with_reducible rfl))
          | (refine Ps.par_run (a' := ?_) (by rfl) (by rfl) (fun w' hb hn => ?_) ?_ ?_; rotate_left 1; (have q12 := hb.2 (w.heap.size + 1) 12 _ rfl (cell_of hx1.out 12); have q3 := hb.2 (w.heap.size + 1) 3 _ rfl (cell_of hx1.out 3); go_simp; (try simp (disch := omega) only [nrm, toNatUp, iteOmega]); first | with_reducible rfl | (go_simp; with_reducible rfl)); (simp only [lays]; with_reducible rfl))
        refine Ps.par_sf (a' := ?_) (f := ?_) (args := ?_) (by rfl) (by rfl) (fun w' => ?_) (fun _ _ h hb => ⟨h.1.grow hb, own_below h.2 hb⟩) (fun w' hb hn hr => ?_) ?_ ?_; rotate_left 3; (go_simp; constructor <;> with_reducible rfl); (exact (Hc1.out w' (hb.2 (w.heap.size + 1) 12 _ rfl (cell_of hx1.out 12)) hr.1).mono (fun e w2 ⟨he, h2, b2⟩ => ⟨he, ⟨b2.mono (fun _ _ h => .inl h), fun b i v hs hc => But.cell b2 hc (by subst hs; exact n1)⟩, h2, own_at hr.2 b2 (fun g hg he => n5.out (he ▸ hg))⟩)); (simp only [lays]; with_reducible rfl)
        iterate 1
         first
          | (refine Ps.par_skip (a' := ?_) (by rfl) (by rfl) ?_ ?_ ?_; rotate_left 1; with_reducible rfl; (simp only [lays]; with_reducible rfl))
          | (refine Ps.par_run (a' := ?_) (by rfl) (by rfl) (fun w' hb hn => ?_) ?_ ?_; rotate_left 1; (have q12 := hb.2 (w.heap.size + 1) 12 _ rfl (cell_of hx1.out 12); have q3 := hb.2 (w.heap.size + 1) 3 _ rfl (cell_of hx1.out 3); go_simp; (try simp (disch := omega) only [nrm, toNatUp, iteOmega]); first | with_reducible rfl | (go_simp; with_reducible rfl)); (simp only [lays]; with_reducible rfl))
        refine Ps.par_row (a' := ?ap2k11) (m := ?mp2k11) (T := ?Tp2k11) (cs := ?cp2k11) (r := ?rp2k11) (fun b h => h.elim (fun h => by omega) (n6.out b)) (by rfl) (by rfl) (fun w' hb hn => ?hp2k11) (fun w' => ?ep2k11) ?np2k11 ?vp2k11 ?lp2k11 ?xp2k11 (fun u => ?pp2k11) (fun u => ?gp2k11)
        case hp2k11 => (have q12 := hb.2 (w.heap.size + 1) 12 _ rfl (cell_of hx1.out 12); have q3 := hb.2 (w.heap.size + 1) 3 _ rfl (cell_of hx1.out 3); go_simp; (try simp (disch := omega) only [nrm, toNatUp, iteOmega]); with_reducible rfl)
        case ep2k11 => with_reducible rfl
        case np2k11 => with_reducible rfl
        case vp2k11 => with_reducible rfl
        case lp2k11 => simp only [List.length_cons, List.length_nil]
        case xp2k11 => (unfold maxLen; omega)
        case pp2k11 => (simp only [lays]; with_reducible rfl)
        refine Ps.par_app (a' := ?ap3k12) (A := fun W => IsR 92 W rb r1) 23 95 Tryz.underlying23 info_procs rfl (by decide) hb1w (by unfold maxLen; omega) (by omega) (by simp [Value.oneCell']) (fun _ _ h ho hb => (hb.block rb (heap_lt h) n5.out).trans h) (fun _ _ h hb => h.grow hb) (fun _ h => .inr h) (fun b i hs hb => by subst hs; exact n3.out hb) (by rfl) rfl rfl rfl rfl (fun w' hb hn => ?xp3k12) (fun u => ?pp3k12) (fun u hu12 => ?gp3k12)
        case xp3k12 => (exact (Ps.need_head hn (by kernel_rfl)).1)
        case pp3k12 => (simp only [lays]; with_reducible rfl)
        obtain ⟨au12, cu12, rfl⟩ := hu12
        refine Ps.par_end (fun w9 hb9 hf9 hr9 => ?_)
        try refine Ps.wpList_none ?_
        have T9 : TyBut (w.heap.size + 1) [92, 89, 95] w1 w9 := hb9.1.mono (fun i _ hi => hi.elim (fun h => h ▸ ⟨_, _, _, hr1.out, by decide, by omega⟩) (fun h => own_ty Hown.out (by decide) h))
        have Hx9 : RnC w9 (w.heap.size + 1) (U a.s.pos) (U a.s.done) (U a.s.made) (.slice ak a.s.procs.length ck) vi vt vj vr vs vk vl vm rb false := (hb9.1.block (w.heap.size + 1) (heap_lt hx1.out) (fun h => h.elim n1 n3.out)).trans hx1.out
        have hr10 := hr9.1
        have Ho9 := hid hr9.2
        have k9 := cell_of Hx9 3
        have f9 := free_of Hx9 3
        clear hb9 hf9 hr9
        have hs9 : RnC (w9.setCell ⟨(w.heap.size + 1), 3, none⟩ (.slice au12 (a.s.procs.length + 1) cu12)) (w.heap.size + 1) (U a.s.pos) (U a.s.done) (U a.s.made) (.slice au12 (a.s.procs.length + 1) cu12) vi vt vj vr vs vk vl vm rb false := setCell_at Hx9 3 (.slice au12 (a.s.procs.length + 1) cu12)
        have T10 : TyBut (w.heap.size + 1) [89] w9 (w9.setCell ⟨(w.heap.size + 1), 3, none⟩ (.slice au12 (a.s.procs.length + 1) cu12)) := TyBut.set Hx9 (by decide) (Nat.le_refl _) 3 _
        have hr11 := hid (T10.at hr10 (by decide))
        have k12 := cell_of hs9 12
        have k13 := cell_of hs9 13
        have T : TyBut (w.heap.size + 1) [92, 89, 95] w1 (w9.setCell ⟨(w.heap.size + 1), 3, none⟩ (.slice au12 (a.s.procs.length + 1) cu12)) := T9.trans (T10.weak (by decide))
        have hL10 : ListsOwn (w9.setCell ⟨(w.heap.size + 1), 3, none⟩ (.slice au12 (a.s.procs.length + 1) cu12)) (w.heap.size + 1) { a.s with procs := a.s.procs ++ [⟨rk.extract 1 rk.size, v1⟩] } (.slice au12 (a.s.procs.length + 1) cu12) vi vt vj vr vs vk vl vm := by
         have hL := hL1.out
         exact ⟨(LOwn.snoc A1.out A2.out (fun i cs x hc hx => DepV.ost _ _ _ _ _ _ (by decide) (by decide) (A3.out i cs x hc hx) T9.kept) ⟨rfl, by simp [Value.oneCell']⟩ rfl Ho9.out).keep DepV.ost T10 (by decide) (by decide) (by decide), hL.insts.keep InstV.ost T (by decide) (by decide) (by decide), hL.tokens.keep TokV.ost T (by decide) (by decide) (by decide), hL.jobs.keep JobV.ost T (by decide) (by decide) (by decide), hL.timers.keep TimV.ost T (by decide) (by decide) (by decide), hL.subs.keep SubV.ost T (by decide) (by decide) (by decide), hL.kept.keep KeptV.ost T (by decide) (by decide) (by decide), hL.listed.keep LisV.ost T (by decide) (by decide) (by decide), hL.msgs.keep MsgV.ost T (by decide) (by decide) (by decide)⟩
        have hBe := hid (hB1.out.trans ((T.below hb1w).mono (show w.heap.size ≤ w.heap.size + 1 by omega)))
        have h2e := hid (((T.below hb1w).block w.heap.size (by omega)).trans h21.out)
        replace hs9 := hid hs9
        replace hL10 := hid hL10
        clear T T10 T9 hr10 Hx9
        go_wp2_with fail
        clear k9 f9 k12 k13
        generalize w9.setCell ⟨(w.heap.size + 1), 3, none⟩ (.slice au12 (a.s.procs.length + 1) cu12) = w10 at hs9 hL10 hr11 hBe h2e ⊢
        refine (rrEnd_any _ _ w10 hr11.out).mono ?_
        rintro e wz ⟨rfl, hwz⟩
        obtain rfl : w10 = wz := hwz
        cases hE : endR r1 == 0
        ·
         have hE' : (endR r1 != 0) = true := by rw [bne, hE]; rfl
         have hE2 := hid (show endR r1 ≠ 0 from fun h => by rw [h] at hE; cases hE)
         obtain ⟨y0, z0, y1, z1, y2, z2, y3, z3, y4, z4, y5, z5, y6, z6, y7, z7, y8, z8, y9, z9, y10, z10, y11, z11⟩ := cells0_at h2e.out
         go_wp2
         obtain ⟨e2, eb⟩ := set12 h2e.out (.int .u64 0) (.int .u64 0) (.int .u64 0) (.slice none 0 0) (.slice none 0 0) (.slice none 0 0) (.slice none 0 0) (.slice none 0 0) (.slice none 0 0) (.slice none 0 0) (.slice none 0 0) (.slice none 0 0)
         exact zero_end _ rfl rfl e2 (hbad.out (Hn3.out.trans (if_pos (.inr hE2.out)))) (hBe.out.trans (Rb_below eb (Nat.le_refl _) hBe.out.size))
        ·
         have hE' : (endR r1 != 0) = false := by rw [bne, hE]; rfl
         have hE2 := hid (show endR r1 = 0 from by simpa using hE)
         clear hE
         go_wp2
         go_roundw
         case rel =>
          refine ⟨j' + 1 + 1, by omega, by go_num, _, Hn3.out.trans (if_neg (by rw [hE2.out]; simp)), ⟨fun _ => ⟨_, Hx.out, rfl, rfl, .inr Hgt.out⟩, by simp⟩, h2e.out, ⟨_, _, _, _, _, _, _, _, _, _, hs9.out, hL10.out⟩, hBe.out⟩
         case measure => simp [intOf] <;> omega
       ·
        by_cases hq : rk.size = 9
        ·
         skip
         have ew : (wrap64 ((rk.size : Int) - 1) != 8) = false := by rw [show wrap64 ((rk.size : Int) - 1) = (rk.size : Int) - 1 from by unfold wrap64; omega]; simp; omega
         have hsz9 : 0 ≤ sizeK c → (((rk.extract 1 rk.size).size : Nat) : Int) = sizeK c := by intro _; rw [hk, hrs]; omega
         have hKN := rowKN_ok c (rk.extract 1 rk.size) hsz9
         have Hn2 := Hn.out.trans (by rw [if_neg (by rw [hk]; decide), if_neg (fun h => h.2 (hsz9 h.1))])
         have hq9 : 9 ≤ rk.size := by omega
         replace hq := hid hq
         have d1 := D10.out
         have k12 := cell_of hx0.out 12
         have f12 := free_of hx0.out 12
         have hxa := (alloc_old (.cells #[.string rv, .int .i64 0] 92) (heap_lt hx0.out)).trans hx0.out
         have hx1 : RnC ((w0.alloc (.cells #[.string rv, .int .i64 0] 92)).setCell ⟨w.heap.size + 1, 12, none⟩ (.pointer (some ⟨w0.heap.size, 0, none⟩))) (w.heap.size + 1) (U a.s.pos) (U a.s.done) (U a.s.made) vp vi vt vj vr vs vk vl vm w0.heap.size false := setCell_at hxa 12 _
         have k12b := cell_of hx1 12
         have k12a := cell_of hxa 12
         have f12a := free_of hxa 12
         replace hxa := hid hxa
         replace hx1 := hid hx1
         go_wp2_with fail
         clear k12 f12 hxa hx1 k12a f12a
         obtain ⟨hx1, hL1, hr1, hb1⟩ := rr13 hx0.out hL0.out rv
         have hlx := heap_lt hx0.out
         have h21 := hid (hb1.at h20.out (by omega))
         have hB1 := hid (hB0.out.trans (Rb_below hb1 (by omega) hB0.out.size))
         replace hx1 := hid hx1
         replace hL1 := hid hL1
         replace hr1 := hid hr1
         clear hb1
         clear k12b d1 ew wj g0
         generalize ((w0.alloc (.cells #[.string rv, .int .i64 0] 92)).setCell ⟨w.heap.size + 1, 12, none⟩ (.pointer (some ⟨w0.heap.size, 0, none⟩))) = w1 at hx1 hL1 hr1 h21 hB1 ⊢
         have hrbx : w.heap.size + 1 < w0.heap.size := hlx
         generalize w0.heap.size = rb at hx1 hr1 hrbx ⊢
         clear hlx
         clear h20 hx0 hL0 hB0
         have hm := hid (((read_ok (l := (x0 :: l0).take (j' + 1)) (fun x hx => Hsz.out x (List.mem_of_mem_take hx)) Hra.out).each).mono (m := 2097152) (by rw [List.length_take]; omega))
         have hlr := heap_lt hr1.out
         have hKNe : rowKN c (rk.extract 1 rk.size) = (numK (rk.extract 1 rk.size), (numK ((rk.extract 1 rk.size).extract 8 (rk.extract 1 rk.size).size) : Int)) := by unfold rowKN; rw [if_pos (by rw [hk]; decide)]; rw [ext0 (by rw [hrs]; have := hq.out; omega)]
         rw [hKNe] at hKN Hn2
         dsimp only at hKN Hn2
         replace Hn2 := hid Hn2
         clear hKNe
         obtain ⟨K, hKd⟩ : ∃ K, K = numK (rk.extract 1 rk.size) := ⟨_, rfl⟩
         obtain ⟨Nd, hNd⟩ : ∃ Nd : Int, Nd = (numK ((rk.extract 1 rk.size).extract 8 (rk.extract 1 rk.size).size) : Int) := ⟨_, rfl⟩
         rw [← hKd, ← hNd] at Hn2 hKN
         replace Hn2 := Hn2.out
         have Hn3 := hid Hn2
         clear Hn2
         have hKd' := hid hKd
         have hNd' := hid hNd
         clear hKd hNd
         refine Ps.wp_par (Ps.relC (fun b => w.heap.size + 1 ≤ b) (fun _ _ => False)) (fun W => RnB W (w.heap.size + 1) (w.heap.size + 1) rb a.s false ∧ IsR 92 W rb ⟨rv, 0⟩) (false :: false :: false :: false :: false :: false :: true :: []) _ (.fix ?_ :: .fix ?_ :: .fix (.int .u8 (c : Int)) :: .fix ?_ :: .fix ?_ :: .fix (.int .u64 K) :: .sf (.tuple #[]) (fun W => RnB W (w.heap.size + 1) (w.heap.size + 1) rb (stepOf c K Nd (rk.extract 1 rk.size) a.s ⟨rv, 0⟩).s (false || (stepOf c K Nd (rk.extract 1 rk.size) a.s ⟨rv, 0⟩).bad) ∧ IsR 92 W rb (stepOf c K Nd (rk.extract 1 rk.size) a.s ⟨rv, 0⟩).r) :: []) (by kernel_rfl) (by kernel_rfl) (by simp only [List.length_cons, List.length_nil, List.drop_succ_cons, List.drop_zero, List.drop_nil]; with_reducible rfl) rfl (fun _ _ _ _ _ => ⟨fun h => h, fun h => h⟩) (fun _ _ h hb => ⟨h.1.grow hb, h.2.grow hb⟩) (⟨⟨_, _, _, _, _, _, _, _, _, hx1.out, hL1.out⟩, hr1.out⟩) ?_
         rotate_left 4
         iterate 2
          first
           | (refine Ps.par_skip (a' := ?_) (by rfl) (by rfl) ?_ ?_ ?_; rotate_left 1; with_reducible rfl; (simp only [lays]; with_reducible rfl))
           | (refine Ps.par_run (a' := ?_) (by rfl) (by rfl) (fun w' hb hn => ?_) ?_ ?_; rotate_left 1; (skip; go_simp; (try simp (disch := omega) only [nrm, toNatUp, iteOmega]); first | with_reducible rfl | (go_simp; with_reducible rfl)); (simp only [lays]; with_reducible rfl))
         refine Ps.par_run (a' := ?ap4k2) (by rfl) (by rfl) (fun w' hb hn => ?hp4k2) ?pp4k2 ?gp4k2
         case hp4k2 => (go_simp; first | done | rw [hget.out])
         case pp4k2 => (simp only [lays]; with_reducible rfl)
         iterate 2
          first
           | (refine Ps.par_skip (a' := ?_) (by rfl) (by rfl) ?_ ?_ ?_; rotate_left 1; with_reducible rfl; (simp only [lays]; with_reducible rfl))
           | (refine Ps.par_run (a' := ?_) (by rfl) (by rfl) (fun w' hb hn => ?_) ?_ ?_; rotate_left 1; (skip; go_simp; (try simp (disch := omega) only [nrm, toNatUp, iteOmega]); first | with_reducible rfl | (go_simp; with_reducible rfl)); (simp only [lays]; with_reducible rfl))
         refine Ps.par_call (a' := ?ap5k5) (f := ?fp5k5) (args := ?rp5k5) (by rfl) (by rfl) (fun w' => ?ep5k5) (fun w' hb hn => ?hp5k5) ?pp5k5 ?gp5k5
         case ep5k5 => (go_simp; constructor <;> with_reducible rfl)
         case hp5k5 => (rw [hKd'.out]; exact (rnumber14_any _ (by rw [extract_size]; have := hq.out; omega) w').mono (fun e w2 ⟨he, hw⟩ => ⟨he, hw ▸ Below.refl _ _⟩))
         case pp5k5 => (simp only [lays]; with_reducible rfl)
         refine Ps.par_sf (a' := ?_) (f := ?_) (args := ?_) (by rfl) (by rfl) (fun w' => ?_) (fun _ _ h hb => ⟨h.1.grow hb, h.2.grow hb⟩) (fun w' hb hn hr => ?_) ?_ ?_; rotate_left 3; (go_simp; constructor <;> with_reducible rfl); (exact (one_any c hk (rk.extract 1 rk.size) (w.heap.size + 1) rb K Nd false a.s ⟨rv, 0⟩ w' (w.heap.size + 1) (Nat.le_trans (by omega) hb.1.size) (Nat.le_refl _) (by omega) hr.1 hr.2 (by show rv.size ≤ _; have := hsx.2; unfold Sz at this; omega) hKN.1 hKN.2 hm.out).mono (fun e w2 ⟨he, h1, h2, h3⟩ => ⟨he, ⟨h3.mono (fun i _ hi => by obtain ⟨_, _, _, _, _, h⟩ := hi; exact h), fun _ _ _ h => h.elim⟩, h1, h2⟩)); (simp only [lays]; with_reducible rfl)
         refine Ps.par_end (fun w9 hb9 hf9 hr9 => ?_)
         try refine Ps.wpList_none ?_
         have Hn2 := Hn3.out
         clear Hn3
         have hBe := hid (hB1.out.trans ((But.below' (n := 0) hb9.1 (fun k h => h) (show w.heap.size + 1 ≤ w1.heap.size by omega)).mono (show w.heap.size ≤ w.heap.size + 1 by omega)))
         have h2e := hid ((hb9.1.block _ (heap_lt h21.out) (by omega)).trans h21.out)
         clear hb9 hf9
         revert hr9 Hn2
         generalize stepOf c K Nd (rk.extract 1 rk.size) a.s ⟨rv, 0⟩ = st
         obtain ⟨S', R', bd⟩ := st
         intro hr9 Hn2
         dsimp only [Bool.false_or] at hr9 Hn2
         replace Hn2 := hid Hn2
         obtain ⟨hrn, hr9⟩ := hr9
         replace hr9 := hid hr9
         obtain ⟨np, ni, nt, nj, nr, ns, nk, nl, nm, hx9, hL9⟩ := hrn
         have k12 := cell_of hx9 12
         have k13 := cell_of hx9 13
         replace hx9 := hid hx9
         replace hL9 := hid hL9
         cases bd
         ·
          go_wp2_with fail
          clear k12 k13
          refine (rrEnd_any _ _ w9 hr9.out).mono ?_
          rintro e wz ⟨rfl, hwz⟩
          obtain rfl : w9 = wz := hwz
          cases hE : endR R' == 0
          ·
           have hE' : (endR R' != 0) = true := by rw [bne, hE]; rfl
           have hE2 := hid (show endR R' ≠ 0 from fun h => by rw [h] at hE; cases hE)
           obtain ⟨y0, z0, y1, z1, y2, z2, y3, z3, y4, z4, y5, z5, y6, z6, y7, z7, y8, z8, y9, z9, y10, z10, y11, z11⟩ := cells0_at h2e.out
           go_wp2
           obtain ⟨e2, eb⟩ := set12 h2e.out (.int .u64 0) (.int .u64 0) (.int .u64 0) (.slice none 0 0) (.slice none 0 0) (.slice none 0 0) (.slice none 0 0) (.slice none 0 0) (.slice none 0 0) (.slice none 0 0) (.slice none 0 0) (.slice none 0 0)
           exact zero_end _ rfl rfl e2 (hbad.out (Hn2.out.trans (if_pos (.inr hE2.out)))) (hBe.out.trans (Rb_below eb (Nat.le_refl _) hBe.out.size))
          ·
           have hE' : (endR R' != 0) = false := by rw [bne, hE]; rfl
           have hE2 := hid (show endR R' = 0 from by simpa using hE)
           clear hE
           go_wp2
           go_roundw
           case rel =>
            refine ⟨j' + 1 + 1, by omega, by go_num, _, Hn2.out.trans (if_neg (by rw [hE2.out]; simp)), ⟨fun _ => ⟨_, Hx.out, rfl, rfl, .inr Hgt.out⟩, by simp⟩, h2e.out, ⟨_, _, _, _, _, _, _, _, _, _, hx9.out, hL9.out⟩, hBe.out⟩
           case measure => simp [intOf] <;> omega
         ·
          skip
          obtain ⟨y0, z0, y1, z1, y2, z2, y3, z3, y4, z4, y5, z5, y6, z6, y7, z7, y8, z8, y9, z9, y10, z10, y11, z11⟩ := cells0_at h2e.out
          go_wp2
          obtain ⟨e2, eb⟩ := set12 h2e.out (.int .u64 0) (.int .u64 0) (.int .u64 0) (.slice none 0 0) (.slice none 0 0) (.slice none 0 0) (.slice none 0 0) (.slice none 0 0) (.slice none 0 0) (.slice none 0 0) (.slice none 0 0) (.slice none 0 0)
          exact zero_end _ rfl rfl e2 (hbad.out (Hn2.out.trans (if_pos (.inl (by trivial))))) (hBe.out.trans (Rb_below eb (Nat.le_refl _) hBe.out.size))
        ·
         skip
         have ew : (wrap64 ((rk.size : Int) - 1) != 8) = true := by rw [show wrap64 ((rk.size : Int) - 1) = (rk.size : Int) - 1 from by unfold wrap64; omega]; simp; omega
         obtain ⟨y0, z0, y1, z1, y2, z2, y3, z3, y4, z4, y5, z5, y6, z6, y7, z7, y8, z8, y9, z9, y10, z10, y11, z11⟩ := cells0_at h20.out
         go_wp2
         obtain ⟨e2, eb⟩ := set12 h20.out (.int .u64 0) (.int .u64 0) (.int .u64 0) (.slice none 0 0) (.slice none 0 0) (.slice none 0 0) (.slice none 0 0) (.slice none 0 0) (.slice none 0 0) (.slice none 0 0) (.slice none 0 0) (.slice none 0 0)
         exact zero_end _ rfl rfl e2 (hbad.out (Hn.out.trans (by rw [if_neg (by rw [hk]; decide), if_pos ⟨by rw [hk]; decide, by rw [hk, hrs]; omega⟩]))) (hB0.out.trans (Rb_below eb (Nat.le_refl _) hB0.out.size))
       ·
        by_cases hq : rk.size = 11
        ·
         skip
         have ew : (wrap64 ((rk.size : Int) - 1) != 10) = false := by rw [show wrap64 ((rk.size : Int) - 1) = (rk.size : Int) - 1 from by unfold wrap64; omega]; simp; omega
         have hsz9 : 0 ≤ sizeK c → (((rk.extract 1 rk.size).size : Nat) : Int) = sizeK c := by intro _; rw [hk, hrs]; omega
         have hKN := rowKN_ok c (rk.extract 1 rk.size) hsz9
         have Hn2 := Hn.out.trans (by rw [if_neg (by rw [hk]; decide), if_neg (fun h => h.2 (hsz9 h.1))])
         have hq9 : 9 ≤ rk.size := by omega
         replace hq := hid hq
         have d1 := D10.out
         have k12 := cell_of hx0.out 12
         have f12 := free_of hx0.out 12
         have hxa := (alloc_old (.cells #[.string rv, .int .i64 0] 92) (heap_lt hx0.out)).trans hx0.out
         have hx1 : RnC ((w0.alloc (.cells #[.string rv, .int .i64 0] 92)).setCell ⟨w.heap.size + 1, 12, none⟩ (.pointer (some ⟨w0.heap.size, 0, none⟩))) (w.heap.size + 1) (U a.s.pos) (U a.s.done) (U a.s.made) vp vi vt vj vr vs vk vl vm w0.heap.size false := setCell_at hxa 12 _
         have k12b := cell_of hx1 12
         have k12a := cell_of hxa 12
         have f12a := free_of hxa 12
         replace hxa := hid hxa
         replace hx1 := hid hx1
         go_wp2_with fail
         clear k12 f12 hxa hx1 k12a f12a
         obtain ⟨hx1, hL1, hr1, hb1⟩ := rr13 hx0.out hL0.out rv
         have hlx := heap_lt hx0.out
         have h21 := hid (hb1.at h20.out (by omega))
         have hB1 := hid (hB0.out.trans (Rb_below hb1 (by omega) hB0.out.size))
         replace hx1 := hid hx1
         replace hL1 := hid hL1
         replace hr1 := hid hr1
         clear hb1
         clear k12b d1 ew wj g0
         generalize ((w0.alloc (.cells #[.string rv, .int .i64 0] 92)).setCell ⟨w.heap.size + 1, 12, none⟩ (.pointer (some ⟨w0.heap.size, 0, none⟩))) = w1 at hx1 hL1 hr1 h21 hB1 ⊢
         have hrbx : w.heap.size + 1 < w0.heap.size := hlx
         generalize w0.heap.size = rb at hx1 hr1 hrbx ⊢
         clear hlx
         clear h20 hx0 hL0 hB0
         have hm := hid (((read_ok (l := (x0 :: l0).take (j' + 1)) (fun x hx => Hsz.out x (List.mem_of_mem_take hx)) Hra.out).each).mono (m := 2097152) (by rw [List.length_take]; omega))
         have hlr := heap_lt hr1.out
         have hKNe : rowKN c (rk.extract 1 rk.size) = (numK (rk.extract 1 9), (numK (rk.extract 9 rk.size) : Int)) := by unfold rowKN; rw [if_pos (by rw [hk]; decide)]; rw [ext19 (by omega), ext9 (by omega)]
         rw [hKNe] at hKN Hn2
         dsimp only at hKN Hn2
         replace Hn2 := hid Hn2
         clear hKNe
         have hn16 : numK (rk.extract 9 rk.size) < 65536 := num2 _ (by rw [extract_size]; have := hq.out; omega)
         obtain ⟨K, hKd⟩ : ∃ K, K = numK (rk.extract 1 9) := ⟨_, rfl⟩
         obtain ⟨Nd, hNd⟩ : ∃ Nd : Int, Nd = (numK (rk.extract 9 rk.size) : Int) := ⟨_, rfl⟩
         have hNda : 0 ≤ Nd := by omega
         have hNdb : Nd < 65536 := by omega
         clear hn16
         rw [← hKd, ← hNd] at Hn2 hKN
         replace Hn2 := Hn2.out
         have Hn3 := hid Hn2
         clear Hn2
         have hKd' := hid hKd
         have hNd' := hid hNd
         clear hKd hNd
         refine Ps.wp_par (Ps.relC (fun b => w.heap.size + 1 ≤ b) (fun _ _ => False)) (fun W => RnB W (w.heap.size + 1) (w.heap.size + 1) rb a.s false ∧ IsR 92 W rb ⟨rv, 0⟩) (false :: false :: false :: false :: false :: false :: false :: false :: false :: false :: true :: []) _ (.fix ?_ :: .fix ?_ :: .fix (.int .u8 (c : Int)) :: .fix ?_ :: .fix ?_ :: .fix (.int .u64 K) :: .fix ?_ :: .fix ?_ :: .fix (.int .u64 Nd) :: .fix ?_ :: .sf (.tuple #[]) (fun W => RnB W (w.heap.size + 1) (w.heap.size + 1) rb (stepOf c K Nd (rk.extract 1 rk.size) a.s ⟨rv, 0⟩).s (false || (stepOf c K Nd (rk.extract 1 rk.size) a.s ⟨rv, 0⟩).bad) ∧ IsR 92 W rb (stepOf c K Nd (rk.extract 1 rk.size) a.s ⟨rv, 0⟩).r) :: []) (by kernel_rfl) (by kernel_rfl) (by simp only [List.length_cons, List.length_nil, List.drop_succ_cons, List.drop_zero, List.drop_nil]; with_reducible rfl) rfl (fun _ _ _ _ _ => ⟨fun h => h, fun h => h⟩) (fun _ _ h hb => ⟨h.1.grow hb, h.2.grow hb⟩) (⟨⟨_, _, _, _, _, _, _, _, _, hx1.out, hL1.out⟩, hr1.out⟩) ?_
         rotate_left 7
         iterate 2
          first
           | (refine Ps.par_skip (a' := ?_) (by rfl) (by rfl) ?_ ?_ ?_; rotate_left 1; with_reducible rfl; (simp only [lays]; with_reducible rfl))
           | (refine Ps.par_run (a' := ?_) (by rfl) (by rfl) (fun w' hb hn => ?_) ?_ ?_; rotate_left 1; (skip; go_simp; (try simp (disch := omega) only [nrm, toNatUp, iteOmega]); first | with_reducible rfl | (go_simp; with_reducible rfl)); (simp only [lays]; with_reducible rfl))
         refine Ps.par_run (a' := ?ap7k2) (by rfl) (by rfl) (fun w' hb hn => ?hp7k2) ?pp7k2 ?gp7k2
         case hp7k2 => (go_simp; first | done | rw [hget.out])
         case pp7k2 => (simp only [lays]; with_reducible rfl)
         iterate 2
          first
           | (refine Ps.par_skip (a' := ?_) (by rfl) (by rfl) ?_ ?_ ?_; rotate_left 1; with_reducible rfl; (simp only [lays]; with_reducible rfl))
           | (refine Ps.par_run (a' := ?_) (by rfl) (by rfl) (fun w' hb hn => ?_) ?_ ?_; rotate_left 1; (skip; go_simp; (try simp (disch := omega) only [nrm, toNatUp, iteOmega]); first | with_reducible rfl | (go_simp; with_reducible rfl)); (simp only [lays]; with_reducible rfl))
         refine Ps.par_call (a' := ?ap8k5) (f := ?fp8k5) (args := ?rp8k5) (by rfl) (by rfl) (fun w' => ?ep8k5) (fun w' hb hn => ?hp8k5) ?pp8k5 ?gp8k5
         case ep8k5 => (go_simp; constructor <;> with_reducible rfl)
         case hp8k5 => (rw [hKd'.out]; exact (rnumber14_any _ (by rw [extract_size]; have := hq.out; omega) w').mono (fun e w2 ⟨he, hw⟩ => ⟨he, hw ▸ Below.refl _ _⟩))
         case pp8k5 => (simp only [lays]; with_reducible rfl)
         iterate 2
          first
           | (refine Ps.par_skip (a' := ?_) (by rfl) (by rfl) ?_ ?_ ?_; rotate_left 1; with_reducible rfl; (simp only [lays]; with_reducible rfl))
           | (refine Ps.par_run (a' := ?_) (by rfl) (by rfl) (fun w' hb hn => ?_) ?_ ?_; rotate_left 1; (skip; go_simp; (try simp (disch := omega) only [nrm, toNatUp, iteOmega]); first | with_reducible rfl | (go_simp; with_reducible rfl)); (simp only [lays]; with_reducible rfl))
         refine Ps.par_call (a' := ?ap9k8) (f := ?fp9k8) (args := ?rp9k8) (by rfl) (by rfl) (fun w' => ?ep9k8) (fun w' hb hn => ?hp9k8) ?pp9k8 ?gp9k8
         case ep9k8 => (go_simp; constructor <;> with_reducible rfl)
         case hp9k8 => (rw [hNd'.out]; exact (rnumber14_any _ (by rw [extract_size]; have := hq.out; omega) w').mono (fun e w2 ⟨he, hw⟩ => ⟨he, hw ▸ Below.refl _ _⟩))
         case pp9k8 => (simp only [lays]; with_reducible rfl)
         iterate 1
          first
           | (refine Ps.par_skip (a' := ?_) (by rfl) (by rfl) ?_ ?_ ?_; rotate_left 1; with_reducible rfl; (simp only [lays]; with_reducible rfl))
           | (refine Ps.par_run (a' := ?_) (by rfl) (by rfl) (fun w' hb hn => ?_) ?_ ?_; rotate_left 1; (skip; go_simp; (try simp (disch := omega) only [nrm, toNatUp, iteOmega]); first | with_reducible rfl | (go_simp; with_reducible rfl)); (simp only [lays]; with_reducible rfl))
         refine Ps.par_sf (a' := ?_) (f := ?_) (args := ?_) (by rfl) (by rfl) (fun w' => ?_) (fun _ _ h hb => ⟨h.1.grow hb, h.2.grow hb⟩) (fun w' hb hn hr => ?_) ?_ ?_; rotate_left 3; (go_simp; constructor <;> with_reducible rfl); (exact (two_any c hk (rk.extract 1 rk.size) (w.heap.size + 1) rb K Nd false a.s ⟨rv, 0⟩ w' (w.heap.size + 1) (Nat.le_trans (by omega) hb.1.size) (Nat.le_refl _) (by omega) hr.1 hr.2 (by show rv.size ≤ _; have := hsx.2; unfold Sz at this; omega) hKN.1 hKN.2 hm.out).mono (fun e w2 ⟨he, h1, h2, h3⟩ => ⟨he, ⟨h3.mono (fun i _ hi => by obtain ⟨_, _, _, _, _, h⟩ := hi; exact h), fun _ _ _ h => h.elim⟩, h1, h2⟩)); (simp only [lays]; with_reducible rfl)
         refine Ps.par_end (fun w9 hb9 hf9 hr9 => ?_)
         try refine Ps.wpList_none ?_
         have Hn2 := Hn3.out
         clear Hn3
         have hBe := hid (hB1.out.trans ((But.below' (n := 0) hb9.1 (fun k h => h) (show w.heap.size + 1 ≤ w1.heap.size by omega)).mono (show w.heap.size ≤ w.heap.size + 1 by omega)))
         have h2e := hid ((hb9.1.block _ (heap_lt h21.out) (by omega)).trans h21.out)
         clear hb9 hf9
         revert hr9 Hn2
         generalize stepOf c K Nd (rk.extract 1 rk.size) a.s ⟨rv, 0⟩ = st
         obtain ⟨S', R', bd⟩ := st
         intro hr9 Hn2
         dsimp only [Bool.false_or] at hr9 Hn2
         replace Hn2 := hid Hn2
         obtain ⟨hrn, hr9⟩ := hr9
         replace hr9 := hid hr9
         obtain ⟨np, ni, nt, nj, nr, ns, nk, nl, nm, hx9, hL9⟩ := hrn
         have k12 := cell_of hx9 12
         have k13 := cell_of hx9 13
         replace hx9 := hid hx9
         replace hL9 := hid hL9
         cases bd
         ·
          go_wp2_with fail
          clear k12 k13
          refine (rrEnd_any _ _ w9 hr9.out).mono ?_
          rintro e wz ⟨rfl, hwz⟩
          obtain rfl : w9 = wz := hwz
          cases hE : endR R' == 0
          ·
           have hE' : (endR R' != 0) = true := by rw [bne, hE]; rfl
           have hE2 := hid (show endR R' ≠ 0 from fun h => by rw [h] at hE; cases hE)
           obtain ⟨y0, z0, y1, z1, y2, z2, y3, z3, y4, z4, y5, z5, y6, z6, y7, z7, y8, z8, y9, z9, y10, z10, y11, z11⟩ := cells0_at h2e.out
           go_wp2
           obtain ⟨e2, eb⟩ := set12 h2e.out (.int .u64 0) (.int .u64 0) (.int .u64 0) (.slice none 0 0) (.slice none 0 0) (.slice none 0 0) (.slice none 0 0) (.slice none 0 0) (.slice none 0 0) (.slice none 0 0) (.slice none 0 0) (.slice none 0 0)
           exact zero_end _ rfl rfl e2 (hbad.out (Hn2.out.trans (if_pos (.inr hE2.out)))) (hBe.out.trans (Rb_below eb (Nat.le_refl _) hBe.out.size))
          ·
           have hE' : (endR R' != 0) = false := by rw [bne, hE]; rfl
           have hE2 := hid (show endR R' = 0 from by simpa using hE)
           clear hE
           go_wp2
           go_roundw
           case rel =>
            refine ⟨j' + 1 + 1, by omega, by go_num, _, Hn2.out.trans (if_neg (by rw [hE2.out]; simp)), ⟨fun _ => ⟨_, Hx.out, rfl, rfl, .inr Hgt.out⟩, by simp⟩, h2e.out, ⟨_, _, _, _, _, _, _, _, _, _, hx9.out, hL9.out⟩, hBe.out⟩
           case measure => simp [intOf] <;> omega
         ·
          skip
          obtain ⟨y0, z0, y1, z1, y2, z2, y3, z3, y4, z4, y5, z5, y6, z6, y7, z7, y8, z8, y9, z9, y10, z10, y11, z11⟩ := cells0_at h2e.out
          go_wp2
          obtain ⟨e2, eb⟩ := set12 h2e.out (.int .u64 0) (.int .u64 0) (.int .u64 0) (.slice none 0 0) (.slice none 0 0) (.slice none 0 0) (.slice none 0 0) (.slice none 0 0) (.slice none 0 0) (.slice none 0 0) (.slice none 0 0) (.slice none 0 0)
          exact zero_end _ rfl rfl e2 (hbad.out (Hn2.out.trans (if_pos (.inl (by trivial))))) (hBe.out.trans (Rb_below eb (Nat.le_refl _) hBe.out.size))
        ·
         skip
         have ew : (wrap64 ((rk.size : Int) - 1) != 10) = true := by rw [show wrap64 ((rk.size : Int) - 1) = (rk.size : Int) - 1 from by unfold wrap64; omega]; simp; omega
         obtain ⟨y0, z0, y1, z1, y2, z2, y3, z3, y4, z4, y5, z5, y6, z6, y7, z7, y8, z8, y9, z9, y10, z10, y11, z11⟩ := cells0_at h20.out
         go_wp2
         obtain ⟨e2, eb⟩ := set12 h20.out (.int .u64 0) (.int .u64 0) (.int .u64 0) (.slice none 0 0) (.slice none 0 0) (.slice none 0 0) (.slice none 0 0) (.slice none 0 0) (.slice none 0 0) (.slice none 0 0) (.slice none 0 0) (.slice none 0 0)
         exact zero_end _ rfl rfl e2 (hbad.out (Hn.out.trans (by rw [if_neg (by rw [hk]; decide), if_pos ⟨by rw [hk]; decide, by rw [hk, hrs]; omega⟩]))) (hB0.out.trans (Rb_below eb (Nat.le_refl _) hB0.out.size))
    ·
     obtain rfl : j = l0.length + 1 := by omega
     obtain ⟨a, hra, hla, h2, ⟨p, vp, vi, vt, vj, vr, vs, vk, vl, vm, hx, hL⟩, hBw⟩ := hR.out
     rw [show (x0 :: l0).take (l0.length + 1) = x0 :: l0 from List.take_of_length_le (by simp)] at hra
     have hfst : a.fst = false := by rw [hla.fst]; simp
     have Hok := hid (read_ok (l := x0 :: l0) Hsz.out hra)
     have Hra := hid hra
     have Hfst := hid hfst
     have hst := hid (hL.at (fun x hx => (Hok.out.insts x hx).2) (fun x hx => (Hok.out.listed x hx).2) (fun x hx => (Hok.out.msgs x hx).2))
     obtain ⟨ap, cp, rfl, -⟩ := hst.out.procs
     obtain ⟨ai, ci, rfl, -⟩ := hst.out.insts
     obtain ⟨at_, ct, rfl, -⟩ := hst.out.tokens
     obtain ⟨aj, cj, rfl, -⟩ := hst.out.jobs
     obtain ⟨ar, cr, rfl, -⟩ := hst.out.timers
     obtain ⟨as_, cs_, rfl, -⟩ := hst.out.subs
     obtain ⟨ak, ck, rfl, -⟩ := hst.out.kept
     obtain ⟨al, cl, rfl, -⟩ := hst.out.listed
     obtain ⟨am, cm, rfl, -⟩ := hst.out.msgs
     have HL := hid hL
     have Hx := hid hx
     have H2 := hid h2
     have HBw := hid hBw
     obtain ⟨k0, k1, k2, k3, k4, k5, k6, k7, k8, k9, k10, k11⟩ := cells12 hx
     clear hra hla hfst hL hx h2 hBw hR
     go_wp2_with fail
     refine (rsmay_any a.s (Hok.out.ok hl) _ _ _ _ _ _ _ _ _ _ wr hst.out).mono ?_
     rintro e w3 ⟨rfl, b3⟩
     clear k0 k1 k2 k3 k4 k5 k6 k7 k8 k9 k10 k11
     have h23 := hid ((b3.block _ (heap_lt H2.out)).trans H2.out)
     have hx3 := hid ((b3.block _ (heap_lt Hx.out)).trans Hx.out)
     have hB3 := hid (HBw.out.trans (b3.mono HBw.out.size))
     have hL3 := hid (HL.out.keepC (cells_below b3) (by simp) (by simp) (by simp))
     clear b3
     cases hmy : mayB a.s
     ·
      skip
      obtain ⟨y0, z0, y1, z1, y2, z2, y3, z3, y4, z4, y5, z5, y6, z6, y7, z7, y8, z8, y9, z9, y10, z10, y11, z11⟩ := cells0_at h23.out
      go_wp2
      obtain ⟨e2, eb⟩ := set12 h23.out (.int .u64 0) (.int .u64 0) (.int .u64 0) (.slice none 0 0) (.slice none 0 0) (.slice none 0 0) (.slice none 0 0) (.slice none 0 0) (.slice none 0 0) (.slice none 0 0) (.slice none 0 0) (.slice none 0 0)
      exact zero_end _ rfl rfl e2 (by simp [readS, Hra.out, hmy]) (hB3.out.trans (Rb_below eb (Nat.le_refl _) hB3.out.size))
     ·
      skip
      obtain ⟨y0, z0, y1, z1, y2, z2, y3, z3, y4, z4, y5, z5, y6, z6, y7, z7, y8, z8, y9, z9, y10, z10, y11, z11⟩ := cells0_at h23.out
      obtain ⟨k0, k1, k2, k3, k4, k5, k6, k7, k8, k9, k10, k11⟩ := cells12 hx3.out
      go_wp2
      obtain ⟨e2, eb⟩ := set12 h23.out (U a.s.pos) (U a.s.done) (U a.s.made) (.slice ap a.s.procs.length cp) (.slice ai a.s.insts.length ci) (.slice at_ a.s.tokens.length ct) (.slice aj a.s.jobs.length cj) (.slice ar a.s.timers.length cr) (.slice as_ a.s.subs.length cs_) (.slice ak a.s.kept.length ck) (.slice al a.s.listed.length cl) (.slice am a.s.msgs.length cm)
      have eC : CellsKept [33] w3 _ := fun b' cs' t fr ht h => (eb.block b' (heap_lt h) (fun e => by subst e; rw [h23.out] at h; cases h; simp at ht)).trans h
      refine rr_end rfl rfl e2 ⟨_, rfl, ReadT.yes (by simp [readS, Hra.out, hmy, Hfst.out]) _ _ ((hL3.out.keepC eC (by decide) (by decide) (by decide)).at (fun x hx => (Hok.out.insts x hx).2) (fun x hx => (Hok.out.listed x hx).2) (fun x hx => (Hok.out.msgs x hx).2)), hB3.out.trans (Rb_below eb (Nat.le_refl _) hB3.out.size)⟩
  ·
   rw [decide_eq_false ha] at hA
   replace ha := hid ha
   go_wp2
   exact zero_end _ rfl rfl r2.out (first_bad ha.out l0) hB.out
end Go.Proofs.YthikijlbclckdaaGreat
