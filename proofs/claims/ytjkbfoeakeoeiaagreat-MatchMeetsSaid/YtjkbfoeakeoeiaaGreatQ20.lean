/- Keep: contracts (Hd). -/
import Derived.Test.YtjkbfoeakeoeiaaGreatQ19
namespace Go.Proofs.YtjkbfoeakeoeiaaGreat
set_option maxRecDepth 100000
set_option maxHeartbeats 40000000
set_option linter.unusedSimpArgs false
set_option linter.unusedVariables false
open Go.RowKit
section
variable {P : Program} {c : Code} {Q : Exit → Act → World → Prop} {a : Act} {W : World} {b i : Nat} {cs : Array Value} {v v2 : Value} {T : TypeId} {A : Obj}
theorem size_set (W : World) (b i : Nat) (v : Value) : (W.setCell ⟨b, i, none⟩ v).heap.size = W.heap.size := by simp [World.setCell]
theorem wp_sbox1 (h : W.heap[b]? = some (.cells cs T (0, 0))) (k : ∀ W', Hid (W'.heap[W.heap.size]? = some A) → Hid (W'.heap[b]? = some (.cells (cs.setIfInBounds i v) T (0, 0))) → Hid (But (fun i => i = b) W W') → c.wp P Q a W') : c.wp P Q a ((W.setCell ⟨b, i, none⟩ v).alloc A) := by
  refine k _ ?_ ?_ ?_
  · have := alloc_new (W.setCell ⟨b, i, none⟩ v) A
    rwa [size_set] at this
  · exact keep_at box1_b (setCell_at h i v)
  · exact (set_but W b i v).trans (But.of box1_b)
theorem wp_sbox2 (h : W.heap[b]? = some (.cells cs T (0, 0))) (k : ∀ W', Hid (W'.heap[W.heap.size]? = some A) → Hid (W'.heap[b]? = some (.cells ((cs.setIfInBounds i v).setIfInBounds i v2) T (0, 0))) → Hid (But (fun i => i = b) W W') → c.wp P Q a W') : c.wp P Q a (((W.setCell ⟨b, i, none⟩ v).setCell ⟨b, i, none⟩ v2).alloc A) := by
  refine k _ ?_ ?_ ?_
  · have := alloc_new ((W.setCell ⟨b, i, none⟩ v).setCell ⟨b, i, none⟩ v2) A
    rwa [size_set, size_set] at this
  · exact keep_at box1_b (setCell_at (setCell_at h i v) i v2)
  · exact ((set_but W b i v).trans (set_but _ b i v2)).trans (But.of box1_b)
end
theorem bytes_dec (x y : ByteArray) : (x.toList == y.toList) = decide (x = y) := by
  rw [Lib.toList_data, Lib.toList_data]
  obtain ⟨x⟩ := x
  obtain ⟨y⟩ := y
  by_cases h : x = y
  · subst h
    rw [decide_eq_true rfl]
    simp
  · rw [decide_eq_false (fun e => h (congrArg ByteArray.data e))]
    simpa using fun e => h e
theorem cases_meet {M A B L : Prop} {f : Bool} (h : M ↔ (A ∧ B ∧ (f = false ∨ L))) : (M ∧ A ∧ B ∧ (f = false ∨ (f = true ∧ L))) ∨ (¬ M ∧ (((¬ A ∨ (A ∧ ¬ B)) ∧ (f = false ∨ (f = true ∧ L) ∨ (f = true ∧ ¬ L))) ∨ (A ∧ B ∧ f = true ∧ ¬ L))) := by
  cases f <;> by_cases hA : A <;> by_cases hB : B <;> by_cases hL : L <;> simp_all
theorem meets_any (w : World) (a b : RecV) (first : Bool) (wait : Int) (aa ba : Option Addr) (ac bn bc : Nat) (ha : RecIn a) (hwt : I64 wait) (hva : VarsAt w (.slice aa a.vars.length ac) a.vars) :
    Calls Tryz.prog 4 #[.agg #[I a.cls, I a.kind, U a.from_, I a.time, U a.key, U a.key2, U a.key3, I a.n, I a.m, .string a.a, .string a.b, .string a.c, .slice aa a.vars.length ac, I b.cls, I b.kind, U b.from_, I b.time, U b.key, U b.key2, U b.key3, I b.n, I b.m, .string b.a, .string b.b, .string b.c, .slice ba bn bc, .bool first, I wait]] w fun e w' => e = .returned (.bool true) ∧ Below w.heap.size w w' := by
  have HA := hid ha
  have HV := hid hva
  clear ha hva
  go_enter Tryz.func4, Tryz.ntmps4
  go_wp2_with fail
  refine calls_box3 ?_
  intro W0 h0 h1 h2 B0 hz
  refine (mshown_any W0).mono ?_
  rintro e w1 ⟨rfl, b1⟩
  have B1 := hid (B0.out.trans (b1.mono B0.out.size))
  have H1 := hid (keep_at b1 h1.out)
  have H2 := hid (keep_at b1 h2.out)
  clear b1 h0 h1 h2 hz
  by_cases c1 : wait < 0
  · have g1 : (wait < 0) = True := by simp; omega
    clear c1
    go_wp2
    go_ret
    exact ⟨rfl, B1.out⟩
  have g1 : (wait < 0) = False := by simp; omega
  by_cases c2 : 1000000 < wait
  · have g2 : (1000000 < wait) = True := by simp; omega
    clear c1 c2
    go_wp2
    go_ret
    exact ⟨rfl, B1.out⟩
  have g2 : (1000000 < wait) = False := by simp; omega
  have r7 := cell_of H1.out 7
  have f7 := free_of H1.out 7
  have hn := HA.out.n
  obtain ⟨n1, hn1⟩ : ∃ n1, n1 = a.n.tmod 1000000 := ⟨_, rfl⟩
  have hb1 : -1000000 < n1 ∧ n1 < 1000000 := by
    rw [hn1]
    have h1 := Int.tmod_lt_of_pos a.n (show (0 : Int) < 1000000 by decide)
    have h2 := Int.lt_tmod_of_pos a.n (show (0 : Int) < 1000000 by decide)
    omega
  by_cases c3 : n1 < 0
  · have c4 : a.n.tmod 1000000 < 0 := by rw [← hn1]; exact c3
    go_wp2_with fail
    refine wp_sbox2 H1.out ?_
    intro W2 h2 h1 B2
    simp only [List.setIfInBounds_toArray, List.set_cons_zero, List.set_cons_succ] at h1
    obtain ⟨n2, hn2⟩ : ∃ n2, n2 = -a.n.tmod 1000000 := ⟨_, rfl⟩
    rw [← hn2] at h1
    have hb2 : 0 ≤ n2 ∧ n2 < 1000000 := by omega
    have HA2 := hid (show RecIn { a with n := n2 } from ⟨HA.out.cls, HA.out.kind, HA.out.from_, HA.out.time, HA.out.key, HA.out.key2, HA.out.key3, ⟨by dsimp only; omega, by dsimp only; omega⟩, HA.out.m, HA.out.vars⟩)
    have HM := hid (mk_all { a with n := n2 } b first wait (by omega))
    have hlt1 := heap_lt h1.out
    have hab := heap_lt H1.out
    have hbb := heap_lt H2.out
    have H22 := hid ((B2.out.block (w.heap.size + 1 + 1) hbb (by omega)).trans H2.out)
    have B22 := hid (B1.out.trans (B2.out.below B1.out.size (fun k h => by omega)))
    have hsbB := hid (show w.heap.size ≤ w1.heap.size by omega)
    clear H1 H2 B1 B2 hlt1 r7 f7 c4 c3 hb1 hn1 hn2 hn
    generalize w1.heap.size = sb at h2 hsbB hab hbb ⊢
    go_wp2_with fail
    go_loopw [9] (fun vi wr => ∃ i : Nat, i ≤ 2 ∧ vi = .int .i64 i ∧ Hid (MR sb (w.heap.size + 1) (w.heap.size + 1 + 1) #[I a.cls, I a.kind, U a.from_, I a.time, U a.key, U a.key2, U a.key3, I n2, I a.m, .string a.a, .string a.b, .string a.c, .slice aa a.vars.length ac] #[I b.cls, I b.kind, U b.from_, I b.time, U b.key, U b.key2, U b.key3, I b.n, I b.m, .string b.a, .string b.b, .string b.c, .slice ba bn bc] 49 33 w.heap.size w wr (mSt { a with n := n2 } b first wait i) ∧ (1 ≤ i → (mK1 { a with n := n2 } b first).2 = 0) ∧ (2 ≤ i → (mK2 { a with n := n2 } b first wait).2 = 0))) (fun vi _ => 2 - (intOf vi).toNat)
    case atStart => exact ⟨0, by omega, rfl, ⟨⟨h1.out, H22.out, ⟨fun _ => False, [U 0, U 0, U 0, .slice none 0 0, .slice none 0 0, .slice none 0 0, .slice none 0 0, .slice none 0 0, .slice none 0 0, .slice none 0 0, .slice none 0 0, .slice none 0 0], .slice none 0 0, (fun _ h => h.elim), ⟨_, _, _, _, _, _, _, _, _, _, _, _, _, _, _, _, _, _, _, _, _, _, _, _, _, _, _, _, _, _, rfl⟩, h2.out, (fun _ => stateE_at _ _), rfl, nil_list _ _ _⟩, B22.out⟩, (fun h => by omega), (fun h => by omega)⟩⟩
    case round =>
      obtain ⟨i, hi, rfl, hR⟩ := hrel
      obtain ⟨⟨hra, hrb, ⟨Sx, cs, vl, hsx, ⟨n0, n1, n2', a3, a4, a5, a6, a7, a8, a9, a10, a11, l3, l4, l5, l6, l7, l8, l9, l10, l11, c3, c4, c5, c6, c7, c8, c9, c10, c11, rfl⟩, hsb, hst, hvl, hll⟩, hlow⟩, hkk⟩ := hR.out
      have HSB := hid hsb
      have HST := hid hst
      have HRA := hid hra
      have HRB := hid hrb
      have HL := hid hlow
      have hSx := hid hsx
      have HLL := hid hll
      have HVL := hid hvl
      have HK := hid hkk
      clear hra hrb hsb hst hlow hsx hR hll hvl hkk
      obtain ⟨k0, k1, k2, k3, k4, k5, k6, k7, k8, k9, k10, k11⟩ := cells12 HSB.out
      have hi3 : i = 0 ∨ i = 1 ∨ i = 2 := by omega
      rcases hi3 with rfl | rfl | rfl
      · clear HLL HVL
        cases first with
        | true =>
          go_wp2_with fail
          refine (begin_any wr Sx stateE [U n0, U n1, U n2', .slice a3 l3 c3, .slice a4 l4 c4, .slice a5 l5 c5, .slice a6 l6 c6, .slice a7 l7 c7, .slice a8 l8 c8, .slice a9 l9 c9, .slice a10 l10 c10, .slice a11 l11 c11] 0 1 0 hSx.out (HST.out lone_E) smE).mono ?_
          rintro e w4 ⟨wb, rfl, hw4, hwb, b4⟩
          have HW4 := hid hw4
          have HSB4 := hid (keep_at b4 HSB.out)
          have HA4 := hid (keep_at b4 HRA.out)
          have HB4 := hid (keep_at b4 HRB.out)
          have B4 := hid (HL.out.trans (b4.mono HL.out.size))
          have hww : w.heap.size ≤ wb := Nat.le_trans HL.out.size hwb
          have hsbw := hid (show ¬ sb = wb by have := heap_lt HSB.out; omega)
          have habw := hid (show ¬ w.heap.size + 1 = wb by have := heap_lt HRA.out; omega)
          have hbbw := hid (show ¬ w.heap.size + 1 + 1 = wb by have := heap_lt HRB.out; omega)
          clear hw4 b4 HSB HRA HRB HST k0 k1 k2 k3 k4 k5 k6 k7 k8 k9 k10 k11
          obtain ⟨r0, r1, r2, r3, r4, r5, r6, r7, r8, r9, r10, r11, r12⟩ := cells13 HA4.out
          go_wp2_with fail
          refine (publish_any w4 wb (fun b => b = wb) (.slice none 0 0) (beginV stateE 0 1 0) { a with n := n2 } aa ac 0 HW4.out (begin_sm stateE 1 0 0 smE (by omega) (by omega) (by decide) (by decide) (by decide) (by simp [stateE])) (by omega) (fun h => rec_ok HA2.out h) (vars_sans HV.out B4.out (fun b h => by omega)) (.inr rfl)).mono ?_
          rintro e w5 ⟨rfl, S5, ve5, hw5, g5⟩
          have e5 : (publishV (beginV stateE 0 1 0) { a with n := n2 }) = mK1 { a with n := n2 } b true := rfl
          rw [e5]
          rw [e5] at hw5
          have HW5 := hid hw5
          have HS5 := hid (fun b h => (hw5.lt b h).1)
          have HSB5 := hid (g5.keep hsbw.out HSB4.out)
          have HA5 := hid (g5.keep habw.out HA4.out)
          have HB5 := hid (g5.keep hbbw.out HB4.out)
          have B5 := hid (B4.out.trans (g5.below B4.out.size (fun b h => by omega)))
          clear hw5 g5 e5 HW4 HSB4 HA4 HB4 B4 r0 r1 r2 r3 r4 r5 r6 r7 r8 r9 r10 r11 r12
          have hk : ((mK1 { a with n := n2 } b true).2 = 1 ∨ (mK1 { a with n := n2 } b true).2 = 13 ∨ (mK1 { a with n := n2 } b true).2 = 0) := by rcases HM.out.1 with h | ⟨h, -⟩ | h; exact .inl h; exact .inr (.inl h); exact .inr (.inr h)
          rcases hk with hk | hk | hk
          · rw [hk]
            go_wp2
            go_ret
            exact ⟨rfl, B5.out⟩
          · rw [hk]
            go_wp2
            go_ret
            exact ⟨rfl, B5.out⟩
          · have HK5 := hid hk
            rw [hk]
            clear hk
            go_wp2_with fail
            refine (wstate_any w5 wb S5 ve5 (mK1 { a with n := n2 } b true).1 HW5.out (k1_sm { a with n := n2 } b true).sm).mono ?_
            rintro e w6 ⟨cs6, rfl, hst6, b6⟩
            have hsh := sh_of hst6
            obtain ⟨m0, m1, m2, d3, d4, d5, d6, d7, d8, d9, d10, d11, p3, p4, p5, p6, p7, p8, p9, p10, p11, q3, q4, q5, q6, q7, q8, q9, q10, q11, rfl⟩ := hsh
            have HST6 := hid hst6
            have HSB6 := hid (keep_at b6 HSB5.out)
            have HA6 := hid (keep_at b6 HA5.out)
            have HB6 := hid (keep_at b6 HB5.out)
            have B6 := hid (B5.out.trans (b6.mono B5.out.size))
            have HS6 := hid (fun b h => Nat.lt_of_lt_of_le (HS5.out b h) b6.size)
            clear hst6 b6 HSB5 HA5 HB5 B5 HS5
            obtain ⟨k0, k1, k2, k3, k4, k5, k6, k7, k8, k9, k10, k11⟩ := cells12 HSB6.out
            have f0 := free_of HSB6.out 0
            have f1 := free_of HSB6.out 1
            have f2 := free_of HSB6.out 2
            have f3 := free_of HSB6.out 3
            have f4 := free_of HSB6.out 4
            have f5 := free_of HSB6.out 5
            have f6 := free_of HSB6.out 6
            have f7 := free_of HSB6.out 7
            have f8 := free_of HSB6.out 8
            have f9 := free_of HSB6.out 9
            have f10 := free_of HSB6.out 10
            have f11 := free_of HSB6.out 11
            go_wp2
            go_roundw
            case rel => exact ⟨1, by omega, rfl, ⟨mr_next HS6.out HST6.out HSB6.out noStr12 (setall12 HSB6.out).1 (setall12 HSB6.out).2 HA6.out HB6.out (by omega) (by omega) B6.out hsbB.out, (fun _ => HK5.out), (fun h => by omega)⟩⟩
            case measure => simp [intOf]
        | false =>
          go_wp2_with fail
          refine (begin_any wr Sx stateE [U n0, U n1, U n2', .slice a3 l3 c3, .slice a4 l4 c4, .slice a5 l5 c5, .slice a6 l6 c6, .slice a7 l7 c7, .slice a8 l8 c8, .slice a9 l9 c9, .slice a10 l10 c10, .slice a11 l11 c11] 0 1 0 hSx.out (HST.out lone_E) smE).mono ?_
          rintro e w4 ⟨wb, rfl, hw4, hwb, b4⟩
          have HW4 := hid hw4
          have HSB4 := hid (keep_at b4 HSB.out)
          have HA4 := hid (keep_at b4 HRA.out)
          have HB4 := hid (keep_at b4 HRB.out)
          have B4 := hid (HL.out.trans (b4.mono HL.out.size))
          have hww : w.heap.size ≤ wb := Nat.le_trans HL.out.size hwb
          have hsbw := hid (show ¬ sb = wb by have := heap_lt HSB.out; omega)
          have habw := hid (show ¬ w.heap.size + 1 = wb by have := heap_lt HRA.out; omega)
          have hbbw := hid (show ¬ w.heap.size + 1 + 1 = wb by have := heap_lt HRB.out; omega)
          clear hw4 b4 HSB HRA HRB HST k0 k1 k2 k3 k4 k5 k6 k7 k8 k9 k10 k11
          obtain ⟨r0, r1, r2, r3, r4, r5, r6, r7, r8, r9, r10, r11, r12⟩ := cells13 HB4.out
          go_wp2_with fail
          refine (open_any w4 wb (fun b => b = wb) (.slice none 0 0) (beginV stateE 0 1 0) b ba bn bc 0 HW4.out (begin_sm stateE 1 0 0 smE (by omega) (by omega) (by decide) (by decide) (by decide) (by simp [stateE])) (by omega) rfl).mono ?_
          rintro e w5 ⟨rfl, S5, ve5, hw5, g5⟩
          have e5 : (openV (beginV stateE 0 1 0) b) = mK1 { a with n := n2 } b false := rfl
          rw [e5]
          rw [e5] at hw5
          have HW5 := hid hw5
          have HS5 := hid (fun b h => (hw5.lt b h).1)
          have HSB5 := hid (g5.keep hsbw.out HSB4.out)
          have HA5 := hid (g5.keep habw.out HA4.out)
          have HB5 := hid (g5.keep hbbw.out HB4.out)
          have B5 := hid (B4.out.trans (g5.below B4.out.size (fun b h => by omega)))
          clear hw5 g5 e5 HW4 HSB4 HA4 HB4 B4 r0 r1 r2 r3 r4 r5 r6 r7 r8 r9 r10 r11 r12
          have hk : ((mK1 { a with n := n2 } b false).2 = 1 ∨ (mK1 { a with n := n2 } b false).2 = 0) := by rcases HM.out.1 with h | ⟨-, h⟩ | h; exact .inl h; cases h; exact .inr h
          rcases hk with hk | hk
          · rw [hk]
            go_wp2
            go_ret
            exact ⟨rfl, B5.out⟩
          · have HK5 := hid hk
            rw [hk]
            clear hk
            go_wp2_with fail
            refine (wstate_any w5 wb S5 ve5 (mK1 { a with n := n2 } b false).1 HW5.out (k1_sm { a with n := n2 } b false).sm).mono ?_
            rintro e w6 ⟨cs6, rfl, hst6, b6⟩
            have hsh := sh_of hst6
            obtain ⟨m0, m1, m2, d3, d4, d5, d6, d7, d8, d9, d10, d11, p3, p4, p5, p6, p7, p8, p9, p10, p11, q3, q4, q5, q6, q7, q8, q9, q10, q11, rfl⟩ := hsh
            have HST6 := hid hst6
            have HSB6 := hid (keep_at b6 HSB5.out)
            have HA6 := hid (keep_at b6 HA5.out)
            have HB6 := hid (keep_at b6 HB5.out)
            have B6 := hid (B5.out.trans (b6.mono B5.out.size))
            have HS6 := hid (fun b h => Nat.lt_of_lt_of_le (HS5.out b h) b6.size)
            clear hst6 b6 HSB5 HA5 HB5 B5 HS5
            obtain ⟨k0, k1, k2, k3, k4, k5, k6, k7, k8, k9, k10, k11⟩ := cells12 HSB6.out
            have f0 := free_of HSB6.out 0
            have f1 := free_of HSB6.out 1
            have f2 := free_of HSB6.out 2
            have f3 := free_of HSB6.out 3
            have f4 := free_of HSB6.out 4
            have f5 := free_of HSB6.out 5
            have f6 := free_of HSB6.out 6
            have f7 := free_of HSB6.out 7
            have f8 := free_of HSB6.out 8
            have f9 := free_of HSB6.out 9
            have f10 := free_of HSB6.out 10
            have f11 := free_of HSB6.out 11
            go_wp2
            go_roundw
            case rel => exact ⟨1, by omega, rfl, ⟨mr_next HS6.out HST6.out HSB6.out noStr12 (setall12 HSB6.out).1 (setall12 HSB6.out).2 HA6.out HB6.out (by omega) (by omega) B6.out hsbB.out, (fun _ => HK5.out), (fun h => by omega)⟩⟩
            case measure => simp [intOf]
      · clear HLL HVL
        cases first with
        | true =>
          go_wp2_with fail
          refine (begin_any wr Sx (mK1 { a with n := n2 } b true).1.s [U n0, U n1, U n2', .slice a3 l3 c3, .slice a4 l4 c4, .slice a5 l5 c5, .slice a6 l6 c6, .slice a7 l7 c7, .slice a8 l8 c8, .slice a9 l9 c9, .slice a10 l10 c10, .slice a11 l11 c11] 0 2 wait hSx.out (HST.out (k1_lone { a with n := n2 } b true)) (k1_sm { a with n := n2 } b true).sm).mono ?_
          rintro e w4 ⟨wb, rfl, hw4, hwb, b4⟩
          have HW4 := hid hw4
          have HSB4 := hid (keep_at b4 HSB.out)
          have HA4 := hid (keep_at b4 HRA.out)
          have HB4 := hid (keep_at b4 HRB.out)
          have B4 := hid (HL.out.trans (b4.mono HL.out.size))
          have hww : w.heap.size ≤ wb := Nat.le_trans HL.out.size hwb
          have hsbw := hid (show ¬ sb = wb by have := heap_lt HSB.out; omega)
          have habw := hid (show ¬ w.heap.size + 1 = wb by have := heap_lt HRA.out; omega)
          have hbbw := hid (show ¬ w.heap.size + 1 + 1 = wb by have := heap_lt HRB.out; omega)
          clear hw4 b4 HSB HRA HRB HST k0 k1 k2 k3 k4 k5 k6 k7 k8 k9 k10 k11
          obtain ⟨r0, r1, r2, r3, r4, r5, r6, r7, r8, r9, r10, r11, r12⟩ := cells13 HB4.out
          go_wp2_with fail
          refine (open_any w4 wb (fun b => b = wb) (.slice none 0 0) (beginV (mK1 { a with n := n2 } b true).1.s 0 2 wait) b ba bn bc 3 HW4.out (k1b_sm { a with n := n2 } b true wait (by omega)) (by omega) (pub1_listed { a with n := n2 })).mono ?_
          rintro e w5 ⟨rfl, S5, ve5, hw5, g5⟩
          have e5 : (openV (beginV (mK1 { a with n := n2 } b true).1.s 0 2 wait) b) = mK2 { a with n := n2 } b true wait := rfl
          rw [e5]
          rw [e5] at hw5
          have HW5 := hid hw5
          have HS5 := hid (fun b h => (hw5.lt b h).1)
          have HSB5 := hid (g5.keep hsbw.out HSB4.out)
          have HA5 := hid (g5.keep habw.out HA4.out)
          have HB5 := hid (g5.keep hbbw.out HB4.out)
          have B5 := hid (B4.out.trans (g5.below B4.out.size (fun b h => by omega)))
          clear hw5 g5 e5 HW4 HSB4 HA4 HB4 B4 r0 r1 r2 r3 r4 r5 r6 r7 r8 r9 r10 r11 r12
          have hk : ((mK2 { a with n := n2 } b true wait).2 = 1 ∨ (mK2 { a with n := n2 } b true wait).2 = 0) := by rcases HM.out.2 (HK.out.1 (by omega)) with h | ⟨-, h⟩ | ⟨h, -⟩; exact .inl h; cases h; exact .inr h
          rcases hk with hk | hk
          · rw [hk]
            go_wp2
            go_ret
            exact ⟨rfl, B5.out⟩
          · have HK5 := hid hk
            rw [hk]
            clear hk
            go_wp2_with fail
            refine (wstate_any w5 wb S5 ve5 (mK2 { a with n := n2 } b true wait).1 HW5.out (k2_sm { a with n := n2 } b true wait (by omega)).sm).mono ?_
            rintro e w6 ⟨cs6, rfl, hst6, b6⟩
            have hsh := sh_of hst6
            obtain ⟨m0, m1, m2, d3, d4, d5, d6, d7, d8, d9, d10, d11, p3, p4, p5, p6, p7, p8, p9, p10, p11, q3, q4, q5, q6, q7, q8, q9, q10, q11, rfl⟩ := hsh
            have HST6 := hid hst6
            have HSB6 := hid (keep_at b6 HSB5.out)
            have HA6 := hid (keep_at b6 HA5.out)
            have HB6 := hid (keep_at b6 HB5.out)
            have B6 := hid (B5.out.trans (b6.mono B5.out.size))
            have HS6 := hid (fun b h => Nat.lt_of_lt_of_le (HS5.out b h) b6.size)
            clear hst6 b6 HSB5 HA5 HB5 B5 HS5
            obtain ⟨k0, k1, k2, k3, k4, k5, k6, k7, k8, k9, k10, k11⟩ := cells12 HSB6.out
            have f0 := free_of HSB6.out 0
            have f1 := free_of HSB6.out 1
            have f2 := free_of HSB6.out 2
            have f3 := free_of HSB6.out 3
            have f4 := free_of HSB6.out 4
            have f5 := free_of HSB6.out 5
            have f6 := free_of HSB6.out 6
            have f7 := free_of HSB6.out 7
            have f8 := free_of HSB6.out 8
            have f9 := free_of HSB6.out 9
            have f10 := free_of HSB6.out 10
            have f11 := free_of HSB6.out 11
            go_wp2
            go_roundw
            case rel => exact ⟨2, by omega, rfl, ⟨mr_next HS6.out HST6.out HSB6.out noStr12 (setall12 HSB6.out).1 (setall12 HSB6.out).2 HA6.out HB6.out (by omega) (by omega) B6.out hsbB.out, (fun _ => HK.out.1 (by omega)), (fun _ => HK5.out)⟩⟩
            case measure => simp [intOf]
        | false =>
          go_wp2_with fail
          refine (begin_any wr Sx (mK1 { a with n := n2 } b false).1.s [U n0, U n1, U n2', .slice a3 l3 c3, .slice a4 l4 c4, .slice a5 l5 c5, .slice a6 l6 c6, .slice a7 l7 c7, .slice a8 l8 c8, .slice a9 l9 c9, .slice a10 l10 c10, .slice a11 l11 c11] 0 2 wait hSx.out (HST.out (k1_lone { a with n := n2 } b false)) (k1_sm { a with n := n2 } b false).sm).mono ?_
          rintro e w4 ⟨wb, rfl, hw4, hwb, b4⟩
          have HW4 := hid hw4
          have HSB4 := hid (keep_at b4 HSB.out)
          have HA4 := hid (keep_at b4 HRA.out)
          have HB4 := hid (keep_at b4 HRB.out)
          have B4 := hid (HL.out.trans (b4.mono HL.out.size))
          have hww : w.heap.size ≤ wb := Nat.le_trans HL.out.size hwb
          have hsbw := hid (show ¬ sb = wb by have := heap_lt HSB.out; omega)
          have habw := hid (show ¬ w.heap.size + 1 = wb by have := heap_lt HRA.out; omega)
          have hbbw := hid (show ¬ w.heap.size + 1 + 1 = wb by have := heap_lt HRB.out; omega)
          clear hw4 b4 HSB HRA HRB HST k0 k1 k2 k3 k4 k5 k6 k7 k8 k9 k10 k11
          obtain ⟨r0, r1, r2, r3, r4, r5, r6, r7, r8, r9, r10, r11, r12⟩ := cells13 HA4.out
          go_wp2_with fail
          refine (publish_any w4 wb (fun b => b = wb) (.slice none 0 0) (beginV (mK1 { a with n := n2 } b false).1.s 0 2 wait) { a with n := n2 } aa ac 3 HW4.out (k1b_sm { a with n := n2 } b false wait (by omega)) (by omega) (fun h => rec_ok HA2.out h) (vars_sans HV.out B4.out (fun b h => by omega)) (.inr (open1_msgs b))).mono ?_
          rintro e w5 ⟨rfl, S5, ve5, hw5, g5⟩
          have e5 : (publishV (beginV (mK1 { a with n := n2 } b false).1.s 0 2 wait) { a with n := n2 }) = mK2 { a with n := n2 } b false wait := rfl
          rw [e5]
          rw [e5] at hw5
          have HW5 := hid hw5
          have HS5 := hid (fun b h => (hw5.lt b h).1)
          have HSB5 := hid (g5.keep hsbw.out HSB4.out)
          have HA5 := hid (g5.keep habw.out HA4.out)
          have HB5 := hid (g5.keep hbbw.out HB4.out)
          have B5 := hid (B4.out.trans (g5.below B4.out.size (fun b h => by omega)))
          clear hw5 g5 e5 HW4 HSB4 HA4 HB4 B4 r0 r1 r2 r3 r4 r5 r6 r7 r8 r9 r10 r11 r12
          have hk : ((mK2 { a with n := n2 } b false wait).2 = 1 ∨ (mK2 { a with n := n2 } b false wait).2 = 13 ∨ (mK2 { a with n := n2 } b false wait).2 = 0) := by rcases HM.out.2 (HK.out.1 (by omega)) with h | ⟨h, -⟩ | ⟨h, -⟩; exact .inl h; exact .inr (.inl h); exact .inr (.inr h)
          rcases hk with hk | hk | hk
          · rw [hk]
            go_wp2
            go_ret
            exact ⟨rfl, B5.out⟩
          · rw [hk]
            go_wp2
            go_ret
            exact ⟨rfl, B5.out⟩
          · have HK5 := hid hk
            rw [hk]
            clear hk
            go_wp2_with fail
            refine (wstate_any w5 wb S5 ve5 (mK2 { a with n := n2 } b false wait).1 HW5.out (k2_sm { a with n := n2 } b false wait (by omega)).sm).mono ?_
            rintro e w6 ⟨cs6, rfl, hst6, b6⟩
            have hsh := sh_of hst6
            obtain ⟨m0, m1, m2, d3, d4, d5, d6, d7, d8, d9, d10, d11, p3, p4, p5, p6, p7, p8, p9, p10, p11, q3, q4, q5, q6, q7, q8, q9, q10, q11, rfl⟩ := hsh
            have HST6 := hid hst6
            have HSB6 := hid (keep_at b6 HSB5.out)
            have HA6 := hid (keep_at b6 HA5.out)
            have HB6 := hid (keep_at b6 HB5.out)
            have B6 := hid (B5.out.trans (b6.mono B5.out.size))
            have HS6 := hid (fun b h => Nat.lt_of_lt_of_le (HS5.out b h) b6.size)
            clear hst6 b6 HSB5 HA5 HB5 B5 HS5
            obtain ⟨k0, k1, k2, k3, k4, k5, k6, k7, k8, k9, k10, k11⟩ := cells12 HSB6.out
            have f0 := free_of HSB6.out 0
            have f1 := free_of HSB6.out 1
            have f2 := free_of HSB6.out 2
            have f3 := free_of HSB6.out 3
            have f4 := free_of HSB6.out 4
            have f5 := free_of HSB6.out 5
            have f6 := free_of HSB6.out 6
            have f7 := free_of HSB6.out 7
            have f8 := free_of HSB6.out 8
            have f9 := free_of HSB6.out 9
            have f10 := free_of HSB6.out 10
            have f11 := free_of HSB6.out 11
            go_wp2
            go_roundw
            case rel => exact ⟨2, by omega, rfl, ⟨mr_next HS6.out HST6.out HSB6.out noStr12 (setall12 HSB6.out).1 (setall12 HSB6.out).2 HA6.out HB6.out (by omega) (by omega) B6.out hsbB.out, (fun _ => HK.out.1 (by omega)), (fun _ => HK5.out)⟩⟩
            case measure => simp [intOf]
      · obtain ⟨x, hx, hxm⟩ : ∃ x, (mSt { a with n := n2 } b first wait 2).listed = [x] ∧ (x.msg ≠ 0 ↔ (a.a = b.a ∧ a.b = b.b ∧ (first = false ∨ wait < n2))) := by
          have h2 := HK.out.2 (by omega)
          rcases HM.out.2 (HK.out.1 (by omega)) with h | ⟨h, -⟩ | ⟨-, h⟩
          · exact absurd (h2.symm.trans h) (by decide)
          · exact absurd (h2.symm.trans h) (by decide)
          · exact h
        obtain rfl : vl = .slice a10 l10 c10 := by have := HVL.out; simpa using this.symm
        have hl := HLL.out
        rw [hx] at hl
        obtain ⟨a', cap', hv, -, -, h3⟩ := hl
        have hv' := hv
        simp only [Value.slice.injEq, List.length_cons, List.length_nil] at hv'
        obtain ⟨rfl, rfl, rfl⟩ := hv'
        obtain ⟨bl, ofl, csl, rfl, -, ⟨lv, rfl, -⟩, hc⟩ := h3 0 x rfl
        have c5 := (sans_cell (hc 5 _ rfl)).1
        rw [show ofl + 0 * 7 + 5 = ofl + 5 by omega] at c5
        obtain ⟨r0, r1, r2, r3, r4, r5, r6, r7, r8, r9, r10, r11, r12⟩ := cells13 HRA.out
        obtain ⟨s0, s1, s2, s3, s4, s5, s6, s7, s8, s9, s10, s11, s12⟩ := cells13 HRB.out
        clear HST HLL HVL HK HM hc hx h3 hv
        have c5' : wr.cell? ⟨bl, ofl + 5, none⟩ = some (.int .u64 x.msg) := c5
        clear c5
        have hcs := cases_meet hxm
        clear hxm
        rcases hcs with ⟨hz, hp, hq, hf⟩ | ⟨hz, hf⟩
        · have hz' := hid (show ((x.msg : Int) != 0) = true by simp; omega)
          have p1 := (bytes_dec a.a b.a).trans (decide_eq_true hp)
          have p2 := (bytes_dec a.b b.b).trans (decide_eq_true hq)
          clear hz hp hq
          rcases hf with rfl | ⟨rfl, g3⟩
          · go_wp2
            go_ret
            exact ⟨by show Ending.returned (.bool ((x.msg : Int) != 0)) = _; rw [hz'.out], HL.out⟩
          · go_wp2
            go_ret
            exact ⟨by show Ending.returned (.bool ((x.msg : Int) != 0)) = _; rw [hz'.out], HL.out⟩
        · have hz2 : x.msg = 0 := Classical.not_not.1 hz
          rw [hz2] at c5'
          clear hz hz2
          rcases hf with ⟨hf | ⟨hf, hq⟩, rfl | ⟨rfl, g3⟩ | ⟨rfl, g3⟩⟩ | ⟨hf, hq, rfl, g3⟩
          · have p1 := (bytes_dec a.a b.a).trans (decide_eq_false hf)
            clear hf
            go_wp2
            go_ret
            exact ⟨rfl, HL.out⟩
          · have p1 := (bytes_dec a.a b.a).trans (decide_eq_false hf)
            clear hf
            go_wp2
            go_ret
            exact ⟨rfl, HL.out⟩
          · have p1 := (bytes_dec a.a b.a).trans (decide_eq_false hf)
            clear hf
            go_wp2
            go_ret
            exact ⟨rfl, HL.out⟩
          · have p1 := (bytes_dec a.a b.a).trans (decide_eq_true hf)
            have p2 := (bytes_dec a.b b.b).trans (decide_eq_false hq)
            clear hf hq
            go_wp2
            go_ret
            exact ⟨rfl, HL.out⟩
          · have p1 := (bytes_dec a.a b.a).trans (decide_eq_true hf)
            have p2 := (bytes_dec a.b b.b).trans (decide_eq_false hq)
            clear hf hq
            go_wp2
            go_ret
            exact ⟨rfl, HL.out⟩
          · have p1 := (bytes_dec a.a b.a).trans (decide_eq_true hf)
            have p2 := (bytes_dec a.b b.b).trans (decide_eq_false hq)
            clear hf hq
            go_wp2
            go_ret
            exact ⟨rfl, HL.out⟩
          · have p1 := (bytes_dec a.a b.a).trans (decide_eq_true hf)
            have p2 := (bytes_dec a.b b.b).trans (decide_eq_true hq)
            clear hf hq
            go_wp2
            go_ret
            exact ⟨rfl, HL.out⟩
  · have c4 : 0 ≤ a.n.tmod 1000000 := by rw [← hn1]; omega
    go_wp2_with fail
    refine wp_sbox1 H1.out ?_
    intro W2 h2 h1 B2
    simp only [List.setIfInBounds_toArray, List.set_cons_zero, List.set_cons_succ] at h1
    obtain ⟨n2, hn2⟩ : ∃ n2, n2 = a.n.tmod 1000000 := ⟨_, rfl⟩
    rw [← hn2] at h1
    have hb2 : 0 ≤ n2 ∧ n2 < 1000000 := by omega
    have HA2 := hid (show RecIn { a with n := n2 } from ⟨HA.out.cls, HA.out.kind, HA.out.from_, HA.out.time, HA.out.key, HA.out.key2, HA.out.key3, ⟨by dsimp only; omega, by dsimp only; omega⟩, HA.out.m, HA.out.vars⟩)
    have HM := hid (mk_all { a with n := n2 } b first wait (by omega))
    have hlt1 := heap_lt h1.out
    have hab := heap_lt H1.out
    have hbb := heap_lt H2.out
    have H22 := hid ((B2.out.block (w.heap.size + 1 + 1) hbb (by omega)).trans H2.out)
    have B22 := hid (B1.out.trans (B2.out.below B1.out.size (fun k h => by omega)))
    have hsbB := hid (show w.heap.size ≤ w1.heap.size by omega)
    clear H1 H2 B1 B2 hlt1 r7 f7 c4 c3 hb1 hn1 hn2 hn
    generalize w1.heap.size = sb at h2 hsbB hab hbb ⊢
    go_wp2_with fail
    go_loopw [9] (fun vi wr => ∃ i : Nat, i ≤ 2 ∧ vi = .int .i64 i ∧ Hid (MR sb (w.heap.size + 1) (w.heap.size + 1 + 1) #[I a.cls, I a.kind, U a.from_, I a.time, U a.key, U a.key2, U a.key3, I n2, I a.m, .string a.a, .string a.b, .string a.c, .slice aa a.vars.length ac] #[I b.cls, I b.kind, U b.from_, I b.time, U b.key, U b.key2, U b.key3, I b.n, I b.m, .string b.a, .string b.b, .string b.c, .slice ba bn bc] 49 33 w.heap.size w wr (mSt { a with n := n2 } b first wait i) ∧ (1 ≤ i → (mK1 { a with n := n2 } b first).2 = 0) ∧ (2 ≤ i → (mK2 { a with n := n2 } b first wait).2 = 0))) (fun vi _ => 2 - (intOf vi).toNat)
    case atStart => exact ⟨0, by omega, rfl, ⟨⟨h1.out, H22.out, ⟨fun _ => False, [U 0, U 0, U 0, .slice none 0 0, .slice none 0 0, .slice none 0 0, .slice none 0 0, .slice none 0 0, .slice none 0 0, .slice none 0 0, .slice none 0 0, .slice none 0 0], .slice none 0 0, (fun _ h => h.elim), ⟨_, _, _, _, _, _, _, _, _, _, _, _, _, _, _, _, _, _, _, _, _, _, _, _, _, _, _, _, _, _, rfl⟩, h2.out, (fun _ => stateE_at _ _), rfl, nil_list _ _ _⟩, B22.out⟩, (fun h => by omega), (fun h => by omega)⟩⟩
    case round =>
      obtain ⟨i, hi, rfl, hR⟩ := hrel
      obtain ⟨⟨hra, hrb, ⟨Sx, cs, vl, hsx, ⟨n0, n1, n2', a3, a4, a5, a6, a7, a8, a9, a10, a11, l3, l4, l5, l6, l7, l8, l9, l10, l11, c3, c4, c5, c6, c7, c8, c9, c10, c11, rfl⟩, hsb, hst, hvl, hll⟩, hlow⟩, hkk⟩ := hR.out
      have HSB := hid hsb
      have HST := hid hst
      have HRA := hid hra
      have HRB := hid hrb
      have HL := hid hlow
      have hSx := hid hsx
      have HLL := hid hll
      have HVL := hid hvl
      have HK := hid hkk
      clear hra hrb hsb hst hlow hsx hR hll hvl hkk
      obtain ⟨k0, k1, k2, k3, k4, k5, k6, k7, k8, k9, k10, k11⟩ := cells12 HSB.out
      have hi3 : i = 0 ∨ i = 1 ∨ i = 2 := by omega
      rcases hi3 with rfl | rfl | rfl
      · clear HLL HVL
        cases first with
        | true =>
          go_wp2_with fail
          refine (begin_any wr Sx stateE [U n0, U n1, U n2', .slice a3 l3 c3, .slice a4 l4 c4, .slice a5 l5 c5, .slice a6 l6 c6, .slice a7 l7 c7, .slice a8 l8 c8, .slice a9 l9 c9, .slice a10 l10 c10, .slice a11 l11 c11] 0 1 0 hSx.out (HST.out lone_E) smE).mono ?_
          rintro e w4 ⟨wb, rfl, hw4, hwb, b4⟩
          have HW4 := hid hw4
          have HSB4 := hid (keep_at b4 HSB.out)
          have HA4 := hid (keep_at b4 HRA.out)
          have HB4 := hid (keep_at b4 HRB.out)
          have B4 := hid (HL.out.trans (b4.mono HL.out.size))
          have hww : w.heap.size ≤ wb := Nat.le_trans HL.out.size hwb
          have hsbw := hid (show ¬ sb = wb by have := heap_lt HSB.out; omega)
          have habw := hid (show ¬ w.heap.size + 1 = wb by have := heap_lt HRA.out; omega)
          have hbbw := hid (show ¬ w.heap.size + 1 + 1 = wb by have := heap_lt HRB.out; omega)
          clear hw4 b4 HSB HRA HRB HST k0 k1 k2 k3 k4 k5 k6 k7 k8 k9 k10 k11
          obtain ⟨r0, r1, r2, r3, r4, r5, r6, r7, r8, r9, r10, r11, r12⟩ := cells13 HA4.out
          go_wp2_with fail
          refine (publish_any w4 wb (fun b => b = wb) (.slice none 0 0) (beginV stateE 0 1 0) { a with n := n2 } aa ac 0 HW4.out (begin_sm stateE 1 0 0 smE (by omega) (by omega) (by decide) (by decide) (by decide) (by simp [stateE])) (by omega) (fun h => rec_ok HA2.out h) (vars_sans HV.out B4.out (fun b h => by omega)) (.inr rfl)).mono ?_
          rintro e w5 ⟨rfl, S5, ve5, hw5, g5⟩
          have e5 : (publishV (beginV stateE 0 1 0) { a with n := n2 }) = mK1 { a with n := n2 } b true := rfl
          rw [e5]
          rw [e5] at hw5
          have HW5 := hid hw5
          have HS5 := hid (fun b h => (hw5.lt b h).1)
          have HSB5 := hid (g5.keep hsbw.out HSB4.out)
          have HA5 := hid (g5.keep habw.out HA4.out)
          have HB5 := hid (g5.keep hbbw.out HB4.out)
          have B5 := hid (B4.out.trans (g5.below B4.out.size (fun b h => by omega)))
          clear hw5 g5 e5 HW4 HSB4 HA4 HB4 B4 r0 r1 r2 r3 r4 r5 r6 r7 r8 r9 r10 r11 r12
          have hk : ((mK1 { a with n := n2 } b true).2 = 1 ∨ (mK1 { a with n := n2 } b true).2 = 13 ∨ (mK1 { a with n := n2 } b true).2 = 0) := by rcases HM.out.1 with h | ⟨h, -⟩ | h; exact .inl h; exact .inr (.inl h); exact .inr (.inr h)
          rcases hk with hk | hk | hk
          · rw [hk]
            go_wp2
            go_ret
            exact ⟨rfl, B5.out⟩
          · rw [hk]
            go_wp2
            go_ret
            exact ⟨rfl, B5.out⟩
          · have HK5 := hid hk
            rw [hk]
            clear hk
            go_wp2_with fail
            refine (wstate_any w5 wb S5 ve5 (mK1 { a with n := n2 } b true).1 HW5.out (k1_sm { a with n := n2 } b true).sm).mono ?_
            rintro e w6 ⟨cs6, rfl, hst6, b6⟩
            have hsh := sh_of hst6
            obtain ⟨m0, m1, m2, d3, d4, d5, d6, d7, d8, d9, d10, d11, p3, p4, p5, p6, p7, p8, p9, p10, p11, q3, q4, q5, q6, q7, q8, q9, q10, q11, rfl⟩ := hsh
            have HST6 := hid hst6
            have HSB6 := hid (keep_at b6 HSB5.out)
            have HA6 := hid (keep_at b6 HA5.out)
            have HB6 := hid (keep_at b6 HB5.out)
            have B6 := hid (B5.out.trans (b6.mono B5.out.size))
            have HS6 := hid (fun b h => Nat.lt_of_lt_of_le (HS5.out b h) b6.size)
            clear hst6 b6 HSB5 HA5 HB5 B5 HS5
            obtain ⟨k0, k1, k2, k3, k4, k5, k6, k7, k8, k9, k10, k11⟩ := cells12 HSB6.out
            have f0 := free_of HSB6.out 0
            have f1 := free_of HSB6.out 1
            have f2 := free_of HSB6.out 2
            have f3 := free_of HSB6.out 3
            have f4 := free_of HSB6.out 4
            have f5 := free_of HSB6.out 5
            have f6 := free_of HSB6.out 6
            have f7 := free_of HSB6.out 7
            have f8 := free_of HSB6.out 8
            have f9 := free_of HSB6.out 9
            have f10 := free_of HSB6.out 10
            have f11 := free_of HSB6.out 11
            go_wp2
            go_roundw
            case rel => exact ⟨1, by omega, rfl, ⟨mr_next HS6.out HST6.out HSB6.out noStr12 (setall12 HSB6.out).1 (setall12 HSB6.out).2 HA6.out HB6.out (by omega) (by omega) B6.out hsbB.out, (fun _ => HK5.out), (fun h => by omega)⟩⟩
            case measure => simp [intOf]
        | false =>
          go_wp2_with fail
          refine (begin_any wr Sx stateE [U n0, U n1, U n2', .slice a3 l3 c3, .slice a4 l4 c4, .slice a5 l5 c5, .slice a6 l6 c6, .slice a7 l7 c7, .slice a8 l8 c8, .slice a9 l9 c9, .slice a10 l10 c10, .slice a11 l11 c11] 0 1 0 hSx.out (HST.out lone_E) smE).mono ?_
          rintro e w4 ⟨wb, rfl, hw4, hwb, b4⟩
          have HW4 := hid hw4
          have HSB4 := hid (keep_at b4 HSB.out)
          have HA4 := hid (keep_at b4 HRA.out)
          have HB4 := hid (keep_at b4 HRB.out)
          have B4 := hid (HL.out.trans (b4.mono HL.out.size))
          have hww : w.heap.size ≤ wb := Nat.le_trans HL.out.size hwb
          have hsbw := hid (show ¬ sb = wb by have := heap_lt HSB.out; omega)
          have habw := hid (show ¬ w.heap.size + 1 = wb by have := heap_lt HRA.out; omega)
          have hbbw := hid (show ¬ w.heap.size + 1 + 1 = wb by have := heap_lt HRB.out; omega)
          clear hw4 b4 HSB HRA HRB HST k0 k1 k2 k3 k4 k5 k6 k7 k8 k9 k10 k11
          obtain ⟨r0, r1, r2, r3, r4, r5, r6, r7, r8, r9, r10, r11, r12⟩ := cells13 HB4.out
          go_wp2_with fail
          refine (open_any w4 wb (fun b => b = wb) (.slice none 0 0) (beginV stateE 0 1 0) b ba bn bc 0 HW4.out (begin_sm stateE 1 0 0 smE (by omega) (by omega) (by decide) (by decide) (by decide) (by simp [stateE])) (by omega) rfl).mono ?_
          rintro e w5 ⟨rfl, S5, ve5, hw5, g5⟩
          have e5 : (openV (beginV stateE 0 1 0) b) = mK1 { a with n := n2 } b false := rfl
          rw [e5]
          rw [e5] at hw5
          have HW5 := hid hw5
          have HS5 := hid (fun b h => (hw5.lt b h).1)
          have HSB5 := hid (g5.keep hsbw.out HSB4.out)
          have HA5 := hid (g5.keep habw.out HA4.out)
          have HB5 := hid (g5.keep hbbw.out HB4.out)
          have B5 := hid (B4.out.trans (g5.below B4.out.size (fun b h => by omega)))
          clear hw5 g5 e5 HW4 HSB4 HA4 HB4 B4 r0 r1 r2 r3 r4 r5 r6 r7 r8 r9 r10 r11 r12
          have hk : ((mK1 { a with n := n2 } b false).2 = 1 ∨ (mK1 { a with n := n2 } b false).2 = 0) := by rcases HM.out.1 with h | ⟨-, h⟩ | h; exact .inl h; cases h; exact .inr h
          rcases hk with hk | hk
          · rw [hk]
            go_wp2
            go_ret
            exact ⟨rfl, B5.out⟩
          · have HK5 := hid hk
            rw [hk]
            clear hk
            go_wp2_with fail
            refine (wstate_any w5 wb S5 ve5 (mK1 { a with n := n2 } b false).1 HW5.out (k1_sm { a with n := n2 } b false).sm).mono ?_
            rintro e w6 ⟨cs6, rfl, hst6, b6⟩
            have hsh := sh_of hst6
            obtain ⟨m0, m1, m2, d3, d4, d5, d6, d7, d8, d9, d10, d11, p3, p4, p5, p6, p7, p8, p9, p10, p11, q3, q4, q5, q6, q7, q8, q9, q10, q11, rfl⟩ := hsh
            have HST6 := hid hst6
            have HSB6 := hid (keep_at b6 HSB5.out)
            have HA6 := hid (keep_at b6 HA5.out)
            have HB6 := hid (keep_at b6 HB5.out)
            have B6 := hid (B5.out.trans (b6.mono B5.out.size))
            have HS6 := hid (fun b h => Nat.lt_of_lt_of_le (HS5.out b h) b6.size)
            clear hst6 b6 HSB5 HA5 HB5 B5 HS5
            obtain ⟨k0, k1, k2, k3, k4, k5, k6, k7, k8, k9, k10, k11⟩ := cells12 HSB6.out
            have f0 := free_of HSB6.out 0
            have f1 := free_of HSB6.out 1
            have f2 := free_of HSB6.out 2
            have f3 := free_of HSB6.out 3
            have f4 := free_of HSB6.out 4
            have f5 := free_of HSB6.out 5
            have f6 := free_of HSB6.out 6
            have f7 := free_of HSB6.out 7
            have f8 := free_of HSB6.out 8
            have f9 := free_of HSB6.out 9
            have f10 := free_of HSB6.out 10
            have f11 := free_of HSB6.out 11
            go_wp2
            go_roundw
            case rel => exact ⟨1, by omega, rfl, ⟨mr_next HS6.out HST6.out HSB6.out noStr12 (setall12 HSB6.out).1 (setall12 HSB6.out).2 HA6.out HB6.out (by omega) (by omega) B6.out hsbB.out, (fun _ => HK5.out), (fun h => by omega)⟩⟩
            case measure => simp [intOf]
      · clear HLL HVL
        cases first with
        | true =>
          go_wp2_with fail
          refine (begin_any wr Sx (mK1 { a with n := n2 } b true).1.s [U n0, U n1, U n2', .slice a3 l3 c3, .slice a4 l4 c4, .slice a5 l5 c5, .slice a6 l6 c6, .slice a7 l7 c7, .slice a8 l8 c8, .slice a9 l9 c9, .slice a10 l10 c10, .slice a11 l11 c11] 0 2 wait hSx.out (HST.out (k1_lone { a with n := n2 } b true)) (k1_sm { a with n := n2 } b true).sm).mono ?_
          rintro e w4 ⟨wb, rfl, hw4, hwb, b4⟩
          have HW4 := hid hw4
          have HSB4 := hid (keep_at b4 HSB.out)
          have HA4 := hid (keep_at b4 HRA.out)
          have HB4 := hid (keep_at b4 HRB.out)
          have B4 := hid (HL.out.trans (b4.mono HL.out.size))
          have hww : w.heap.size ≤ wb := Nat.le_trans HL.out.size hwb
          have hsbw := hid (show ¬ sb = wb by have := heap_lt HSB.out; omega)
          have habw := hid (show ¬ w.heap.size + 1 = wb by have := heap_lt HRA.out; omega)
          have hbbw := hid (show ¬ w.heap.size + 1 + 1 = wb by have := heap_lt HRB.out; omega)
          clear hw4 b4 HSB HRA HRB HST k0 k1 k2 k3 k4 k5 k6 k7 k8 k9 k10 k11
          obtain ⟨r0, r1, r2, r3, r4, r5, r6, r7, r8, r9, r10, r11, r12⟩ := cells13 HB4.out
          go_wp2_with fail
          refine (open_any w4 wb (fun b => b = wb) (.slice none 0 0) (beginV (mK1 { a with n := n2 } b true).1.s 0 2 wait) b ba bn bc 3 HW4.out (k1b_sm { a with n := n2 } b true wait (by omega)) (by omega) (pub1_listed { a with n := n2 })).mono ?_
          rintro e w5 ⟨rfl, S5, ve5, hw5, g5⟩
          have e5 : (openV (beginV (mK1 { a with n := n2 } b true).1.s 0 2 wait) b) = mK2 { a with n := n2 } b true wait := rfl
          rw [e5]
          rw [e5] at hw5
          have HW5 := hid hw5
          have HS5 := hid (fun b h => (hw5.lt b h).1)
          have HSB5 := hid (g5.keep hsbw.out HSB4.out)
          have HA5 := hid (g5.keep habw.out HA4.out)
          have HB5 := hid (g5.keep hbbw.out HB4.out)
          have B5 := hid (B4.out.trans (g5.below B4.out.size (fun b h => by omega)))
          clear hw5 g5 e5 HW4 HSB4 HA4 HB4 B4 r0 r1 r2 r3 r4 r5 r6 r7 r8 r9 r10 r11 r12
          have hk : ((mK2 { a with n := n2 } b true wait).2 = 1 ∨ (mK2 { a with n := n2 } b true wait).2 = 0) := by rcases HM.out.2 (HK.out.1 (by omega)) with h | ⟨-, h⟩ | ⟨h, -⟩; exact .inl h; cases h; exact .inr h
          rcases hk with hk | hk
          · rw [hk]
            go_wp2
            go_ret
            exact ⟨rfl, B5.out⟩
          · have HK5 := hid hk
            rw [hk]
            clear hk
            go_wp2_with fail
            refine (wstate_any w5 wb S5 ve5 (mK2 { a with n := n2 } b true wait).1 HW5.out (k2_sm { a with n := n2 } b true wait (by omega)).sm).mono ?_
            rintro e w6 ⟨cs6, rfl, hst6, b6⟩
            have hsh := sh_of hst6
            obtain ⟨m0, m1, m2, d3, d4, d5, d6, d7, d8, d9, d10, d11, p3, p4, p5, p6, p7, p8, p9, p10, p11, q3, q4, q5, q6, q7, q8, q9, q10, q11, rfl⟩ := hsh
            have HST6 := hid hst6
            have HSB6 := hid (keep_at b6 HSB5.out)
            have HA6 := hid (keep_at b6 HA5.out)
            have HB6 := hid (keep_at b6 HB5.out)
            have B6 := hid (B5.out.trans (b6.mono B5.out.size))
            have HS6 := hid (fun b h => Nat.lt_of_lt_of_le (HS5.out b h) b6.size)
            clear hst6 b6 HSB5 HA5 HB5 B5 HS5
            obtain ⟨k0, k1, k2, k3, k4, k5, k6, k7, k8, k9, k10, k11⟩ := cells12 HSB6.out
            have f0 := free_of HSB6.out 0
            have f1 := free_of HSB6.out 1
            have f2 := free_of HSB6.out 2
            have f3 := free_of HSB6.out 3
            have f4 := free_of HSB6.out 4
            have f5 := free_of HSB6.out 5
            have f6 := free_of HSB6.out 6
            have f7 := free_of HSB6.out 7
            have f8 := free_of HSB6.out 8
            have f9 := free_of HSB6.out 9
            have f10 := free_of HSB6.out 10
            have f11 := free_of HSB6.out 11
            go_wp2
            go_roundw
            case rel => exact ⟨2, by omega, rfl, ⟨mr_next HS6.out HST6.out HSB6.out noStr12 (setall12 HSB6.out).1 (setall12 HSB6.out).2 HA6.out HB6.out (by omega) (by omega) B6.out hsbB.out, (fun _ => HK.out.1 (by omega)), (fun _ => HK5.out)⟩⟩
            case measure => simp [intOf]
        | false =>
          go_wp2_with fail
          refine (begin_any wr Sx (mK1 { a with n := n2 } b false).1.s [U n0, U n1, U n2', .slice a3 l3 c3, .slice a4 l4 c4, .slice a5 l5 c5, .slice a6 l6 c6, .slice a7 l7 c7, .slice a8 l8 c8, .slice a9 l9 c9, .slice a10 l10 c10, .slice a11 l11 c11] 0 2 wait hSx.out (HST.out (k1_lone { a with n := n2 } b false)) (k1_sm { a with n := n2 } b false).sm).mono ?_
          rintro e w4 ⟨wb, rfl, hw4, hwb, b4⟩
          have HW4 := hid hw4
          have HSB4 := hid (keep_at b4 HSB.out)
          have HA4 := hid (keep_at b4 HRA.out)
          have HB4 := hid (keep_at b4 HRB.out)
          have B4 := hid (HL.out.trans (b4.mono HL.out.size))
          have hww : w.heap.size ≤ wb := Nat.le_trans HL.out.size hwb
          have hsbw := hid (show ¬ sb = wb by have := heap_lt HSB.out; omega)
          have habw := hid (show ¬ w.heap.size + 1 = wb by have := heap_lt HRA.out; omega)
          have hbbw := hid (show ¬ w.heap.size + 1 + 1 = wb by have := heap_lt HRB.out; omega)
          clear hw4 b4 HSB HRA HRB HST k0 k1 k2 k3 k4 k5 k6 k7 k8 k9 k10 k11
          obtain ⟨r0, r1, r2, r3, r4, r5, r6, r7, r8, r9, r10, r11, r12⟩ := cells13 HA4.out
          go_wp2_with fail
          refine (publish_any w4 wb (fun b => b = wb) (.slice none 0 0) (beginV (mK1 { a with n := n2 } b false).1.s 0 2 wait) { a with n := n2 } aa ac 3 HW4.out (k1b_sm { a with n := n2 } b false wait (by omega)) (by omega) (fun h => rec_ok HA2.out h) (vars_sans HV.out B4.out (fun b h => by omega)) (.inr (open1_msgs b))).mono ?_
          rintro e w5 ⟨rfl, S5, ve5, hw5, g5⟩
          have e5 : (publishV (beginV (mK1 { a with n := n2 } b false).1.s 0 2 wait) { a with n := n2 }) = mK2 { a with n := n2 } b false wait := rfl
          rw [e5]
          rw [e5] at hw5
          have HW5 := hid hw5
          have HS5 := hid (fun b h => (hw5.lt b h).1)
          have HSB5 := hid (g5.keep hsbw.out HSB4.out)
          have HA5 := hid (g5.keep habw.out HA4.out)
          have HB5 := hid (g5.keep hbbw.out HB4.out)
          have B5 := hid (B4.out.trans (g5.below B4.out.size (fun b h => by omega)))
          clear hw5 g5 e5 HW4 HSB4 HA4 HB4 B4 r0 r1 r2 r3 r4 r5 r6 r7 r8 r9 r10 r11 r12
          have hk : ((mK2 { a with n := n2 } b false wait).2 = 1 ∨ (mK2 { a with n := n2 } b false wait).2 = 13 ∨ (mK2 { a with n := n2 } b false wait).2 = 0) := by rcases HM.out.2 (HK.out.1 (by omega)) with h | ⟨h, -⟩ | ⟨h, -⟩; exact .inl h; exact .inr (.inl h); exact .inr (.inr h)
          rcases hk with hk | hk | hk
          · rw [hk]
            go_wp2
            go_ret
            exact ⟨rfl, B5.out⟩
          · rw [hk]
            go_wp2
            go_ret
            exact ⟨rfl, B5.out⟩
          · have HK5 := hid hk
            rw [hk]
            clear hk
            go_wp2_with fail
            refine (wstate_any w5 wb S5 ve5 (mK2 { a with n := n2 } b false wait).1 HW5.out (k2_sm { a with n := n2 } b false wait (by omega)).sm).mono ?_
            rintro e w6 ⟨cs6, rfl, hst6, b6⟩
            have hsh := sh_of hst6
            obtain ⟨m0, m1, m2, d3, d4, d5, d6, d7, d8, d9, d10, d11, p3, p4, p5, p6, p7, p8, p9, p10, p11, q3, q4, q5, q6, q7, q8, q9, q10, q11, rfl⟩ := hsh
            have HST6 := hid hst6
            have HSB6 := hid (keep_at b6 HSB5.out)
            have HA6 := hid (keep_at b6 HA5.out)
            have HB6 := hid (keep_at b6 HB5.out)
            have B6 := hid (B5.out.trans (b6.mono B5.out.size))
            have HS6 := hid (fun b h => Nat.lt_of_lt_of_le (HS5.out b h) b6.size)
            clear hst6 b6 HSB5 HA5 HB5 B5 HS5
            obtain ⟨k0, k1, k2, k3, k4, k5, k6, k7, k8, k9, k10, k11⟩ := cells12 HSB6.out
            have f0 := free_of HSB6.out 0
            have f1 := free_of HSB6.out 1
            have f2 := free_of HSB6.out 2
            have f3 := free_of HSB6.out 3
            have f4 := free_of HSB6.out 4
            have f5 := free_of HSB6.out 5
            have f6 := free_of HSB6.out 6
            have f7 := free_of HSB6.out 7
            have f8 := free_of HSB6.out 8
            have f9 := free_of HSB6.out 9
            have f10 := free_of HSB6.out 10
            have f11 := free_of HSB6.out 11
            go_wp2
            go_roundw
            case rel => exact ⟨2, by omega, rfl, ⟨mr_next HS6.out HST6.out HSB6.out noStr12 (setall12 HSB6.out).1 (setall12 HSB6.out).2 HA6.out HB6.out (by omega) (by omega) B6.out hsbB.out, (fun _ => HK.out.1 (by omega)), (fun _ => HK5.out)⟩⟩
            case measure => simp [intOf]
      · obtain ⟨x, hx, hxm⟩ : ∃ x, (mSt { a with n := n2 } b first wait 2).listed = [x] ∧ (x.msg ≠ 0 ↔ (a.a = b.a ∧ a.b = b.b ∧ (first = false ∨ wait < n2))) := by
          have h2 := HK.out.2 (by omega)
          rcases HM.out.2 (HK.out.1 (by omega)) with h | ⟨h, -⟩ | ⟨-, h⟩
          · exact absurd (h2.symm.trans h) (by decide)
          · exact absurd (h2.symm.trans h) (by decide)
          · exact h
        obtain rfl : vl = .slice a10 l10 c10 := by have := HVL.out; simpa using this.symm
        have hl := HLL.out
        rw [hx] at hl
        obtain ⟨a', cap', hv, -, -, h3⟩ := hl
        have hv' := hv
        simp only [Value.slice.injEq, List.length_cons, List.length_nil] at hv'
        obtain ⟨rfl, rfl, rfl⟩ := hv'
        obtain ⟨bl, ofl, csl, rfl, -, ⟨lv, rfl, -⟩, hc⟩ := h3 0 x rfl
        have c5 := (sans_cell (hc 5 _ rfl)).1
        rw [show ofl + 0 * 7 + 5 = ofl + 5 by omega] at c5
        obtain ⟨r0, r1, r2, r3, r4, r5, r6, r7, r8, r9, r10, r11, r12⟩ := cells13 HRA.out
        obtain ⟨s0, s1, s2, s3, s4, s5, s6, s7, s8, s9, s10, s11, s12⟩ := cells13 HRB.out
        clear HST HLL HVL HK HM hc hx h3 hv
        have c5' : wr.cell? ⟨bl, ofl + 5, none⟩ = some (.int .u64 x.msg) := c5
        clear c5
        have hcs := cases_meet hxm
        clear hxm
        rcases hcs with ⟨hz, hp, hq, hf⟩ | ⟨hz, hf⟩
        · have hz' := hid (show ((x.msg : Int) != 0) = true by simp; omega)
          have p1 := (bytes_dec a.a b.a).trans (decide_eq_true hp)
          have p2 := (bytes_dec a.b b.b).trans (decide_eq_true hq)
          clear hz hp hq
          rcases hf with rfl | ⟨rfl, g3⟩
          · go_wp2
            go_ret
            exact ⟨by show Ending.returned (.bool ((x.msg : Int) != 0)) = _; rw [hz'.out], HL.out⟩
          · go_wp2
            go_ret
            exact ⟨by show Ending.returned (.bool ((x.msg : Int) != 0)) = _; rw [hz'.out], HL.out⟩
        · have hz2 : x.msg = 0 := Classical.not_not.1 hz
          rw [hz2] at c5'
          clear hz hz2
          rcases hf with ⟨hf | ⟨hf, hq⟩, rfl | ⟨rfl, g3⟩ | ⟨rfl, g3⟩⟩ | ⟨hf, hq, rfl, g3⟩
          · have p1 := (bytes_dec a.a b.a).trans (decide_eq_false hf)
            clear hf
            go_wp2
            go_ret
            exact ⟨rfl, HL.out⟩
          · have p1 := (bytes_dec a.a b.a).trans (decide_eq_false hf)
            clear hf
            go_wp2
            go_ret
            exact ⟨rfl, HL.out⟩
          · have p1 := (bytes_dec a.a b.a).trans (decide_eq_false hf)
            clear hf
            go_wp2
            go_ret
            exact ⟨rfl, HL.out⟩
          · have p1 := (bytes_dec a.a b.a).trans (decide_eq_true hf)
            have p2 := (bytes_dec a.b b.b).trans (decide_eq_false hq)
            clear hf hq
            go_wp2
            go_ret
            exact ⟨rfl, HL.out⟩
          · have p1 := (bytes_dec a.a b.a).trans (decide_eq_true hf)
            have p2 := (bytes_dec a.b b.b).trans (decide_eq_false hq)
            clear hf hq
            go_wp2
            go_ret
            exact ⟨rfl, HL.out⟩
          · have p1 := (bytes_dec a.a b.a).trans (decide_eq_true hf)
            have p2 := (bytes_dec a.b b.b).trans (decide_eq_false hq)
            clear hf hq
            go_wp2
            go_ret
            exact ⟨rfl, HL.out⟩
          · have p1 := (bytes_dec a.a b.a).trans (decide_eq_true hf)
            have p2 := (bytes_dec a.b b.b).trans (decide_eq_true hq)
            clear hf hq
            go_wp2
            go_ret
            exact ⟨rfl, HL.out⟩
end Go.Proofs.YtjkbfoeakeoeiaaGreat
