/- Keep: contracts (Wz Tv Tw Tw2). -/
import Derived.Test.YthikijlbclckdaaGreatR4
import Derived.Test.YthikijlbclckdaaGreatR13
import Derived.Test.YthikijlbclckdaaGreatR15
namespace Go.Proofs.YthikijlbclckdaaGreat
set_option maxRecDepth 100000
set_option maxHeartbeats 40000000
set_option linter.unusedSimpArgs false
set_option linter.unusedVariables false
open Go.RowKit
theorem uintR_e (r : RdV) : (uintR r).2.e = 0 → (r.e = 0 ∧ (numS r.s).2.2 = 0 ∧ uintR r = ((numS r.s).1, ⟨r.s.extract (numS r.s).2.1 r.s.size, 0⟩)) := by
  intro h
  unfold uintR takeR at h ⊢
  by_cases h1 : r.e = 0
  · rw [if_pos h1] at h ⊢
    by_cases h2 : (numS r.s).2.2 = 0
    · rw [if_pos h2] at h ⊢; exact ⟨h1, h2, rfl⟩
    · rw [if_neg h2] at h; exact absurd h h2
  · rw [if_neg h1] at h; exact absurd h h1
theorem uintR_bad (r : RdV) (h : (uintR r).2.e ≠ 0) (most : Int) : textR most r = (⟨#[]⟩, ⟨r.s, (uintR r).2.e⟩) := by
  unfold uintR textR takeR at *
  by_cases h1 : r.e = 0
  · rw [if_pos h1] at h ⊢
    by_cases h2 : (numS r.s).2.2 = 0
    · rw [if_pos h2] at h; exact absurd rfl h
    · rw [if_pos h1]
      have e : textF most r.s = (⟨#[]⟩, 0, (numS r.s).2.2) := if_pos h2
      rw [e, if_neg h2, if_neg h2]
  · rw [if_neg h1, if_neg h1]
theorem text_of (r : RdV) (most : Int) (h1 : r.e = 0) (h2 : (numS r.s).2.2 = 0) : textR most r =
    if most < (numS r.s).1 then (⟨#[]⟩, ⟨r.s, 13⟩) else if r.s.size - (numS r.s).2.1 < (numS r.s).1 then (⟨#[]⟩, ⟨r.s, 2⟩)
    else (r.s.extract (numS r.s).2.1 ((numS r.s).2.1 + (numS r.s).1), ⟨r.s.extract ((numS r.s).2.1 + (numS r.s).1) r.s.size, 0⟩) := by
  have hf : textF most r.s = if most < (numS r.s).1 then (⟨#[]⟩, 0, 13) else if r.s.size - (numS r.s).2.1 < (numS r.s).1 then (⟨#[]⟩, 0, 2)
      else (r.s.extract (numS r.s).2.1 ((numS r.s).2.1 + (numS r.s).1), (numS r.s).2.1 + (numS r.s).1, 0) := if_neg (fun h => h h2)
  unfold textR takeR
  rw [if_pos h1, hf]
  by_cases h3 : most < (numS r.s).1
  · rw [if_pos h3, if_pos h3, if_neg (by simp)]
  · rw [if_neg h3, if_neg h3]
    by_cases h4 : r.s.size - (numS r.s).2.1 < (numS r.s).1
    · rw [if_pos h4, if_pos h4, if_neg (by simp)]
    · rw [if_neg h4, if_neg h4, if_pos rfl]
theorem rrText_any (rb : Nat) (r : RdV) (w : World) (h : IsR 92 w rb r) (hs : r.s.size ≤ 140737488355328) (most : Int) (hm0 : 0 ≤ most) (hm1 : most ≤ 1000000) :
    Calls Tryz.prog 104 #[.pointer (some ⟨rb, 0, none⟩), .int .i64 most] w fun e' w' => e' = .returned (.string (textR most r).1) ∧ IsR 92 w' rb (textR most r).2 ∧ Rb rb w w' := by
  have c0 := h.c0
  have Hc := hid (rrUint_any rb r w h hs)
  clear h
  have hmn : decide (most < 0) = false := by simp; omega
  by_cases he : (uintR r).2.e = 0
  · obtain ⟨h1, h2, hu⟩ := uintR_e r he
    have hv := numS_val r.s
    have hk := numS_len r.s
    rw [text_of r most h1 h2]
    rw [hu] at Hc
    clear he hu h1 h2
    obtain ⟨s, e⟩ := r
    dsimp only at *
    revert hv hk Hc
    generalize numS s = x
    obtain ⟨n, k, er⟩ := x
    intro Hc hv hk
    dsimp only at hv hk Hc ⊢
    by_cases g1 : most < (n : Int)
    · rw [if_pos g1]
      have g1' : decide (most < (n : Int)) = true := by simpa using g1
      go_enter Tryz.func104, Tryz.ntmps104
      go_wp2_with fail
      refine Hc.out.mono ?_
      rintro e1 w1 ⟨rfl, h1, b1⟩
      have H1 := hid h1
      have B1 := hid b1
      have d0 := h1.c0
      have d1 := h1.c1
      have f0 := IsR.f 0 h1
      have f1 := IsR.f 1 h1
      clear h1 b1 c0
      dsimp only at d0 d1
      go_wp2
      go_ret
      exact ⟨rfl, (H1.out.set1 13).set0 s, B1.out.trans ((Rb.set rb 1 _).trans (Rb.set rb 0 _))⟩
    · rw [if_neg g1]
      have g1' : decide (most < (n : Int)) = false := by simp; omega
      by_cases g2 : s.size - k < n
      · rw [if_pos g2]
        have hz : (s.extract k s.size).size = s.size - k := by rw [extract_size]; omega
        have g2' : decide (((s.extract k s.size).size : Int) < (n : Int)) = true := by rw [hz]; simp; omega
        have g6 : (s.extract k s.size).size < n := by omega
        have g3 : (s.extract k s.size).size ≤ 140737488355328 := by rw [hz]; omega
        clear hz
        generalize s.extract k s.size = s2 at *
        go_enter Tryz.func104, Tryz.ntmps104
        go_wp2_with fail
        refine Hc.out.mono ?_
        rintro e1 w1 ⟨rfl, h1, b1⟩
        have H1 := hid h1
        have B1 := hid b1
        have d0 := h1.c0
        have d1 := h1.c1
        have f0 := IsR.f 0 h1
        have f1 := IsR.f 1 h1
        clear h1 b1 c0
        dsimp only at d0 d1
        go_wp2
        go_ret
        exact ⟨rfl, (H1.out.set1 2).set0 s, B1.out.trans ((Rb.set rb 1 _).trans (Rb.set rb 0 _))⟩
      · rw [if_neg g2]
        have hz : (s.extract k s.size).size = s.size - k := by rw [extract_size]; omega
        have e1 : s.extract k (k + n) = (s.extract k s.size).extract 0 n := by
          rw [ByteArray.extract_extract]; congr 1 <;> omega
        have e2 : s.extract (k + n) s.size = (s.extract k s.size).extract n (s.extract k s.size).size := by
          rw [hz, ByteArray.extract_extract]; congr 1; omega
        rw [e1, e2]
        have g2' : decide (((s.extract k s.size).size : Int) < (n : Int)) = false := by rw [hz]; simp; omega
        have g3 : (s.extract k s.size).size ≤ 140737488355328 := by rw [hz]; omega
        have g4 : n ≤ (s.extract k s.size).size := by omega
        clear hz e1 e2
        generalize s.extract k s.size = s2 at *
        go_enter Tryz.func104, Tryz.ntmps104
        go_wp2_with fail
        refine Hc.out.mono ?_
        rintro e1 w1 ⟨rfl, h1, b1⟩
        have H1 := hid h1
        have B1 := hid b1
        have d0 := h1.c0
        have d1 := h1.c1
        have f0 := IsR.f 0 h1
        have f1 := IsR.f 1 h1
        clear h1 b1 c0
        dsimp only at d0 d1
        go_wp2
        go_ret
        exact ⟨rfl, H1.out.set0 _, B1.out.trans (Rb.set rb 0 _)⟩
  · rw [uintR_bad r he most]
    have he1 : ((uintR r).2.e == 0) = false := by simpa using he
    have he2 : ((uintR r).2.e != 0) = true := by simpa using he
    clear he
    revert he1 he2 Hc
    generalize uintR r = x
    obtain ⟨v, r'⟩ := x
    intro Hc he1 he2
    dsimp only at he1 he2 Hc ⊢
    go_enter Tryz.func104, Tryz.ntmps104
    go_wp2_with fail
    refine Hc.out.mono ?_
    rintro e1 w1 ⟨rfl, h1, b1⟩
    have H1 := hid h1
    have B1 := hid b1
    have d0 := h1.c0
    have d1 := h1.c1
    have f0 := IsR.f 0 h1
    clear h1 b1 c0
    go_wp2
    go_ret
    exact ⟨rfl, H1.out.set0 _, B1.out.trans (Rb.set rb 0 _)⟩
theorem rrByte_any (rb : Nat) (r : RdV) (w : World) (h : IsR 92 w rb r) (hs : r.s.size ≤ 140737488355328) :
    Calls Tryz.prog 157 #[.pointer (some ⟨rb, 0, none⟩)] w fun e' w' => e' = .returned (.int .u8 (byteR r).1) ∧ IsR 92 w' rb (byteR r).2 ∧ Rb rb w w' := by
  obtain ⟨s, e⟩ := r
  have H := hid h
  have c0 := h.c0
  have c1 := h.c1
  have f0 := IsR.f 0 h
  have f1 := IsR.f 1 h
  dsimp only at c0 c1 hs
  clear h
  by_cases he : e = 0
  · subst he
    by_cases hz : s.size = 0
    · have hl := bytes_nil hz
      have ht : byteR ⟨s, 0⟩ = (0, ⟨s, 2⟩) := by unfold byteR takeR byteF; simp only [if_pos hz, if_true]; rfl
      rw [ht]
      clear ht
      go_enter Tryz.func157, Tryz.ntmps157
      go_wp2
      go_ret
      exact ⟨rfl, H.out.set1 2, Rb.set rb 1 _⟩
    · have hl := bytes_some hz
      have hl2 : 0 < s.size := by omega
      have ht : byteR ⟨s, 0⟩ = (s[0].toNat, ⟨s.extract 1 s.size, 0⟩) := by unfold byteR takeR byteF; simp only [if_neg hz, if_true, head_at hl2]
      rw [ht]
      clear ht
      go_enter Tryz.func157, Tryz.ntmps157
      go_wp2
      go_ret
      exact ⟨rfl, H.out.set0 _, Rb.set rb 0 _⟩
  · have ht : byteR ⟨s, e⟩ = (0, ⟨s, e⟩) := if_neg he
    rw [ht]
    have he1 : (e == 0) = false := by simpa using he
    have he2 : (e != 0) = true := by simpa using he
    go_enter Tryz.func157, Tryz.ntmps157
    go_wp2
    go_ret
    exact ⟨rfl, H.out, But.refl _ _⟩
theorem rrEnd_any (rb : Nat) (r : RdV) (w : World) (h : IsR 92 w rb r) :
    Calls Tryz.prog 43 #[.pointer (some ⟨rb, 0, none⟩)] w fun e' w' => e' = .returned (.int .i64 (endR r)) ∧ w = w' := by
  have c0 := h.c0
  have c1 := h.c1
  clear h
  by_cases he : r.e = 0
  · have he1 : (r.e == 0) = true := by simpa using he
    by_cases hz : r.s.size = 0
    · have hl := bytes_nil hz
      have e : endR r = r.e := if_neg (by omega)
      rw [e]
      clear e he
      go_enter Tryz.func43, Tryz.ntmps43
      go_wp2
      go_ret
      exact ⟨rfl, rfl⟩
    · have hl := bytes_some hz
      have e : endR r = 3 := if_pos ⟨he, hz⟩
      rw [e]
      clear e he
      go_enter Tryz.func43, Tryz.ntmps43
      go_wp2
      go_ret
      exact ⟨rfl, rfl⟩
  · have e : endR r = r.e := if_neg (fun h => he h.1)
    rw [e]
    have he1 : (r.e == 0) = false := by simpa using he
    go_enter Tryz.func43, Tryz.ntmps43
    go_wp2
    go_ret
    exact ⟨rfl, rfl⟩
end Go.Proofs.YthikijlbclckdaaGreat
namespace Go.Proofs.YthikijlbclckdaaGreat
set_option maxRecDepth 100000
set_option maxHeartbeats 40000000
set_option linter.unusedSimpArgs false
set_option linter.unusedVariables false
open Go.RowKit
def val0 : ValV := ⟨0, 0, ⟨#[]⟩⟩
def takeP (r : RdV) : ValV × RdV :=
  if (byteR r).1 = 3 then (⟨(byteR r).1, 0, (textR 1024 (byteR r).2).1⟩, (textR 1024 (byteR r).2).2) else (⟨(byteR r).1, (intR (byteR r).2).1, ⟨#[]⟩⟩, (intR (byteR r).2).2)
def takeV (r : RdV) : (ValV × Bool) × RdV :=
  if (takeP r).2.e = 0 ∧ mayV (takeP r).1 = true then (((takeP r).1, true), (takeP r).2) else ((val0, false), (takeP r).2)
theorem Rb.at {rb k : Nat} {w w' : World} {o : Obj} (hb : Rb rb w w') (h : w.heap[k]? = some o) (hn : k ≠ rb) : w'.heap[k]? = some o := (hb.block k (heap_lt h) hn).trans h
theorem set3 {w : World} {b : Nat} {x y z : Value} {t : TypeId} (h : w.heap[b]? = some (.cells #[x, y, z] t (0, 0))) (p q r : Value) :
    (((w.setCell ⟨b, 0, none⟩ p).setCell ⟨b, 1, none⟩ q).setCell ⟨b, 2, none⟩ r).heap[b]? = some (.cells #[p, q, r] t (0, 0)) ∧ Rb b w (((w.setCell ⟨b, 0, none⟩ p).setCell ⟨b, 1, none⟩ q).setCell ⟨b, 2, none⟩ r) :=
  ⟨setCell_at (setCell_at (setCell_at h 0 p) 1 q) 2 r, (Rb.set b 0 p).trans ((Rb.set b 1 q).trans (Rb.set b 2 r))⟩
theorem byteR_lt (r : RdV) : (byteR r).1 < 256 := by
  have hb : (byteF r.s).1 < 256 := by
    unfold byteF
    by_cases h : r.s.size = 0
    · rw [if_pos h]; show 0 < 256; omega
    · rw [if_neg h]; exact UInt8.toNat_lt _
  unfold byteR takeR
  by_cases h : r.e = 0
  · rw [if_pos h]
    by_cases h2 : (byteF r.s).2.2 = 0
    · rw [if_pos h2]; exact hb
    · rw [if_neg h2]; show 0 < 256; omega
  · rw [if_neg h]; show 0 < 256; omega
theorem takeV_any (rb : Nat) (r : RdV) (w : World) (h : IsR 168 w rb r) (hs : r.s.size ≤ 140737488355328) :
    Calls Tryz.prog 141 #[.pointer (some ⟨rb, 0, none⟩)] w fun e' w' => e' = .returned (.tuple #[(takeV r).1.1.enc, .bool (takeV r).1.2]) ∧ IsR 168 w' rb (takeV r).2 ∧ Rb rb w w' := by
  have hrb : rb < w.heap.size := heap_lt h
  have hk := byteR_lt r
  go_enter Tryz.func141, Tryz.ntmps141
  go_wp2_with fail
  have hb0 := (Below.refl _ w).alloc (Nat.le_refl _) (.cells #[.int .i64 0, .int .i64 0, .string ⟨#[]⟩] 175)
  have hr0 := alloc_new w (.cells #[.int .i64 0, .int .i64 0, .string ⟨#[]⟩] 175)
  generalize w.alloc (.cells #[.int .i64 0, .int .i64 0, .string ⟨#[]⟩] 175) = w1 at hb0 hr0 ⊢
  have h1 := h.grow hb0
  refine (rdByte_any rb r w1 h1 hs).mono ?_
  rintro e1 w2 ⟨rfl, h2, b2⟩
  have hr2 := hid (b2.at hr0 (by omega))
  have H2 := hid h2
  have B2 := hid ((But.of hb0).trans (F := fun k => k = rb) b2)
  have hs2 : (byteR r).2.s.size ≤ 140737488355328 := Nat.le_trans (takeR_size _ _ _) hs
  clear hb0 hr0 h1 h2 b2 h
  by_cases h3 : (byteR r).1 = 3
  · have tok := trivial
    have b3 : (((byteR r).1 : Int) == 3) = true := by simp; omega
    have e3 := hid h3
    clear h3
    go_wp2_with fail
    have hb3 := (Below.refl _ w2).alloc (Nat.le_refl _) (.cells #[.int .i64 (byteR r).1, .int .i64 0, .string ⟨#[]⟩] 175)
    have hv3 := alloc_new w2 (.cells #[.int .i64 (byteR r).1, .int .i64 0, .string ⟨#[]⟩] 175)
    have hvn : w2.heap.size ≠ rb := by have := heap_lt H2.out; omega
    generalize w2.alloc (.cells #[.int .i64 (byteR r).1, .int .i64 0, .string ⟨#[]⟩] 175) = w3 at hb3 hv3 ⊢
    have h3 := H2.out.grow hb3
    refine (rdText_any rb _ w3 h3 hs2 1024 (by omega) (by omega)).mono ?_
    rintro e1 w4 ⟨rfl, h4, b4⟩
    have hv4 := hid (b4.at hv3 hvn)
    have hr4 := hid (b4.at ((hb3.block _ (heap_lt hr2.out)).trans hr2.out) (by omega))
    have H4 := hid h4
    have B4 := hid (B2.out.trans ((But.of hb3).trans (F := fun k => k = rb) b4))
    have f4 := free_of hv4.out 2
    have k4 := cell_of hv4.out 2
    have hvl := heap_lt hv4.out
    clear hb3 hv3 h3 h4 b4
    go_wp2_with fail
    clear f4 k4
    have hv5 := setCell_at hv4.out 2 (.string (textR 1024 (byteR r).2).1)
    have hs5 := Rb.set (w := w4) w2.heap.size 2 (.string (textR 1024 (byteR r).2).1)
    have H5 := hs5.at H4.out (Ne.symm hvn)
    have hr5 := hs5.at hr4.out (by have := heap_lt hr2.out; omega)
    have B5 := hid (B4.out.trans' hs5 (F := fun k => k = rb) (fun i hi he => by have := heap_lt H2.out; have := B2.out.size; omega))
    clear hs5
    generalize w4.setCell ⟨w2.heap.size, 2, none⟩ (.string (textR 1024 (byteR r).2).1) = w5 at hv5 H5 hr5 B5 ⊢
    have hP := hid (show takeP r = (⟨(byteR r).1, 0, (textR 1024 (byteR r).2).1⟩, (textR 1024 (byteR r).2).2) from if_pos e3.out)
    have hv5 := hid hv5
    have H5 := hid H5
    have hr5 := hid hr5
    refine (rdErr_any rb _ w5 H5.out).mono ?_
    rintro e1 w6 ⟨rfl, rfl⟩
    have x0 := cell_of hr5.out 0
    have x1 := cell_of hr5.out 1
    have x2 := cell_of hr5.out 2
    have y0 := free_of hr5.out 0
    have y1 := free_of hr5.out 1
    have y2 := free_of hr5.out 2
    have z0 := cell_of hv5.out 0
    have z1 := cell_of hv5.out 1
    have z2 := cell_of hv5.out 2
    by_cases g : ((textR 1024 (byteR r).2).2).e = 0
    · have g' : (((textR 1024 (byteR r).2).2).e != 0) = false := by simpa using g
      have G := hid g
      clear g
      go_wp2_with fail
      refine (may_any ⟨(byteR r).1, 0, (textR 1024 (byteR r).2).1⟩ w5).mono ?_
      rintro e1 w6 ⟨rfl, b6⟩
      have hr6 := hid ((b6.block _ (heap_lt hr5.out)).trans hr5.out)
      have hv6 := hid ((b6.block _ (heap_lt hv5.out)).trans hv5.out)
      have H6 := hid (IsR.grow H5.out b6)
      have B6 := hid (B5.out.trans (But.of b6))
      clear x0 x1 x2 y0 y1 y2 z0 z1 z2 b6
      have x0 := cell_of hr6.out 0
      have x1 := cell_of hr6.out 1
      have x2 := cell_of hr6.out 2
      have y0 := free_of hr6.out 0
      have y1 := free_of hr6.out 1
      have y2 := free_of hr6.out 2
      have z0 := cell_of hv6.out 0
      have z1 := cell_of hv6.out 1
      have z2 := cell_of hv6.out 2
      cases hm : mayV ⟨(byteR r).1, 0, (textR 1024 (byteR r).2).1⟩ with
      | true =>
        have hT := hid (show takeV r = ((⟨(byteR r).1, 0, (textR 1024 (byteR r).2).1⟩, true), (textR 1024 (byteR r).2).2) by unfold takeV; rw [hP.out, if_pos ⟨G.out, hm⟩])
        clear hm
        go_wp2
        obtain ⟨hr7, s7⟩ := set3 hr6.out (.int .i64 (byteR r).1) (.int .i64 0) (.string (textR 1024 (byteR r).2).1)
        have H7 := hid (s7.at H6.out (by omega))
        have B7 := hid (B6.out.trans' s7 (F := fun k => k = rb) (fun i hi he => by omega))
        clear s7 x0 x1 x2 y0 y1 y2 z0 z1 z2
        generalize ((w6.setCell ⟨w.heap.size, 0, none⟩ (.int .i64 (byteR r).1)).setCell ⟨w.heap.size, 1, none⟩ (.int .i64 0)).setCell ⟨w.heap.size, 2, none⟩ (.string (textR 1024 (byteR r).2).1) = w7 at hr7 H7 B7 ⊢
        have k0 := cell_of hr7 0
        have k1 := cell_of hr7 1
        have k2 := cell_of hr7 2
        exact bodyPost_ret (v := .tuple #[(ValV.enc ⟨(byteR r).1, 0, (textR 1024 (byteR r).2).1⟩), .bool true]) (by simp [results, Tryz.results141, go_sem, ValV.enc, val0, k0, k1, k2]) rfl ⟨by rw [hT.out], by rw [hT.out]; exact H7.out, B7.out⟩
      | false =>
        have hT := hid (show takeV r = ((val0, false), (textR 1024 (byteR r).2).2) by unfold takeV; rw [hP.out, if_neg (fun h => by have := h.2; rw [hm] at this; cases this)])
        clear hm
        go_wp2
        obtain ⟨hr7, s7⟩ := set3 hr6.out (.int .i64 0) (.int .i64 0) (.string ⟨#[]⟩)
        have H7 := hid (s7.at H6.out (by omega))
        have B7 := hid (B6.out.trans' s7 (F := fun k => k = rb) (fun i hi he => by omega))
        clear s7 x0 x1 x2 y0 y1 y2 z0 z1 z2
        generalize ((w6.setCell ⟨w.heap.size, 0, none⟩ (.int .i64 0)).setCell ⟨w.heap.size, 1, none⟩ (.int .i64 0)).setCell ⟨w.heap.size, 2, none⟩ (.string ⟨#[]⟩) = w7 at hr7 H7 B7 ⊢
        have k0 := cell_of hr7 0
        have k1 := cell_of hr7 1
        have k2 := cell_of hr7 2
        exact bodyPost_ret (v := .tuple #[val0.enc, .bool false]) (by simp [results, Tryz.results141, go_sem, ValV.enc, val0, k0, k1, k2]) rfl ⟨by rw [hT.out], by rw [hT.out]; exact H7.out, B7.out⟩
    · have g' : (((textR 1024 (byteR r).2).2).e != 0) = true := by simpa using g
      have hT := hid (show takeV r = ((val0, false), (textR 1024 (byteR r).2).2) by unfold takeV; rw [hP.out, if_neg (fun h => g h.1)])
      clear g
      go_wp2
      obtain ⟨hr7, s7⟩ := set3 hr5.out (.int .i64 0) (.int .i64 0) (.string ⟨#[]⟩)
      have H7 := hid (s7.at H5.out (by omega))
      have B7 := hid (B5.out.trans' s7 (F := fun k => k = rb) (fun i hi he => by omega))
      clear s7 x0 x1 x2 y0 y1 y2 z0 z1 z2
      generalize ((w5.setCell ⟨w.heap.size, 0, none⟩ (.int .i64 0)).setCell ⟨w.heap.size, 1, none⟩ (.int .i64 0)).setCell ⟨w.heap.size, 2, none⟩ (.string ⟨#[]⟩) = w7 at hr7 H7 B7 ⊢
      have k0 := cell_of hr7 0
      have k1 := cell_of hr7 1
      have k2 := cell_of hr7 2
      exact bodyPost_ret (v := .tuple #[val0.enc, .bool false]) (by simp [results, Tryz.results141, go_sem, ValV.enc, val0, k0, k1, k2]) rfl ⟨by rw [hT.out], by rw [hT.out]; exact H7.out, B7.out⟩
  · have tok := trivial
    have b3 : (((byteR r).1 : Int) == 3) = false := by simp; omega
    have e3 := hid h3
    clear h3
    go_wp2_with fail
    have hb3 := (Below.refl _ w2).alloc (Nat.le_refl _) (.cells #[.int .i64 (byteR r).1, .int .i64 0, .string ⟨#[]⟩] 175)
    have hv3 := alloc_new w2 (.cells #[.int .i64 (byteR r).1, .int .i64 0, .string ⟨#[]⟩] 175)
    have hvn : w2.heap.size ≠ rb := by have := heap_lt H2.out; omega
    generalize w2.alloc (.cells #[.int .i64 (byteR r).1, .int .i64 0, .string ⟨#[]⟩] 175) = w3 at hb3 hv3 ⊢
    have h3 := H2.out.grow hb3
    refine (rdInt_any rb _ w3 h3 hs2).mono ?_
    rintro e1 w4 ⟨rfl, h4, b4⟩
    have hv4 := hid (b4.at hv3 hvn)
    have hr4 := hid (b4.at ((hb3.block _ (heap_lt hr2.out)).trans hr2.out) (by omega))
    have H4 := hid h4
    have B4 := hid (B2.out.trans ((But.of hb3).trans (F := fun k => k = rb) b4))
    have f4 := free_of hv4.out 1
    have k4 := cell_of hv4.out 1
    have hvl := heap_lt hv4.out
    clear hb3 hv3 h3 h4 b4
    go_wp2_with fail
    clear f4 k4
    have hv5 := setCell_at hv4.out 1 (.int .i64 (intR (byteR r).2).1)
    have hs5 := Rb.set (w := w4) w2.heap.size 1 (.int .i64 (intR (byteR r).2).1)
    have H5 := hs5.at H4.out (Ne.symm hvn)
    have hr5 := hs5.at hr4.out (by have := heap_lt hr2.out; omega)
    have B5 := hid (B4.out.trans' hs5 (F := fun k => k = rb) (fun i hi he => by have := heap_lt H2.out; have := B2.out.size; omega))
    clear hs5
    generalize w4.setCell ⟨w2.heap.size, 1, none⟩ (.int .i64 (intR (byteR r).2).1) = w5 at hv5 H5 hr5 B5 ⊢
    have hP := hid (show takeP r = (⟨(byteR r).1, (intR (byteR r).2).1, ⟨#[]⟩⟩, (intR (byteR r).2).2) from if_neg e3.out)
    have hv5 := hid hv5
    have H5 := hid H5
    have hr5 := hid hr5
    refine (rdErr_any rb _ w5 H5.out).mono ?_
    rintro e1 w6 ⟨rfl, rfl⟩
    have x0 := cell_of hr5.out 0
    have x1 := cell_of hr5.out 1
    have x2 := cell_of hr5.out 2
    have y0 := free_of hr5.out 0
    have y1 := free_of hr5.out 1
    have y2 := free_of hr5.out 2
    have z0 := cell_of hv5.out 0
    have z1 := cell_of hv5.out 1
    have z2 := cell_of hv5.out 2
    by_cases g : ((intR (byteR r).2).2).e = 0
    · have g' : (((intR (byteR r).2).2).e != 0) = false := by simpa using g
      have G := hid g
      clear g
      go_wp2_with fail
      refine (may_any ⟨(byteR r).1, (intR (byteR r).2).1, ⟨#[]⟩⟩ w5).mono ?_
      rintro e1 w6 ⟨rfl, b6⟩
      have hr6 := hid ((b6.block _ (heap_lt hr5.out)).trans hr5.out)
      have hv6 := hid ((b6.block _ (heap_lt hv5.out)).trans hv5.out)
      have H6 := hid (IsR.grow H5.out b6)
      have B6 := hid (B5.out.trans (But.of b6))
      clear x0 x1 x2 y0 y1 y2 z0 z1 z2 b6
      have x0 := cell_of hr6.out 0
      have x1 := cell_of hr6.out 1
      have x2 := cell_of hr6.out 2
      have y0 := free_of hr6.out 0
      have y1 := free_of hr6.out 1
      have y2 := free_of hr6.out 2
      have z0 := cell_of hv6.out 0
      have z1 := cell_of hv6.out 1
      have z2 := cell_of hv6.out 2
      cases hm : mayV ⟨(byteR r).1, (intR (byteR r).2).1, ⟨#[]⟩⟩ with
      | true =>
        have hT := hid (show takeV r = ((⟨(byteR r).1, (intR (byteR r).2).1, ⟨#[]⟩⟩, true), (intR (byteR r).2).2) by unfold takeV; rw [hP.out, if_pos ⟨G.out, hm⟩])
        clear hm
        go_wp2
        obtain ⟨hr7, s7⟩ := set3 hr6.out (.int .i64 (byteR r).1) (.int .i64 (intR (byteR r).2).1) (.string ⟨#[]⟩)
        have H7 := hid (s7.at H6.out (by omega))
        have B7 := hid (B6.out.trans' s7 (F := fun k => k = rb) (fun i hi he => by omega))
        clear s7 x0 x1 x2 y0 y1 y2 z0 z1 z2
        generalize ((w6.setCell ⟨w.heap.size, 0, none⟩ (.int .i64 (byteR r).1)).setCell ⟨w.heap.size, 1, none⟩ (.int .i64 (intR (byteR r).2).1)).setCell ⟨w.heap.size, 2, none⟩ (.string ⟨#[]⟩) = w7 at hr7 H7 B7 ⊢
        have k0 := cell_of hr7 0
        have k1 := cell_of hr7 1
        have k2 := cell_of hr7 2
        exact bodyPost_ret (v := .tuple #[(ValV.enc ⟨(byteR r).1, (intR (byteR r).2).1, ⟨#[]⟩⟩), .bool true]) (by simp [results, Tryz.results141, go_sem, ValV.enc, val0, k0, k1, k2]) rfl ⟨by rw [hT.out], by rw [hT.out]; exact H7.out, B7.out⟩
      | false =>
        have hT := hid (show takeV r = ((val0, false), (intR (byteR r).2).2) by unfold takeV; rw [hP.out, if_neg (fun h => by have := h.2; rw [hm] at this; cases this)])
        clear hm
        go_wp2
        obtain ⟨hr7, s7⟩ := set3 hr6.out (.int .i64 0) (.int .i64 0) (.string ⟨#[]⟩)
        have H7 := hid (s7.at H6.out (by omega))
        have B7 := hid (B6.out.trans' s7 (F := fun k => k = rb) (fun i hi he => by omega))
        clear s7 x0 x1 x2 y0 y1 y2 z0 z1 z2
        generalize ((w6.setCell ⟨w.heap.size, 0, none⟩ (.int .i64 0)).setCell ⟨w.heap.size, 1, none⟩ (.int .i64 0)).setCell ⟨w.heap.size, 2, none⟩ (.string ⟨#[]⟩) = w7 at hr7 H7 B7 ⊢
        have k0 := cell_of hr7 0
        have k1 := cell_of hr7 1
        have k2 := cell_of hr7 2
        exact bodyPost_ret (v := .tuple #[val0.enc, .bool false]) (by simp [results, Tryz.results141, go_sem, ValV.enc, val0, k0, k1, k2]) rfl ⟨by rw [hT.out], by rw [hT.out]; exact H7.out, B7.out⟩
    · have g' : (((intR (byteR r).2).2).e != 0) = true := by simpa using g
      have hT := hid (show takeV r = ((val0, false), (intR (byteR r).2).2) by unfold takeV; rw [hP.out, if_neg (fun h => g h.1)])
      clear g
      go_wp2
      obtain ⟨hr7, s7⟩ := set3 hr5.out (.int .i64 0) (.int .i64 0) (.string ⟨#[]⟩)
      have H7 := hid (s7.at H5.out (by omega))
      have B7 := hid (B5.out.trans' s7 (F := fun k => k = rb) (fun i hi he => by omega))
      clear s7 x0 x1 x2 y0 y1 y2 z0 z1 z2
      generalize ((w5.setCell ⟨w.heap.size, 0, none⟩ (.int .i64 0)).setCell ⟨w.heap.size, 1, none⟩ (.int .i64 0)).setCell ⟨w.heap.size, 2, none⟩ (.string ⟨#[]⟩) = w7 at hr7 H7 B7 ⊢
      have k0 := cell_of hr7 0
      have k1 := cell_of hr7 1
      have k2 := cell_of hr7 2
      exact bodyPost_ret (v := .tuple #[val0.enc, .bool false]) (by simp [results, Tryz.results141, go_sem, ValV.enc, val0, k0, k1, k2]) rfl ⟨by rw [hT.out], by rw [hT.out]; exact H7.out, B7.out⟩
theorem rtakeV_any (rb : Nat) (r : RdV) (w : World) (h : IsR 92 w rb r) (hs : r.s.size ≤ 140737488355328) :
    Calls Tryz.prog 142 #[.pointer (some ⟨rb, 0, none⟩)] w fun e' w' => e' = .returned (.tuple #[(takeV r).1.1.enc, .bool (takeV r).1.2]) ∧ IsR 92 w' rb (takeV r).2 ∧ Rb rb w w' := by
  have hrb : rb < w.heap.size := heap_lt h
  have hk := byteR_lt r
  go_enter Tryz.func142, Tryz.ntmps142
  go_wp2_with fail
  have hb0 := (Below.refl _ w).alloc (Nat.le_refl _) (.cells #[.int .i64 0, .int .i64 0, .string ⟨#[]⟩] 175)
  have hr0 := alloc_new w (.cells #[.int .i64 0, .int .i64 0, .string ⟨#[]⟩] 175)
  generalize w.alloc (.cells #[.int .i64 0, .int .i64 0, .string ⟨#[]⟩] 175) = w1 at hb0 hr0 ⊢
  have h1 := h.grow hb0
  refine (rrByte_any rb r w1 h1 hs).mono ?_
  rintro e1 w2 ⟨rfl, h2, b2⟩
  have hr2 := hid (b2.at hr0 (by omega))
  have H2 := hid h2
  have B2 := hid ((But.of hb0).trans (F := fun k => k = rb) b2)
  have hs2 : (byteR r).2.s.size ≤ 140737488355328 := Nat.le_trans (takeR_size _ _ _) hs
  clear hb0 hr0 h1 h2 b2 h
  by_cases h3 : (byteR r).1 = 3
  · have tok := trivial
    have b3 : (((byteR r).1 : Int) == 3) = true := by simp; omega
    have e3 := hid h3
    clear h3
    go_wp2_with fail
    have hb3 := (Below.refl _ w2).alloc (Nat.le_refl _) (.cells #[.int .i64 (byteR r).1, .int .i64 0, .string ⟨#[]⟩] 175)
    have hv3 := alloc_new w2 (.cells #[.int .i64 (byteR r).1, .int .i64 0, .string ⟨#[]⟩] 175)
    have hvn : w2.heap.size ≠ rb := by have := heap_lt H2.out; omega
    generalize w2.alloc (.cells #[.int .i64 (byteR r).1, .int .i64 0, .string ⟨#[]⟩] 175) = w3 at hb3 hv3 ⊢
    have h3 := H2.out.grow hb3
    refine (rrText_any rb _ w3 h3 hs2 1024 (by omega) (by omega)).mono ?_
    rintro e1 w4 ⟨rfl, h4, b4⟩
    have hv4 := hid (b4.at hv3 hvn)
    have hr4 := hid (b4.at ((hb3.block _ (heap_lt hr2.out)).trans hr2.out) (by omega))
    have H4 := hid h4
    have B4 := hid (B2.out.trans ((But.of hb3).trans (F := fun k => k = rb) b4))
    have f4 := free_of hv4.out 2
    have k4 := cell_of hv4.out 2
    have k40 := cell_of hv4.out 0
    have k41 := cell_of hv4.out 1
    have hvl := heap_lt hv4.out
    clear hb3 hv3 h3 h4 b4
    go_wp2_with fail
    clear f4 k4 k40 k41
    have hv5 := setCell_at hv4.out 2 (.string (textR 1024 (byteR r).2).1)
    have hs5 := Rb.set (w := w4) w2.heap.size 2 (.string (textR 1024 (byteR r).2).1)
    have H5 := hs5.at H4.out (Ne.symm hvn)
    have hr5 := hs5.at hr4.out (by have := heap_lt hr2.out; omega)
    have B5 := hid (B4.out.trans' hs5 (F := fun k => k = rb) (fun i hi he => by have := heap_lt H2.out; have := B2.out.size; omega))
    clear hs5
    generalize w4.setCell ⟨w2.heap.size, 2, none⟩ (.string (textR 1024 (byteR r).2).1) = w5 at hv5 H5 hr5 B5 ⊢
    have hP := hid (show takeP r = (⟨(byteR r).1, 0, (textR 1024 (byteR r).2).1⟩, (textR 1024 (byteR r).2).2) from if_pos e3.out)
    have hv5 := hid hv5
    have H5 := hid H5
    have hr5 := hid hr5
    refine (rmay_any ⟨(byteR r).1, 0, (textR 1024 (byteR r).2).1⟩ w5).mono ?_
    rintro e1 w6 ⟨rfl, b6⟩
    have hr6 := hid ((b6.block _ (heap_lt hr5.out)).trans hr5.out)
    have hv6 := hid ((b6.block _ (heap_lt hv5.out)).trans hv5.out)
    have H6 := hid (IsR.grow H5.out b6)
    have B6 := hid (B5.out.trans (But.of b6))
    clear b6
    have x0 := cell_of hr6.out 0
    have x1 := cell_of hr6.out 1
    have x2 := cell_of hr6.out 2
    have y0 := free_of hr6.out 0
    have y1 := free_of hr6.out 1
    have y2 := free_of hr6.out 2
    have z0 := cell_of hv6.out 0
    have z1 := cell_of hv6.out 1
    have z2 := cell_of hv6.out 2
    have q1 := IsR.c1 H6.out
    by_cases g : ((textR 1024 (byteR r).2).2).e = 0
    · have g' : (((textR 1024 (byteR r).2).2).e != 0) = false := by simpa using g
      have G := hid g
      clear g
      cases hm : mayV ⟨(byteR r).1, 0, (textR 1024 (byteR r).2).1⟩ with
      | true =>
        have hT := hid (show takeV r = ((⟨(byteR r).1, 0, (textR 1024 (byteR r).2).1⟩, true), (textR 1024 (byteR r).2).2) by unfold takeV; rw [hP.out, if_pos ⟨G.out, hm⟩])
        clear hm
        go_wp2
        obtain ⟨hr7, s7⟩ := set3 hr6.out (.int .i64 (byteR r).1) (.int .i64 0) (.string (textR 1024 (byteR r).2).1)
        have H7 := hid (s7.at H6.out (by omega))
        have B7 := hid (B6.out.trans' s7 (F := fun k => k = rb) (fun i hi he => by omega))
        clear s7 x0 x1 x2 y0 y1 y2 z0 z1 z2
        generalize ((w6.setCell ⟨w.heap.size, 0, none⟩ (.int .i64 (byteR r).1)).setCell ⟨w.heap.size, 1, none⟩ (.int .i64 0)).setCell ⟨w.heap.size, 2, none⟩ (.string (textR 1024 (byteR r).2).1) = w7 at hr7 H7 B7 ⊢
        have k0 := cell_of hr7 0
        have k1 := cell_of hr7 1
        have k2 := cell_of hr7 2
        exact bodyPost_ret (v := .tuple #[(ValV.enc ⟨(byteR r).1, 0, (textR 1024 (byteR r).2).1⟩), .bool true]) (by simp [results, Tryz.results142, go_sem, ValV.enc, val0, k0, k1, k2]) rfl ⟨by rw [hT.out], by rw [hT.out]; exact H7.out, B7.out⟩
      | false =>
        have hT := hid (show takeV r = ((val0, false), (textR 1024 (byteR r).2).2) by unfold takeV; rw [hP.out, if_neg (fun h => by have := h.2; rw [hm] at this; cases this)])
        clear hm
        go_wp2
        obtain ⟨hr7, s7⟩ := set3 hr6.out (.int .i64 0) (.int .i64 0) (.string ⟨#[]⟩)
        have H7 := hid (s7.at H6.out (by omega))
        have B7 := hid (B6.out.trans' s7 (F := fun k => k = rb) (fun i hi he => by omega))
        clear s7 x0 x1 x2 y0 y1 y2 z0 z1 z2
        generalize ((w6.setCell ⟨w.heap.size, 0, none⟩ (.int .i64 0)).setCell ⟨w.heap.size, 1, none⟩ (.int .i64 0)).setCell ⟨w.heap.size, 2, none⟩ (.string ⟨#[]⟩) = w7 at hr7 H7 B7 ⊢
        have k0 := cell_of hr7 0
        have k1 := cell_of hr7 1
        have k2 := cell_of hr7 2
        exact bodyPost_ret (v := .tuple #[val0.enc, .bool false]) (by simp [results, Tryz.results142, go_sem, ValV.enc, val0, k0, k1, k2]) rfl ⟨by rw [hT.out], by rw [hT.out]; exact H7.out, B7.out⟩
    · have g' : (((textR 1024 (byteR r).2).2).e != 0) = true := by simpa using g
      have hT := hid (show takeV r = ((val0, false), (textR 1024 (byteR r).2).2) by unfold takeV; rw [hP.out, if_neg (fun h => g h.1)])
      clear g
      go_wp2
      obtain ⟨hr7, s7⟩ := set3 hr6.out (.int .i64 0) (.int .i64 0) (.string ⟨#[]⟩)
      have H7 := hid (s7.at H6.out (by omega))
      have B7 := hid (B6.out.trans' s7 (F := fun k => k = rb) (fun i hi he => by omega))
      clear s7 x0 x1 x2 y0 y1 y2 z0 z1 z2
      generalize ((w6.setCell ⟨w.heap.size, 0, none⟩ (.int .i64 0)).setCell ⟨w.heap.size, 1, none⟩ (.int .i64 0)).setCell ⟨w.heap.size, 2, none⟩ (.string ⟨#[]⟩) = w7 at hr7 H7 B7 ⊢
      have k0 := cell_of hr7 0
      have k1 := cell_of hr7 1
      have k2 := cell_of hr7 2
      exact bodyPost_ret (v := .tuple #[val0.enc, .bool false]) (by simp [results, Tryz.results142, go_sem, ValV.enc, val0, k0, k1, k2]) rfl ⟨by rw [hT.out], by rw [hT.out]; exact H7.out, B7.out⟩
  · have tok := trivial
    have b3 : (((byteR r).1 : Int) == 3) = false := by simp; omega
    have e3 := hid h3
    clear h3
    go_wp2_with fail
    have hb3 := (Below.refl _ w2).alloc (Nat.le_refl _) (.cells #[.int .i64 (byteR r).1, .int .i64 0, .string ⟨#[]⟩] 175)
    have hv3 := alloc_new w2 (.cells #[.int .i64 (byteR r).1, .int .i64 0, .string ⟨#[]⟩] 175)
    have hvn : w2.heap.size ≠ rb := by have := heap_lt H2.out; omega
    generalize w2.alloc (.cells #[.int .i64 (byteR r).1, .int .i64 0, .string ⟨#[]⟩] 175) = w3 at hb3 hv3 ⊢
    have h3 := H2.out.grow hb3
    refine (rrInt_any rb _ w3 h3 hs2).mono ?_
    rintro e1 w4 ⟨rfl, h4, b4⟩
    have hv4 := hid (b4.at hv3 hvn)
    have hr4 := hid (b4.at ((hb3.block _ (heap_lt hr2.out)).trans hr2.out) (by omega))
    have H4 := hid h4
    have B4 := hid (B2.out.trans ((But.of hb3).trans (F := fun k => k = rb) b4))
    have f4 := free_of hv4.out 1
    have k4 := cell_of hv4.out 1
    have k40 := cell_of hv4.out 0
    have k42 := cell_of hv4.out 2
    have hvl := heap_lt hv4.out
    clear hb3 hv3 h3 h4 b4
    go_wp2_with fail
    clear f4 k4 k40 k42
    have hv5 := setCell_at hv4.out 1 (.int .i64 (intR (byteR r).2).1)
    have hs5 := Rb.set (w := w4) w2.heap.size 1 (.int .i64 (intR (byteR r).2).1)
    have H5 := hs5.at H4.out (Ne.symm hvn)
    have hr5 := hs5.at hr4.out (by have := heap_lt hr2.out; omega)
    have B5 := hid (B4.out.trans' hs5 (F := fun k => k = rb) (fun i hi he => by have := heap_lt H2.out; have := B2.out.size; omega))
    clear hs5
    generalize w4.setCell ⟨w2.heap.size, 1, none⟩ (.int .i64 (intR (byteR r).2).1) = w5 at hv5 H5 hr5 B5 ⊢
    have hP := hid (show takeP r = (⟨(byteR r).1, (intR (byteR r).2).1, ⟨#[]⟩⟩, (intR (byteR r).2).2) from if_neg e3.out)
    have hv5 := hid hv5
    have H5 := hid H5
    have hr5 := hid hr5
    refine (rmay_any ⟨(byteR r).1, (intR (byteR r).2).1, ⟨#[]⟩⟩ w5).mono ?_
    rintro e1 w6 ⟨rfl, b6⟩
    have hr6 := hid ((b6.block _ (heap_lt hr5.out)).trans hr5.out)
    have hv6 := hid ((b6.block _ (heap_lt hv5.out)).trans hv5.out)
    have H6 := hid (IsR.grow H5.out b6)
    have B6 := hid (B5.out.trans (But.of b6))
    clear b6
    have x0 := cell_of hr6.out 0
    have x1 := cell_of hr6.out 1
    have x2 := cell_of hr6.out 2
    have y0 := free_of hr6.out 0
    have y1 := free_of hr6.out 1
    have y2 := free_of hr6.out 2
    have z0 := cell_of hv6.out 0
    have z1 := cell_of hv6.out 1
    have z2 := cell_of hv6.out 2
    have q1 := IsR.c1 H6.out
    by_cases g : ((intR (byteR r).2).2).e = 0
    · have g' : (((intR (byteR r).2).2).e != 0) = false := by simpa using g
      have G := hid g
      clear g
      cases hm : mayV ⟨(byteR r).1, (intR (byteR r).2).1, ⟨#[]⟩⟩ with
      | true =>
        have hT := hid (show takeV r = ((⟨(byteR r).1, (intR (byteR r).2).1, ⟨#[]⟩⟩, true), (intR (byteR r).2).2) by unfold takeV; rw [hP.out, if_pos ⟨G.out, hm⟩])
        clear hm
        go_wp2
        obtain ⟨hr7, s7⟩ := set3 hr6.out (.int .i64 (byteR r).1) (.int .i64 (intR (byteR r).2).1) (.string ⟨#[]⟩)
        have H7 := hid (s7.at H6.out (by omega))
        have B7 := hid (B6.out.trans' s7 (F := fun k => k = rb) (fun i hi he => by omega))
        clear s7 x0 x1 x2 y0 y1 y2 z0 z1 z2
        generalize ((w6.setCell ⟨w.heap.size, 0, none⟩ (.int .i64 (byteR r).1)).setCell ⟨w.heap.size, 1, none⟩ (.int .i64 (intR (byteR r).2).1)).setCell ⟨w.heap.size, 2, none⟩ (.string ⟨#[]⟩) = w7 at hr7 H7 B7 ⊢
        have k0 := cell_of hr7 0
        have k1 := cell_of hr7 1
        have k2 := cell_of hr7 2
        exact bodyPost_ret (v := .tuple #[(ValV.enc ⟨(byteR r).1, (intR (byteR r).2).1, ⟨#[]⟩⟩), .bool true]) (by simp [results, Tryz.results142, go_sem, ValV.enc, val0, k0, k1, k2]) rfl ⟨by rw [hT.out], by rw [hT.out]; exact H7.out, B7.out⟩
      | false =>
        have hT := hid (show takeV r = ((val0, false), (intR (byteR r).2).2) by unfold takeV; rw [hP.out, if_neg (fun h => by have := h.2; rw [hm] at this; cases this)])
        clear hm
        go_wp2
        obtain ⟨hr7, s7⟩ := set3 hr6.out (.int .i64 0) (.int .i64 0) (.string ⟨#[]⟩)
        have H7 := hid (s7.at H6.out (by omega))
        have B7 := hid (B6.out.trans' s7 (F := fun k => k = rb) (fun i hi he => by omega))
        clear s7 x0 x1 x2 y0 y1 y2 z0 z1 z2
        generalize ((w6.setCell ⟨w.heap.size, 0, none⟩ (.int .i64 0)).setCell ⟨w.heap.size, 1, none⟩ (.int .i64 0)).setCell ⟨w.heap.size, 2, none⟩ (.string ⟨#[]⟩) = w7 at hr7 H7 B7 ⊢
        have k0 := cell_of hr7 0
        have k1 := cell_of hr7 1
        have k2 := cell_of hr7 2
        exact bodyPost_ret (v := .tuple #[val0.enc, .bool false]) (by simp [results, Tryz.results142, go_sem, ValV.enc, val0, k0, k1, k2]) rfl ⟨by rw [hT.out], by rw [hT.out]; exact H7.out, B7.out⟩
    · have g' : (((intR (byteR r).2).2).e != 0) = true := by simpa using g
      have hT := hid (show takeV r = ((val0, false), (intR (byteR r).2).2) by unfold takeV; rw [hP.out, if_neg (fun h => g h.1)])
      clear g
      go_wp2
      obtain ⟨hr7, s7⟩ := set3 hr6.out (.int .i64 0) (.int .i64 0) (.string ⟨#[]⟩)
      have H7 := hid (s7.at H6.out (by omega))
      have B7 := hid (B6.out.trans' s7 (F := fun k => k = rb) (fun i hi he => by omega))
      clear s7 x0 x1 x2 y0 y1 y2 z0 z1 z2
      generalize ((w6.setCell ⟨w.heap.size, 0, none⟩ (.int .i64 0)).setCell ⟨w.heap.size, 1, none⟩ (.int .i64 0)).setCell ⟨w.heap.size, 2, none⟩ (.string ⟨#[]⟩) = w7 at hr7 H7 B7 ⊢
      have k0 := cell_of hr7 0
      have k1 := cell_of hr7 1
      have k2 := cell_of hr7 2
      exact bodyPost_ret (v := .tuple #[val0.enc, .bool false]) (by simp [results, Tryz.results142, go_sem, ValV.enc, val0, k0, k1, k2]) rfl ⟨by rw [hT.out], by rw [hT.out]; exact H7.out, B7.out⟩
end Go.Proofs.YthikijlbclckdaaGreat
namespace Go.Proofs.YthikijlbclckdaaGreat
set_option maxRecDepth 100000
set_option maxHeartbeats 40000000
set_option linter.unusedSimpArgs false
set_option linter.unusedVariables false
open Go.RowKit
def varC (x : VarV) : List Value := [.string x.name, .int .i64 x.v.k, .int .i64 x.v.n, .string x.v.s]
def varsC (l : List VarV) : List Value := l.flatMap varC
theorem varsC_length (l : List VarV) : (varsC l).length = l.length * 4 := by
  induction l with
  | nil => rfl
  | cons r l ih => simp only [varsC, List.flatMap_cons, List.length_append, List.length_cons] at *; rw [ih]; simp [varC]; omega
theorem varsC_snoc (l : List VarV) (x : VarV) : varsC (l ++ [x]) = varsC l ++ varC x := by simp [varsC]
theorem varsC_at (l : List VarV) : ∀ (i : Nat) (x : VarV), l[i]? = some x → (varsC l)[i * 4]? = some (.string x.name) ∧ (varsC l)[i * 4 + 1]? = some (.int .i64 x.v.k) ∧ (varsC l)[i * 4 + 2]? = some (.int .i64 x.v.n) ∧ (varsC l)[i * 4 + 3]? = some (.string x.v.s) := by
  induction l with
  | nil => intro i x h; simp at h
  | cons y l ih =>
    intro i x h
    cases i with
    | zero => simp at h; subst h; simp [varsC, varC]
    | succ i =>
      have h1 := ih i x (by simpa using h)
      have e : varsC (y :: l) = varC y ++ varsC l := by simp [varsC]
      have k : ∀ j, (varC y ++ varsC l)[(i + 1) * 4 + j]? = (varsC l)[i * 4 + j]? := by
        intro j
        rw [List.getElem?_append_right (by simp [varC]; omega)]
        congr 1
        simp [varC]; omega
      rw [e]
      exact ⟨(k 0).trans h1.1, (k 1).trans h1.2.1, (k 2).trans h1.2.2.1, (k 3).trans h1.2.2.2⟩
def VarsOwn (w : World) (base : Nat) (v : Value) (l : List VarV) : Prop := w.ownsRow base 177 4 v l.length (varsC l)
theorem VarsOwn.vars {w : World} {base : Nat} {v : Value} {l : List VarV} (h : VarsOwn w base v l) (hl : l.length ≤ 140737488355328) : VarsAt w v l := by
  rcases h.2 with ⟨rfl, h0⟩ | ⟨g, cap, cur, rfl, hbg, hg, hnc, hcm, hcur, htake⟩
  · have e := List.eq_nil_of_length_eq_zero h0
    subst e
    exact ⟨none, 0, rfl, Nat.le_refl _, hl, fun i x hx => by simp at hx⟩
  · refine ⟨some ⟨g, 0, none⟩, cap, rfl, hnc, hl, fun i x hx => ⟨g, 0, rfl, ?_⟩⟩
    have k : ∀ (j : Nat) (u : Value), (varsC l)[j]? = some u → w.cell? ⟨g, 0 + j, none⟩ = some u := by
      intro j u hu
      rw [Nat.zero_add, cell_of hg j]
      rw [← htake, List.getElem?_take] at hu
      split at hu
      · simpa using hu
      · cases hu
    obtain ⟨a0, a1, a2, a3⟩ := varsC_at l i x hx
    have a0 := k _ _ a0
    have a1 := k _ _ a1
    have a2 := k _ _ a2
    have a3 := k _ _ a3
    simp only [← Nat.add_assoc] at a1 a2 a3
    exact ⟨a0, a1, a2, a3⟩
def varsL : Nat → RdV → List VarV → Option (List VarV) × RdV
  | 0, r, l => (some l, r)
  | n + 1, r, l => if (takeV (textR 32 r).2).1.2 = true then varsL n (takeV (textR 32 r).2).2 (l ++ [⟨(textR 32 r).1, (takeV (textR 32 r).2).1.1⟩]) else (none, (takeV (textR 32 r).2).2)
def takeVars (r : RdV) : Option (List VarV) × RdV :=
  if 16 < (uintR r).1 then (none, (uintR r).2)
  else match varsL (uintR r).1 (uintR r).2 [] with
    | (some l, r') => if r'.e = 0 ∧ rightV l = true then (some l, r') else (none, r')
    | (none, r') => (none, r')
theorem takeP_size (r : RdV) : (takeP r).2.s.size ≤ r.s.size := by
  have h1 : (byteR r).2.s.size ≤ r.s.size := takeR_size _ _ _
  unfold takeP
  split
  · exact Nat.le_trans (takeR_size _ _ _) h1
  · exact Nat.le_trans (takeR_size _ _ _) h1
theorem takeV_size (r : RdV) : (takeV r).2.s.size ≤ r.s.size := by
  unfold takeV
  split <;> exact takeP_size r
theorem info_var : (Tryz.prog.info? 177).map (fun i => (i.zero, i.size, i.bytes)) = some (some (.agg #[.string ⟨#[]⟩, .int .i64 0, .int .i64 0, .string ⟨#[]⟩]), 4, 48) := by kernel_rfl
theorem own_rb {w w' : World} {rb base e size n : Nat} {v : Value} {vs : List Value} (h : w.ownsRow base e size v n vs) (hb : Rb rb w w') (hr : rb < base) : w'.ownsRow base e size v n vs :=
  own_at h hb (fun k hk he => by have := (h.lt k hk).1; omega)
theorem own_below {w w' : World} {base e size n : Nat} {v : Value} {vs : List Value} (h : w.ownsRow base e size v n vs) (hb : Below w.heap.size w w') : w'.ownsRow base e size v n vs :=
  own_at (F := fun _ => False) h (But.of hb) (fun _ _ => id)
theorem textR_size (most : Int) (hm : 0 ≤ most) (r : RdV) : ((textR most r).1.size : Int) ≤ most := by
  have hf : ((textF most r.s).1.size : Int) ≤ most := by
    unfold textF
    split
    · exact hm
    · split
      · exact hm
      · split
        · exact hm
        · show ((r.s.extract (numS r.s).2.1 ((numS r.s).2.1 + (numS r.s).1)).size : Int) ≤ most
          rw [extract_size]; omega
  unfold textR takeR
  split
  · split
    · exact hf
    · exact hm
  · exact hm
theorem takeV_ok (r : RdV) (h : (takeV r).1.2 = true) : (takeV r).2.e = 0 ∧ mayV (takeV r).1.1 = true ∧ VOk (takeV r).1.1 := by
  unfold takeV at h ⊢
  by_cases hc : (takeP r).2.e = 0 ∧ mayV (takeP r).1 = true
  · rw [if_pos hc]
    refine ⟨hc.1, hc.2, ?_⟩
    show VOk (takeP r).1
    have hb := byteR_lt r
    unfold takeP
    split
    · have := textR_size 1024 (by omega) (byteR r).2
      exact ⟨by show (-9223372036854775808 : Int) ≤ 0; omega, by show (0 : Int) ≤ 9223372036854775807; omega, by show (textR 1024 (byteR r).2).1.size ≤ 2097152; omega⟩
    · have := sgn_in (uintR_lt (byteR r).2)
      exact ⟨this.1, this.2, by show (0 : Nat) ≤ 2097152; omega⟩
  · rw [if_neg hc] at h; cases h
theorem varsL_ok : ∀ (n : Nat) (r : RdV) (l : List VarV) (l' : List VarV) (r' : RdV), (∀ x ∈ l, VarOk x) → varsL n r l = (some l', r') → (∀ x ∈ l', VarOk x) ∧ (r.e = 0 → r'.e = 0) ∧ l'.length = l.length + n
  | 0, r, l, l', r', hl, h => by
    simp only [varsL, Prod.mk.injEq, Option.some.injEq] at h
    obtain ⟨rfl, rfl⟩ := h
    exact ⟨hl, id, rfl⟩
  | n + 1, r, l, l', r', hl, h => by
    simp only [varsL] at h
    split at h
    · rename_i hok
      obtain ⟨h1, h2, h3⟩ := takeV_ok _ hok
      have hn := textR_size 32 (by omega) r
      obtain ⟨g1, g2, g3⟩ := varsL_ok n _ _ l' r' (by
        intro x hx
        rcases List.mem_append.1 hx with hx | hx
        · exact hl x hx
        · rw [List.mem_singleton] at hx
          subst hx
          exact ⟨by show (textR 32 r).1.size ≤ 2097152; omega, h3⟩) h
      exact ⟨g1, fun _ => g2 h1, by rw [g3]; simp; omega⟩
    · cases h
theorem takeVars_any (rb : Nat) (r : RdV) (w : World) (h : IsR 168 w rb r) (hs : r.s.size ≤ 140737488355328) :
    Calls Tryz.prog 132 #[.pointer (some ⟨rb, 0, none⟩)] w fun e' w' => ∃ v, e' = .returned (.tuple #[v, .bool (takeVars r).1.isSome]) ∧ VarsOwn w' w.heap.size v ((takeVars r).1.getD []) ∧ IsR 168 w' rb (takeVars r).2 ∧ Rb rb w w' := by
  have hrb : rb < w.heap.size := heap_lt h
  have hu := uintR_lt r
  have hT : takeVars r = if 16 < (uintR r).1 then (none, (uintR r).2) else match varsL (uintR r).1 (uintR r).2 [] with
    | (some l, r') => if r'.e = 0 ∧ rightV l = true then (some l, r') else (none, r')
    | (none, r') => (none, r') := rfl
  have hs1 : (uintR r).2.s.size ≤ 140737488355328 := Nat.le_trans (takeR_size _ _ _) hs
  have Hc := rdUint_any rb r w h hs
  revert hT hs1 Hc hu
  generalize uintR r = x
  obtain ⟨n, r1⟩ := x
  intro hu hT hs1 Hc
  dsimp only at hu hT hs1 Hc
  replace Hc := hid Hc
  replace hT := hid hT
  clear h hs
  go_enter Tryz.func132, Tryz.ntmps132
  go_wp2_with fail
  refine Hc.out.mono ?_
  rintro e1 w1 ⟨rfl, h1, b1⟩
  have H1 := hid h1
  have B1 := hid b1
  clear h1 b1 Hc
  by_cases hn : 16 < n
  · have hn' : decide (16 < (n : Int)) = true := by simp; omega
    have e := hid (hT.out.trans (if_pos hn))
    go_wp2
    go_ret2
    exact ⟨.slice none 0 0, by rw [e.out]; rfl, by rw [e.out]; exact ⟨rfl, .inl ⟨rfl, rfl⟩⟩, by rw [e.out]; exact H1.out, B1.out⟩
  have hn' : decide (16 < (n : Int)) = false := by simp; omega
  replace hT := hid (hT.out.trans (if_neg hn))
  go_wp2
  go_loopw [5, 14] (fun vo vi wr => ∃ (i : Nat) (r' : RdV) (l : List VarV), i ≤ n ∧ vi = .int .u64 i ∧ r'.s.size ≤ 140737488355328 ∧
    Hid (l.length = i ∧ wr.ownsRow w.heap.size 177 4 vo i (varsC l) ∧ IsR 168 wr rb r' ∧ Rb rb w wr ∧ varsL (n - i) r' l = varsL n r1 [])) (fun _ vi _ => n - (intOf vi).toNat)
  case atStart => exact ⟨0, r1, [], Nat.zero_le _, rfl, hs1, rfl, ⟨rfl, .inl ⟨rfl, rfl⟩⟩, H1.out, B1.out, rfl⟩
  case round =>
    obtain ⟨i, r', l, hi, rfl, hs', hR⟩ := hrel
    obtain ⟨ao, co, rfl⟩ := own_slice hR.out.2.1
    by_cases hlt : i < n
    · have hlt' : decide (i < n) = true := by simpa using hlt
      have hV := hid (show varsL (n - i) r' l = varsL (n - (i + 1) + 1) r' l by congr 1; omega)
      go_wp2_with fail
      refine (rdText_any rb r' _ hR.out.2.2.1 hs' 32 (by omega) (by omega)).mono ?_
      rintro e1 w2 ⟨rfl, h2, b2⟩
      have H2 := hid h2
      have B2 := hid (hR.out.2.2.2.1.trans b2)
      have O2 := hid (own_rb hR.out.2.1 b2 hrb)
      have hs2 : (textR 32 r').2.s.size ≤ 140737488355328 := Nat.le_trans (takeR_size _ _ _) hs'
      clear h2 b2
      go_wp2_with fail
      refine (takeV_any rb _ w2 H2.out hs2).mono ?_
      rintro e1 w3 ⟨rfl, h3, b3⟩
      have H3 := hid h3
      have B3 := hid (B2.out.trans b3)
      have O3 := hid (own_rb O2.out b3 hrb)
      have hs3 : (takeV (textR 32 r').2).2.s.size ≤ 140737488355328 := Nat.le_trans (takeV_size _) hs2
      clear h3 b3
      have hV2 := hid (hV.out.trans (show varsL (n - (i + 1) + 1) r' l = (if (takeV (textR 32 r').2).1.2 = true then varsL (n - (i + 1)) (takeV (textR 32 r').2).2 (l ++ [⟨(textR 32 r').1, (takeV (textR 32 r').2).1.1⟩]) else (none, (takeV (textR 32 r').2).2)) from rfl))
      clear hV hs2 H2 B2 O2
      revert hV2 H3 hs3
      generalize takeV (textR 32 r').2 = y
      obtain ⟨⟨⟨vk, vn, vs⟩, ok⟩, r3⟩ := y
      generalize (textR 32 r').1 = nm
      intro H3 hs3 hV2
      dsimp only at hV2 H3 hs3 ⊢
      unfold ValV.enc
      dsimp only
      cases ok with
      | false =>
        have hV3 := hid ((hT.out).trans (show _ = (none, r3) by rw [← hR.out.2.2.2.2, hV2.out]; rfl))
        clear hV2
        go_wp2
        go_ret2
        exact ⟨.slice none 0 0, by rw [hV3.out]; rfl, by rw [hV3.out]; exact ⟨rfl, .inl ⟨rfl, rfl⟩⟩, by rw [hV3.out]; exact IsR.grow H3.out ((Below.refl _ _).alloc (Nat.le_refl _) _), B3.out.alloc _⟩
      | true =>
        go_wp2_with (at_builtin; go_loud (refine app1k 101 177 Tryz.underlying101 info_var rfl (by decide) (O3.out.alloc _) (by have := B3.out.size; simp; omega) (by unfold maxLen; omega) (by omega) rfl rfl rfl rfl (by simp) rfl (by simp [Value.oneCell']) ?_); intro v' w5 hown5 hb5 hg5)
        have hob : ∀ k, ownB (.slice ao i co) k → w.heap.size ≤ k := fun k hk => (O3.out.lt k hk).1
        have H5 : IsR 168 w5 rb r3 := (hb5.block rb (by have := heap_lt H3.out; simp; omega) (fun hk => by have := hob rb hk; omega)).trans ((alloc_old _ (heap_lt H3.out)).trans H3.out)
        have B5 : Rb rb w w5 := (B3.out.alloc _).trans' hb5 (fun k hk ho => by have := hob k ho; omega)
        refine ⟨⟨i + 1, r3, l ++ [⟨nm, ⟨vk, vn, vs⟩⟩], by omega, by go_num, hs3, ?_⟩, by simp [intOf]; omega⟩
        refine ⟨by simp [hR.out.1], by rw [varsC_snoc]; exact hown5, H5, B5, ?_⟩
        rw [← hR.out.2.2.2.2, hV2.out, if_pos rfl]
    · have hin : i = n := by omega
      subst hin
      have hfi : decide (i < i) = false := by simp
      have hV := hid (show takeVars r = if r'.e = 0 ∧ rightV l = true then (some l, r') else (none, r') by
        rw [hT.out, ← hR.out.2.2.2.2, Nat.sub_self]; rfl)
      go_wp2_with fail
      refine (rdErr_any rb r' _ hR.out.2.2.1).mono ?_
      rintro e1 w2 ⟨rfl, rfl⟩
      have hv := VarsOwn.vars (l := l) (by unfold VarsOwn; rw [hR.out.1]; exact hR.out.2.1) (by rw [hR.out.1]; omega)
      have Hv := hid hv
      clear hv
      by_cases g : r'.e = 0
      · have g' : (r'.e != 0) = false := by simpa using g
        have G := hid g
        clear g
        go_wp2_with fail
        refine (right_any _ l _ Hv.out).mono ?_
        rintro e1 w3 ⟨rfl, b3⟩
        replace b3 := hid b3
        cases hr : rightV l with
        | true =>
          replace hV := hid (hV.out.trans (if_pos ⟨G.out, hr⟩))
          clear hr
          go_wp2
          go_ret2
          exact ⟨_, by rw [hV.out]; rfl, by rw [hV.out]; show VarsOwn _ _ _ l; unfold VarsOwn; rw [hR.out.1]; exact own_below hR.out.2.1 b3.out, by rw [hV.out]; exact IsR.grow hR.out.2.2.1 b3.out, hR.out.2.2.2.1.trans (But.of b3.out)⟩
        | false =>
          replace hV := hid (hV.out.trans (if_neg (fun h => by have := h.2; rw [hr] at this; cases this)))
          clear hr
          go_wp2
          go_ret2
          exact ⟨.slice none 0 0, by rw [hV.out]; rfl, by rw [hV.out]; exact ⟨rfl, .inl ⟨rfl, rfl⟩⟩, by rw [hV.out]; exact IsR.grow hR.out.2.2.1 b3.out, hR.out.2.2.2.1.trans (But.of b3.out)⟩
      · have g' : (r'.e != 0) = true := by simpa using g
        replace hV := hid (hV.out.trans (if_neg (fun h => g h.1)))
        clear g
        go_wp2
        go_ret2
        exact ⟨.slice none 0 0, by rw [hV.out]; rfl, by rw [hV.out]; exact ⟨rfl, .inl ⟨rfl, rfl⟩⟩, by rw [hV.out]; exact hR.out.2.2.1, hR.out.2.2.2.1⟩
end Go.Proofs.YthikijlbclckdaaGreat
namespace Go.Proofs.YthikijlbclckdaaGreat
set_option maxRecDepth 100000
set_option maxHeartbeats 40000000
set_option linter.unusedSimpArgs false
set_option linter.unusedVariables false
open Go.RowKit
theorem uintR_zero (r : RdV) (h : (uintR r).2.e ≠ 0) : (uintR r).1 = 0 := by
  unfold uintR takeR at *
  by_cases h1 : r.e = 0
  · rw [if_pos h1] at h ⊢
    by_cases h2 : (numS r.s).2.2 = 0
    · rw [if_pos h2] at h; exact absurd rfl h
    · rw [if_neg h2]
  · rw [if_neg h1]
theorem rtakeVars_any (rb : Nat) (r : RdV) (w : World) (h : IsR 92 w rb r) (hs : r.s.size ≤ 140737488355328) :
    Calls Tryz.prog 133 #[.pointer (some ⟨rb, 0, none⟩)] w fun e' w' => ∃ v, e' = .returned (.tuple #[v, .bool (takeVars r).1.isSome]) ∧ VarsOwn w' w.heap.size v ((takeVars r).1.getD []) ∧ IsR 92 w' rb (takeVars r).2 ∧ Rb rb w w' := by
  have hrb : rb < w.heap.size := heap_lt h
  have hu := uintR_lt r
  have hT : takeVars r = if 16 < (uintR r).1 then (none, (uintR r).2) else match varsL (uintR r).1 (uintR r).2 [] with
    | (some l, r') => if r'.e = 0 ∧ rightV l = true then (some l, r') else (none, r')
    | (none, r') => (none, r') := rfl
  have hs1 : (uintR r).2.s.size ≤ 140737488355328 := Nat.le_trans (takeR_size _ _ _) hs
  have Hc := rrUint_any rb r w h hs
  have hz : (uintR r).2.e ≠ 0 → (uintR r).1 = 0 := uintR_zero r
  revert hT hs1 Hc hu hz
  generalize uintR r = x
  obtain ⟨n, r1⟩ := x
  intro hu hT hs1 Hc hz
  dsimp only at hu hT hs1 Hc hz
  replace hz := hid hz
  replace Hc := hid Hc
  replace hT := hid hT
  clear h hs
  go_enter Tryz.func133, Tryz.ntmps133
  go_wp2_with fail
  refine Hc.out.mono ?_
  rintro e1 w1 ⟨rfl, h1, b1⟩
  have H1 := hid h1
  have B1 := hid b1
  clear h1 b1 Hc
  by_cases hn : 16 < n
  · have hn' : decide (16 < (n : Int)) = true := by simp; omega
    have e := hid (hT.out.trans (if_pos hn))
    go_wp2
    go_ret2
    exact ⟨.slice none 0 0, by rw [e.out]; rfl, by rw [e.out]; exact ⟨rfl, .inl ⟨rfl, rfl⟩⟩, by rw [e.out]; exact H1.out, B1.out⟩
  have hn' : decide (16 < (n : Int)) = false := by simp; omega
  replace hT := hid (hT.out.trans (if_neg hn))
  have q1 := IsR.c1 H1.out
  by_cases g : r1.e = 0
  case neg =>
    have g' : (r1.e != 0) = true := by simpa using g
    have hn0 : n = 0 := hz.out g
    subst hn0
    have hV := hid (show takeVars r = (none, r1) by
      rw [hT.out]; show (if r1.e = 0 ∧ rightV [] = true then (some ([] : List VarV), r1) else (none, r1)) = _
      rw [if_neg (fun h => g h.1)])
    clear g
    go_wp2
    go_ret2
    exact ⟨.slice none 0 0, by rw [hV.out]; rfl, by rw [hV.out]; exact ⟨rfl, .inl ⟨rfl, rfl⟩⟩, by rw [hV.out]; exact H1.out, B1.out⟩
  have g' : (r1.e != 0) = false := by simpa using g
  have G := hid g
  clear g
  go_wp2
  clear q1
  go_loopw [5, 6] (fun vo vi wr => ∃ (i : Nat) (r' : RdV) (l : List VarV), i ≤ n ∧ vi = .int .u64 i ∧ r'.s.size ≤ 140737488355328 ∧
    Hid (l.length = i ∧ wr.ownsRow w.heap.size 177 4 vo i (varsC l) ∧ IsR 92 wr rb r' ∧ Rb rb w wr ∧ varsL (n - i) r' l = varsL n r1 [])) (fun _ vi _ => n - (intOf vi).toNat)
  case atStart => exact ⟨0, r1, [], Nat.zero_le _, rfl, hs1, rfl, ⟨rfl, .inl ⟨rfl, rfl⟩⟩, H1.out, B1.out, rfl⟩
  case round =>
    obtain ⟨i, r', l, hi, rfl, hs', hR⟩ := hrel
    obtain ⟨ao, co, rfl⟩ := own_slice hR.out.2.1
    by_cases hlt : i < n
    · have hlt' : decide (i < n) = true := by simpa using hlt
      have hV := hid (show varsL (n - i) r' l = varsL (n - (i + 1) + 1) r' l by congr 1; omega)
      go_wp2_with fail
      refine (rrText_any rb r' _ hR.out.2.2.1 hs' 32 (by omega) (by omega)).mono ?_
      rintro e1 w2 ⟨rfl, h2, b2⟩
      have H2 := hid h2
      have B2 := hid (hR.out.2.2.2.1.trans b2)
      have O2 := hid (own_rb hR.out.2.1 b2 hrb)
      have hs2 : (textR 32 r').2.s.size ≤ 140737488355328 := Nat.le_trans (takeR_size _ _ _) hs'
      clear h2 b2
      go_wp2_with fail
      refine (rtakeV_any rb _ w2 H2.out hs2).mono ?_
      rintro e1 w3 ⟨rfl, h3, b3⟩
      have H3 := hid h3
      have B3 := hid (B2.out.trans b3)
      have O3 := hid (own_rb O2.out b3 hrb)
      have hs3 : (takeV (textR 32 r').2).2.s.size ≤ 140737488355328 := Nat.le_trans (takeV_size _) hs2
      clear h3 b3
      have hV2 := hid (hV.out.trans (show varsL (n - (i + 1) + 1) r' l = (if (takeV (textR 32 r').2).1.2 = true then varsL (n - (i + 1)) (takeV (textR 32 r').2).2 (l ++ [⟨(textR 32 r').1, (takeV (textR 32 r').2).1.1⟩]) else (none, (takeV (textR 32 r').2).2)) from rfl))
      clear hV hs2 H2 B2 O2
      revert hV2 H3 hs3
      generalize takeV (textR 32 r').2 = y
      obtain ⟨⟨⟨vk, vn, vs⟩, ok⟩, r3⟩ := y
      generalize (textR 32 r').1 = nm
      intro H3 hs3 hV2
      dsimp only at hV2 H3 hs3 ⊢
      unfold ValV.enc
      dsimp only
      cases ok with
      | false =>
        have hV3 := hid ((hT.out).trans (show _ = (none, r3) by rw [← hR.out.2.2.2.2, hV2.out]; rfl))
        clear hV2
        go_wp2
        go_ret2
        exact ⟨.slice none 0 0, by rw [hV3.out]; rfl, by rw [hV3.out]; exact ⟨rfl, .inl ⟨rfl, rfl⟩⟩, by rw [hV3.out]; exact IsR.grow H3.out ((Below.refl _ _).alloc (Nat.le_refl _) _), B3.out.alloc _⟩
      | true =>
        go_wp2_with (at_builtin; go_loud (refine app1k 101 177 Tryz.underlying101 info_var rfl (by decide) (O3.out.alloc _) (by have := B3.out.size; simp; omega) (by unfold maxLen; omega) (by omega) rfl rfl rfl rfl (by simp) rfl (by simp [Value.oneCell']) ?_); intro v' w5 hown5 hb5 hg5)
        have hob : ∀ k, ownB (.slice ao i co) k → w.heap.size ≤ k := fun k hk => (O3.out.lt k hk).1
        have H5 : IsR 92 w5 rb r3 := (hb5.block rb (by have := heap_lt H3.out; simp; omega) (fun hk => by have := hob rb hk; omega)).trans ((alloc_old _ (heap_lt H3.out)).trans H3.out)
        have B5 : Rb rb w w5 := (B3.out.alloc _).trans' hb5 (fun k hk ho => by have := hob k ho; omega)
        refine ⟨⟨i + 1, r3, l ++ [⟨nm, ⟨vk, vn, vs⟩⟩], by omega, by go_num, hs3, ?_⟩, by simp [intOf]; omega⟩
        refine ⟨by simp [hR.out.1], by rw [varsC_snoc]; exact hown5, H5, B5, ?_⟩
        rw [← hR.out.2.2.2.2, hV2.out, if_pos rfl]
    · have hin : i = n := by omega
      subst hin
      have hfi : decide (i < i) = false := by simp
      have hV := hid (show takeVars r = if r'.e = 0 ∧ rightV l = true then (some l, r') else (none, r') by
        rw [hT.out, ← hR.out.2.2.2.2, Nat.sub_self]; rfl)
      obtain ⟨hvo, hre, -⟩ := varsL_ok i r1 [] l r' (fun x hx => by cases hx) (by rw [← hR.out.2.2.2.2, Nat.sub_self]; rfl)
      have Hvo := hid hvo
      have hre := hid (hre G.out)
      clear hvo
      have Hv := hid (VarsOwn.vars (l := l) (by unfold VarsOwn; rw [hR.out.1]; exact hR.out.2.1) (by rw [hR.out.1]; omega))
      go_wp2_with fail
      refine (rright_any _ l _ Hvo.out Hv.out).mono ?_
      rintro e1 w3 ⟨rfl, b3⟩
      replace b3 := hid b3
      cases hr : rightV l with
      | true =>
        replace hV := hid (hV.out.trans (if_pos ⟨hre.out, hr⟩))
        clear hr
        go_wp2
        go_ret2
        exact ⟨_, by rw [hV.out]; rfl, by rw [hV.out]; show VarsOwn _ _ _ l; unfold VarsOwn; rw [hR.out.1]; exact own_below hR.out.2.1 b3.out, by rw [hV.out]; exact IsR.grow hR.out.2.2.1 b3.out, hR.out.2.2.2.1.trans (But.of b3.out)⟩
      | false =>
        replace hV := hid (hV.out.trans (if_neg (fun h => by have := h.2; rw [hr] at this; cases this)))
        clear hr
        go_wp2
        go_ret2
        exact ⟨.slice none 0 0, by rw [hV.out]; rfl, by rw [hV.out]; exact ⟨rfl, .inl ⟨rfl, rfl⟩⟩, by rw [hV.out]; exact IsR.grow hR.out.2.2.1 b3.out, hR.out.2.2.2.1.trans (But.of b3.out)⟩
end Go.Proofs.YthikijlbclckdaaGreat
