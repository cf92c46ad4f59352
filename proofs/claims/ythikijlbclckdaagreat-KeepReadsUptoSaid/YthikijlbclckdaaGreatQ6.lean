/- KeepReads: contracts (Tv). -/
import Derived.Test.YthikijlbclckdaaGreatQ3
import Derived.Test.YthikijlbclckdaaGreatQ5
namespace Go.Proofs.YthikijlbclckdaaGreat
set_option maxRecDepth 100000
set_option maxHeartbeats 40000000
set_option linter.unusedSimpArgs false
set_option linter.unusedVariables false
open Go.RowKit
def val0 : ValV := ⟨0, 0, ⟨#[]⟩⟩
def takeP (r : RdV) : ValV × RdV :=
 if (byteR r).1 = 3 then (⟨(byteR r).1, 0, (textR 1024 (byteR r).2).1⟩, (textR 1024 (byteR r).2).2) else (⟨(byteR r).1, (intR (byteR r).2).1, ⟨#[]⟩⟩, (intR (byteR r).2).2)
def takeV (r : RdV) : (ValV × Bool) × RdV :=
 if (takeP r).2.e = 0 ∧ mayV (takeP r).1 = true then (((takeP r).1, true), (takeP r).2) else ((val0, false), (takeP r).2)
theorem Rb.at {rb k : Nat} {w w' : World} {o : Obj} (hb : Rb rb w w') (h : w.heap[k]? = some o) (hn : k ≠ rb) : w'.heap[k]? = some o := (hb.block k (heap_lt h) hn).trans h
theorem set3 {w : World} {b : Nat} {x y z : Value} {t : TypeId} (h : w.heap[b]? = some (.cells #[x, y, z] t (0, 0))) (p q r : Value) :
  (((w.setCell ⟨b, 0, none⟩ p).setCell ⟨b, 1, none⟩ q).setCell ⟨b, 2, none⟩ r).heap[b]? = some (.cells #[p, q, r] t (0, 0)) ∧ Rb b w (((w.setCell ⟨b, 0, none⟩ p).setCell ⟨b, 1, none⟩ q).setCell ⟨b, 2, none⟩ r) :=
 ⟨setCell_at (setCell_at (setCell_at h 0 p) 1 q) 2 r, (Rb.set b 0 p).trans ((Rb.set b 1 q).trans (Rb.set b 2 r))⟩
theorem byteR_lt (r : RdV) : (byteR r).1 < 256 := by
 have hb : (byteF r.s).1 < 256 := by
  unfold byteF
  by_cases h : r.s.size = 0
  ·
   rw [if_pos h]; show 0 < 256; omega
  ·
   rw [if_neg h]; exact UInt8.toNat_lt _
 unfold byteR takeR
 by_cases h : r.e = 0
 ·
  rw [if_pos h]
  by_cases h2 : (byteF r.s).2.2 = 0
  ·
   rw [if_pos h2]; exact hb
  ·
   rw [if_neg h2]; show 0 < 256; omega
 ·
  rw [if_neg h]; show 0 < 256; omega
theorem takeV_any (rb : Nat) (r : RdV) (w : World) (h : IsR 168 w rb r) (hs : r.s.size ≤ 140737488355328) :
  Calls Tryz.prog 141 #[.pointer (some ⟨rb, 0, none⟩)] w fun e' w' => e' = .returned (.tuple #[(takeV r).1.1.enc, .bool (takeV r).1.2]) ∧ IsR 168 w' rb (takeV r).2 ∧ Rb rb w w' := by
 have hrb : rb < w.heap.size := heap_lt h
 have hk := byteR_lt r
 go_enter Tryz.func141, Tryz.ntmps141
 go_wp2_with fail
 have hb0 := (Below.refl _ w).alloc (Nat.le_refl _) (.cells #[.int .i64 0, .int .i64 0, .string ⟨#[]⟩] 175)
 have hr0 := alloc_new w (.cells #[.int .i64 0, .int .i64 0, .string ⟨#[]⟩] 175)
 generalize w.alloc (.cells #[.int .i64 0, .int .i64 0, .string ⟨#[]⟩] 175) = w1 at hb0 hr0 ⊢
 have h1 := h.grow hb0
 refine (rdByte_any rb r w1 h1 hs).mono ?_
 rintro e1 w2 ⟨rfl, h2, b2⟩
 have hr2 := hid (b2.at hr0 (by omega))
 have H2 := hid h2
 have B2 := hid ((But.of hb0).trans (F := fun k => k = rb) b2)
 have hs2 : (byteR r).2.s.size ≤ 140737488355328 := Nat.le_trans (takeR_size _ _ _) hs
 clear hb0 hr0 h1 h2 b2 h
 by_cases h3 : (byteR r).1 = 3
 ·
  have tok := trivial
  have b3 : (((byteR r).1 : Int) == 3) = true := by simp; omega
  have e3 := hid h3
  clear h3
  go_wp2_with fail
  have hb3 := (Below.refl _ w2).alloc (Nat.le_refl _) (.cells #[.int .i64 (byteR r).1, .int .i64 0, .string ⟨#[]⟩] 175)
  have hv3 := alloc_new w2 (.cells #[.int .i64 (byteR r).1, .int .i64 0, .string ⟨#[]⟩] 175)
  have hvn : w2.heap.size ≠ rb := by have := heap_lt H2.out; omega
  generalize w2.alloc (.cells #[.int .i64 (byteR r).1, .int .i64 0, .string ⟨#[]⟩] 175) = w3 at hb3 hv3 ⊢
  have h3 := H2.out.grow hb3
  refine (rdText_any rb _ w3 h3 hs2 1024 (by omega) (by omega)).mono ?_
  rintro e1 w4 ⟨rfl, h4, b4⟩
  have hv4 := hid (b4.at hv3 hvn)
  have hr4 := hid (b4.at ((hb3.block _ (heap_lt hr2.out)).trans hr2.out) (by omega))
  have H4 := hid h4
  have B4 := hid (B2.out.trans ((But.of hb3).trans (F := fun k => k = rb) b4))
  have f4 := free_of hv4.out 2
  have k4 := cell_of hv4.out 2
  have hvl := heap_lt hv4.out
  clear hb3 hv3 h3 h4 b4
  go_wp2_with fail
  clear f4 k4
  have hv5 := setCell_at hv4.out 2 (.string (textR 1024 (byteR r).2).1)
  have hs5 := Rb.set (w := w4) w2.heap.size 2 (.string (textR 1024 (byteR r).2).1)
  have H5 := hs5.at H4.out (Ne.symm hvn)
  have hr5 := hs5.at hr4.out (by have := heap_lt hr2.out; omega)
  have B5 := hid (B4.out.trans' hs5 (F := fun k => k = rb) (fun i hi he => by have := heap_lt H2.out; have := B2.out.size; omega))
  clear hs5
  generalize w4.setCell ⟨w2.heap.size, 2, none⟩ (.string (textR 1024 (byteR r).2).1) = w5 at hv5 H5 hr5 B5 ⊢
  have hP := hid (show takeP r = (⟨(byteR r).1, 0, (textR 1024 (byteR r).2).1⟩, (textR 1024 (byteR r).2).2) from if_pos e3.out)
  have hv5 := hid hv5
  have H5 := hid H5
  have hr5 := hid hr5
  refine (rdErr_any rb _ w5 H5.out).mono ?_
  rintro e1 w6 ⟨rfl, rfl⟩
  have x0 := cell_of hr5.out 0
  have x1 := cell_of hr5.out 1
  have x2 := cell_of hr5.out 2
  have y0 := free_of hr5.out 0
  have y1 := free_of hr5.out 1
  have y2 := free_of hr5.out 2
  have z0 := cell_of hv5.out 0
  have z1 := cell_of hv5.out 1
  have z2 := cell_of hv5.out 2
  by_cases g : ((textR 1024 (byteR r).2).2).e = 0
  ·
   have g' : (((textR 1024 (byteR r).2).2).e != 0) = false := by simpa using g
   have G := hid g
   clear g
   go_wp2_with fail
   refine (may_any ⟨(byteR r).1, 0, (textR 1024 (byteR r).2).1⟩ w5).mono ?_
   rintro e1 w6 ⟨rfl, b6⟩
   have hr6 := hid ((b6.block _ (heap_lt hr5.out)).trans hr5.out)
   have hv6 := hid ((b6.block _ (heap_lt hv5.out)).trans hv5.out)
   have H6 := hid (IsR.grow H5.out b6)
   have B6 := hid (B5.out.trans (But.of b6))
   clear x0 x1 x2 y0 y1 y2 z0 z1 z2 b6
   have x0 := cell_of hr6.out 0
   have x1 := cell_of hr6.out 1
   have x2 := cell_of hr6.out 2
   have y0 := free_of hr6.out 0
   have y1 := free_of hr6.out 1
   have y2 := free_of hr6.out 2
   have z0 := cell_of hv6.out 0
   have z1 := cell_of hv6.out 1
   have z2 := cell_of hv6.out 2
   cases hm : mayV ⟨(byteR r).1, 0, (textR 1024 (byteR r).2).1⟩ with
   | true =>
    have hT := hid (show takeV r = ((⟨(byteR r).1, 0, (textR 1024 (byteR r).2).1⟩, true), (textR 1024 (byteR r).2).2) by unfold takeV; rw [hP.out, if_pos ⟨G.out, hm⟩])
    clear hm
    go_wp2
    obtain ⟨hr7, s7⟩ := set3 hr6.out (.int .i64 (byteR r).1) (.int .i64 0) (.string (textR 1024 (byteR r).2).1)
    have H7 := hid (s7.at H6.out (by omega))
    have B7 := hid (B6.out.trans' s7 (F := fun k => k = rb) (fun i hi he => by omega))
    clear s7 x0 x1 x2 y0 y1 y2 z0 z1 z2
    generalize ((w6.setCell ⟨w.heap.size, 0, none⟩ (.int .i64 (byteR r).1)).setCell ⟨w.heap.size, 1, none⟩ (.int .i64 0)).setCell ⟨w.heap.size, 2, none⟩ (.string (textR 1024 (byteR r).2).1) = w7 at hr7 H7 B7 ⊢
    have k0 := cell_of hr7 0
    have k1 := cell_of hr7 1
    have k2 := cell_of hr7 2
    exact bodyPost_ret (v := .tuple #[(ValV.enc ⟨(byteR r).1, 0, (textR 1024 (byteR r).2).1⟩), .bool true]) (by simp [results, Tryz.results141, go_sem, ValV.enc, val0, k0, k1, k2]) rfl ⟨by rw [hT.out], by rw [hT.out]; exact H7.out, B7.out⟩
   | false =>
    have hT := hid (show takeV r = ((val0, false), (textR 1024 (byteR r).2).2) by unfold takeV; rw [hP.out, if_neg (fun h => by have := h.2; rw [hm] at this; cases this)])
    clear hm
    go_wp2
    obtain ⟨hr7, s7⟩ := set3 hr6.out (.int .i64 0) (.int .i64 0) (.string ⟨#[]⟩)
    have H7 := hid (s7.at H6.out (by omega))
    have B7 := hid (B6.out.trans' s7 (F := fun k => k = rb) (fun i hi he => by omega))
    clear s7 x0 x1 x2 y0 y1 y2 z0 z1 z2
    generalize ((w6.setCell ⟨w.heap.size, 0, none⟩ (.int .i64 0)).setCell ⟨w.heap.size, 1, none⟩ (.int .i64 0)).setCell ⟨w.heap.size, 2, none⟩ (.string ⟨#[]⟩) = w7 at hr7 H7 B7 ⊢
    have k0 := cell_of hr7 0
    have k1 := cell_of hr7 1
    have k2 := cell_of hr7 2
    exact bodyPost_ret (v := .tuple #[val0.enc, .bool false]) (by simp [results, Tryz.results141, go_sem, ValV.enc, val0, k0, k1, k2]) rfl ⟨by rw [hT.out], by rw [hT.out]; exact H7.out, B7.out⟩
  ·
   have g' : (((textR 1024 (byteR r).2).2).e != 0) = true := by simpa using g
   have hT := hid (show takeV r = ((val0, false), (textR 1024 (byteR r).2).2) by unfold takeV; rw [hP.out, if_neg (fun h => g h.1)])
   clear g
   go_wp2
   obtain ⟨hr7, s7⟩ := set3 hr5.out (.int .i64 0) (.int .i64 0) (.string ⟨#[]⟩)
   have H7 := hid (s7.at H5.out (by omega))
   have B7 := hid (B5.out.trans' s7 (F := fun k => k = rb) (fun i hi he => by omega))
   clear s7 x0 x1 x2 y0 y1 y2 z0 z1 z2
   generalize ((w5.setCell ⟨w.heap.size, 0, none⟩ (.int .i64 0)).setCell ⟨w.heap.size, 1, none⟩ (.int .i64 0)).setCell ⟨w.heap.size, 2, none⟩ (.string ⟨#[]⟩) = w7 at hr7 H7 B7 ⊢
   have k0 := cell_of hr7 0
   have k1 := cell_of hr7 1
   have k2 := cell_of hr7 2
   exact bodyPost_ret (v := .tuple #[val0.enc, .bool false]) (by simp [results, Tryz.results141, go_sem, ValV.enc, val0, k0, k1, k2]) rfl ⟨by rw [hT.out], by rw [hT.out]; exact H7.out, B7.out⟩
 ·
  have tok := trivial
  have b3 : (((byteR r).1 : Int) == 3) = false := by simp; omega
  have e3 := hid h3
  clear h3
  go_wp2_with fail
  have hb3 := (Below.refl _ w2).alloc (Nat.le_refl _) (.cells #[.int .i64 (byteR r).1, .int .i64 0, .string ⟨#[]⟩] 175)
  have hv3 := alloc_new w2 (.cells #[.int .i64 (byteR r).1, .int .i64 0, .string ⟨#[]⟩] 175)
  have hvn : w2.heap.size ≠ rb := by have := heap_lt H2.out; omega
  generalize w2.alloc (.cells #[.int .i64 (byteR r).1, .int .i64 0, .string ⟨#[]⟩] 175) = w3 at hb3 hv3 ⊢
  have h3 := H2.out.grow hb3
  refine (rdInt_any rb _ w3 h3 hs2).mono ?_
  rintro e1 w4 ⟨rfl, h4, b4⟩
  have hv4 := hid (b4.at hv3 hvn)
  have hr4 := hid (b4.at ((hb3.block _ (heap_lt hr2.out)).trans hr2.out) (by omega))
  have H4 := hid h4
  have B4 := hid (B2.out.trans ((But.of hb3).trans (F := fun k => k = rb) b4))
  have f4 := free_of hv4.out 1
  have k4 := cell_of hv4.out 1
  have hvl := heap_lt hv4.out
  clear hb3 hv3 h3 h4 b4
  go_wp2_with fail
  clear f4 k4
  have hv5 := setCell_at hv4.out 1 (.int .i64 (intR (byteR r).2).1)
  have hs5 := Rb.set (w := w4) w2.heap.size 1 (.int .i64 (intR (byteR r).2).1)
  have H5 := hs5.at H4.out (Ne.symm hvn)
  have hr5 := hs5.at hr4.out (by have := heap_lt hr2.out; omega)
  have B5 := hid (B4.out.trans' hs5 (F := fun k => k = rb) (fun i hi he => by have := heap_lt H2.out; have := B2.out.size; omega))
  clear hs5
  generalize w4.setCell ⟨w2.heap.size, 1, none⟩ (.int .i64 (intR (byteR r).2).1) = w5 at hv5 H5 hr5 B5 ⊢
  have hP := hid (show takeP r = (⟨(byteR r).1, (intR (byteR r).2).1, ⟨#[]⟩⟩, (intR (byteR r).2).2) from if_neg e3.out)
  have hv5 := hid hv5
  have H5 := hid H5
  have hr5 := hid hr5
  refine (rdErr_any rb _ w5 H5.out).mono ?_
  rintro e1 w6 ⟨rfl, rfl⟩
  have x0 := cell_of hr5.out 0
  have x1 := cell_of hr5.out 1
  have x2 := cell_of hr5.out 2
  have y0 := free_of hr5.out 0
  have y1 := free_of hr5.out 1
  have y2 := free_of hr5.out 2
  have z0 := cell_of hv5.out 0
  have z1 := cell_of hv5.out 1
  have z2 := cell_of hv5.out 2
  by_cases g : ((intR (byteR r).2).2).e = 0
  ·
   have g' : (((intR (byteR r).2).2).e != 0) = false := by simpa using g
   have G := hid g
   clear g
   go_wp2_with fail
   refine (may_any ⟨(byteR r).1, (intR (byteR r).2).1, ⟨#[]⟩⟩ w5).mono ?_
   rintro e1 w6 ⟨rfl, b6⟩
   have hr6 := hid ((b6.block _ (heap_lt hr5.out)).trans hr5.out)
   have hv6 := hid ((b6.block _ (heap_lt hv5.out)).trans hv5.out)
   have H6 := hid (IsR.grow H5.out b6)
   have B6 := hid (B5.out.trans (But.of b6))
   clear x0 x1 x2 y0 y1 y2 z0 z1 z2 b6
   have x0 := cell_of hr6.out 0
   have x1 := cell_of hr6.out 1
   have x2 := cell_of hr6.out 2
   have y0 := free_of hr6.out 0
   have y1 := free_of hr6.out 1
   have y2 := free_of hr6.out 2
   have z0 := cell_of hv6.out 0
   have z1 := cell_of hv6.out 1
   have z2 := cell_of hv6.out 2
   cases hm : mayV ⟨(byteR r).1, (intR (byteR r).2).1, ⟨#[]⟩⟩ with
   | true =>
    have hT := hid (show takeV r = ((⟨(byteR r).1, (intR (byteR r).2).1, ⟨#[]⟩⟩, true), (intR (byteR r).2).2) by unfold takeV; rw [hP.out, if_pos ⟨G.out, hm⟩])
    clear hm
    go_wp2
    obtain ⟨hr7, s7⟩ := set3 hr6.out (.int .i64 (byteR r).1) (.int .i64 (intR (byteR r).2).1) (.string ⟨#[]⟩)
    have H7 := hid (s7.at H6.out (by omega))
    have B7 := hid (B6.out.trans' s7 (F := fun k => k = rb) (fun i hi he => by omega))
    clear s7 x0 x1 x2 y0 y1 y2 z0 z1 z2
    generalize ((w6.setCell ⟨w.heap.size, 0, none⟩ (.int .i64 (byteR r).1)).setCell ⟨w.heap.size, 1, none⟩ (.int .i64 (intR (byteR r).2).1)).setCell ⟨w.heap.size, 2, none⟩ (.string ⟨#[]⟩) = w7 at hr7 H7 B7 ⊢
    have k0 := cell_of hr7 0
    have k1 := cell_of hr7 1
    have k2 := cell_of hr7 2
    exact bodyPost_ret (v := .tuple #[(ValV.enc ⟨(byteR r).1, (intR (byteR r).2).1, ⟨#[]⟩⟩), .bool true]) (by simp [results, Tryz.results141, go_sem, ValV.enc, val0, k0, k1, k2]) rfl ⟨by rw [hT.out], by rw [hT.out]; exact H7.out, B7.out⟩
   | false =>
    have hT := hid (show takeV r = ((val0, false), (intR (byteR r).2).2) by unfold takeV; rw [hP.out, if_neg (fun h => by have := h.2; rw [hm] at this; cases this)])
    clear hm
    go_wp2
    obtain ⟨hr7, s7⟩ := set3 hr6.out (.int .i64 0) (.int .i64 0) (.string ⟨#[]⟩)
    have H7 := hid (s7.at H6.out (by omega))
    have B7 := hid (B6.out.trans' s7 (F := fun k => k = rb) (fun i hi he => by omega))
    clear s7 x0 x1 x2 y0 y1 y2 z0 z1 z2
    generalize ((w6.setCell ⟨w.heap.size, 0, none⟩ (.int .i64 0)).setCell ⟨w.heap.size, 1, none⟩ (.int .i64 0)).setCell ⟨w.heap.size, 2, none⟩ (.string ⟨#[]⟩) = w7 at hr7 H7 B7 ⊢
    have k0 := cell_of hr7 0
    have k1 := cell_of hr7 1
    have k2 := cell_of hr7 2
    exact bodyPost_ret (v := .tuple #[val0.enc, .bool false]) (by simp [results, Tryz.results141, go_sem, ValV.enc, val0, k0, k1, k2]) rfl ⟨by rw [hT.out], by rw [hT.out]; exact H7.out, B7.out⟩
  ·
   have g' : (((intR (byteR r).2).2).e != 0) = true := by simpa using g
   have hT := hid (show takeV r = ((val0, false), (intR (byteR r).2).2) by unfold takeV; rw [hP.out, if_neg (fun h => g h.1)])
   clear g
   go_wp2
   obtain ⟨hr7, s7⟩ := set3 hr5.out (.int .i64 0) (.int .i64 0) (.string ⟨#[]⟩)
   have H7 := hid (s7.at H5.out (by omega))
   have B7 := hid (B5.out.trans' s7 (F := fun k => k = rb) (fun i hi he => by omega))
   clear s7 x0 x1 x2 y0 y1 y2 z0 z1 z2
   generalize ((w5.setCell ⟨w.heap.size, 0, none⟩ (.int .i64 0)).setCell ⟨w.heap.size, 1, none⟩ (.int .i64 0)).setCell ⟨w.heap.size, 2, none⟩ (.string ⟨#[]⟩) = w7 at hr7 H7 B7 ⊢
   have k0 := cell_of hr7 0
   have k1 := cell_of hr7 1
   have k2 := cell_of hr7 2
   exact bodyPost_ret (v := .tuple #[val0.enc, .bool false]) (by simp [results, Tryz.results141, go_sem, ValV.enc, val0, k0, k1, k2]) rfl ⟨by rw [hT.out], by rw [hT.out]; exact H7.out, B7.out⟩
theorem rtakeV_any (rb : Nat) (r : RdV) (w : World) (h : IsR 92 w rb r) (hs : r.s.size ≤ 140737488355328) :
  Calls Tryz.prog 142 #[.pointer (some ⟨rb, 0, none⟩)] w fun e' w' => e' = .returned (.tuple #[(takeV r).1.1.enc, .bool (takeV r).1.2]) ∧ IsR 92 w' rb (takeV r).2 ∧ Rb rb w w' := by
 have hrb : rb < w.heap.size := heap_lt h
 have hk := byteR_lt r
 go_enter Tryz.func142, Tryz.ntmps142
 go_wp2_with fail
 have hb0 := (Below.refl _ w).alloc (Nat.le_refl _) (.cells #[.int .i64 0, .int .i64 0, .string ⟨#[]⟩] 175)
 have hr0 := alloc_new w (.cells #[.int .i64 0, .int .i64 0, .string ⟨#[]⟩] 175)
 generalize w.alloc (.cells #[.int .i64 0, .int .i64 0, .string ⟨#[]⟩] 175) = w1 at hb0 hr0 ⊢
 have h1 := h.grow hb0
 refine (rrByte_any rb r w1 h1 hs).mono ?_
 rintro e1 w2 ⟨rfl, h2, b2⟩
 have hr2 := hid (b2.at hr0 (by omega))
 have H2 := hid h2
 have B2 := hid ((But.of hb0).trans (F := fun k => k = rb) b2)
 have hs2 : (byteR r).2.s.size ≤ 140737488355328 := Nat.le_trans (takeR_size _ _ _) hs
 clear hb0 hr0 h1 h2 b2 h
 by_cases h3 : (byteR r).1 = 3
 ·
  have tok := trivial
  have b3 : (((byteR r).1 : Int) == 3) = true := by simp; omega
  have e3 := hid h3
  clear h3
  go_wp2_with fail
  have hb3 := (Below.refl _ w2).alloc (Nat.le_refl _) (.cells #[.int .i64 (byteR r).1, .int .i64 0, .string ⟨#[]⟩] 175)
  have hv3 := alloc_new w2 (.cells #[.int .i64 (byteR r).1, .int .i64 0, .string ⟨#[]⟩] 175)
  have hvn : w2.heap.size ≠ rb := by have := heap_lt H2.out; omega
  generalize w2.alloc (.cells #[.int .i64 (byteR r).1, .int .i64 0, .string ⟨#[]⟩] 175) = w3 at hb3 hv3 ⊢
  have h3 := H2.out.grow hb3
  refine (rrText_any rb _ w3 h3 hs2 1024 (by omega) (by omega)).mono ?_
  rintro e1 w4 ⟨rfl, h4, b4⟩
  have hv4 := hid (b4.at hv3 hvn)
  have hr4 := hid (b4.at ((hb3.block _ (heap_lt hr2.out)).trans hr2.out) (by omega))
  have H4 := hid h4
  have B4 := hid (B2.out.trans ((But.of hb3).trans (F := fun k => k = rb) b4))
  have f4 := free_of hv4.out 2
  have k4 := cell_of hv4.out 2
  have k40 := cell_of hv4.out 0
  have k41 := cell_of hv4.out 1
  have hvl := heap_lt hv4.out
  clear hb3 hv3 h3 h4 b4
  go_wp2_with fail
  clear f4 k4 k40 k41
  have hv5 := setCell_at hv4.out 2 (.string (textR 1024 (byteR r).2).1)
  have hs5 := Rb.set (w := w4) w2.heap.size 2 (.string (textR 1024 (byteR r).2).1)
  have H5 := hs5.at H4.out (Ne.symm hvn)
  have hr5 := hs5.at hr4.out (by have := heap_lt hr2.out; omega)
  have B5 := hid (B4.out.trans' hs5 (F := fun k => k = rb) (fun i hi he => by have := heap_lt H2.out; have := B2.out.size; omega))
  clear hs5
  generalize w4.setCell ⟨w2.heap.size, 2, none⟩ (.string (textR 1024 (byteR r).2).1) = w5 at hv5 H5 hr5 B5 ⊢
  have hP := hid (show takeP r = (⟨(byteR r).1, 0, (textR 1024 (byteR r).2).1⟩, (textR 1024 (byteR r).2).2) from if_pos e3.out)
  have hv5 := hid hv5
  have H5 := hid H5
  have hr5 := hid hr5
  refine (rmay_any ⟨(byteR r).1, 0, (textR 1024 (byteR r).2).1⟩ w5).mono ?_
  rintro e1 w6 ⟨rfl, b6⟩
  have hr6 := hid ((b6.block _ (heap_lt hr5.out)).trans hr5.out)
  have hv6 := hid ((b6.block _ (heap_lt hv5.out)).trans hv5.out)
  have H6 := hid (IsR.grow H5.out b6)
  have B6 := hid (B5.out.trans (But.of b6))
  clear b6
  have x0 := cell_of hr6.out 0
  have x1 := cell_of hr6.out 1
  have x2 := cell_of hr6.out 2
  have y0 := free_of hr6.out 0
  have y1 := free_of hr6.out 1
  have y2 := free_of hr6.out 2
  have z0 := cell_of hv6.out 0
  have z1 := cell_of hv6.out 1
  have z2 := cell_of hv6.out 2
  have q1 := IsR.c1 H6.out
  by_cases g : ((textR 1024 (byteR r).2).2).e = 0
  ·
   have g' : (((textR 1024 (byteR r).2).2).e != 0) = false := by simpa using g
   have G := hid g
   clear g
   cases hm : mayV ⟨(byteR r).1, 0, (textR 1024 (byteR r).2).1⟩ with
   | true =>
    have hT := hid (show takeV r = ((⟨(byteR r).1, 0, (textR 1024 (byteR r).2).1⟩, true), (textR 1024 (byteR r).2).2) by unfold takeV; rw [hP.out, if_pos ⟨G.out, hm⟩])
    clear hm
    go_wp2
    obtain ⟨hr7, s7⟩ := set3 hr6.out (.int .i64 (byteR r).1) (.int .i64 0) (.string (textR 1024 (byteR r).2).1)
    have H7 := hid (s7.at H6.out (by omega))
    have B7 := hid (B6.out.trans' s7 (F := fun k => k = rb) (fun i hi he => by omega))
    clear s7 x0 x1 x2 y0 y1 y2 z0 z1 z2
    generalize ((w6.setCell ⟨w.heap.size, 0, none⟩ (.int .i64 (byteR r).1)).setCell ⟨w.heap.size, 1, none⟩ (.int .i64 0)).setCell ⟨w.heap.size, 2, none⟩ (.string (textR 1024 (byteR r).2).1) = w7 at hr7 H7 B7 ⊢
    have k0 := cell_of hr7 0
    have k1 := cell_of hr7 1
    have k2 := cell_of hr7 2
    exact bodyPost_ret (v := .tuple #[(ValV.enc ⟨(byteR r).1, 0, (textR 1024 (byteR r).2).1⟩), .bool true]) (by simp [results, Tryz.results142, go_sem, ValV.enc, val0, k0, k1, k2]) rfl ⟨by rw [hT.out], by rw [hT.out]; exact H7.out, B7.out⟩
   | false =>
    have hT := hid (show takeV r = ((val0, false), (textR 1024 (byteR r).2).2) by unfold takeV; rw [hP.out, if_neg (fun h => by have := h.2; rw [hm] at this; cases this)])
    clear hm
    go_wp2
    obtain ⟨hr7, s7⟩ := set3 hr6.out (.int .i64 0) (.int .i64 0) (.string ⟨#[]⟩)
    have H7 := hid (s7.at H6.out (by omega))
    have B7 := hid (B6.out.trans' s7 (F := fun k => k = rb) (fun i hi he => by omega))
    clear s7 x0 x1 x2 y0 y1 y2 z0 z1 z2
    generalize ((w6.setCell ⟨w.heap.size, 0, none⟩ (.int .i64 0)).setCell ⟨w.heap.size, 1, none⟩ (.int .i64 0)).setCell ⟨w.heap.size, 2, none⟩ (.string ⟨#[]⟩) = w7 at hr7 H7 B7 ⊢
    have k0 := cell_of hr7 0
    have k1 := cell_of hr7 1
    have k2 := cell_of hr7 2
    exact bodyPost_ret (v := .tuple #[val0.enc, .bool false]) (by simp [results, Tryz.results142, go_sem, ValV.enc, val0, k0, k1, k2]) rfl ⟨by rw [hT.out], by rw [hT.out]; exact H7.out, B7.out⟩
  ·
   have g' : (((textR 1024 (byteR r).2).2).e != 0) = true := by simpa using g
   have hT := hid (show takeV r = ((val0, false), (textR 1024 (byteR r).2).2) by unfold takeV; rw [hP.out, if_neg (fun h => g h.1)])
   clear g
   go_wp2
   obtain ⟨hr7, s7⟩ := set3 hr6.out (.int .i64 0) (.int .i64 0) (.string ⟨#[]⟩)
   have H7 := hid (s7.at H6.out (by omega))
   have B7 := hid (B6.out.trans' s7 (F := fun k => k = rb) (fun i hi he => by omega))
   clear s7 x0 x1 x2 y0 y1 y2 z0 z1 z2
   generalize ((w6.setCell ⟨w.heap.size, 0, none⟩ (.int .i64 0)).setCell ⟨w.heap.size, 1, none⟩ (.int .i64 0)).setCell ⟨w.heap.size, 2, none⟩ (.string ⟨#[]⟩) = w7 at hr7 H7 B7 ⊢
   have k0 := cell_of hr7 0
   have k1 := cell_of hr7 1
   have k2 := cell_of hr7 2
   exact bodyPost_ret (v := .tuple #[val0.enc, .bool false]) (by simp [results, Tryz.results142, go_sem, ValV.enc, val0, k0, k1, k2]) rfl ⟨by rw [hT.out], by rw [hT.out]; exact H7.out, B7.out⟩
 ·
  have tok := trivial
  have b3 : (((byteR r).1 : Int) == 3) = false := by simp; omega
  have e3 := hid h3
  clear h3
  go_wp2_with fail
  have hb3 := (Below.refl _ w2).alloc (Nat.le_refl _) (.cells #[.int .i64 (byteR r).1, .int .i64 0, .string ⟨#[]⟩] 175)
  have hv3 := alloc_new w2 (.cells #[.int .i64 (byteR r).1, .int .i64 0, .string ⟨#[]⟩] 175)
  have hvn : w2.heap.size ≠ rb := by have := heap_lt H2.out; omega
  generalize w2.alloc (.cells #[.int .i64 (byteR r).1, .int .i64 0, .string ⟨#[]⟩] 175) = w3 at hb3 hv3 ⊢
  have h3 := H2.out.grow hb3
  refine (rrInt_any rb _ w3 h3 hs2).mono ?_
  rintro e1 w4 ⟨rfl, h4, b4⟩
  have hv4 := hid (b4.at hv3 hvn)
  have hr4 := hid (b4.at ((hb3.block _ (heap_lt hr2.out)).trans hr2.out) (by omega))
  have H4 := hid h4
  have B4 := hid (B2.out.trans ((But.of hb3).trans (F := fun k => k = rb) b4))
  have f4 := free_of hv4.out 1
  have k4 := cell_of hv4.out 1
  have k40 := cell_of hv4.out 0
  have k42 := cell_of hv4.out 2
  have hvl := heap_lt hv4.out
  clear hb3 hv3 h3 h4 b4
  go_wp2_with fail
  clear f4 k4 k40 k42
  have hv5 := setCell_at hv4.out 1 (.int .i64 (intR (byteR r).2).1)
  have hs5 := Rb.set (w := w4) w2.heap.size 1 (.int .i64 (intR (byteR r).2).1)
  have H5 := hs5.at H4.out (Ne.symm hvn)
  have hr5 := hs5.at hr4.out (by have := heap_lt hr2.out; omega)
  have B5 := hid (B4.out.trans' hs5 (F := fun k => k = rb) (fun i hi he => by have := heap_lt H2.out; have := B2.out.size; omega))
  clear hs5
  generalize w4.setCell ⟨w2.heap.size, 1, none⟩ (.int .i64 (intR (byteR r).2).1) = w5 at hv5 H5 hr5 B5 ⊢
  have hP := hid (show takeP r = (⟨(byteR r).1, (intR (byteR r).2).1, ⟨#[]⟩⟩, (intR (byteR r).2).2) from if_neg e3.out)
  have hv5 := hid hv5
  have H5 := hid H5
  have hr5 := hid hr5
  refine (rmay_any ⟨(byteR r).1, (intR (byteR r).2).1, ⟨#[]⟩⟩ w5).mono ?_
  rintro e1 w6 ⟨rfl, b6⟩
  have hr6 := hid ((b6.block _ (heap_lt hr5.out)).trans hr5.out)
  have hv6 := hid ((b6.block _ (heap_lt hv5.out)).trans hv5.out)
  have H6 := hid (IsR.grow H5.out b6)
  have B6 := hid (B5.out.trans (But.of b6))
  clear b6
  have x0 := cell_of hr6.out 0
  have x1 := cell_of hr6.out 1
  have x2 := cell_of hr6.out 2
  have y0 := free_of hr6.out 0
  have y1 := free_of hr6.out 1
  have y2 := free_of hr6.out 2
  have z0 := cell_of hv6.out 0
  have z1 := cell_of hv6.out 1
  have z2 := cell_of hv6.out 2
  have q1 := IsR.c1 H6.out
  by_cases g : ((intR (byteR r).2).2).e = 0
  ·
   have g' : (((intR (byteR r).2).2).e != 0) = false := by simpa using g
   have G := hid g
   clear g
   cases hm : mayV ⟨(byteR r).1, (intR (byteR r).2).1, ⟨#[]⟩⟩ with
   | true =>
    have hT := hid (show takeV r = ((⟨(byteR r).1, (intR (byteR r).2).1, ⟨#[]⟩⟩, true), (intR (byteR r).2).2) by unfold takeV; rw [hP.out, if_pos ⟨G.out, hm⟩])
    clear hm
    go_wp2
    obtain ⟨hr7, s7⟩ := set3 hr6.out (.int .i64 (byteR r).1) (.int .i64 (intR (byteR r).2).1) (.string ⟨#[]⟩)
    have H7 := hid (s7.at H6.out (by omega))
    have B7 := hid (B6.out.trans' s7 (F := fun k => k = rb) (fun i hi he => by omega))
    clear s7 x0 x1 x2 y0 y1 y2 z0 z1 z2
    generalize ((w6.setCell ⟨w.heap.size, 0, none⟩ (.int .i64 (byteR r).1)).setCell ⟨w.heap.size, 1, none⟩ (.int .i64 (intR (byteR r).2).1)).setCell ⟨w.heap.size, 2, none⟩ (.string ⟨#[]⟩) = w7 at hr7 H7 B7 ⊢
    have k0 := cell_of hr7 0
    have k1 := cell_of hr7 1
    have k2 := cell_of hr7 2
    exact bodyPost_ret (v := .tuple #[(ValV.enc ⟨(byteR r).1, (intR (byteR r).2).1, ⟨#[]⟩⟩), .bool true]) (by simp [results, Tryz.results142, go_sem, ValV.enc, val0, k0, k1, k2]) rfl ⟨by rw [hT.out], by rw [hT.out]; exact H7.out, B7.out⟩
   | false =>
    have hT := hid (show takeV r = ((val0, false), (intR (byteR r).2).2) by unfold takeV; rw [hP.out, if_neg (fun h => by have := h.2; rw [hm] at this; cases this)])
    clear hm
    go_wp2
    obtain ⟨hr7, s7⟩ := set3 hr6.out (.int .i64 0) (.int .i64 0) (.string ⟨#[]⟩)
    have H7 := hid (s7.at H6.out (by omega))
    have B7 := hid (B6.out.trans' s7 (F := fun k => k = rb) (fun i hi he => by omega))
    clear s7 x0 x1 x2 y0 y1 y2 z0 z1 z2
    generalize ((w6.setCell ⟨w.heap.size, 0, none⟩ (.int .i64 0)).setCell ⟨w.heap.size, 1, none⟩ (.int .i64 0)).setCell ⟨w.heap.size, 2, none⟩ (.string ⟨#[]⟩) = w7 at hr7 H7 B7 ⊢
    have k0 := cell_of hr7 0
    have k1 := cell_of hr7 1
    have k2 := cell_of hr7 2
    exact bodyPost_ret (v := .tuple #[val0.enc, .bool false]) (by simp [results, Tryz.results142, go_sem, ValV.enc, val0, k0, k1, k2]) rfl ⟨by rw [hT.out], by rw [hT.out]; exact H7.out, B7.out⟩
  ·
   have g' : (((intR (byteR r).2).2).e != 0) = true := by simpa using g
   have hT := hid (show takeV r = ((val0, false), (intR (byteR r).2).2) by unfold takeV; rw [hP.out, if_neg (fun h => g h.1)])
   clear g
   go_wp2
   obtain ⟨hr7, s7⟩ := set3 hr6.out (.int .i64 0) (.int .i64 0) (.string ⟨#[]⟩)
   have H7 := hid (s7.at H6.out (by omega))
   have B7 := hid (B6.out.trans' s7 (F := fun k => k = rb) (fun i hi he => by omega))
   clear s7 x0 x1 x2 y0 y1 y2 z0 z1 z2
   generalize ((w6.setCell ⟨w.heap.size, 0, none⟩ (.int .i64 0)).setCell ⟨w.heap.size, 1, none⟩ (.int .i64 0)).setCell ⟨w.heap.size, 2, none⟩ (.string ⟨#[]⟩) = w7 at hr7 H7 B7 ⊢
   have k0 := cell_of hr7 0
   have k1 := cell_of hr7 1
   have k2 := cell_of hr7 2
   exact bodyPost_ret (v := .tuple #[val0.enc, .bool false]) (by simp [results, Tryz.results142, go_sem, ValV.enc, val0, k0, k1, k2]) rfl ⟨by rw [hT.out], by rw [hT.out]; exact H7.out, B7.out⟩
end Go.Proofs.YthikijlbclckdaaGreat
