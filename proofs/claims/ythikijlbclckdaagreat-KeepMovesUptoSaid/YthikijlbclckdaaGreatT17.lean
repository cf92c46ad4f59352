/- Keep: contracts (Tv Tw Tw2 So La). -/
import Derived.Test.YthikijlbclckdaaGreatT5
import Derived.Test.YthikijlbclckdaaGreatT6
import Derived.Test.YthikijlbclckdaaGreatT14
import Derived.Test.YthikijlbclckdaaGreatT15
import Derived.Test.YthikijlbclckdaaGreatT16
namespace Go.Proofs.YthikijlbclckdaaGreat
set_option maxRecDepth 100000
set_option maxHeartbeats 40000000
set_option linter.unusedSimpArgs false
set_option linter.unusedVariables false
open Go.RowKit
def val0 : ValV := ⟨0, 0, ⟨#[]⟩⟩
def takeP (r : RdV) : ValV × RdV :=
 if (byteR r).1 = 3 then (⟨(byteR r).1, 0, (textR 1024 (byteR r).2).1⟩, (textR 1024 (byteR r).2).2) else (⟨(byteR r).1, (intR (byteR r).2).1, ⟨#[]⟩⟩, (intR (byteR r).2).2)
def takeV (r : RdV) : (ValV × Bool) × RdV :=
 if (takeP r).2.e = 0 ∧ mayV (takeP r).1 = true then (((takeP r).1, true), (takeP r).2) else ((val0, false), (takeP r).2)
theorem Rb.at {rb k : Nat} {w w' : World} {o : Obj} (hb : Rb rb w w') (h : w.heap[k]? = some o) (hn : k ≠ rb) : w'.heap[k]? = some o := (hb.block k (heap_lt h) hn).trans h
theorem set3 {w : World} {b : Nat} {x y z : Value} {t : TypeId} (h : w.heap[b]? = some (.cells #[x, y, z] t (0, 0))) (p q r : Value) :
  (((w.setCell ⟨b, 0, none⟩ p).setCell ⟨b, 1, none⟩ q).setCell ⟨b, 2, none⟩ r).heap[b]? = some (.cells #[p, q, r] t (0, 0)) ∧ Rb b w (((w.setCell ⟨b, 0, none⟩ p).setCell ⟨b, 1, none⟩ q).setCell ⟨b, 2, none⟩ r) :=
 ⟨setCell_at (setCell_at (setCell_at h 0 p) 1 q) 2 r, (Rb.set b 0 p).trans ((Rb.set b 1 q).trans (Rb.set b 2 r))⟩
theorem byteR_lt (r : RdV) : (byteR r).1 < 256 := by
 have hb : (byteF r.s).1 < 256 := by
  unfold byteF
  by_cases h : r.s.size = 0
  ·
   rw [if_pos h]; show 0 < 256; omega
  ·
   rw [if_neg h]; exact UInt8.toNat_lt _
 unfold byteR takeR
 by_cases h : r.e = 0
 ·
  rw [if_pos h]
  by_cases h2 : (byteF r.s).2.2 = 0
  ·
   rw [if_pos h2]; exact hb
  ·
   rw [if_neg h2]; show 0 < 256; omega
 ·
  rw [if_neg h]; show 0 < 256; omega
theorem takeV_any (rb : Nat) (r : RdV) (w : World) (h : IsR 168 w rb r) (hs : r.s.size ≤ 140737488355328) :
  Calls Tryz.prog 141 #[.pointer (some ⟨rb, 0, none⟩)] w fun e' w' => e' = .returned (.tuple #[(takeV r).1.1.enc, .bool (takeV r).1.2]) ∧ IsR 168 w' rb (takeV r).2 ∧ Rb rb w w' := by
 have hrb : rb < w.heap.size := heap_lt h
 have hk := byteR_lt r
 go_enter Tryz.func141, Tryz.ntmps141
 go_wp2_with fail
 have hb0 := (Below.refl _ w).alloc (Nat.le_refl _) (.cells #[.int .i64 0, .int .i64 0, .string ⟨#[]⟩] 175)
 have hr0 := alloc_new w (.cells #[.int .i64 0, .int .i64 0, .string ⟨#[]⟩] 175)
 generalize w.alloc (.cells #[.int .i64 0, .int .i64 0, .string ⟨#[]⟩] 175) = w1 at hb0 hr0 ⊢
 have h1 := h.grow hb0
 refine (rdByte_any rb r w1 h1 hs).mono ?_
 rintro e1 w2 ⟨rfl, h2, b2⟩
 have hr2 := hid (b2.at hr0 (by omega))
 have H2 := hid h2
 have B2 := hid ((But.of hb0).trans (F := fun k => k = rb) b2)
 have hs2 : (byteR r).2.s.size ≤ 140737488355328 := Nat.le_trans (takeR_size _ _ _) hs
 clear hb0 hr0 h1 h2 b2 h
 by_cases h3 : (byteR r).1 = 3
 ·
  have tok := trivial
  have b3 : (((byteR r).1 : Int) == 3) = true := by simp; omega
  have e3 := hid h3
  clear h3
  go_wp2_with fail
  have hb3 := (Below.refl _ w2).alloc (Nat.le_refl _) (.cells #[.int .i64 (byteR r).1, .int .i64 0, .string ⟨#[]⟩] 175)
  have hv3 := alloc_new w2 (.cells #[.int .i64 (byteR r).1, .int .i64 0, .string ⟨#[]⟩] 175)
  have hvn : w2.heap.size ≠ rb := by have := heap_lt H2.out; omega
  generalize w2.alloc (.cells #[.int .i64 (byteR r).1, .int .i64 0, .string ⟨#[]⟩] 175) = w3 at hb3 hv3 ⊢
  have h3 := H2.out.grow hb3
  refine (rdText_any rb _ w3 h3 hs2 1024 (by omega) (by omega)).mono ?_
  rintro e1 w4 ⟨rfl, h4, b4⟩
  have hv4 := hid (b4.at hv3 hvn)
  have hr4 := hid (b4.at ((hb3.block _ (heap_lt hr2.out)).trans hr2.out) (by omega))
  have H4 := hid h4
  have B4 := hid (B2.out.trans ((But.of hb3).trans (F := fun k => k = rb) b4))
  have f4 := free_of hv4.out 2
  have k4 := cell_of hv4.out 2
  have hvl := heap_lt hv4.out
  clear hb3 hv3 h3 h4 b4
  go_wp2_with fail
  clear f4 k4
  have hv5 := setCell_at hv4.out 2 (.string (textR 1024 (byteR r).2).1)
  have hs5 := Rb.set (w := w4) w2.heap.size 2 (.string (textR 1024 (byteR r).2).1)
  have H5 := hs5.at H4.out (Ne.symm hvn)
  have hr5 := hs5.at hr4.out (by have := heap_lt hr2.out; omega)
  have B5 := hid (B4.out.trans' hs5 (F := fun k => k = rb) (fun i hi he => by have := heap_lt H2.out; have := B2.out.size; omega))
  clear hs5
  generalize w4.setCell ⟨w2.heap.size, 2, none⟩ (.string (textR 1024 (byteR r).2).1) = w5 at hv5 H5 hr5 B5 ⊢
  have hP := hid (show takeP r = (⟨(byteR r).1, 0, (textR 1024 (byteR r).2).1⟩, (textR 1024 (byteR r).2).2) from if_pos e3.out)
  have hv5 := hid hv5
  have H5 := hid H5
  have hr5 := hid hr5
  refine (rdErr_any rb _ w5 H5.out).mono ?_
  rintro e1 w6 ⟨rfl, rfl⟩
  have x0 := cell_of hr5.out 0
  have x1 := cell_of hr5.out 1
  have x2 := cell_of hr5.out 2
  have y0 := free_of hr5.out 0
  have y1 := free_of hr5.out 1
  have y2 := free_of hr5.out 2
  have z0 := cell_of hv5.out 0
  have z1 := cell_of hv5.out 1
  have z2 := cell_of hv5.out 2
  by_cases g : ((textR 1024 (byteR r).2).2).e = 0
  ·
   have g' : (((textR 1024 (byteR r).2).2).e != 0) = false := by simpa using g
   have G := hid g
   clear g
   go_wp2_with fail
   refine (may_any ⟨(byteR r).1, 0, (textR 1024 (byteR r).2).1⟩ w5).mono ?_
   rintro e1 w6 ⟨rfl, b6⟩
   have hr6 := hid ((b6.block _ (heap_lt hr5.out)).trans hr5.out)
   have hv6 := hid ((b6.block _ (heap_lt hv5.out)).trans hv5.out)
   have H6 := hid (IsR.grow H5.out b6)
   have B6 := hid (B5.out.trans (But.of b6))
   clear x0 x1 x2 y0 y1 y2 z0 z1 z2 b6
   have x0 := cell_of hr6.out 0
   have x1 := cell_of hr6.out 1
   have x2 := cell_of hr6.out 2
   have y0 := free_of hr6.out 0
   have y1 := free_of hr6.out 1
   have y2 := free_of hr6.out 2
   have z0 := cell_of hv6.out 0
   have z1 := cell_of hv6.out 1
   have z2 := cell_of hv6.out 2
   cases hm : mayV ⟨(byteR r).1, 0, (textR 1024 (byteR r).2).1⟩ with
   | true =>
    have hT := hid (show takeV r = ((⟨(byteR r).1, 0, (textR 1024 (byteR r).2).1⟩, true), (textR 1024 (byteR r).2).2) by unfold takeV; rw [hP.out, if_pos ⟨G.out, hm⟩])
    clear hm
    go_wp2
    obtain ⟨hr7, s7⟩ := set3 hr6.out (.int .i64 (byteR r).1) (.int .i64 0) (.string (textR 1024 (byteR r).2).1)
    have H7 := hid (s7.at H6.out (by omega))
    have B7 := hid (B6.out.trans' s7 (F := fun k => k = rb) (fun i hi he => by omega))
    clear s7 x0 x1 x2 y0 y1 y2 z0 z1 z2
    generalize ((w6.setCell ⟨w.heap.size, 0, none⟩ (.int .i64 (byteR r).1)).setCell ⟨w.heap.size, 1, none⟩ (.int .i64 0)).setCell ⟨w.heap.size, 2, none⟩ (.string (textR 1024 (byteR r).2).1) = w7 at hr7 H7 B7 ⊢
    have k0 := cell_of hr7 0
    have k1 := cell_of hr7 1
    have k2 := cell_of hr7 2
    exact bodyPost_ret (v := .tuple #[(ValV.enc ⟨(byteR r).1, 0, (textR 1024 (byteR r).2).1⟩), .bool true]) (by simp [results, Tryz.results141, go_sem, ValV.enc, val0, k0, k1, k2]) rfl ⟨by rw [hT.out], by rw [hT.out]; exact H7.out, B7.out⟩
   | false =>
    have hT := hid (show takeV r = ((val0, false), (textR 1024 (byteR r).2).2) by unfold takeV; rw [hP.out, if_neg (fun h => by have := h.2; rw [hm] at this; cases this)])
    clear hm
    go_wp2
    obtain ⟨hr7, s7⟩ := set3 hr6.out (.int .i64 0) (.int .i64 0) (.string ⟨#[]⟩)
    have H7 := hid (s7.at H6.out (by omega))
    have B7 := hid (B6.out.trans' s7 (F := fun k => k = rb) (fun i hi he => by omega))
    clear s7 x0 x1 x2 y0 y1 y2 z0 z1 z2
    generalize ((w6.setCell ⟨w.heap.size, 0, none⟩ (.int .i64 0)).setCell ⟨w.heap.size, 1, none⟩ (.int .i64 0)).setCell ⟨w.heap.size, 2, none⟩ (.string ⟨#[]⟩) = w7 at hr7 H7 B7 ⊢
    have k0 := cell_of hr7 0
    have k1 := cell_of hr7 1
    have k2 := cell_of hr7 2
    exact bodyPost_ret (v := .tuple #[val0.enc, .bool false]) (by simp [results, Tryz.results141, go_sem, ValV.enc, val0, k0, k1, k2]) rfl ⟨by rw [hT.out], by rw [hT.out]; exact H7.out, B7.out⟩
  ·
   have g' : (((textR 1024 (byteR r).2).2).e != 0) = true := by simpa using g
   have hT := hid (show takeV r = ((val0, false), (textR 1024 (byteR r).2).2) by unfold takeV; rw [hP.out, if_neg (fun h => g h.1)])
   clear g
   go_wp2
   obtain ⟨hr7, s7⟩ := set3 hr5.out (.int .i64 0) (.int .i64 0) (.string ⟨#[]⟩)
   have H7 := hid (s7.at H5.out (by omega))
   have B7 := hid (B5.out.trans' s7 (F := fun k => k = rb) (fun i hi he => by omega))
   clear s7 x0 x1 x2 y0 y1 y2 z0 z1 z2
   generalize ((w5.setCell ⟨w.heap.size, 0, none⟩ (.int .i64 0)).setCell ⟨w.heap.size, 1, none⟩ (.int .i64 0)).setCell ⟨w.heap.size, 2, none⟩ (.string ⟨#[]⟩) = w7 at hr7 H7 B7 ⊢
   have k0 := cell_of hr7 0
   have k1 := cell_of hr7 1
   have k2 := cell_of hr7 2
   exact bodyPost_ret (v := .tuple #[val0.enc, .bool false]) (by simp [results, Tryz.results141, go_sem, ValV.enc, val0, k0, k1, k2]) rfl ⟨by rw [hT.out], by rw [hT.out]; exact H7.out, B7.out⟩
 ·
  have tok := trivial
  have b3 : (((byteR r).1 : Int) == 3) = false := by simp; omega
  have e3 := hid h3
  clear h3
  go_wp2_with fail
  have hb3 := (Below.refl _ w2).alloc (Nat.le_refl _) (.cells #[.int .i64 (byteR r).1, .int .i64 0, .string ⟨#[]⟩] 175)
  have hv3 := alloc_new w2 (.cells #[.int .i64 (byteR r).1, .int .i64 0, .string ⟨#[]⟩] 175)
  have hvn : w2.heap.size ≠ rb := by have := heap_lt H2.out; omega
  generalize w2.alloc (.cells #[.int .i64 (byteR r).1, .int .i64 0, .string ⟨#[]⟩] 175) = w3 at hb3 hv3 ⊢
  have h3 := H2.out.grow hb3
  refine (rdInt_any rb _ w3 h3 hs2).mono ?_
  rintro e1 w4 ⟨rfl, h4, b4⟩
  have hv4 := hid (b4.at hv3 hvn)
  have hr4 := hid (b4.at ((hb3.block _ (heap_lt hr2.out)).trans hr2.out) (by omega))
  have H4 := hid h4
  have B4 := hid (B2.out.trans ((But.of hb3).trans (F := fun k => k = rb) b4))
  have f4 := free_of hv4.out 1
  have k4 := cell_of hv4.out 1
  have hvl := heap_lt hv4.out
  clear hb3 hv3 h3 h4 b4
  go_wp2_with fail
  clear f4 k4
  have hv5 := setCell_at hv4.out 1 (.int .i64 (intR (byteR r).2).1)
  have hs5 := Rb.set (w := w4) w2.heap.size 1 (.int .i64 (intR (byteR r).2).1)
  have H5 := hs5.at H4.out (Ne.symm hvn)
  have hr5 := hs5.at hr4.out (by have := heap_lt hr2.out; omega)
  have B5 := hid (B4.out.trans' hs5 (F := fun k => k = rb) (fun i hi he => by have := heap_lt H2.out; have := B2.out.size; omega))
  clear hs5
  generalize w4.setCell ⟨w2.heap.size, 1, none⟩ (.int .i64 (intR (byteR r).2).1) = w5 at hv5 H5 hr5 B5 ⊢
  have hP := hid (show takeP r = (⟨(byteR r).1, (intR (byteR r).2).1, ⟨#[]⟩⟩, (intR (byteR r).2).2) from if_neg e3.out)
  have hv5 := hid hv5
  have H5 := hid H5
  have hr5 := hid hr5
  refine (rdErr_any rb _ w5 H5.out).mono ?_
  rintro e1 w6 ⟨rfl, rfl⟩
  have x0 := cell_of hr5.out 0
  have x1 := cell_of hr5.out 1
  have x2 := cell_of hr5.out 2
  have y0 := free_of hr5.out 0
  have y1 := free_of hr5.out 1
  have y2 := free_of hr5.out 2
  have z0 := cell_of hv5.out 0
  have z1 := cell_of hv5.out 1
  have z2 := cell_of hv5.out 2
  by_cases g : ((intR (byteR r).2).2).e = 0
  ·
   have g' : (((intR (byteR r).2).2).e != 0) = false := by simpa using g
   have G := hid g
   clear g
   go_wp2_with fail
   refine (may_any ⟨(byteR r).1, (intR (byteR r).2).1, ⟨#[]⟩⟩ w5).mono ?_
   rintro e1 w6 ⟨rfl, b6⟩
   have hr6 := hid ((b6.block _ (heap_lt hr5.out)).trans hr5.out)
   have hv6 := hid ((b6.block _ (heap_lt hv5.out)).trans hv5.out)
   have H6 := hid (IsR.grow H5.out b6)
   have B6 := hid (B5.out.trans (But.of b6))
   clear x0 x1 x2 y0 y1 y2 z0 z1 z2 b6
   have x0 := cell_of hr6.out 0
   have x1 := cell_of hr6.out 1
   have x2 := cell_of hr6.out 2
   have y0 := free_of hr6.out 0
   have y1 := free_of hr6.out 1
   have y2 := free_of hr6.out 2
   have z0 := cell_of hv6.out 0
   have z1 := cell_of hv6.out 1
   have z2 := cell_of hv6.out 2
   cases hm : mayV ⟨(byteR r).1, (intR (byteR r).2).1, ⟨#[]⟩⟩ with
   | true =>
    have hT := hid (show takeV r = ((⟨(byteR r).1, (intR (byteR r).2).1, ⟨#[]⟩⟩, true), (intR (byteR r).2).2) by unfold takeV; rw [hP.out, if_pos ⟨G.out, hm⟩])
    clear hm
    go_wp2
    obtain ⟨hr7, s7⟩ := set3 hr6.out (.int .i64 (byteR r).1) (.int .i64 (intR (byteR r).2).1) (.string ⟨#[]⟩)
    have H7 := hid (s7.at H6.out (by omega))
    have B7 := hid (B6.out.trans' s7 (F := fun k => k = rb) (fun i hi he => by omega))
    clear s7 x0 x1 x2 y0 y1 y2 z0 z1 z2
    generalize ((w6.setCell ⟨w.heap.size, 0, none⟩ (.int .i64 (byteR r).1)).setCell ⟨w.heap.size, 1, none⟩ (.int .i64 (intR (byteR r).2).1)).setCell ⟨w.heap.size, 2, none⟩ (.string ⟨#[]⟩) = w7 at hr7 H7 B7 ⊢
    have k0 := cell_of hr7 0
    have k1 := cell_of hr7 1
    have k2 := cell_of hr7 2
    exact bodyPost_ret (v := .tuple #[(ValV.enc ⟨(byteR r).1, (intR (byteR r).2).1, ⟨#[]⟩⟩), .bool true]) (by simp [results, Tryz.results141, go_sem, ValV.enc, val0, k0, k1, k2]) rfl ⟨by rw [hT.out], by rw [hT.out]; exact H7.out, B7.out⟩
   | false =>
    have hT := hid (show takeV r = ((val0, false), (intR (byteR r).2).2) by unfold takeV; rw [hP.out, if_neg (fun h => by have := h.2; rw [hm] at this; cases this)])
    clear hm
    go_wp2
    obtain ⟨hr7, s7⟩ := set3 hr6.out (.int .i64 0) (.int .i64 0) (.string ⟨#[]⟩)
    have H7 := hid (s7.at H6.out (by omega))
    have B7 := hid (B6.out.trans' s7 (F := fun k => k = rb) (fun i hi he => by omega))
    clear s7 x0 x1 x2 y0 y1 y2 z0 z1 z2
    generalize ((w6.setCell ⟨w.heap.size, 0, none⟩ (.int .i64 0)).setCell ⟨w.heap.size, 1, none⟩ (.int .i64 0)).setCell ⟨w.heap.size, 2, none⟩ (.string ⟨#[]⟩) = w7 at hr7 H7 B7 ⊢
    have k0 := cell_of hr7 0
    have k1 := cell_of hr7 1
    have k2 := cell_of hr7 2
    exact bodyPost_ret (v := .tuple #[val0.enc, .bool false]) (by simp [results, Tryz.results141, go_sem, ValV.enc, val0, k0, k1, k2]) rfl ⟨by rw [hT.out], by rw [hT.out]; exact H7.out, B7.out⟩
  ·
   have g' : (((intR (byteR r).2).2).e != 0) = true := by simpa using g
   have hT := hid (show takeV r = ((val0, false), (intR (byteR r).2).2) by unfold takeV; rw [hP.out, if_neg (fun h => g h.1)])
   clear g
   go_wp2
   obtain ⟨hr7, s7⟩ := set3 hr5.out (.int .i64 0) (.int .i64 0) (.string ⟨#[]⟩)
   have H7 := hid (s7.at H5.out (by omega))
   have B7 := hid (B5.out.trans' s7 (F := fun k => k = rb) (fun i hi he => by omega))
   clear s7 x0 x1 x2 y0 y1 y2 z0 z1 z2
   generalize ((w5.setCell ⟨w.heap.size, 0, none⟩ (.int .i64 0)).setCell ⟨w.heap.size, 1, none⟩ (.int .i64 0)).setCell ⟨w.heap.size, 2, none⟩ (.string ⟨#[]⟩) = w7 at hr7 H7 B7 ⊢
   have k0 := cell_of hr7 0
   have k1 := cell_of hr7 1
   have k2 := cell_of hr7 2
   exact bodyPost_ret (v := .tuple #[val0.enc, .bool false]) (by simp [results, Tryz.results141, go_sem, ValV.enc, val0, k0, k1, k2]) rfl ⟨by rw [hT.out], by rw [hT.out]; exact H7.out, B7.out⟩
end Go.Proofs.YthikijlbclckdaaGreat
namespace Go.Proofs.YthikijlbclckdaaGreat
set_option maxRecDepth 100000
set_option maxHeartbeats 40000000
set_option linter.unusedSimpArgs false
set_option linter.unusedVariables false
open Go.RowKit
def varC (x : VarV) : List Value := [.string x.name, .int .i64 x.v.k, .int .i64 x.v.n, .string x.v.s]
def varsC (l : List VarV) : List Value := l.flatMap varC
theorem varsC_snoc (l : List VarV) (x : VarV) : varsC (l ++ [x]) = varsC l ++ varC x := by simp [varsC]
theorem varsC_at (l : List VarV) : ∀ (i : Nat) (x : VarV), l[i]? = some x → (varsC l)[i * 4]? = some (.string x.name) ∧ (varsC l)[i * 4 + 1]? = some (.int .i64 x.v.k) ∧ (varsC l)[i * 4 + 2]? = some (.int .i64 x.v.n) ∧ (varsC l)[i * 4 + 3]? = some (.string x.v.s) := by
 induction l with
 | nil => intro i x h; simp at h
 | cons y l ih =>
  intro i x h
  cases i with
  | zero => simp at h; subst h; simp [varsC, varC]
  | succ i =>
   have h1 := ih i x (by simpa using h)
   have e : varsC (y :: l) = varC y ++ varsC l := by simp [varsC]
   have k : ∀ j, (varC y ++ varsC l)[(i + 1) * 4 + j]? = (varsC l)[i * 4 + j]? := by
    intro j
    rw [List.getElem?_append_right (by simp [varC]; omega)]
    congr 1
    simp [varC]; omega
   rw [e]
   exact ⟨(k 0).trans h1.1, (k 1).trans h1.2.1, (k 2).trans h1.2.2.1, (k 3).trans h1.2.2.2⟩
def VarsOwn (w : World) (base : Nat) (v : Value) (l : List VarV) : Prop := w.ownsRow base 177 4 v l.length (varsC l)
theorem VarsOwn.vars {w : World} {base : Nat} {v : Value} {l : List VarV} (h : VarsOwn w base v l) (hl : l.length ≤ 140737488355328) : VarsAt w v l := by
 rcases h.2 with ⟨rfl, h0⟩ | ⟨g, cap, cur, rfl, hbg, hg, hnc, hcm, hcur, htake⟩
 ·
  have e := List.eq_nil_of_length_eq_zero h0
  subst e
  exact ⟨none, 0, rfl, Nat.le_refl _, hl, fun i x hx => by simp at hx⟩
 ·
  refine ⟨some ⟨g, 0, none⟩, cap, rfl, hnc, hl, fun i x hx => ⟨g, 0, rfl, ?_⟩⟩
  have k : ∀ (j : Nat) (u : Value), (varsC l)[j]? = some u → w.cell? ⟨g, 0 + j, none⟩ = some u := by
   intro j u hu
   rw [Nat.zero_add, cell_of hg j]
   rw [← htake, List.getElem?_take] at hu
   split at hu
   ·
    simpa using hu
   ·
    cases hu
  obtain ⟨a0, a1, a2, a3⟩ := varsC_at l i x hx
  have a0 := k _ _ a0
  have a1 := k _ _ a1
  have a2 := k _ _ a2
  have a3 := k _ _ a3
  simp only [← Nat.add_assoc] at a1 a2 a3
  exact ⟨a0, a1, a2, a3⟩
def varsL : Nat → RdV → List VarV → Option (List VarV) × RdV
 | 0, r, l => (some l, r)
 | n + 1, r, l => if (takeV (textR 32 r).2).1.2 = true then varsL n (takeV (textR 32 r).2).2 (l ++ [⟨(textR 32 r).1, (takeV (textR 32 r).2).1.1⟩]) else (none, (takeV (textR 32 r).2).2)
def takeVars (r : RdV) : Option (List VarV) × RdV :=
 if 16 < (uintR r).1 then (none, (uintR r).2)
 else match varsL (uintR r).1 (uintR r).2 [] with
  | (some l, r') => if r'.e = 0 ∧ rightV l = true then (some l, r') else (none, r')
  | (none, r') => (none, r')
theorem takeP_size (r : RdV) : (takeP r).2.s.size ≤ r.s.size := by
 have h1 : (byteR r).2.s.size ≤ r.s.size := takeR_size _ _ _
 unfold takeP
 split
 ·
  exact Nat.le_trans (takeR_size _ _ _) h1
 ·
  exact Nat.le_trans (takeR_size _ _ _) h1
theorem takeV_size (r : RdV) : (takeV r).2.s.size ≤ r.s.size := by
 unfold takeV
 split <;> exact takeP_size r
theorem info_var : (Tryz.prog.info? 177).map (fun i => (i.zero, i.size, i.bytes)) = some (some (.agg #[.string ⟨#[]⟩, .int .i64 0, .int .i64 0, .string ⟨#[]⟩]), 4, 48) := by kernel_rfl
theorem own_rb {w w' : World} {rb base e size n : Nat} {v : Value} {vs : List Value} (h : w.ownsRow base e size v n vs) (hb : Rb rb w w') (hr : rb < base) : w'.ownsRow base e size v n vs :=
 own_at h hb (fun k hk he => by have := (h.lt k hk).1; omega)
theorem own_below {w w' : World} {base e size n : Nat} {v : Value} {vs : List Value} (h : w.ownsRow base e size v n vs) (hb : Below w.heap.size w w') : w'.ownsRow base e size v n vs :=
 own_at (F := fun _ => False) h (But.of hb) (fun _ _ => id)
theorem textR_size (most : Int) (hm : 0 ≤ most) (r : RdV) : ((textR most r).1.size : Int) ≤ most := by
 have hf : ((textF most r.s).1.size : Int) ≤ most := by
  unfold textF
  split
  ·
   exact hm
  ·
   split
   ·
    exact hm
   ·
    split
    ·
     exact hm
    ·
     show ((r.s.extract (numS r.s).2.1 ((numS r.s).2.1 + (numS r.s).1)).size : Int) ≤ most
     rw [extract_size]; omega
 unfold textR takeR
 split
 ·
  split
  ·
   exact hf
  ·
   exact hm
 ·
  exact hm
theorem takeV_ok (r : RdV) (h : (takeV r).1.2 = true) : (takeV r).2.e = 0 ∧ mayV (takeV r).1.1 = true ∧ VOk (takeV r).1.1 := by
 unfold takeV at h ⊢
 by_cases hc : (takeP r).2.e = 0 ∧ mayV (takeP r).1 = true
 ·
  rw [if_pos hc]
  refine ⟨hc.1, hc.2, ?_⟩
  show VOk (takeP r).1
  have hb := byteR_lt r
  unfold takeP
  split
  ·
   have := textR_size 1024 (by omega) (byteR r).2
   exact ⟨by show (-9223372036854775808 : Int) ≤ 0; omega, by show (0 : Int) ≤ 9223372036854775807; omega, by show (textR 1024 (byteR r).2).1.size ≤ 2097152; omega⟩
  ·
   have := sgn_in (uintR_lt (byteR r).2)
   exact ⟨this.1, this.2, by show (0 : Nat) ≤ 2097152; omega⟩
 ·
  rw [if_neg hc] at h; cases h
theorem varsL_ok : ∀ (n : Nat) (r : RdV) (l : List VarV) (l' : List VarV) (r' : RdV), (∀ x ∈ l, VarOk x) → varsL n r l = (some l', r') → (∀ x ∈ l', VarOk x) ∧ (r.e = 0 → r'.e = 0) ∧ l'.length = l.length + n
 | 0, r, l, l', r', hl, h => by
  simp only [varsL, Prod.mk.injEq, Option.some.injEq] at h
  obtain ⟨rfl, rfl⟩ := h
  exact ⟨hl, id, rfl⟩
 | n + 1, r, l, l', r', hl, h => by
  simp only [varsL] at h
  split at h
  ·
   rename_i hok
   obtain ⟨h1, h2, h3⟩ := takeV_ok _ hok
   have hn := textR_size 32 (by omega) r
   obtain ⟨g1, g2, g3⟩ := varsL_ok n _ _ l' r' (by
    intro x hx
    rcases List.mem_append.1 hx with hx | hx
    ·
     exact hl x hx
    ·
     rw [List.mem_singleton] at hx
     subst hx
     exact ⟨by show (textR 32 r).1.size ≤ 2097152; omega, h3⟩) h
   exact ⟨g1, fun _ => g2 h1, by rw [g3]; simp; omega⟩
  ·
   cases h
theorem takeVars_any (rb : Nat) (r : RdV) (w : World) (h : IsR 168 w rb r) (hs : r.s.size ≤ 140737488355328) :
  Calls Tryz.prog 132 #[.pointer (some ⟨rb, 0, none⟩)] w fun e' w' => ∃ v, e' = .returned (.tuple #[v, .bool (takeVars r).1.isSome]) ∧ VarsOwn w' w.heap.size v ((takeVars r).1.getD []) ∧ IsR 168 w' rb (takeVars r).2 ∧ Rb rb w w' := by
 have hrb : rb < w.heap.size := heap_lt h
 have hu := uintR_lt r
 have hT : takeVars r = if 16 < (uintR r).1 then (none, (uintR r).2) else match varsL (uintR r).1 (uintR r).2 [] with
  | (some l, r') => if r'.e = 0 ∧ rightV l = true then (some l, r') else (none, r')
  | (none, r') => (none, r') := rfl
 have hs1 : (uintR r).2.s.size ≤ 140737488355328 := Nat.le_trans (takeR_size _ _ _) hs
 have Hc := rdUint_any rb r w h hs
 revert hT hs1 Hc hu
 generalize uintR r = x
 obtain ⟨n, r1⟩ := x
 intro hu hT hs1 Hc
 dsimp only at hu hT hs1 Hc
 replace Hc := hid Hc
 replace hT := hid hT
 clear h hs
 go_enter Tryz.func132, Tryz.ntmps132
 go_wp2_with fail
 refine Hc.out.mono ?_
 rintro e1 w1 ⟨rfl, h1, b1⟩
 have H1 := hid h1
 have B1 := hid b1
 clear h1 b1 Hc
 by_cases hn : 16 < n
 ·
  have hn' : decide (16 < (n : Int)) = true := by simp; omega
  have e := hid (hT.out.trans (if_pos hn))
  go_wp2
  go_ret2
  exact ⟨.slice none 0 0, by rw [e.out]; rfl, by rw [e.out]; exact ⟨rfl, .inl ⟨rfl, rfl⟩⟩, by rw [e.out]; exact H1.out, B1.out⟩
 have hn' : decide (16 < (n : Int)) = false := by simp; omega
 replace hT := hid (hT.out.trans (if_neg hn))
 go_wp2
 go_loopw [5, 14] (fun vo vi wr => ∃ (i : Nat) (r' : RdV) (l : List VarV), i ≤ n ∧ vi = .int .u64 i ∧ r'.s.size ≤ 140737488355328 ∧
  Hid (l.length = i ∧ wr.ownsRow w.heap.size 177 4 vo i (varsC l) ∧ IsR 168 wr rb r' ∧ Rb rb w wr ∧ varsL (n - i) r' l = varsL n r1 [])) (fun _ vi _ => n - (intOf vi).toNat)
 case atStart => exact ⟨0, r1, [], Nat.zero_le _, rfl, hs1, rfl, ⟨rfl, .inl ⟨rfl, rfl⟩⟩, H1.out, B1.out, rfl⟩
 case round =>
  obtain ⟨i, r', l, hi, rfl, hs', hR⟩ := hrel
  obtain ⟨ao, co, rfl⟩ := own_slice hR.out.2.1
  by_cases hlt : i < n
  ·
   have hlt' : decide (i < n) = true := by simpa using hlt
   have hV := hid (show varsL (n - i) r' l = varsL (n - (i + 1) + 1) r' l by congr 1; omega)
   go_wp2_with fail
   refine (rdText_any rb r' _ hR.out.2.2.1 hs' 32 (by omega) (by omega)).mono ?_
   rintro e1 w2 ⟨rfl, h2, b2⟩
   have H2 := hid h2
   have B2 := hid (hR.out.2.2.2.1.trans b2)
   have O2 := hid (own_rb hR.out.2.1 b2 hrb)
   have hs2 : (textR 32 r').2.s.size ≤ 140737488355328 := Nat.le_trans (takeR_size _ _ _) hs'
   clear h2 b2
   go_wp2_with fail
   refine (takeV_any rb _ w2 H2.out hs2).mono ?_
   rintro e1 w3 ⟨rfl, h3, b3⟩
   have H3 := hid h3
   have B3 := hid (B2.out.trans b3)
   have O3 := hid (own_rb O2.out b3 hrb)
   have hs3 : (takeV (textR 32 r').2).2.s.size ≤ 140737488355328 := Nat.le_trans (takeV_size _) hs2
   clear h3 b3
   have hV2 := hid (hV.out.trans (show varsL (n - (i + 1) + 1) r' l = (if (takeV (textR 32 r').2).1.2 = true then varsL (n - (i + 1)) (takeV (textR 32 r').2).2 (l ++ [⟨(textR 32 r').1, (takeV (textR 32 r').2).1.1⟩]) else (none, (takeV (textR 32 r').2).2)) from rfl))
   clear hV hs2 H2 B2 O2
   revert hV2 H3 hs3
   generalize takeV (textR 32 r').2 = y
   obtain ⟨⟨⟨vk, vn, vs⟩, ok⟩, r3⟩ := y
   generalize (textR 32 r').1 = nm
   intro H3 hs3 hV2
   dsimp only at hV2 H3 hs3 ⊢
   unfold ValV.enc
   dsimp only
   cases ok with
   | false =>
    have hV3 := hid ((hT.out).trans (show _ = (none, r3) by rw [← hR.out.2.2.2.2, hV2.out]; rfl))
    clear hV2
    go_wp2
    go_ret2
    exact ⟨.slice none 0 0, by rw [hV3.out]; rfl, by rw [hV3.out]; exact ⟨rfl, .inl ⟨rfl, rfl⟩⟩, by rw [hV3.out]; exact IsR.grow H3.out ((Below.refl _ _).alloc (Nat.le_refl _) _), B3.out.alloc _⟩
   | true =>
    go_wp2_with (at_builtin; go_loud (refine app1k 101 177 Tryz.underlying101 info_var rfl (by decide) (O3.out.alloc _) (by have := B3.out.size; simp; omega) (by unfold maxLen; omega) (by omega) rfl rfl rfl rfl (by simp) rfl (by simp [Value.oneCell']) ?_); intro v' w5 hown5 hb5 hg5)
    have hob : ∀ k, ownB (.slice ao i co) k → w.heap.size ≤ k := fun k hk => (O3.out.lt k hk).1
    have H5 : IsR 168 w5 rb r3 := (hb5.block rb (by have := heap_lt H3.out; simp; omega) (fun hk => by have := hob rb hk; omega)).trans ((alloc_old _ (heap_lt H3.out)).trans H3.out)
    have B5 : Rb rb w w5 := (B3.out.alloc _).trans' hb5 (fun k hk ho => by have := hob k ho; omega)
    refine ⟨⟨i + 1, r3, l ++ [⟨nm, ⟨vk, vn, vs⟩⟩], by omega, by go_num, hs3, ?_⟩, by simp [intOf]; omega⟩
    refine ⟨by simp [hR.out.1], by rw [varsC_snoc]; exact hown5, H5, B5, ?_⟩
    rw [← hR.out.2.2.2.2, hV2.out, if_pos rfl]
  ·
   have hin : i = n := by omega
   subst hin
   have hfi : decide (i < i) = false := by simp
   have hV := hid (show takeVars r = if r'.e = 0 ∧ rightV l = true then (some l, r') else (none, r') by
    rw [hT.out, ← hR.out.2.2.2.2, Nat.sub_self]; rfl)
   go_wp2_with fail
   refine (rdErr_any rb r' _ hR.out.2.2.1).mono ?_
   rintro e1 w2 ⟨rfl, rfl⟩
   have hv := VarsOwn.vars (l := l) (by unfold VarsOwn; rw [hR.out.1]; exact hR.out.2.1) (by rw [hR.out.1]; omega)
   have Hv := hid hv
   clear hv
   by_cases g : r'.e = 0
   ·
    have g' : (r'.e != 0) = false := by simpa using g
    have G := hid g
    clear g
    go_wp2_with fail
    refine (right_any _ l _ Hv.out).mono ?_
    rintro e1 w3 ⟨rfl, b3⟩
    replace b3 := hid b3
    cases hr : rightV l with
    | true =>
     replace hV := hid (hV.out.trans (if_pos ⟨G.out, hr⟩))
     clear hr
     go_wp2
     go_ret2
     exact ⟨_, by rw [hV.out]; rfl, by rw [hV.out]; show VarsOwn _ _ _ l; unfold VarsOwn; rw [hR.out.1]; exact own_below hR.out.2.1 b3.out, by rw [hV.out]; exact IsR.grow hR.out.2.2.1 b3.out, hR.out.2.2.2.1.trans (But.of b3.out)⟩
    | false =>
     replace hV := hid (hV.out.trans (if_neg (fun h => by have := h.2; rw [hr] at this; cases this)))
     clear hr
     go_wp2
     go_ret2
     exact ⟨.slice none 0 0, by rw [hV.out]; rfl, by rw [hV.out]; exact ⟨rfl, .inl ⟨rfl, rfl⟩⟩, by rw [hV.out]; exact IsR.grow hR.out.2.2.1 b3.out, hR.out.2.2.2.1.trans (But.of b3.out)⟩
   ·
    have g' : (r'.e != 0) = true := by simpa using g
    replace hV := hid (hV.out.trans (if_neg (fun h => g h.1)))
    clear g
    go_wp2
    go_ret2
    exact ⟨.slice none 0 0, by rw [hV.out]; rfl, by rw [hV.out]; exact ⟨rfl, .inl ⟨rfl, rfl⟩⟩, by rw [hV.out]; exact hR.out.2.2.1, hR.out.2.2.2.1⟩
end Go.Proofs.YthikijlbclckdaaGreat
namespace Go.Proofs.YthikijlbclckdaaGreat
set_option maxRecDepth 100000
set_option maxHeartbeats 40000000
set_option linter.unusedSimpArgs false
set_option linter.unusedVariables false
open Go.RowKit
end Go.Proofs.YthikijlbclckdaaGreat
namespace Go.Proofs.YthikijlbclckdaaGreat
set_option maxRecDepth 100000
set_option maxHeartbeats 40000000
set_option linter.unusedSimpArgs false
set_option linter.unusedVariables false
open Go.RowKit
def TyF (base : Nat) (ts : List TypeId) (w : World) : Nat → Prop := fun b => ∃ cs t fr, w.heap[b]? = some (.cells cs t fr) ∧ t ∈ ts ∧ base ≤ b
abbrev TyBut (base : Nat) (ts : List TypeId) (w w' : World) : Prop := But (TyF base ts w) w w'
theorem TyBut.refl (base : Nat) (ts : List TypeId) (w : World) : TyBut base ts w w := But.refl _ w
theorem TyBut.trans {base : Nat} {ts : List TypeId} {a b c : World} (h : TyBut base ts a b) (k : TyBut base ts b c) : TyBut base ts a c :=
 h.trans' k (fun i hi hf => Classical.byContradiction fun hn => hn (by
  obtain ⟨cs, t, fr, h1, h2⟩ := hf
  exact ⟨cs, t, fr, by rw [← h.block i hi hn]; exact h1, h2⟩))
theorem TyBut.of {base : Nat} {ts : List TypeId} {w w' : World} (h : Below w.heap.size w w') : TyBut base ts w w' := But.of h
theorem TyBut.weak {base : Nat} {ts us : List TypeId} {w w' : World} (h : TyBut base ts w w') (hs : ∀ t ∈ ts, t ∈ us) : TyBut base us w w' :=
 h.mono (fun i _ ⟨cs, t, fr, h1, h2, h3⟩ => ⟨cs, t, fr, h1, hs t h2, h3⟩)
theorem TyBut.set {base : Nat} {ts : List TypeId} {w : World} {b : Nat} {cs : Array Value} {t : TypeId} {fr : Nat × Nat} (h : w.heap[b]? = some (.cells cs t fr)) (ht : t ∈ ts) (hb : base ≤ b) (i : Nat) (v : Value) : TyBut base ts w (w.setCell ⟨b, i, none⟩ v) :=
 But.setCell (F := TyF base ts w) (But.refl _ w) (p := ⟨b, i, none⟩) (fun _ => ⟨cs, t, fr, h, ht, hb⟩) v
theorem TyBut.rb {base : Nat} {ts : List TypeId} {w w' : World} {rb : Nat} {cs : Array Value} {t : TypeId} {fr : Nat × Nat} (h : w.heap[rb]? = some (.cells cs t fr)) (ht : t ∈ ts) (hbr : base ≤ rb) (hb : Rb rb w w') : TyBut base ts w w' :=
 hb.mono (fun i _ hi => by subst hi; exact ⟨cs, t, fr, h, ht, hbr⟩)
theorem TyBut.below {base : Nat} {ts : List TypeId} {w w' : World} (h : TyBut base ts w w') (hb : base ≤ w.heap.size) : Below base w w' :=
 ⟨h.os, h.tape, h.output, h.size, fun b hlt => h.block b (by omega) (fun ⟨_, _, _, _, _, h⟩ => by omega)⟩
theorem TyBut.at {base : Nat} {ts : List TypeId} {w w' : World} (h : TyBut base ts w w') {b : Nat} {cs : Array Value} {t : TypeId} {fr : Nat × Nat} (hb : w.heap[b]? = some (.cells cs t fr)) (ht : t ∉ ts) : w'.heap[b]? = some (.cells cs t fr) :=
 (h.block b (heap_lt hb) (fun ⟨cs2, t2, fr2, h1, h2, _⟩ => by rw [hb] at h1; cases h1; exact ht h2)).trans hb
theorem TyBut.atMap {base : Nat} {ts : List TypeId} {w w' : World} (h : TyBut base ts w w') {b : Nat} {o : Obj} (hb : w.heap[b]? = some o) (ho : ∀ cs t fr, o ≠ .cells cs t fr) : w'.heap[b]? = some o :=
 (h.block b (heap_lt hb) (fun ⟨cs2, t2, fr2, h1, h2, _⟩ => by rw [hb] at h1; cases h1; exact ho _ _ _ rfl)).trans hb
def CellsKept (ts : List TypeId) (w w' : World) : Prop := ∀ (b : Nat) (cs : Array Value) (t : TypeId) (fr : Nat × Nat), t ∉ ts → w.heap[b]? = some (.cells cs t fr) → w'.heap[b]? = some (.cells cs t fr)
theorem TyBut.kept {base : Nat} {ts : List TypeId} {w w' : World} (h : TyBut base ts w w') : CellsKept ts w w' := fun _ _ _ _ ht hb => h.at hb ht
theorem CellsKept.own' {ts : List TypeId} {w w' : World} {base e size n : Nat} {v : Value} {vs : List Value} (hb : CellsKept ts w w') (h : w.ownsRow base e size v n vs) (ht : e ∉ ts) : w'.ownsRow base e size v n vs := by
 refine ⟨h.1, ?_⟩
 rcases h.2 with hn | ⟨g, cap, cur, rfl, hbg, hg, r⟩
 ·
  exact .inl hn
 ·
  exact .inr ⟨g, cap, cur, rfl, hbg, hb _ _ _ _ ht hg, r⟩
def LOwn {α : Type} (R : World → Nat → List Value → α → Prop) (e : TypeId) (size : Nat) (w : World) (base : Nat) (v : Value) (l : List α) : Prop :=
 ∃ css : List (List Value), css.length = l.length ∧ (∀ cs ∈ css, cs.length = size ∧ ∀ u ∈ cs, u.oneCell' = true) ∧ (∀ (i : Nat) cs x, css[i]? = some cs → l[i]? = some x → R w base cs x) ∧ w.ownsRow base e size v l.length css.flatten
def RSt {α : Type} (R : World → Nat → List Value → α → Prop) : Prop := ∀ ts w w' base cs x, 177 ∉ ts → 22 ∉ ts → R w base cs x → CellsKept ts w w' → R w' base cs x
theorem LOwn.kept {α : Type} {R : World → Nat → List Value → α → Prop} {e : TypeId} {size : Nat} {ts : List TypeId} {w w' : World} {base : Nat} {v : Value} {l : List α} (hR : RSt R) (h : LOwn R e size w base v l) (hb : CellsKept ts w w') (h1 : 177 ∉ ts) (h2 : 22 ∉ ts) (h3 : e ∉ ts) : LOwn R e size w' base v l := by
 obtain ⟨css, a1, a2, a3, a4⟩ := h
 exact ⟨css, a1, a2, fun i cs x hc hx => hR _ _ _ _ _ _ h1 h2 (a3 i cs x hc hx) hb, hb.own' a4 h3⟩
theorem LOwn.keep {α : Type} {R : World → Nat → List Value → α → Prop} {e : TypeId} {size : Nat} {b0 : Nat} {ts : List TypeId} {w w' : World} {base : Nat} {v : Value} {l : List α} (hR : RSt R) (h : LOwn R e size w base v l) (hb : TyBut b0 ts w w') (h1 : 177 ∉ ts) (h2 : 22 ∉ ts) (h3 : e ∉ ts) : LOwn R e size w' base v l :=
 h.kept hR hb.kept h1 h2 h3
theorem LOwn.nil {α : Type} (R : World → Nat → List Value → α → Prop) (e : TypeId) (size : Nat) (w : World) (base : Nat) : LOwn R e size w base (.slice none 0 0) [] :=
 ⟨[], rfl, fun cs h => by simp at h, fun i cs x h => by simp at h, ⟨by simp, .inl ⟨rfl, rfl⟩⟩⟩
theorem LOwn.snoc {α : Type} {R : World → Nat → List Value → α → Prop} {e : TypeId} {size : Nat} {w' : World} {base : Nat} {v' : Value} {l : List α} {css : List (List Value)} {cs : List Value} {x : α}
  (a1 : css.length = l.length) (a2 : ∀ cs ∈ css, cs.length = size ∧ ∀ u ∈ cs, u.oneCell' = true) (a3 : ∀ (i : Nat) cs x, css[i]? = some cs → l[i]? = some x → R w' base cs x)
  (hcs : cs.length = size ∧ ∀ u ∈ cs, u.oneCell' = true) (hx : R w' base cs x) (ho : w'.ownsRow base e size v' (l.length + 1) (css.flatten ++ cs)) : LOwn R e size w' base v' (l ++ [x]) := by
 refine ⟨css ++ [cs], by simp [a1], ?_, ?_, by simpa using ho⟩
 ·
  intro c hc
  rcases List.mem_append.1 hc with h | h
  ·
   exact a2 c h
  ·
   rw [List.mem_singleton] at h; subst h; exact hcs
 ·
  intro i c y hc hy
  rcases Nat.lt_or_ge i l.length with h | h
  ·
   rw [List.getElem?_append_left (by omega)] at hc hy
   exact a3 i c y hc hy
  ·
   rw [List.getElem?_append_right (by omega)] at hc hy
   have : i - l.length = 0 := by
    have := (List.getElem?_eq_some_iff.1 hy).1
    simp at this; omega
   rw [this] at hy
   rw [a1, this] at hc
   simp at hc hy
   subst hc hy
   exact hx
def DepV.ow (_ : World) (_ : Nat) (cs : List Value) (x : DepV) : Prop := cs = [.string x.id, .string x.bytes]
def InstV.ow (w : World) (base : Nat) (cs : List Value) (x : InstV) : Prop := ∃ v, cs = [U x.key, .string x.id, v] ∧ VarsOwn w base v x.vars
def TokV.ow (_ : World) (_ : Nat) (cs : List Value) (x : TokV) : Prop := cs = [U x.key, U x.inst, U x.scope, I x.node, I x.by_, .string x.stuck]
def JobV.ow (_ : World) (_ : Nat) (cs : List Value) (x : JobV) : Prop := cs = [U x.key, U x.token, .string x.type, I x.retries, .string x.worker, I x.till]
def TimV.ow (_ : World) (_ : Nat) (cs : List Value) (x : TimV) : Prop := cs = [U x.token, I x.node, I x.when_]
def SubV.ow (_ : World) (_ : Nat) (cs : List Value) (x : SubV) : Prop := cs = [U x.token, U x.inst, I x.node, .string x.name, .string x.key, .bool x.is]
def KeptV.ow (_ : World) (_ : Nat) (cs : List Value) (x : KeptV) : Prop := cs = [U x.token, U x.msg, I x.node]
def LisV.ow (w : World) (base : Nat) (cs : List Value) (x : LisV) : Prop := ∃ v, cs = [U x.token, U x.inst, I x.node, .string x.name, .string x.key, U x.msg, v] ∧ VarsOwn w base v x.vars
def NatsOwn (w : World) (base : Nat) (v : Value) (l : List Nat) : Prop := w.ownsRow base 22 1 v l.length (natsV l)
def MsgV.ow (w : World) (base : Nat) (cs : List Value) (x : MsgV) : Prop := ∃ v u, cs = [U x.key, .string x.name, .string x.for_, .string x.id, I x.till, v, u] ∧ VarsOwn w base v x.vars ∧ NatsOwn w base u x.insts
theorem DepV.ost : RSt DepV.ow := fun _ _ _ _ _ _ _ _ h _ => h
theorem TokV.ost : RSt TokV.ow := fun _ _ _ _ _ _ _ _ h _ => h
theorem JobV.ost : RSt JobV.ow := fun _ _ _ _ _ _ _ _ h _ => h
theorem TimV.ost : RSt TimV.ow := fun _ _ _ _ _ _ _ _ h _ => h
theorem SubV.ost : RSt SubV.ow := fun _ _ _ _ _ _ _ _ h _ => h
theorem KeptV.ost : RSt KeptV.ow := fun _ _ _ _ _ _ _ _ h _ => h
theorem InstV.ost : RSt InstV.ow := fun _ _ _ _ _ _ h1 _ h hb => by obtain ⟨v, a, b⟩ := h; exact ⟨v, a, hb.own' b h1⟩
theorem LisV.ost : RSt LisV.ow := fun _ _ _ _ _ _ h1 _ h hb => by obtain ⟨v, a, b⟩ := h; exact ⟨v, a, hb.own' b h1⟩
theorem MsgV.ost : RSt MsgV.ow := fun _ _ _ _ _ _ h1 h2 h hb => by obtain ⟨v, u, a, b, c⟩ := h; exact ⟨v, u, a, hb.own' b h1, hb.own' c h2⟩
structure ListsOwn (w : World) (base : Nat) (s : StateV) (vp vi vt vj vr vs vk vl vm : Value) : Prop where
 procs : LOwn DepV.ow 95 2 w base vp s.procs
 insts : LOwn InstV.ow 103 3 w base vi s.insts
 tokens : LOwn TokV.ow 105 6 w base vt s.tokens
 jobs : LOwn JobV.ow 107 6 w base vj s.jobs
 timers : LOwn TimV.ow 109 3 w base vr s.timers
 subs : LOwn SubV.ow 111 6 w base vs s.subs
 kept : LOwn KeptV.ow 113 3 w base vk s.kept
 listed : LOwn LisV.ow 115 7 w base vl s.listed
 msgs : LOwn MsgV.ow 118 7 w base vm s.msgs
def listTs : List TypeId := [95, 103, 105, 107, 109, 111, 113, 115, 118]
theorem ListsOwn.keepC {ts : List TypeId} {w w' : World} {base : Nat} {s : StateV} {vp vi vt vj vr vs vk vl vm : Value} (h : ListsOwn w base s vp vi vt vj vr vs vk vl vm) (hb : CellsKept ts w w') (h1 : 177 ∉ ts) (h2 : 22 ∉ ts) (h3 : ∀ e ∈ listTs, e ∉ ts) : ListsOwn w' base s vp vi vt vj vr vs vk vl vm :=
 ⟨h.procs.kept DepV.ost hb h1 h2 (h3 _ (by simp [listTs])), h.insts.kept InstV.ost hb h1 h2 (h3 _ (by simp [listTs])), h.tokens.kept TokV.ost hb h1 h2 (h3 _ (by simp [listTs])), h.jobs.kept JobV.ost hb h1 h2 (h3 _ (by simp [listTs])), h.timers.kept TimV.ost hb h1 h2 (h3 _ (by simp [listTs])), h.subs.kept SubV.ost hb h1 h2 (h3 _ (by simp [listTs])), h.kept.kept KeptV.ost hb h1 h2 (h3 _ (by simp [listTs])), h.listed.kept LisV.ost hb h1 h2 (h3 _ (by simp [listTs])), h.msgs.kept MsgV.ost hb h1 h2 (h3 _ (by simp [listTs]))⟩
theorem ListsOwn.keep {b0 : Nat} {ts : List TypeId} {w w' : World} {base : Nat} {s : StateV} {vp vi vt vj vr vs vk vl vm : Value} (h : ListsOwn w base s vp vi vt vj vr vs vk vl vm) (hb : TyBut b0 ts w w') (h1 : 177 ∉ ts) (h2 : 22 ∉ ts) (h3 : ∀ e ∈ listTs, e ∉ ts) : ListsOwn w' base s vp vi vt vj vr vs vk vl vm :=
 h.keepC hb.kept h1 h2 h3
theorem flat_at {size : Nat} : ∀ (css : List (List Value)), (∀ cs ∈ css, cs.length = size) → ∀ (i : Nat) (cs : List Value), css[i]? = some cs → ∀ (j : Nat) (u : Value), cs[j]? = some u → css.flatten[i * size + j]? = some u
 | [], _, i, cs, h => by simp at h
 | c :: css, hs, i, cs, h => by
  intro j u hu
  have hj : j < cs.length := (List.getElem?_eq_some_iff.1 hu).1
  cases i with
  | zero =>
   simp at h; subst h
   simp only [List.flatten_cons, Nat.zero_mul, Nat.zero_add]
   rw [List.getElem?_append_left hj]; exact hu
  | succ i =>
   have hc := hs c List.mem_cons_self
   have h1 := flat_at css (fun d hd => hs d (List.mem_cons_of_mem _ hd)) i cs (by simpa using h) j u hu
   simp only [List.flatten_cons]
   rw [List.getElem?_append_right (by rw [hc, Nat.add_mul]; omega), hc]
   rw [show (i + 1) * size + j - size = i * size + j by rw [Nat.add_mul]; omega]
   exact h1
theorem LOwn.list {α : Type} {R : World → Nat → List Value → α → Prop} {R' : World → List Value → α → Prop} {e : TypeId} {size : Nat} {w : World} {base : Nat} {v : Value} {l : List α} (hR : ∀ cs x, x ∈ l → R w base cs x → R' w cs x) (h : LOwn R e size w base v l) : ListAt R' size w v l := by
 obtain ⟨css, a1, a2, a3, a4⟩ := h
 rcases a4.2 with ⟨rfl, h0⟩ | ⟨g, cap, cur, rfl, hbg, hg, hnc, hcm, hcur, htake⟩
 ·
  have e := List.eq_nil_of_length_eq_zero h0
  subst e
  exact ⟨none, 0, rfl, Nat.le_refl _, by simp [maxLen], fun i x hx => by simp at hx⟩
 ·
  refine ⟨some ⟨g, 0, none⟩, cap, rfl, hnc, by omega, fun i x hx => ?_⟩
  have hi : i < l.length := (List.getElem?_eq_some_iff.1 hx).1
  have hc : css[i]? = some css[i] := List.getElem?_eq_getElem _
  refine ⟨g, 0, css[i], rfl, (a2 _ (List.getElem_mem _)).1, hR _ _ (List.mem_of_getElem? hx) (a3 i _ x hc hx), fun j u hu => ?_⟩
  have hf := flat_at css (fun c h => (a2 c h).1) i _ hc j u hu
  rw [Nat.zero_add, cell_of hg]
  rw [← htake, List.getElem?_take] at hf
  split at hf
  ·
   simpa using hf
  ·
   cases hf
theorem NatsOwn.slr {w : World} {base : Nat} {v : Value} {l : List Nat} (h : NatsOwn w base v l) : SlR w v (natsV l) := SlR.of_own h
theorem ListsOwn.at {w : World} {base : Nat} {s : StateV} {vp vi vt vj vr vs vk vl vm : Value} (h : ListsOwn w base s vp vi vt vj vr vs vk vl vm) (hv : ∀ x ∈ s.insts, x.vars.length ≤ 16) (hv2 : ∀ x ∈ s.listed, x.vars.length ≤ 16) (hv3 : ∀ x ∈ s.msgs, x.vars.length ≤ 16) :
  StateAt w [U s.pos, U s.done, U s.made, vp, vi, vt, vj, vr, vs, vk, vl, vm] s vp vi vt vj vr vs vk vl vm := by
 have big : ∀ {n : Nat}, n ≤ 16 → n ≤ 140737488355328 := fun h => by omega
 exact ⟨rfl, h.procs.list (fun _ _ _ h => h), h.insts.list (fun _ x hx h => by obtain ⟨v, a, b⟩ := h; exact ⟨v, a, b.vars (big (hv x hx))⟩), h.tokens.list (fun _ _ _ h => h), h.jobs.list (fun _ _ _ h => h), h.timers.list (fun _ _ _ h => h), h.subs.list (fun _ _ _ h => h), h.kept.list (fun _ _ _ h => h),
  h.listed.list (fun _ x hx h => by obtain ⟨v, a, b⟩ := h; exact ⟨v, a, b.vars (big (hv2 x hx))⟩), h.msgs.list (fun _ x hx h => by obtain ⟨v, u, a, b, c⟩ := h; exact ⟨v, u, a, b.vars (big (hv3 x hx)), c.slr⟩)⟩
end Go.Proofs.YthikijlbclckdaaGreat
namespace Go.Proofs.YthikijlbclckdaaGreat
set_option maxRecDepth 100000
set_option maxHeartbeats 40000000
set_option linter.unusedSimpArgs false
set_option linter.unusedVariables false
open Go.RowKit
def TakAt (w : World) (xb sb rb : Nat) (k : Nat) (node : Int) (id : ByteArray) (odd : Bool) : Prop :=
 w.heap[xb]? = some (.cells #[.pointer (some ⟨sb, 0, none⟩), .int .u64 k, .int .i64 node, .string id, .pointer (some ⟨rb, 0, none⟩), .bool odd] 81 (0, 0))
def StB (w : World) (base sb : Nat) (s : StateV) : Prop :=
 ∃ vp vi vt vj vr vs vk vl vm, w.heap[sb]? = some (.cells #[U s.pos, U s.done, U s.made, vp, vi, vt, vj, vr, vs, vk, vl, vm] 33 (0, 0)) ∧ ListsOwn w base s vp vi vt vj vr vs vk vl vm
def letTs : List TypeId := 33 :: 168 :: 81 :: listTs
theorem ty_ne {w : World} {a b : Nat} {cs ds : Array Value} {s t : TypeId} {fr fs : Nat × Nat} (h : w.heap[a]? = some (.cells cs s fr)) (k : w.heap[b]? = some (.cells ds t fs)) (hn : s ≠ t) : a ≠ b := by
 rintro rfl
 rw [h] at k
 cases k
 exact hn rfl
theorem own_ne {w : World} {base e size n b : Nat} {v : Value} {vs : List Value} {cs : Array Value} {t : TypeId} {fr : Nat × Nat} (h : w.ownsRow base e size v n vs) (k : w.heap[b]? = some (.cells cs t fr)) (hn : e ≠ t) : ¬ ownB v b := by
 rcases h.2 with ⟨rfl, -⟩ | ⟨g, cap, cur, rfl, -, hg, -⟩
 ·
  intro h; cases h
 ·
  intro hb
  simp only [ownB, Value.ownBlock, Option.some.injEq] at hb
  exact ty_ne hg k hn hb
theorem own_ty {w : World} {base e size n i : Nat} {v : Value} {vs : List Value} {ts : List TypeId} (h : w.ownsRow base e size v n vs) (ht : e ∈ ts) (hi : ownB v i) : TyF base ts w i := by
 rcases h.2 with ⟨rfl, -⟩ | ⟨g, cap, cur, rfl, hbg, hg, -⟩
 ·
  cases hi
 ·
  simp only [ownB, Value.ownBlock, Option.some.injEq] at hi
  subst hi
  exact ⟨_, _, _, hg, ht, hbg⟩
theorem own_lt {w : World} {base e size n : Nat} {v : Value} {vs : List Value} (h : w.ownsRow base e size v n vs) : ∀ b, ownB v b → b < w.heap.size := fun b hb => (h.lt b hb).2
end Go.Proofs.YthikijlbclckdaaGreat
