/- Values' bytes. -/
import Derived.Test.YthikijlbclckdaaGreatKd
import Derived.Deep.RegionWith
namespace Go.Proofs.YthikijlbclckdaaGreat
set_option linter.unusedSimpArgs false
set_option linter.unusedVariables false
open Go.RowKit

def kS (k : Int) : ByteArray := ⟨#[(k % 256).toNat.toUInt8]⟩
/-- A value's bytes. -/
def valS (v : ValV) : ByteArray := if mayV v then (if v.k = 3 then kS 3 ++ txS v.s else kS v.k ++ inS v.n) else ⟨#[]⟩
structure VOk (v : ValV) : Prop where
  n0 : -9223372036854775808 ≤ v.n
  n1 : v.n ≤ 9223372036854775807
  s : v.s.size ≤ 2097152
theorem kS_size (k : Int) : (kS k).size = 1 := rfl
theorem txS_size {s : ByteArray} (hs : s.size ≤ 2097152) : (txS s).size ≤ s.size + 10 := by
  unfold txS
  rw [ByteArray.size_append]
  have := uvS_size s.size
  have := Lib.uvarint_length64 (show s.size < 18446744073709551616 by omega)
  omega
theorem inS_size {n : Int} (h0 : -9223372036854775808 ≤ n) (h1 : n ≤ 9223372036854775807) : (inS n).size ≤ 10 := by
  have h1 := uvS_size (zig n)
  have h2 := Lib.uvarint_length64 (zig_lt n h0 (by assumption))
  show (uvS (zig n)).size ≤ 10
  omega
theorem one_at (W : World) (g n : Nat) (z : Int) (c : ByteArray) (hn : n < 256) (hz : z = n) (hc : c = ⟨#[n.toUInt8]⟩) (hg : W.cell? ⟨g, 0, none⟩ = some (.int .u8 z)) :
    (convert 184 9 (.slice (some ⟨g, 0, none⟩) 1 1)).run Tryz.prog W = .ok (.string c) W := by
  have h : n.toUInt8.toNat = n := by simp [Nat.toUInt8, UInt8.toNat_ofNat']; omega
  subst hz hc
  refine run_convert_bytes_back _ _ _ 5 ⟨g, 0, none⟩ 1 [n.toUInt8] Tryz.underlying184 Tryz.underlying5 Tryz.underlying9 ?_
  intro j hj
  have : j = 0 := by simp at hj; exact hj
  subst this
  simpa [h, Addr.add] using hg
set_option maxRecDepth 100000 in
set_option maxHeartbeats 2000000 in
theorem vbytes_any (v : ValV) (hv : VOk v) (w : World) : Calls Tryz.prog 117 #[v.enc] w fun e w' => e = .returned (.string (valS v)) ∧ Below w.heap.size w w' := by
  obtain ⟨k, n, s⟩ := v
  obtain ⟨hn0, hn1, hs⟩ := hv
  dsimp only at hn0 hn1 hs
  obtain ⟨c, hc⟩ : ∃ c : ByteArray, c = kS k := ⟨_, rfl⟩
  have hcs : c.size = 1 := by rw [hc]; rfl
  have Hc := Lib.hid hc
  clear hc
  have htx := txS_size hs
  have hin := inS_size hn0 hn1
  show Calls Tryz.prog 117 #[.agg #[.int .i64 k, .int .i64 n, .string s]] w _
  go_enter Tryz.func117, Tryz.ntmps117
  go_wp2_with fail
  let W := (w.alloc (.cells #[.int .i64 k, .int .i64 n, .string s] 175)).alloc (.cells #[.int .u8 (k % 256)] 5)
  have hW : Hid (Below w.heap.size w W) := ((Below.refl _ w).alloc (Nat.le_refl _) _).alloc (by simp) _
  have hb0 : W.heap[w.heap.size]? = some (.cells #[.int .i64 k, .int .i64 n, .string s] 175) := (alloc_old _ (by simp)).trans (alloc_new _ _)
  have k0 := cell_of hb0 0
  have k1 := cell_of hb0 1
  have k2 := cell_of hb0 2
  have hg : W.cell? ⟨w.heap.size + 1, 0, none⟩ = some (.int .u8 (k % 256)) := by
    have h := alloc_new (w.alloc (.cells #[.int .i64 k, .int .i64 n, .string s] 175)) (.cells #[.int .u8 (k % 256)] 5)
    rw [show (w.alloc (.cells #[.int .i64 k, .int .i64 n, .string s] 175)).heap.size = w.heap.size + 1 by simp] at h
    exact cell_of h 0
  rw [one_at W (w.heap.size + 1) (k % 256).toNat (k % 256) c (by omega) (by omega) Hc.out hg]
  have hlt : w.heap.size < W.heap.size := by simp [W]; omega
  clear hg hb0
  clear_value W
  simp only [Result.andThen]
  rw [Oper.upon_value]
  go_wp2_with fail
  refine (may_any ⟨k, n, s⟩ W).mono ?_
  rintro e w1 ⟨rfl, b1⟩
  have j0 := (b1.cell (p := ⟨w.heap.size, 0, none⟩) hlt).trans k0
  have j1 := (b1.cell (p := ⟨w.heap.size, 1, none⟩) hlt).trans k1
  have j2 := (b1.cell (p := ⟨w.heap.size, 2, none⟩) hlt).trans k2
  have B1 := Lib.hid (hW.out.trans (b1.mono hW.out.size))
  have hz1 := b1.size
  clear b1 k0 k1 k2
  cases hm : mayV ⟨k, n, s⟩ with
  | false =>
    have E : Hid (valS ⟨k, n, s⟩ = ⟨#[]⟩) := by show _ = _; unfold valS; rw [hm]; rfl
    clear hm
    go_wp2
    go_ret
    rw [E.out]
    exact ⟨rfl, B1.out⟩
  | true =>
    by_cases h3 : k = 3
    · have E : Hid (valS ⟨k, n, s⟩ = c ++ txS s) := by show _ = _; unfold valS; rw [hm, if_pos rfl, if_pos h3, Hc.out, h3]
      have q3 : (k == 3) = true := beq_iff_eq.2 h3
      clear hm h3
      go_wp2_with fail
      refine (wtext_any s (by omega) w1).mono ?_
      rintro e w2 ⟨rfl, b2⟩
      go_wp2
      go_ret
      rw [E.out]
      exact ⟨rfl, B1.out.trans (b2.mono B1.out.size)⟩
    · have E : Hid (valS ⟨k, n, s⟩ = c ++ inS n) := by show _ = _; unfold valS; rw [hm, if_pos rfl, if_neg h3, Hc.out]
      have q3 : (k == 3) = false := beq_eq_false_iff_ne.2 h3
      clear hm h3
      go_wp2_with fail
      refine (wint_in n hn0 hn1 w1).mono ?_
      rintro e w2 ⟨rfl, b2⟩
      go_wp2
      go_ret
      rw [E.out]
      exact ⟨rfl, B1.out.trans (b2.mono B1.out.size)⟩
set_option maxRecDepth 100000 in
set_option maxHeartbeats 2000000 in
theorem rbytes_any (v : ValV) (hv : VOk v) (w : World) : Calls Tryz.prog 122 #[v.enc] w fun e w' => e = .returned (.string (valS v)) ∧ Below w.heap.size w w' := by
  obtain ⟨k, n, s⟩ := v
  obtain ⟨hn0, hn1, hs⟩ := hv
  dsimp only at hn0 hn1 hs
  obtain ⟨c, hc⟩ : ∃ c : ByteArray, c = kS k := ⟨_, rfl⟩
  have hcs : c.size = 1 := by rw [hc]; rfl
  have Hc := Lib.hid hc
  clear hc
  have htx := txS_size hs
  have hin := inS_size hn0 hn1
  show Calls Tryz.prog 122 #[.agg #[.int .i64 k, .int .i64 n, .string s]] w _
  go_enter Tryz.func122, Tryz.ntmps122
  go_wp2_with fail
  let W := w.alloc (.cells #[.int .i64 k, .int .i64 n, .string s] 175)
  have hW : Hid (Below w.heap.size w W) := (Below.refl _ w).alloc (Nat.le_refl _) _
  have hb0 : W.heap[w.heap.size]? = some (.cells #[.int .i64 k, .int .i64 n, .string s] 175) := alloc_new _ _
  have k0 := cell_of hb0 0
  have k1 := cell_of hb0 1
  have k2 := cell_of hb0 2
  have hlt : w.heap.size < W.heap.size := by simp [W]
  clear hb0
  refine (rmay_any ⟨k, n, s⟩ W).mono ?_
  clear_value W
  rintro e w1 ⟨rfl, b1⟩
  have j0 := (b1.cell (p := ⟨w.heap.size, 0, none⟩) hlt).trans k0
  have j1 := (b1.cell (p := ⟨w.heap.size, 1, none⟩) hlt).trans k1
  have j2 := (b1.cell (p := ⟨w.heap.size, 2, none⟩) hlt).trans k2
  have B1 := Lib.hid (hW.out.trans (b1.mono hW.out.size))
  have hz1 := b1.size
  clear b1 k0 k1 k2
  cases hm : mayV ⟨k, n, s⟩ with
  | false =>
    have E : Hid (valS ⟨k, n, s⟩ = ⟨#[]⟩) := by show _ = _; unfold valS; rw [hm]; rfl
    clear hm
    go_wp2
    go_ret
    rw [E.out]
    exact ⟨rfl, B1.out⟩
  | true =>
    by_cases h3 : k = 3
    · have E : Hid (valS ⟨k, n, s⟩ = ⟨#[3]⟩ ++ txS s) := by show _ = _; unfold valS; rw [hm, if_pos rfl, if_pos h3]; rfl
      have q3 : (k == 3) = true := beq_iff_eq.2 h3
      clear hm h3
      go_wp2_with fail
      refine (rtext_any s (by omega) w1).mono ?_
      rintro e w2 ⟨rfl, b2⟩
      go_wp2
      go_ret
      rw [E.out]
      exact ⟨rfl, B1.out.trans (b2.mono B1.out.size)⟩
    · have E : Hid (valS ⟨k, n, s⟩ = c ++ inS n) := by show _ = _; unfold valS; rw [hm, if_pos rfl, if_neg h3, Hc.out]
      have q3 : (k == 3) = false := beq_eq_false_iff_ne.2 h3
      clear hm h3
      have hconv : ∀ (W : World) (g : Nat), W.cell? ⟨g, 0, none⟩ = some (.int .u8 (IntKind.u8.wrap k)) → (convert 184 9 (.slice (some ⟨g, 0, none⟩) 1 1)).run Tryz.prog W = .ok (.string c) W :=
        fun W g hg => one_at W g (k % 256).toNat (IntKind.u8.wrap k) c (by omega) (by rw [IntKind.wrap_u8]; omega) Hc.out hg
      have hlt1 : w.heap.size < w1.heap.size := Nat.lt_of_lt_of_le hlt hz1
      go_wp2_with fail
      go_region_with (go_at_call 121 ; refine (rint_in n hn0 hn1 _).mono ?_; rintro e w2 ⟨rfl, b2⟩; have jj := fun h => b2.cell (p := ⟨w1.heap.size, 0, none⟩) h; have hbb : Below w1.heap.size w1 w2 := (by first | exact ⟨b2.os, b2.tape, b2.output, b2.size, b2.block⟩ | exact ⟨b2.os, b2.tape, b2.output, Nat.le_trans (by simp) b2.size, fun k hk => (b2.block k (by simp; omega)).trans (alloc_old _ hk)⟩); have i0 := (hbb.cell (p := ⟨w.heap.size, 0, none⟩) hlt1).trans j0; have hbh := Lib.hid hbb; clear hbb; have hb2 := Lib.hid b2; clear b2)
      all_goals
        have X : Below w.heap.size w w2 := B1.out.trans (hbh.out.mono B1.out.size)
        have HX := Lib.hid X
        clear X
        go_wp2
        go_ret
        rw [E.out]
        first
          | exact ⟨rfl, HX.out⟩
          | exact ⟨rfl, HX.out.alloc HX.out.size _⟩
          | exact ⟨rfl, ⟨(HX.out.alloc HX.out.size _).os, (HX.out.alloc HX.out.size _).tape, (HX.out.alloc HX.out.size _).output, (HX.out.alloc HX.out.size _).size, (HX.out.alloc HX.out.size _).block⟩⟩
end Go.Proofs.YthikijlbclckdaaGreat
