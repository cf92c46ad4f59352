/- KeepReads: contracts (Wy Wz Kd Ke). -/
import Derived.Test.YthikijlbclckdaaGreatQ2
import Derived.Deep.QuietTactic
import Derived.BigQuiet
import Derived.Deep.RegionWith
namespace Go.Proofs.YthikijlbclckdaaGreat
set_option maxRecDepth 100000
set_option maxHeartbeats 40000000
set_option linter.unusedSimpArgs false
set_option linter.unusedVariables false
open Go.RowKit
theorem num_add (n b k sc : Nat) (hb : b < 256) (hn : n < 128 ^ k) (hk : k ≤ 9) (h9 : k = 9 → b ≤ 1) (hsc : sc = 128 ^ k) :
  IntKind.u64.wrap ((n : Int) + IntKind.u64.wrap ((b : Int) % 128 * (sc : Int))) = ((n + b % 128 * 128 ^ k : Nat) : Int) := by
 subst hsc
 have hp : 128 ^ k ≤ 128 ^ 9 := Nat.pow_le_pow_right (by omega) hk
 have hm : n + b % 128 * 128 ^ k < 18446744073709551616 := by
  rcases Nat.lt_or_ge k 9 with h | h
  ·
   have h8 : 128 ^ k ≤ 128 ^ 8 := Nat.pow_le_pow_right (by omega) (by omega)
   have h3 : b % 128 * 128 ^ k ≤ 127 * 128 ^ k := Nat.mul_le_mul_right _ (by omega)
   omega
  ·
   have : k = 9 := by omega
   subst this
   have := h9 rfl
   have h3 : b % 128 * 128 ^ 9 ≤ 1 * 128 ^ 9 := Nat.mul_le_mul_right _ (by omega)
   omega
 have e : (b : Int) % 128 * ((128 ^ k : Nat) : Int) = ((b % 128 * 128 ^ k : Nat) : Int) := by push_cast; rfl
 rw [e, IntKind.wrap_u64, IntKind.wrap_u64]
 omega
theorem scale_up (k sc : Nat) (hk : k < 9) (hsc : sc = 128 ^ k) : IntKind.u64.wrap ((sc : Int) * 128) = ((128 ^ (k + 1) : Nat) : Int) := by
 subst hsc
 have h8 : 128 ^ k ≤ 128 ^ 8 := Nat.pow_le_pow_right (by omega) (by omega)
 rw [IntKind.wrap_u64, Nat.pow_succ]
 omega
theorem rnumber_any (s : ByteArray) (w : World) (hs : s.size ≤ 140737488355328) :
  Calls Tryz.prog 105 #[.string s] w fun e' w' => e' = .returned (.tuple #[.int .u64 (numS s).1, .int .i64 (numS s).2.1, .int .i64 (numS s).2.2]) ∧ w' = w := by
 go_enter Tryz.func105, Tryz.ntmps105
 go_wp2
 go_loop [5, 6, 7] (fun v sv i => ∃ k n sc : Nat, k ≤ s.size ∧ k ≤ 9 ∧ i = .int .i64 k ∧ v = .int .u64 n ∧ sv = .int .u64 sc ∧ Hid (numL (s.data.toList.drop k) k n = numS s ∧ n < 128 ^ k ∧ sc = 128 ^ k)) (fun _ _ i => s.size - (intOf i).toNat)
 case atStart => exact ⟨0, 0, 1, Nat.zero_le _, by omega, rfl, rfl, rfl, rfl, by simp, by simp⟩
 case round =>
  obtain ⟨k, n, sc, hk, hk9, rfl, rfl, rfl, hR⟩ := hrel
  by_cases hlt : k < s.size
  ·
   have hby := s[k].toNat_lt
   have hb := hid (show numS s = numL (s[k] :: s.data.toList.drop (k + 1)) k n by rw [← drop_at s k hlt]; exact hR.out.1.symm)
   have hor : Hid ((k = 9 → s[k].toNat ≤ 1) → IntKind.u64.wrap ((n : Int) + IntKind.u64.wrap ((s[k].toNat : Int) % 128 * (sc : Int))) = ((n + s[k].toNat % 128 * 128 ^ k : Nat) : Int)) := fun h9 => num_add n _ k sc hby hR.out.2.1 hk9 h9 hR.out.2.2
   by_cases hbad : (k = 9 ∧ 1 < s[k].toNat) ∨ (0 < k ∧ s[k].toNat = 0)
   ·
    have e := hid (show numS s = (0, 0, 3) by rw [hb.out, numL, if_pos hbad])
    clear hb hor
    by_cases h9 : k = 9 ∧ 1 < s[k].toNat
    ·
     have b1 : decide (1 < (s[k].toNat : Int)) = true := by simp; omega
     obtain ⟨rfl, -⟩ := h9
     go_wp2
     go_ret3
     rw [e.out]
     exact ⟨rfl, rfl⟩
    ·
     have h0 : 0 < k := by omega
     have b0 : ((s[k].toNat : Int) == 0) = true := by simp; omega
     have b1 : decide (1 < (s[k].toNat : Int)) = false := by simp; omega
     go_wp2
     all_goals (go_ret3; rw [e.out]; exact ⟨rfl, rfl⟩)
   ·
    by_cases hsm : s[k].toNat < 128
    ·
     have e := hid (show numS s = (n + s[k].toNat * 128 ^ k, k + 1, 0) by rw [hb.out, numL, if_neg hbad, if_pos hsm])
     have hor' := hid (hor.out (fun h9 => by omega))
     have b0 : 0 < k → ((s[k].toNat : Int) == 0) = false := by intro h0; simp; omega
     by_cases h9 : k = 9
     ·
      subst h9
      have b1 : decide (1 < (s[9].toNat : Int)) = false := by simp; omega
      go_wp2
      all_goals (go_ret3; rw [e.out])
      all_goals exact ⟨by have h := hor'.out; rw [Nat.mod_eq_of_lt hsm] at h; rw [← h]; rfl, rfl⟩
     ·
      go_wp2
      all_goals (go_ret3; rw [e.out])
      all_goals exact ⟨by have h := hor'.out; rw [Nat.mod_eq_of_lt hsm] at h; rw [← h]; rfl, rfl⟩
    ·
     have h9 : k ≠ 9 := by omega
     have e := hid (show numL (s.data.toList.drop (k + 1)) (k + 1) (n + s[k].toNat % 128 * 128 ^ k) = numS s by rw [hb.out, numL, if_neg hbad, if_neg hsm])
     have hor' := hid (hor.out (fun h9 => by omega))
     have hsc := hid (scale_up k sc (by omega) hR.out.2.2)
     have hlt2 : Hid (n + s[k].toNat % 128 * 128 ^ k < 128 ^ (k + 1)) := by
      have hm : s[k].toNat % 128 * 128 ^ k ≤ 127 * 128 ^ k := Nat.mul_le_mul_right _ (by omega)
      have := hR.out.2.1
      show _ < _
      rw [Nat.pow_succ]; omega
     clear hb hor
     have b0 : 0 < k → ((s[k].toNat : Int) == 0) = false := by intro h0; simp; omega
     go_wp2
     all_goals
      go_round
      case rel => exact ⟨k + 1, _, _, by omega, by omega, by go_num, by rw [hor'.out], by rw [hsc.out], e.out, hlt2.out, rfl⟩
      case measure => simp [intOf]; omega
  ·
   have hin : k = s.size := by omega
   subst hin
   have e := hid (show numS s = (0, 0, 2) by rw [← hR.out.1, List.drop_eq_nil_of_le (by simp)]; rfl)
   go_wp2
   go_ret3
   rw [e.out]
   exact ⟨rfl, rfl⟩
theorem rrUint_any (rb : Nat) (r : RdV) (w : World) (h : IsR 92 w rb r) (hs : r.s.size ≤ 140737488355328) :
  Calls Tryz.prog 39 #[.pointer (some ⟨rb, 0, none⟩)] w fun e' w' => e' = .returned (.int .u64 (uintR r).1) ∧ IsR 92 w' rb (uintR r).2 ∧ Rb rb w w' := by
 obtain ⟨s, e⟩ := r
 have H := hid h
 have c0 := h.c0
 have c1 := h.c1
 have f0 := IsR.f 0 h
 have f1 := IsR.f 1 h
 dsimp only at c0 c1 hs
 have hn := numS_len s
 have Hc := hid (rnumber_any s w hs)
 clear h
 by_cases he : e = 0
 ·
  subst he
  have ht : uintR ⟨s, 0⟩ = if (numS s).2.2 = 0 then ((numS s).1, ⟨s.extract (numS s).2.1 s.size, 0⟩) else (0, ⟨s, (numS s).2.2⟩) := rfl
  rw [ht]
  clear ht
  revert Hc hn
  generalize numS s = x
  obtain ⟨v, n, er⟩ := x
  intro hn Hc
  dsimp only at Hc hn ⊢
  by_cases hr : er = 0
  ·
   subst hr
   rw [if_pos rfl]
   go_enter Tryz.func39, Tryz.ntmps39
   go_wp2_with fail
   refine Hc.out.mono ?_
   rintro e1 w1 ⟨rfl, rfl⟩
   go_wp2
   go_ret
   exact ⟨rfl, H.out.set0 _, Rb.set rb 0 _⟩
  ·
   rw [if_neg hr]
   have hr1 : (er != 0) = true := by simpa using hr
   go_enter Tryz.func39, Tryz.ntmps39
   go_wp2_with fail
   refine Hc.out.mono ?_
   rintro e1 w1 ⟨rfl, rfl⟩
   go_wp2
   go_ret
   exact ⟨rfl, H.out.set1 er, Rb.set rb 1 _⟩
 ·
  have ht : uintR ⟨s, e⟩ = (0, ⟨s, e⟩) := if_neg he
  rw [ht]
  have he1 : (e != 0) = true := by simpa using he
  go_enter Tryz.func39, Tryz.ntmps39
  go_wp2
  go_ret
  exact ⟨rfl, H.out, But.refl _ _⟩
theorem uintR_lt (r : RdV) : (uintR r).1 < 18446744073709551616 := by
 have := numS_val r.s
 unfold uintR takeR
 split
 ·
  split
  ·
   exact this
  ·
   show 0 < _; omega
 ·
  show 0 < _; omega
theorem rrInt_any (rb : Nat) (r : RdV) (w : World) (h : IsR 92 w rb r) (hs : r.s.size ≤ 140737488355328) :
  Calls Tryz.prog 106 #[.pointer (some ⟨rb, 0, none⟩)] w fun e' w' => e' = .returned (.int .i64 (intR r).1) ∧ IsR 92 w' rb (intR r).2 ∧ Rb rb w w' := by
 have Hc := rrUint_any rb r w h hs
 have hv := uintR_lt r
 have hi : intR r = (sgn (uintR r).1, (uintR r).2) := rfl
 rw [hi]
 clear hi
 revert Hc hv
 generalize uintR r = x
 obtain ⟨v, r'⟩ := x
 intro Hc hv
 dsimp only at hv Hc ⊢
 have Hc := hid Hc
 by_cases h2 : v % 2 = 0
 ·
  have e : sgn v = ((v / 2 : Nat) : Int) := if_pos h2
  have b2 : (((v : Int) % 2) == 0) = true := by simp; omega
  rw [e]
  clear e
  go_enter Tryz.func106, Tryz.ntmps106
  go_wp2_with fail
  refine Hc.out.mono ?_
  rintro e1 w1 ⟨rfl, h1, b1⟩
  have H1 := hid h1
  have B1 := hid b1
  clear h1 b1
  go_wp2
  go_ret
  exact ⟨by push_cast; rfl, H1.out, B1.out⟩
 ·
  have e : sgn v = -((v / 2 : Nat) : Int) - 1 := if_neg h2
  have b2 : (((v : Int) % 2) == 0) = false := by simp; omega
  rw [e]
  clear e
  go_enter Tryz.func106, Tryz.ntmps106
  go_wp2_with fail
  refine Hc.out.mono ?_
  rintro e1 w1 ⟨rfl, h1, b1⟩
  have H1 := hid h1
  have B1 := hid b1
  clear h1 b1
  go_wp2
  go_ret
  exact ⟨by push_cast; rfl, H1.out, B1.out⟩
end Go.Proofs.YthikijlbclckdaaGreat
namespace Go.Proofs.YthikijlbclckdaaGreat
set_option maxRecDepth 100000
set_option maxHeartbeats 40000000
set_option linter.unusedSimpArgs false
set_option linter.unusedVariables false
open Go.RowKit
theorem uintR_e (r : RdV) : (uintR r).2.e = 0 → (r.e = 0 ∧ (numS r.s).2.2 = 0 ∧ uintR r = ((numS r.s).1, ⟨r.s.extract (numS r.s).2.1 r.s.size, 0⟩)) := by
 intro h
 unfold uintR takeR at h ⊢
 by_cases h1 : r.e = 0
 ·
  rw [if_pos h1] at h ⊢
  by_cases h2 : (numS r.s).2.2 = 0
  ·
   rw [if_pos h2] at h ⊢; exact ⟨h1, h2, rfl⟩
  ·
   rw [if_neg h2] at h; exact absurd h h2
 ·
  rw [if_neg h1] at h; exact absurd h h1
theorem uintR_bad (r : RdV) (h : (uintR r).2.e ≠ 0) (most : Int) : textR most r = (⟨#[]⟩, ⟨r.s, (uintR r).2.e⟩) := by
 unfold uintR textR takeR at *
 by_cases h1 : r.e = 0
 ·
  rw [if_pos h1] at h ⊢
  by_cases h2 : (numS r.s).2.2 = 0
  ·
   rw [if_pos h2] at h; exact absurd rfl h
  ·
   rw [if_pos h1]
   have e : textF most r.s = (⟨#[]⟩, 0, (numS r.s).2.2) := if_pos h2
   rw [e, if_neg h2, if_neg h2]
 ·
  rw [if_neg h1, if_neg h1]
theorem text_of (r : RdV) (most : Int) (h1 : r.e = 0) (h2 : (numS r.s).2.2 = 0) : textR most r =
  if most < (numS r.s).1 then (⟨#[]⟩, ⟨r.s, 13⟩) else if r.s.size - (numS r.s).2.1 < (numS r.s).1 then (⟨#[]⟩, ⟨r.s, 2⟩)
  else (r.s.extract (numS r.s).2.1 ((numS r.s).2.1 + (numS r.s).1), ⟨r.s.extract ((numS r.s).2.1 + (numS r.s).1) r.s.size, 0⟩) := by
 have hf : textF most r.s = if most < (numS r.s).1 then (⟨#[]⟩, 0, 13) else if r.s.size - (numS r.s).2.1 < (numS r.s).1 then (⟨#[]⟩, 0, 2)
   else (r.s.extract (numS r.s).2.1 ((numS r.s).2.1 + (numS r.s).1), (numS r.s).2.1 + (numS r.s).1, 0) := if_neg (fun h => h h2)
 unfold textR takeR
 rw [if_pos h1, hf]
 by_cases h3 : most < (numS r.s).1
 ·
  rw [if_pos h3, if_pos h3, if_neg (by simp)]
 ·
  rw [if_neg h3, if_neg h3]
  by_cases h4 : r.s.size - (numS r.s).2.1 < (numS r.s).1
  ·
   rw [if_pos h4, if_pos h4, if_neg (by simp)]
  ·
   rw [if_neg h4, if_neg h4, if_pos rfl]
theorem rrText_any (rb : Nat) (r : RdV) (w : World) (h : IsR 92 w rb r) (hs : r.s.size ≤ 140737488355328) (most : Int) (hm0 : 0 ≤ most) (hm1 : most ≤ 1000000) :
  Calls Tryz.prog 104 #[.pointer (some ⟨rb, 0, none⟩), .int .i64 most] w fun e' w' => e' = .returned (.string (textR most r).1) ∧ IsR 92 w' rb (textR most r).2 ∧ Rb rb w w' := by
 have c0 := h.c0
 have Hc := hid (rrUint_any rb r w h hs)
 clear h
 have hmn : decide (most < 0) = false := by simp; omega
 by_cases he : (uintR r).2.e = 0
 ·
  obtain ⟨h1, h2, hu⟩ := uintR_e r he
  have hv := numS_val r.s
  have hk := numS_len r.s
  rw [text_of r most h1 h2]
  rw [hu] at Hc
  clear he hu h1 h2
  obtain ⟨s, e⟩ := r
  dsimp only at *
  revert hv hk Hc
  generalize numS s = x
  obtain ⟨n, k, er⟩ := x
  intro Hc hv hk
  dsimp only at hv hk Hc ⊢
  by_cases g1 : most < (n : Int)
  ·
   rw [if_pos g1]
   have g1' : decide (most < (n : Int)) = true := by simpa using g1
   go_enter Tryz.func104, Tryz.ntmps104
   go_wp2_with fail
   refine Hc.out.mono ?_
   rintro e1 w1 ⟨rfl, h1, b1⟩
   have H1 := hid h1
   have B1 := hid b1
   have d0 := h1.c0
   have d1 := h1.c1
   have f0 := IsR.f 0 h1
   have f1 := IsR.f 1 h1
   clear h1 b1 c0
   dsimp only at d0 d1
   go_wp2
   go_ret
   exact ⟨rfl, (H1.out.set1 13).set0 s, B1.out.trans ((Rb.set rb 1 _).trans (Rb.set rb 0 _))⟩
  ·
   rw [if_neg g1]
   have g1' : decide (most < (n : Int)) = false := by simp; omega
   by_cases g2 : s.size - k < n
   ·
    rw [if_pos g2]
    have hz : (s.extract k s.size).size = s.size - k := by rw [extract_size]; omega
    have g2' : decide (((s.extract k s.size).size : Int) < (n : Int)) = true := by rw [hz]; simp; omega
    have g6 : (s.extract k s.size).size < n := by omega
    have g3 : (s.extract k s.size).size ≤ 140737488355328 := by rw [hz]; omega
    clear hz
    generalize s.extract k s.size = s2 at *
    go_enter Tryz.func104, Tryz.ntmps104
    go_wp2_with fail
    refine Hc.out.mono ?_
    rintro e1 w1 ⟨rfl, h1, b1⟩
    have H1 := hid h1
    have B1 := hid b1
    have d0 := h1.c0
    have d1 := h1.c1
    have f0 := IsR.f 0 h1
    have f1 := IsR.f 1 h1
    clear h1 b1 c0
    dsimp only at d0 d1
    go_wp2
    go_ret
    exact ⟨rfl, (H1.out.set1 2).set0 s, B1.out.trans ((Rb.set rb 1 _).trans (Rb.set rb 0 _))⟩
   ·
    rw [if_neg g2]
    have hz : (s.extract k s.size).size = s.size - k := by rw [extract_size]; omega
    have e1 : s.extract k (k + n) = (s.extract k s.size).extract 0 n := by
     rw [ByteArray.extract_extract]; congr 1 <;> omega
    have e2 : s.extract (k + n) s.size = (s.extract k s.size).extract n (s.extract k s.size).size := by
     rw [hz, ByteArray.extract_extract]; congr 1; omega
    rw [e1, e2]
    have g2' : decide (((s.extract k s.size).size : Int) < (n : Int)) = false := by rw [hz]; simp; omega
    have g3 : (s.extract k s.size).size ≤ 140737488355328 := by rw [hz]; omega
    have g4 : n ≤ (s.extract k s.size).size := by omega
    clear hz e1 e2
    generalize s.extract k s.size = s2 at *
    go_enter Tryz.func104, Tryz.ntmps104
    go_wp2_with fail
    refine Hc.out.mono ?_
    rintro e1 w1 ⟨rfl, h1, b1⟩
    have H1 := hid h1
    have B1 := hid b1
    have d0 := h1.c0
    have d1 := h1.c1
    have f0 := IsR.f 0 h1
    have f1 := IsR.f 1 h1
    clear h1 b1 c0
    dsimp only at d0 d1
    go_wp2
    go_ret
    exact ⟨rfl, H1.out.set0 _, B1.out.trans (Rb.set rb 0 _)⟩
 ·
  rw [uintR_bad r he most]
  have he1 : ((uintR r).2.e == 0) = false := by simpa using he
  have he2 : ((uintR r).2.e != 0) = true := by simpa using he
  clear he
  revert he1 he2 Hc
  generalize uintR r = x
  obtain ⟨v, r'⟩ := x
  intro Hc he1 he2
  dsimp only at he1 he2 Hc ⊢
  go_enter Tryz.func104, Tryz.ntmps104
  go_wp2_with fail
  refine Hc.out.mono ?_
  rintro e1 w1 ⟨rfl, h1, b1⟩
  have H1 := hid h1
  have B1 := hid b1
  have d0 := h1.c0
  have d1 := h1.c1
  have f0 := IsR.f 0 h1
  clear h1 b1 c0
  go_wp2
  go_ret
  exact ⟨rfl, H1.out.set0 _, B1.out.trans (Rb.set rb 0 _)⟩
theorem rrByte_any (rb : Nat) (r : RdV) (w : World) (h : IsR 92 w rb r) (hs : r.s.size ≤ 140737488355328) :
  Calls Tryz.prog 157 #[.pointer (some ⟨rb, 0, none⟩)] w fun e' w' => e' = .returned (.int .u8 (byteR r).1) ∧ IsR 92 w' rb (byteR r).2 ∧ Rb rb w w' := by
 obtain ⟨s, e⟩ := r
 have H := hid h
 have c0 := h.c0
 have c1 := h.c1
 have f0 := IsR.f 0 h
 have f1 := IsR.f 1 h
 dsimp only at c0 c1 hs
 clear h
 by_cases he : e = 0
 ·
  subst he
  by_cases hz : s.size = 0
  ·
   have hl := bytes_nil hz
   have ht : byteR ⟨s, 0⟩ = (0, ⟨s, 2⟩) := by unfold byteR takeR byteF; simp only [if_pos hz, if_true]; rfl
   rw [ht]
   clear ht
   go_enter Tryz.func157, Tryz.ntmps157
   go_wp2
   go_ret
   exact ⟨rfl, H.out.set1 2, Rb.set rb 1 _⟩
  ·
   have hl := bytes_some hz
   have hl2 : 0 < s.size := by omega
   have ht : byteR ⟨s, 0⟩ = (s[0].toNat, ⟨s.extract 1 s.size, 0⟩) := by unfold byteR takeR byteF; simp only [if_neg hz, if_true, head_at hl2]
   rw [ht]
   clear ht
   go_enter Tryz.func157, Tryz.ntmps157
   go_wp2
   go_ret
   exact ⟨rfl, H.out.set0 _, Rb.set rb 0 _⟩
 ·
  have ht : byteR ⟨s, e⟩ = (0, ⟨s, e⟩) := if_neg he
  rw [ht]
  have he1 : (e == 0) = false := by simpa using he
  have he2 : (e != 0) = true := by simpa using he
  go_enter Tryz.func157, Tryz.ntmps157
  go_wp2
  go_ret
  exact ⟨rfl, H.out, But.refl _ _⟩
theorem rrEnd_any (rb : Nat) (r : RdV) (w : World) (h : IsR 92 w rb r) :
  Calls Tryz.prog 43 #[.pointer (some ⟨rb, 0, none⟩)] w fun e' w' => e' = .returned (.int .i64 (endR r)) ∧ w = w' := by
 have c0 := h.c0
 have c1 := h.c1
 clear h
 by_cases he : r.e = 0
 ·
  have he1 : (r.e == 0) = true := by simpa using he
  by_cases hz : r.s.size = 0
  ·
   have hl := bytes_nil hz
   have e : endR r = r.e := if_neg (by omega)
   rw [e]
   clear e he
   go_enter Tryz.func43, Tryz.ntmps43
   go_wp2
   go_ret
   exact ⟨rfl, rfl⟩
  ·
   have hl := bytes_some hz
   have e : endR r = 3 := if_pos ⟨he, hz⟩
   rw [e]
   clear e he
   go_enter Tryz.func43, Tryz.ntmps43
   go_wp2
   go_ret
   exact ⟨rfl, rfl⟩
 ·
  have e : endR r = r.e := if_neg (fun h => he h.1)
  rw [e]
  have he1 : (r.e == 0) = false := by simpa using he
  go_enter Tryz.func43, Tryz.ntmps43
  go_wp2
  go_ret
  exact ⟨rfl, rfl⟩
end Go.Proofs.YthikijlbclckdaaGreat
namespace Go.Proofs.YthikijlbclckdaaGreat
set_option maxRecDepth 100000
set_option maxHeartbeats 40000000
set_option linter.unusedSimpArgs false
set_option linter.unusedVariables false
open Go.RowKit
structure ValV where
 k : Int
 n : Int
 s : ByteArray
def ValV.enc (v : ValV) : Value := .agg #[.int .i64 v.k, .int .i64 v.n, .string v.s]
def eS (s : ByteArray) : Bool := s.toList == []
def mayV (v : ValV) : Bool := if v.k = 3 then v.n == 0 && decide (v.s.size ≤ 1024) else if v.k = 1 then eS v.s else if v.k = 2 then (v.n == 0 || v.n == 1) && eS v.s else false
theorem may_any (v : ValV) (w : World) : Calls Tryz.prog 124 #[v.enc] w fun e w' => e = .returned (.bool (mayV v)) ∧ Below w.heap.size w w' := by
 obtain ⟨k, n, s⟩ := v
 have hb : Hid (∀ o, Below w.heap.size w (w.alloc o)) := fun o => (Below.refl _ w).alloc (Nat.le_refl _) o
 show Calls Tryz.prog 124 #[.agg #[.int .i64 k, .int .i64 n, .string s]] w _
 by_cases h2 : k = 2
 ·
  subst h2
  by_cases h0 : n = 0
  ·
   subst h0
   have E : Hid (mayV ⟨2, 0, s⟩ = (s.toList == [])) := by show _ = _; simp [mayV, eS]
   go_enter Tryz.func124, Tryz.ntmps124
   go_wp2
   go_ret
   rw [E.out]
   exact ⟨by first | rfl | (simp; done), hb.out _⟩
  ·
   have hq0 : (n != 0) = true := by rw [bne_iff_ne]; exact h0
   by_cases h1 : n = 1
   ·
    subst h1
    have E : Hid (mayV ⟨2, 1, s⟩ = (s.toList == [])) := by show _ = _; simp [mayV, eS]
    clear h0
    go_enter Tryz.func124, Tryz.ntmps124
    go_wp2
    go_ret
    rw [E.out]
    exact ⟨by first | rfl | (simp; done), hb.out _⟩
   ·
    have hq1 : (n != 1) = true := by rw [bne_iff_ne]; exact h1
    have E : Hid (mayV ⟨2, n, s⟩ = false) := by show _ = _; simp [mayV, h0, h1]
    clear h0 h1
    go_enter Tryz.func124, Tryz.ntmps124
    go_wp2
    go_ret
    rw [E.out]
    exact ⟨by first | rfl | (simp; done), hb.out _⟩
 have q2 : (k == 2) = false := beq_eq_false_iff_ne.2 h2
 by_cases h1 : k = 1
 ·
  subst h1
  have E : Hid (mayV ⟨1, n, s⟩ = (s.toList == [])) := by show _ = _; simp [mayV, eS]
  clear h2
  go_enter Tryz.func124, Tryz.ntmps124
  go_wp2
  go_ret
  rw [E.out]
  exact ⟨by first | rfl | (simp; done), hb.out _⟩
 have q1 : (k == 1) = false := beq_eq_false_iff_ne.2 h1
 by_cases h3 : k = 3
 ·
  subst h3
  have E : Hid (mayV ⟨3, n, s⟩ = (n == 0 && decide (s.size ≤ 1024))) := by show _ = _; simp [mayV]
  clear h1 h2
  by_cases h0 : n = 0
  ·
   subst h0
   go_enter Tryz.func124, Tryz.ntmps124
   go_wp2
   all_goals
    go_ret
    rw [E.out]
    refine ⟨?_, hb.out _⟩
    simp [*]
    try omega
  ·
   have hq0 : (n == 0) = false := beq_eq_false_iff_ne.2 h0
   go_enter Tryz.func124, Tryz.ntmps124
   go_wp2
   go_ret
   rw [E.out, hq0]
   exact ⟨by first | rfl | (simp; done), hb.out _⟩
 have q3 : (k == 3) = false := beq_eq_false_iff_ne.2 h3
 have E : Hid (mayV ⟨k, n, s⟩ = false) := by show _ = _; simp [mayV, h1, h2, h3]
 clear h1 h2 h3
 go_enter Tryz.func124, Tryz.ntmps124
 go_wp2
 go_ret
 rw [E.out]
 exact ⟨by first | rfl | (simp; done), hb.out _⟩
theorem rmay_any (v : ValV) (w : World) : Calls Tryz.prog 126 #[v.enc] w fun e w' => e = .returned (.bool (mayV v)) ∧ Below w.heap.size w w' := by
 obtain ⟨k, n, s⟩ := v
 have hb : Hid (∀ o, Below w.heap.size w (w.alloc o)) := fun o => (Below.refl _ w).alloc (Nat.le_refl _) o
 show Calls Tryz.prog 126 #[.agg #[.int .i64 k, .int .i64 n, .string s]] w _
 by_cases h3 : k = 3
 ·
  subst h3
  have E : Hid (mayV ⟨3, n, s⟩ = (n == 0 && decide (s.size ≤ 1024))) := by show _ = _; simp [mayV]
  by_cases h0 : n = 0
  ·
   subst h0
   go_enter Tryz.func126, Tryz.ntmps126
   go_wp2
   all_goals
    go_ret
    rw [E.out]
    refine ⟨?_, hb.out _⟩
    simp [*]
    try omega
  ·
   have hq0 : (n == 0) = false := beq_eq_false_iff_ne.2 h0
   go_enter Tryz.func126, Tryz.ntmps126
   go_wp2
   go_ret
   rw [E.out, hq0]
   exact ⟨by first | rfl | (simp; done), hb.out _⟩
 have q3 : (k == 3) = false := beq_eq_false_iff_ne.2 h3
 cases hs : (s.toList == []) with
 | false =>
  have E : Hid (mayV ⟨k, n, s⟩ = false) := by show _ = _; simp only [mayV, eS, hs, h3, if_false, Bool.and_false]; split <;> (try split) <;> rfl
  clear h3
  go_enter Tryz.func126, Tryz.ntmps126
  go_wp2
  go_ret
  rw [E.out]
  exact ⟨by first | rfl | (simp; done), hb.out _⟩
 | true =>
  by_cases h1 : k = 1
  ·
   subst h1
   have E : Hid (mayV ⟨1, n, s⟩ = true) := by show _ = _; simp [mayV, eS, hs]
   go_enter Tryz.func126, Tryz.ntmps126
   go_wp2
   go_ret
   rw [E.out]
   exact ⟨by first | rfl | (simp; done), hb.out _⟩
  have q1 : (k == 1) = false := beq_eq_false_iff_ne.2 h1
  by_cases h2 : k = 2
  ·
   subst h2
   by_cases h0 : n = 0
   ·
    subst h0
    have E : Hid (mayV ⟨2, 0, s⟩ = true) := by show _ = _; simp [mayV, eS, hs]
    go_enter Tryz.func126, Tryz.ntmps126
    go_wp2
    go_ret
    rw [E.out]
    exact ⟨by first | rfl | (simp; done), hb.out _⟩
   ·
    have hq0 : (n == 0) = false := beq_eq_false_iff_ne.2 h0
    have E : Hid (mayV ⟨2, n, s⟩ = (n == 1)) := by show _ = _; simp [mayV, eS, hs, h0]
    clear h0
    go_enter Tryz.func126, Tryz.ntmps126
    go_wp2
    go_ret
    rw [E.out]
    exact ⟨by first | rfl | (simp; done), hb.out _⟩
  have q2 : (k == 2) = false := beq_eq_false_iff_ne.2 h2
  have E : Hid (mayV ⟨k, n, s⟩ = false) := by show _ = _; simp [mayV, h1, h2, h3]
  clear h1 h2 h3
  go_enter Tryz.func126, Tryz.ntmps126
  go_wp2
  go_ret
  rw [E.out]
  exact ⟨by first | rfl | (simp; done), hb.out _⟩
end Go.Proofs.YthikijlbclckdaaGreat
namespace Go.Proofs.YthikijlbclckdaaGreat
set_option maxRecDepth 100000
set_option maxHeartbeats 40000000
set_option linter.unusedSimpArgs false
set_option linter.unusedVariables false
open Go.RowKit
def kS (k : Int) : ByteArray := ⟨#[(k % 256).toNat.toUInt8]⟩
def valS (v : ValV) : ByteArray := if mayV v then (if v.k = 3 then kS 3 ++ txS v.s else kS v.k ++ inS v.n) else ⟨#[]⟩
structure VOk (v : ValV) : Prop where
 n0 : -9223372036854775808 ≤ v.n
 n1 : v.n ≤ 9223372036854775807
 s : v.s.size ≤ 2097152
theorem kS_size (k : Int) : (kS k).size = 1 := rfl
theorem txS_size {s : ByteArray} (hs : s.size ≤ 2097152) : (txS s).size ≤ s.size + 10 := by
 unfold txS
 rw [ByteArray.size_append]
 have := uvS_size s.size
 have := Lib.uvarint_length64 (show s.size < 18446744073709551616 by omega)
 omega
theorem inS_size {n : Int} (h0 : -9223372036854775808 ≤ n) (h1 : n ≤ 9223372036854775807) : (inS n).size ≤ 10 := by
 have h1 := uvS_size (zig n)
 have h2 := Lib.uvarint_length64 (zig_lt n h0 (by assumption))
 show (uvS (zig n)).size ≤ 10
 omega
theorem one_at (W : World) (g n : Nat) (z : Int) (c : ByteArray) (hn : n < 256) (hz : z = n) (hc : c = ⟨#[n.toUInt8]⟩) (hg : W.cell? ⟨g, 0, none⟩ = some (.int .u8 z)) :
  (convert 184 9 (.slice (some ⟨g, 0, none⟩) 1 1)).run Tryz.prog W = .ok (.string c) W := by
 have h : n.toUInt8.toNat = n := by simp [Nat.toUInt8, UInt8.toNat_ofNat']; omega
 subst hz hc
 refine run_convert_bytes_back _ _ _ 5 ⟨g, 0, none⟩ 1 [n.toUInt8] Tryz.underlying184 Tryz.underlying5 Tryz.underlying9 ?_
 intro j hj
 have : j = 0 := by simp at hj; exact hj
 subst this
 simpa [h, Addr.add] using hg
theorem vbytes_any (v : ValV) (hv : VOk v) (w : World) : Calls Tryz.prog 117 #[v.enc] w fun e w' => e = .returned (.string (valS v)) ∧ Below w.heap.size w w' := by
 obtain ⟨k, n, s⟩ := v
 obtain ⟨hn0, hn1, hs⟩ := hv
 dsimp only at hn0 hn1 hs
 obtain ⟨c, hc⟩ : ∃ c : ByteArray, c = kS k := ⟨_, rfl⟩
 have hcs : c.size = 1 := by rw [hc]; rfl
 have Hc := hid hc
 clear hc
 have htx := txS_size hs
 have hin := inS_size hn0 hn1
 show Calls Tryz.prog 117 #[.agg #[.int .i64 k, .int .i64 n, .string s]] w _
 go_enter Tryz.func117, Tryz.ntmps117
 go_wp2_with fail
 let W := (w.alloc (.cells #[.int .i64 k, .int .i64 n, .string s] 175)).alloc (.cells #[.int .u8 (k % 256)] 5)
 have hW : Hid (Below w.heap.size w W) := ((Below.refl _ w).alloc (Nat.le_refl _) _).alloc (by simp) _
 have hb0 : W.heap[w.heap.size]? = some (.cells #[.int .i64 k, .int .i64 n, .string s] 175) := (alloc_old _ (by simp)).trans (alloc_new _ _)
 have k0 := cell_of hb0 0
 have k1 := cell_of hb0 1
 have k2 := cell_of hb0 2
 have hg : W.cell? ⟨w.heap.size + 1, 0, none⟩ = some (.int .u8 (k % 256)) := by
  have h := alloc_new (w.alloc (.cells #[.int .i64 k, .int .i64 n, .string s] 175)) (.cells #[.int .u8 (k % 256)] 5)
  rw [show (w.alloc (.cells #[.int .i64 k, .int .i64 n, .string s] 175)).heap.size = w.heap.size + 1 by simp] at h
  exact cell_of h 0
 rw [one_at W (w.heap.size + 1) (k % 256).toNat (k % 256) c (by omega) (by omega) Hc.out hg]
 have hlt : w.heap.size < W.heap.size := by simp [W]; omega
 clear hg hb0
 clear_value W
 simp only [Result.andThen]
 rw [Oper.upon_value]
 go_wp2_with fail
 refine (may_any ⟨k, n, s⟩ W).mono ?_
 rintro e w1 ⟨rfl, b1⟩
 have j0 := (b1.cell (p := ⟨w.heap.size, 0, none⟩) hlt).trans k0
 have j1 := (b1.cell (p := ⟨w.heap.size, 1, none⟩) hlt).trans k1
 have j2 := (b1.cell (p := ⟨w.heap.size, 2, none⟩) hlt).trans k2
 have B1 := hid (hW.out.trans (b1.mono hW.out.size))
 have hz1 := b1.size
 clear b1 k0 k1 k2
 cases hm : mayV ⟨k, n, s⟩ with
 | false =>
  have E : Hid (valS ⟨k, n, s⟩ = ⟨#[]⟩) := by show _ = _; unfold valS; rw [hm]; rfl
  clear hm
  go_wp2
  go_ret
  rw [E.out]
  exact ⟨rfl, B1.out⟩
 | true =>
  by_cases h3 : k = 3
  ·
   have E : Hid (valS ⟨k, n, s⟩ = c ++ txS s) := by show _ = _; unfold valS; rw [hm, if_pos rfl, if_pos h3, Hc.out, h3]
   have q3 : (k == 3) = true := beq_iff_eq.2 h3
   clear hm h3
   go_wp2_with fail
   refine (wtext_any s (by omega) w1).mono ?_
   rintro e w2 ⟨rfl, b2⟩
   go_wp2
   go_ret
   rw [E.out]
   exact ⟨rfl, B1.out.trans (b2.mono B1.out.size)⟩
  ·
   have E : Hid (valS ⟨k, n, s⟩ = c ++ inS n) := by show _ = _; unfold valS; rw [hm, if_pos rfl, if_neg h3, Hc.out]
   have q3 : (k == 3) = false := beq_eq_false_iff_ne.2 h3
   clear hm h3
   go_wp2_with fail
   refine (wint_in n hn0 hn1 w1).mono ?_
   rintro e w2 ⟨rfl, b2⟩
   go_wp2
   go_ret
   rw [E.out]
   exact ⟨rfl, B1.out.trans (b2.mono B1.out.size)⟩
theorem rbytes_any (v : ValV) (hv : VOk v) (w : World) : Calls Tryz.prog 122 #[v.enc] w fun e w' => e = .returned (.string (valS v)) ∧ Below w.heap.size w w' := by
 obtain ⟨k, n, s⟩ := v
 obtain ⟨hn0, hn1, hs⟩ := hv
 dsimp only at hn0 hn1 hs
 obtain ⟨c, hc⟩ : ∃ c : ByteArray, c = kS k := ⟨_, rfl⟩
 have hcs : c.size = 1 := by rw [hc]; rfl
 have Hc := hid hc
 clear hc
 have htx := txS_size hs
 have hin := inS_size hn0 hn1
 show Calls Tryz.prog 122 #[.agg #[.int .i64 k, .int .i64 n, .string s]] w _
 go_enter Tryz.func122, Tryz.ntmps122
 go_wp2_with fail
 let W := w.alloc (.cells #[.int .i64 k, .int .i64 n, .string s] 175)
 have hW : Hid (Below w.heap.size w W) := (Below.refl _ w).alloc (Nat.le_refl _) _
 have hb0 : W.heap[w.heap.size]? = some (.cells #[.int .i64 k, .int .i64 n, .string s] 175) := alloc_new _ _
 have k0 := cell_of hb0 0
 have k1 := cell_of hb0 1
 have k2 := cell_of hb0 2
 have hlt : w.heap.size < W.heap.size := by simp [W]
 clear hb0
 refine (rmay_any ⟨k, n, s⟩ W).mono ?_
 clear_value W
 rintro e w1 ⟨rfl, b1⟩
 have j0 := (b1.cell (p := ⟨w.heap.size, 0, none⟩) hlt).trans k0
 have j1 := (b1.cell (p := ⟨w.heap.size, 1, none⟩) hlt).trans k1
 have j2 := (b1.cell (p := ⟨w.heap.size, 2, none⟩) hlt).trans k2
 have B1 := hid (hW.out.trans (b1.mono hW.out.size))
 have hz1 := b1.size
 clear b1 k0 k1 k2
 cases hm : mayV ⟨k, n, s⟩ with
 | false =>
  have E : Hid (valS ⟨k, n, s⟩ = ⟨#[]⟩) := by show _ = _; unfold valS; rw [hm]; rfl
  clear hm
  go_wp2
  go_ret
  rw [E.out]
  exact ⟨rfl, B1.out⟩
 | true =>
  by_cases h3 : k = 3
  ·
   have E : Hid (valS ⟨k, n, s⟩ = ⟨#[3]⟩ ++ txS s) := by show _ = _; unfold valS; rw [hm, if_pos rfl, if_pos h3]; rfl
   have q3 : (k == 3) = true := beq_iff_eq.2 h3
   clear hm h3
   go_wp2_with fail
   refine (rtext_any s (by omega) w1).mono ?_
   rintro e w2 ⟨rfl, b2⟩
   go_wp2
   go_ret
   rw [E.out]
   exact ⟨rfl, B1.out.trans (b2.mono B1.out.size)⟩
  ·
   have E : Hid (valS ⟨k, n, s⟩ = c ++ inS n) := by show _ = _; unfold valS; rw [hm, if_pos rfl, if_neg h3, Hc.out]
   have q3 : (k == 3) = false := beq_eq_false_iff_ne.2 h3
   clear hm h3
   have hconv : ∀ (W : World) (g : Nat), W.cell? ⟨g, 0, none⟩ = some (.int .u8 (IntKind.u8.wrap k)) → (convert 184 9 (.slice (some ⟨g, 0, none⟩) 1 1)).run Tryz.prog W = .ok (.string c) W :=
    fun W g hg => one_at W g (k % 256).toNat (IntKind.u8.wrap k) c (by omega) (by rw [IntKind.wrap_u8]; omega) Hc.out hg
   have hlt1 : w.heap.size < w1.heap.size := Nat.lt_of_lt_of_le hlt hz1
   go_wp2_with fail
   go_region_with (go_at_call 121 ; refine (rint_in n hn0 hn1 _).mono ?_; rintro e w2 ⟨rfl, b2⟩; have jj := fun h => b2.cell (p := ⟨w1.heap.size, 0, none⟩) h; have hbb : Below w1.heap.size w1 w2 := (by first | exact ⟨b2.os, b2.tape, b2.output, b2.size, b2.block⟩ | exact ⟨b2.os, b2.tape, b2.output, Nat.le_trans (by simp) b2.size, fun k hk => (b2.block k (by simp; omega)).trans (alloc_old _ hk)⟩); have i0 := (hbb.cell (p := ⟨w.heap.size, 0, none⟩) hlt1).trans j0; have hbh := hid hbb; clear hbb; have hb2 := hid b2; clear b2)
   all_goals
    have X : Below w.heap.size w w2 := B1.out.trans (hbh.out.mono B1.out.size)
    have HX := hid X
    clear X
    go_wp2
    go_ret
    rw [E.out]
    first
     | exact ⟨rfl, HX.out⟩
     | exact ⟨rfl, HX.out.alloc HX.out.size _⟩
     | exact ⟨rfl, ⟨(HX.out.alloc HX.out.size _).os, (HX.out.alloc HX.out.size _).tape, (HX.out.alloc HX.out.size _).output, (HX.out.alloc HX.out.size _).size, (HX.out.alloc HX.out.size _).block⟩⟩
end Go.Proofs.YthikijlbclckdaaGreat
