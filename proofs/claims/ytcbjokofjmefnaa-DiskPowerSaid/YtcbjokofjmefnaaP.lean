/- DiskPower: with power for so many acts, just so many are done. The walk. -/
import Derived.Test.YtcbjokofjmefnaaS
import Derived.OpenShut
namespace Go.Proofs.Ytcbjokofjmefnaa
open Go.RowKit

namespace Pows
def kF : ByteArray := ⟨#[102]⟩
def x1 : ByteArray := ⟨#[120]⟩
def y1 : ByteArray := ⟨#[121]⟩
def z1 : ByteArray := ⟨#[122]⟩
def pD (i : Nat) (b : ByteArray) (p : Int) (o : Bool) : DiskV := ⟨if i = 0 then [] else [(kF, ⟨b, 0⟩)], p, o⟩
def pD' (i : Nat) (b : ByteArray) : DiskV := ⟨if i = 0 then [] else [(kF, ⟨b, b.size⟩)], -1, false⟩
theorem pD_ok {i : Nat} {b : ByteArray} {p : Int} {o : Bool} (h : b.size ≤ 1048576) : DOk (pD i b p o) := by
  cases i with
  | zero => exact ⟨by simp [pD], by simp [pD]⟩
  | succ k =>
    refine ⟨by simp [pD], fun x hx => ?_⟩
    have : x = (kF, ⟨b, 0⟩) := by simpa [pD] using hx
    subst this
    exact ⟨h, by show (0 : Int) ≤ 0; omega, by show (0 : Int) ≤ (b.size : Int); omega, by show 1 ≤ kF.size; decide, by show kF.size ≤ 32; decide⟩
theorem pD_bad {i : Nat} {b s : ByteArray} {p : Int} (h : b.size + s.size ≤ 1048576) (h0 : i = 0 → b = noS) : apBad (pD i b p false) kF s = 0 := by
  have h1 : ¬ (kF.size < 1 ∨ 32 < kF.size) := by decide
  unfold apBad
  rw [if_neg (by simp [pD]), if_neg h1, if_neg]
  cases i with
  | zero =>
    obtain rfl := h0 rfl
    simp [pD, mlook, fileOr]; omega
  | succ k => simp [pD, mlook, fileOr, mhas]; omega
theorem pD_app {i : Nat} {b s : ByteArray} {p : Int} (h : b.size + s.size ≤ 1048576) (h0 : i = 0 → b = noS) (hp : p ≠ 0) :
    apE (pD i b p false) kF s = 0 ∧ apD (pD i b p false) kF s = pD (i + 1) (b ++ s) (if p > 0 then p - 1 else p) false := by
  have hb := pD_bad (p := p) h h0
  have ha : actE (pD i b p false) = 0 := by simp [actE, pD, hp]
  refine ⟨by simp [apE, hb, ha], ?_⟩
  have hf : (fileOr (mlook (pD i b p false).files kF)) = ⟨b, 0⟩ := by
    cases i with
    | zero => obtain rfl := h0 rfl; simp [pD, mlook, fileOr]
    | succ k => simp [pD, mlook, fileOr]
  unfold apD
  rw [if_pos hb, hf]
  unfold chD
  rw [if_neg (by simpa [pD] using hp)]
  unfold actD
  rw [if_neg (by simpa [pD] using hp)]
  by_cases hp0 : p > 0
  · cases i <;> simp [pD, mput, hp0]
  · cases i <;> simp [pD, mput, hp0]
theorem pD_dead {i : Nat} {b s : ByteArray} (h : b.size + s.size ≤ 1048576) (h0 : i = 0 → b = noS) : apE (pD i b 0 false) kF s = 7 ∧ apD (pD i b 0 false) kF s = pD i b 0 true := by
  have hb := pD_bad (p := 0) h h0
  have ha : actE (pD i b 0 false) = 7 := by simp [actE, pD]
  refine ⟨by simp [apE, hb, ha], ?_⟩
  unfold apD
  rw [if_pos hb]
  simp [chD, actD, pD]
theorem pD_off {i : Nat} {b s : ByteArray} : apE (pD i b 0 true) kF s = 7 ∧ apD (pD i b 0 true) kF s = pD i b 0 true := by
  have hb : apBad (pD i b 0 true) kF s = 7 := by simp [apBad, pD]
  exact ⟨by simp [apE, hb], by simp [apD, hb]⟩
theorem pD_find {i : Nat} {b : ByteArray} : findE (pD i b 0 true) kF = 7 := by simp [findE, pD]
theorem pD_crash {i : Nat} {b : ByteArray} {p : Int} {o : Bool} (q : Int) (hq : (b.size : Int) ≤ q) : crD (pD i b p o) [q] = pD' i b := by
  cases i with
  | zero => simp [crD, pD, pD', crL]
  | succ k =>
    have h : skeys (pD (k + 1) b p o).files = [kF] := by simp [skeys, pD, kF]
    have hs : crS ⟨b, 0⟩ (some q) = b.size := by simp only [crS]; omega
    have he : b.extract 0 b.size = b := by rw [ByteArray.extract_zero_size]
    unfold crD
    rw [h]
    have e1 : (pD (k + 1) b p o).files = [(kF, ⟨b, 0⟩)] := by simp [pD]
    have e2 : crL [(kF, (⟨b, 0⟩ : FileV))] [kF] [q] 1 = [(kF, ⟨b, b.size⟩)] := by
      have : crF ⟨b, 0⟩ (some q) = ⟨b, b.size⟩ := by simp only [crF, hs, Int.toNat_natCast, he]
      simp [crL, mput, mlook, fileOr, this]
    rw [e1]
    show (⟨crL [(kF, (⟨b, 0⟩ : FileV))] [kF] [q] 1, -1, false⟩ : DiskV) = _
    rw [e2]
    simp [pD']
theorem pD'_ok {i : Nat} {b : ByteArray} (h : b.size ≤ 1048576) : DOk (pD' i b) := by
  cases i with
  | zero => exact ⟨by simp [pD'], by simp [pD']⟩
  | succ k =>
    refine ⟨by simp [pD'], fun x hx => ?_⟩
    have : x = (kF, ⟨b, b.size⟩) := by simpa [pD'] using hx
    subst this
    exact ⟨h, by show (0 : Int) ≤ (b.size : Int); omega, by show (b.size : Int) ≤ (b.size : Int); omega, by show 1 ≤ kF.size; decide, by show kF.size ≤ 32; decide⟩
theorem pD'_app {i : Nat} {b s : ByteArray} (h : b.size + s.size ≤ 1048576) (h0 : i = 0 → b = noS) :
    apE (pD' i b) kF s = 0 ∧ apD (pD' i b) kF s = ⟨[(kF, ⟨b ++ s, b.size⟩)], -1, false⟩ := by
  have h1 : ¬ (kF.size < 1 ∨ 32 < kF.size) := by decide
  have hf : (fileOr (mlook (pD' i b).files kF)) = ⟨b, b.size⟩ := by
    cases i with
    | zero => obtain rfl := h0 rfl; simp [pD', mlook, fileOr]; rfl
    | succ k => simp [pD', mlook, fileOr]
  have hb : apBad (pD' i b) kF s = 0 := by
    unfold apBad
    rw [if_neg (by simp [pD']), if_neg h1, if_neg]
    rw [hf]
    cases i <;> simp [pD', mlook, mhas] <;> omega
  have ha : actE (pD' i b) = 0 := by simp [actE, pD']
  refine ⟨by simp [apE, hb, ha], ?_⟩
  unfold apD
  rw [if_pos hb, hf]
  unfold chD
  rw [if_neg (by simp [pD'])]
  unfold actD
  rw [if_neg (by simp [pD']), if_neg (by simp [pD'])]
  cases i <;> simp [pD', mput]
end Pows
open Pows
set_option maxHeartbeats 1000000 in
theorem power_law (pw mo : Int) (w : World) (hw1 : (Lit.int .i64 pw).wf = true) (hw2 : (Lit.int .i64 mo).wf = true) :
    Calls Try.prog 4 #[.int .i64 pw, .int .i64 mo] w fun e w' => e = .returned (.bool true) ∧ Below w.heap.size w w' := by
  have hb1 := bounds_i64 hw1
  have hb2 := bounds_i64 hw2
  clear hw1 hw2
  have t1 : -50 < pw.tmod 50 ∧ pw.tmod 50 < 50 := by
    have := Int.tmod_lt_of_pos pw (show (0 : Int) < 50 by omega)
    have := Int.lt_tmod_of_pos pw (show (0 : Int) < 50 by omega)
    omega
  have t2 : mo.tmod 20 < 20 := Int.tmod_lt_of_pos mo (by omega)
  have t3 : -20 < mo.tmod 20 := Int.lt_tmod_of_pos mo (by omega)
  go_enter Try.func4, Try.ntmps4
  go_wp2_with fail
  refine (shown_any w).mono ?_
  rintro e w1 ⟨rfl, b1⟩
  go_wp2_with fail
  refine (new_any w1).mono ?_
  rintro e w2 ⟨sb, mb, rfl, h2, b2, l1, l2⟩
  have B2 := Lib.hid (b1.trans (b2.mono b1.size))
  have hO : ∀ k, Own sb mb k → w.heap.size ≤ k := fun k hk => by have := b1.size; rcases hk with hk | hk <;> omega
  have HO := Lib.hid hO
  have H2 := Lib.hid h2
  clear b1 b2 hO h2 l1 l2
  go_wp2_with fail
  · generalize mo.tmod 20 = m at t2 t3
    generalize hP : -pw.tmod 50 = P
    have hP0 : 0 ≤ P := by omega
    have hP1 : P ≤ 49 := by omega
    obtain ⟨n, rfl⟩ := Int.eq_ofNat_of_zero_le hP0
    clear hP t1 hb1 hb2 hP0
    refine (power_any sb mb ⟨[], -1, false⟩ n w2 H2.out (by omega)).mono ?_
    rintro e w3 ⟨rfl, h3, b3⟩
    have h3' : IsDisk w3 sb mb (pD 0 noS n false) := by
      have : poD ⟨[], -1, false⟩ n = pD 0 noS n false := by unfold poD pD; rw [if_neg (by omega)]; rfl
      rwa [this] at h3
    have H3 := Lib.hid h3'
    have B3 := Lib.hid b3
    clear h3 b3 h3'
    go_wp2_with fail
    go_loopw [7] (fun v wr => ∃ i : Nat, i ≤ n ∧ v = .int .i64 i ∧ Hid (∃ b, b.size = i ∧ (i = 0 → b = noS) ∧ IsDisk wr sb mb (pD i b ((n : Int) - i) false) ∧ But (Own sb mb) w2 wr)) (fun v _ => n - (intOf v).toNat)
    case atStart => exact ⟨0, Nat.zero_le _, rfl, noS, rfl, fun _ => rfl, by simpa using H3.out, B3.out⟩
    case round =>
      obtain ⟨i, hi, rfl, hR⟩ := hrel
      obtain ⟨b, hbs, hb0, hd, hbut⟩ := hR.out
      have HD := Lib.hid hd
      have HB := Lib.hid hbut
      have HS := Lib.hid hbs
      have H0 := Lib.hid hb0
      clear hR hd hbut hbs hb0
      by_cases hlt : i < n
      · have ha := pD_app (p := (n : Int) - i) (show b.size + x1.size ≤ 1048576 by rw [HS.out]; show i + 1 ≤ _; omega) H0.out (by omega)
        rw [if_pos (by omega)] at ha
        go_wp2_with fail
        refine (append_any sb mb _ kF x1 wr HD.out (pD_ok (by rw [HS.out]; omega)) (by decide)).mono ?_
        rintro e w4 ⟨rfl, h4, b4⟩
        rw [ha.1]
        rw [ha.2] at h4
        have B4 := Lib.hid (HB.out.trans b4)
        clear b4 ha
        go_wp2_with fail
        refine (off_any sb mb _ w4 h4).mono ?_
        rintro e w5 ⟨rfl, rfl⟩
        have H4 := Lib.hid h4
        clear h4
        rw [show (pD (i + 1) (b ++ x1) ((n : Int) - i - 1) false).off = false from rfl]
        go_wp2
        refine ⟨⟨i + 1, by omega, by go_num, b ++ x1, by rw [ByteArray.size_append, HS.out]; rfl, by simp, ?_, B4.out⟩, by simp [intOf]; omega⟩
        rw [show (n : Int) - ((i + 1 : Nat) : Int) = (n : Int) - i - 1 by omega]
        exact H4.out
      · have hin : i = n := by omega
        subst hin
        have hd := HD.out
        rw [show (i : Int) - i = 0 by omega] at hd
        have HD2 := Lib.hid hd
        clear hd HD
        go_wp2_with fail
        go_loopw [9] (fun v wr => ∃ j : Nat, j ≤ 20 ∧ v = .int .i64 j ∧ Hid (IsDisk wr sb mb (pD i b 0 (decide (0 < j))) ∧ But (Own sb mb) w2 wr)) (fun v _ => 20 - (intOf v).toNat)
        case atStart => exact ⟨0, by omega, rfl, HD2.out, HB.out⟩
        case round =>
          obtain ⟨j, hj, rfl, hR⟩ := hrel
          have H5 := Lib.hid hR.out.1
          have B5 := Lib.hid hR.out.2
          clear hR
          have hok : ∀ o, DOk (pD i b 0 o) := fun o => pD_ok (by rw [HS.out]; omega)
          by_cases hjm : (j : Int) ≤ m
          · have ha : apE (pD i b 0 (decide (0 < j))) kF y1 = 7 ∧ apD (pD i b 0 (decide (0 < j))) kF y1 = pD i b 0 true := by
              cases j with
              | zero => exact pD_dead (by rw [HS.out]; show i + 1 ≤ _; omega) H0.out
              | succ j => exact pD_off
            have HA := Lib.hid ha
            have HOK := Lib.hid hok
            clear ha hok
            go_wp2_with fail
            refine (append_any sb mb _ kF y1 wr H5.out (HOK.out _) (by decide)).mono ?_
            rintro e w6 ⟨rfl, h6, b6⟩
            rw [HA.out.1]
            rw [HA.out.2] at h6
            have B6 := Lib.hid (B5.out.trans b6)
            clear b6
            go_wp2_with fail
            refine (read_any sb mb _ kF w6 h6).mono ?_
            rintro e w7 ⟨rfl, b7⟩
            rw [pD_find]
            have h7 := h6.below b7
            have B7 := Lib.hid (B6.out.trans (But.of b7))
            clear b7 h6
            go_wp2_with fail
            refine (off_any sb mb _ w7 h7).mono ?_
            rintro e w8 ⟨rfl, rfl⟩
            have H7 := Lib.hid h7
            clear h7
            rw [show (pD i b 0 true).off = true from rfl]
            go_wp2
            refine ⟨⟨j + 1, by omega, by go_num, ?_, B7.out⟩, by simp [intOf]; omega⟩
            rw [show decide (0 < j + 1) = true by simp]
            exact H7.out
          · have h5s := H5.out.lts
            have h5m := H5.out.ltm
            have HOK := Lib.hid hok
            clear hok
            go_wp2_with fail
            refine (crash_any sb mb _ _ [(i : Int)] _ (by exact H5.out.alloc _) (HOK.out _) (by exact fun W hW => SlR.box _ _ hW (fun hf => by rcases hf with hf | hf <;> omega))).mono ?_
            rintro e w6 ⟨rfl, h6, b6⟩
            rw [pD_crash _ (by rw [HS.out]; omega)] at h6
            have B6 := Lib.hid ((B5.out.alloc _).trans b6)
            clear b6
            have ha := pD'_app (i := i) (s := z1) (show b.size + z1.size ≤ 1048576 by rw [HS.out]; show i + 1 ≤ _; omega) H0.out
            go_wp2_with fail
            refine (append_any sb mb _ kF z1 w6 h6 (pD'_ok (by rw [HS.out]; omega)) (by decide)).mono ?_
            rintro e w7 ⟨rfl, h7, b7⟩
            rw [ha.1]
            rw [ha.2] at h7
            have B7 := Lib.hid (B6.out.trans b7)
            clear b7 h6 ha
            go_wp2_with fail
            refine (read_any sb mb _ kF w7 h7).mono ?_
            rintro e w8 ⟨rfl, b8⟩
            have h8 := h7.below b8
            have B8 := Lib.hid (B7.out.trans (But.of b8))
            clear b8 h7
            have e1 : findE ⟨[(kF, ⟨b ++ z1, b.size⟩)], -1, false⟩ kF = 0 := by simp [findE, mhas, mlook]
            have e2 : (findF ⟨[(kF, ⟨b ++ z1, b.size⟩)], -1, false⟩ kF).b = b ++ z1 := by simp [findF, mlook, fileOr]
            rw [e1, e2]
            have hsz : (b ++ z1).size = i + 1 := by rw [ByteArray.size_append, HS.out]; rfl
            generalize b ++ z1 = bz at hsz
            clear e1 e2
            have hq : (((i + 1 : Nat) : Int) == (i : Int) + 1) = true := by rw [beq_iff_eq]; omega
            go_wp2_with fail
            refine (off_any sb mb _ w8 h8).mono ?_
            rintro e w9 ⟨rfl, rfl⟩
            go_wp2
            go_ret
            exact ⟨rfl, B2.out.trans (B8.out.below B2.out.size HO.out)⟩
  · generalize mo.tmod 20 = m at t2 t3
    generalize hP : pw.tmod 50 = P
    have hP0 : 0 ≤ P := by omega
    have hP1 : P ≤ 49 := by omega
    obtain ⟨n, rfl⟩ := Int.eq_ofNat_of_zero_le hP0
    clear hP t1 hb1 hb2 hP0
    refine (power_any sb mb ⟨[], -1, false⟩ n w2 H2.out (by omega)).mono ?_
    rintro e w3 ⟨rfl, h3, b3⟩
    have h3' : IsDisk w3 sb mb (pD 0 noS n false) := by
      have : poD ⟨[], -1, false⟩ n = pD 0 noS n false := by unfold poD pD; rw [if_neg (by omega)]; rfl
      rwa [this] at h3
    have H3 := Lib.hid h3'
    have B3 := Lib.hid b3
    clear h3 b3 h3'
    go_wp2_with fail
    go_loopw [7] (fun v wr => ∃ i : Nat, i ≤ n ∧ v = .int .i64 i ∧ Hid (∃ b, b.size = i ∧ (i = 0 → b = noS) ∧ IsDisk wr sb mb (pD i b ((n : Int) - i) false) ∧ But (Own sb mb) w2 wr)) (fun v _ => n - (intOf v).toNat)
    case atStart => exact ⟨0, Nat.zero_le _, rfl, noS, rfl, fun _ => rfl, by simpa using H3.out, B3.out⟩
    case round =>
      obtain ⟨i, hi, rfl, hR⟩ := hrel
      obtain ⟨b, hbs, hb0, hd, hbut⟩ := hR.out
      have HD := Lib.hid hd
      have HB := Lib.hid hbut
      have HS := Lib.hid hbs
      have H0 := Lib.hid hb0
      clear hR hd hbut hbs hb0
      by_cases hlt : i < n
      · have ha := pD_app (p := (n : Int) - i) (show b.size + x1.size ≤ 1048576 by rw [HS.out]; show i + 1 ≤ _; omega) H0.out (by omega)
        rw [if_pos (by omega)] at ha
        go_wp2_with fail
        refine (append_any sb mb _ kF x1 wr HD.out (pD_ok (by rw [HS.out]; omega)) (by decide)).mono ?_
        rintro e w4 ⟨rfl, h4, b4⟩
        rw [ha.1]
        rw [ha.2] at h4
        have B4 := Lib.hid (HB.out.trans b4)
        clear b4 ha
        go_wp2_with fail
        refine (off_any sb mb _ w4 h4).mono ?_
        rintro e w5 ⟨rfl, rfl⟩
        have H4 := Lib.hid h4
        clear h4
        rw [show (pD (i + 1) (b ++ x1) ((n : Int) - i - 1) false).off = false from rfl]
        go_wp2
        refine ⟨⟨i + 1, by omega, by go_num, b ++ x1, by rw [ByteArray.size_append, HS.out]; rfl, by simp, ?_, B4.out⟩, by simp [intOf]; omega⟩
        rw [show (n : Int) - ((i + 1 : Nat) : Int) = (n : Int) - i - 1 by omega]
        exact H4.out
      · have hin : i = n := by omega
        subst hin
        have hd := HD.out
        rw [show (i : Int) - i = 0 by omega] at hd
        have HD2 := Lib.hid hd
        clear hd HD
        go_wp2_with fail
        go_loopw [9] (fun v wr => ∃ j : Nat, j ≤ 20 ∧ v = .int .i64 j ∧ Hid (IsDisk wr sb mb (pD i b 0 (decide (0 < j))) ∧ But (Own sb mb) w2 wr)) (fun v _ => 20 - (intOf v).toNat)
        case atStart => exact ⟨0, by omega, rfl, HD2.out, HB.out⟩
        case round =>
          obtain ⟨j, hj, rfl, hR⟩ := hrel
          have H5 := Lib.hid hR.out.1
          have B5 := Lib.hid hR.out.2
          clear hR
          have hok : ∀ o, DOk (pD i b 0 o) := fun o => pD_ok (by rw [HS.out]; omega)
          by_cases hjm : (j : Int) ≤ m
          · have ha : apE (pD i b 0 (decide (0 < j))) kF y1 = 7 ∧ apD (pD i b 0 (decide (0 < j))) kF y1 = pD i b 0 true := by
              cases j with
              | zero => exact pD_dead (by rw [HS.out]; show i + 1 ≤ _; omega) H0.out
              | succ j => exact pD_off
            have HA := Lib.hid ha
            have HOK := Lib.hid hok
            clear ha hok
            go_wp2_with fail
            refine (append_any sb mb _ kF y1 wr H5.out (HOK.out _) (by decide)).mono ?_
            rintro e w6 ⟨rfl, h6, b6⟩
            rw [HA.out.1]
            rw [HA.out.2] at h6
            have B6 := Lib.hid (B5.out.trans b6)
            clear b6
            go_wp2_with fail
            refine (read_any sb mb _ kF w6 h6).mono ?_
            rintro e w7 ⟨rfl, b7⟩
            rw [pD_find]
            have h7 := h6.below b7
            have B7 := Lib.hid (B6.out.trans (But.of b7))
            clear b7 h6
            go_wp2_with fail
            refine (off_any sb mb _ w7 h7).mono ?_
            rintro e w8 ⟨rfl, rfl⟩
            have H7 := Lib.hid h7
            clear h7
            rw [show (pD i b 0 true).off = true from rfl]
            go_wp2
            refine ⟨⟨j + 1, by omega, by go_num, ?_, B7.out⟩, by simp [intOf]; omega⟩
            rw [show decide (0 < j + 1) = true by simp]
            exact H7.out
          · have h5s := H5.out.lts
            have h5m := H5.out.ltm
            have HOK := Lib.hid hok
            clear hok
            go_wp2_with fail
            refine (crash_any sb mb _ _ [(i : Int)] _ (by exact H5.out.alloc _) (HOK.out _) (by exact fun W hW => SlR.box _ _ hW (fun hf => by rcases hf with hf | hf <;> omega))).mono ?_
            rintro e w6 ⟨rfl, h6, b6⟩
            rw [pD_crash _ (by rw [HS.out]; omega)] at h6
            have B6 := Lib.hid ((B5.out.alloc _).trans b6)
            clear b6
            have ha := pD'_app (i := i) (s := z1) (show b.size + z1.size ≤ 1048576 by rw [HS.out]; show i + 1 ≤ _; omega) H0.out
            go_wp2_with fail
            refine (append_any sb mb _ kF z1 w6 h6 (pD'_ok (by rw [HS.out]; omega)) (by decide)).mono ?_
            rintro e w7 ⟨rfl, h7, b7⟩
            rw [ha.1]
            rw [ha.2] at h7
            have B7 := Lib.hid (B6.out.trans b7)
            clear b7 h6 ha
            go_wp2_with fail
            refine (read_any sb mb _ kF w7 h7).mono ?_
            rintro e w8 ⟨rfl, b8⟩
            have h8 := h7.below b8
            have B8 := Lib.hid (B7.out.trans (But.of b8))
            clear b8 h7
            have e1 : findE ⟨[(kF, ⟨b ++ z1, b.size⟩)], -1, false⟩ kF = 0 := by simp [findE, mhas, mlook]
            have e2 : (findF ⟨[(kF, ⟨b ++ z1, b.size⟩)], -1, false⟩ kF).b = b ++ z1 := by simp [findF, mlook, fileOr]
            rw [e1, e2]
            have hsz : (b ++ z1).size = i + 1 := by rw [ByteArray.size_append, HS.out]; rfl
            generalize b ++ z1 = bz at hsz
            clear e1 e2
            have hq : (((i + 1 : Nat) : Int) == (i : Int) + 1) = true := by rw [beq_iff_eq]; omega
            go_wp2_with fail
            refine (off_any sb mb _ w8 h8).mono ?_
            rintro e w9 ⟨rfl, rfl⟩
            go_wp2
            go_ret
            exact ⟨rfl, B2.out.trans (B8.out.below B2.out.size HO.out)⟩
end Go.Proofs.Ytcbjokofjmefnaa
