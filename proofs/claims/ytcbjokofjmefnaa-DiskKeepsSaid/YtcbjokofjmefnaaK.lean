/- DiskKeeps: what was synced is read behind any crash. The walk. -/
import Derived.Test.YtcbjokofjmefnaaS
import Derived.Test.YtcbjokofjmefnaaT
namespace Go.Proofs.Ytcbjokofjmefnaa
open Go.RowKit

namespace Keeps
def kF : ByteArray := ⟨#[102]⟩
def kD (k : Nat) (all : ByteArray) (sure : Int) : DiskV := ⟨if k = 0 then [] else [(kF, ⟨all, sure⟩)], -1, false⟩
def St (k : Nat) (all : ByteArray) (sure : Int) : Prop := all.size ≤ 1048576 ∧ 0 ≤ sure ∧ sure ≤ all.size ∧ (k = 0 → all = noS ∧ sure = 0)
theorem kD_ok {k : Nat} {all : ByteArray} {sure : Int} (h : St k all sure) : DOk (kD k all sure) := by
  cases k with
  | zero => exact ⟨by simp [kD], by simp [kD]⟩
  | succ k =>
    refine ⟨by simp [kD], fun x hx => ?_⟩
    have : x = (kF, ⟨all, sure⟩) := by simpa [kD] using hx
    subst this
    exact ⟨h.1, h.2.1, h.2.2.1, by show 1 ≤ kF.size; decide, by show kF.size ≤ 32; decide⟩
theorem kD_act (k : Nat) (all : ByteArray) (sure : Int) : actE (kD k all sure) = 0 := by simp [actE, kD]
theorem kD_bad {k : Nat} {all s : ByteArray} {sure : Int} (h : St k all sure) : apBad (kD k all sure) kF s = if 1048576 < all.size + s.size then 4 else 0 := by
  have h1 : ¬ (kF.size < 1 ∨ 32 < kF.size) := by decide
  unfold apBad
  rw [if_neg (by simp [kD]), if_neg h1]
  cases k with
  | zero =>
    obtain ⟨rfl, rfl⟩ := h.2.2.2 rfl
    simp [kD, mlook, fileOr, mhas]
  | succ k => simp [kD, mlook, fileOr, mhas]
theorem kD_full {k : Nat} {all s : ByteArray} {sure : Int} (h : St k all sure) (hs : 1048576 < all.size + s.size) : apE (kD k all sure) kF s = 4 := by
  simp [apE, kD_bad h, hs]
theorem kD_app {k : Nat} {all s : ByteArray} {sure : Int} (h : St k all sure) (hs : ¬ 1048576 < all.size + s.size) : apE (kD k all sure) kF s = 0 ∧ apD (kD k all sure) kF s = kD (k + 1) (all ++ s) sure := by
  refine ⟨by simp [apE, kD_bad h, hs, kD_act], ?_⟩
  cases k with
  | zero =>
    obtain ⟨rfl, rfl⟩ := h.2.2.2 rfl
    simp [apD, kD_bad h, hs, chD, actD]
    simp [kD, mput, mlook, fileOr]
  | succ k =>
    simp [apD, kD_bad h, hs, chD, actD]
    simp [kD, mput, mlook, fileOr]
theorem kD_sync (k : Nat) (all : ByteArray) (sure : Int) : syE (kD (k + 1) all sure) kF = 0 ∧ syD (kD (k + 1) all sure) kF = kD (k + 1) all all.size := by
  have h1 : findE (kD (k + 1) all sure) kF = 0 := by simp [findE, kD, mhas, mlook]
  have h2 : findF (kD (k + 1) all sure) kF = ⟨all, sure⟩ := by simp [findF, kD, mlook, fileOr]
  refine ⟨by simp [syE, h1, kD_act], ?_⟩
  simp [syD, h1, h2, chD, actD]
  simp [kD, mput]
theorem kD_crash0 (all : ByteArray) (sure : Int) (kp : List Int) : crD (kD 0 all sure) kp = kD 0 noS 0 := by
  simp [crD, kD, crL]
theorem kD_crash (k : Nat) (all : ByteArray) (sure keep : Int) : crD (kD (k + 1) all sure) [keep] = kD (k + 1) (all.extract 0 (crS ⟨all, sure⟩ (some keep)).toNat) (crS ⟨all, sure⟩ (some keep)) := by
  have h : skeys (kD (k + 1) all sure).files = [kF] := by simp [skeys, kD, kF]
  unfold crD
  rw [h]
  simp [kD, crL, mput, mlook, fileOr, crF]
theorem kD_find0 (all : ByteArray) (sure : Int) : findE (kD 0 all sure) kF = 5 := by simp [findE, kD, mhas, mlook]
theorem kD_find (k : Nat) (all : ByteArray) (sure : Int) : findE (kD (k + 1) all sure) kF = 0 ∧ findF (kD (k + 1) all sure) kF = ⟨all, sure⟩ := by
  exact ⟨by simp [findE, kD, mhas, mlook], by simp [findF, kD, mlook, fileOr]⟩
end Keeps
open Keeps
set_option maxHeartbeats 1000000 in
theorem keeps_law (v : Value) (l : List ByteArray) (synced keep : Int) (w : World) (hl : repStr.SR (fun k => k < w.heap.size) w v l) :
    Calls Try.prog 3 #[v, .int .i64 synced, .int .i64 keep] w fun e w' => e = .returned (.bool true) ∧ Below w.heap.size w w' := by
  obtain ⟨a, cap, rfl, hlen, hcap, -⟩ := SR_str hl
  have HL := Lib.hid hl
  clear hl
  go_enter Try.func3, Try.ntmps3
  go_wp2_with fail
  refine (shown_any w).mono ?_
  rintro e w1 ⟨rfl, b1⟩
  go_wp2_with fail
  refine (new_any w1).mono ?_
  rintro e w2 ⟨sb, mb, rfl, h2, b2, l1, l2⟩
  have B2 := Lib.hid (b1.trans (b2.mono b1.size))
  have hO : ∀ k, Own sb mb k → w.heap.size ≤ k := fun k hk => by have := b1.size; rcases hk with hk | hk <;> omega
  have HO := Lib.hid hO
  have H2 := Lib.hid h2
  clear b1 b2 hO h2 l1 l2
  go_wp2_with fail
  go_loopw [9, 10, 11] (fun v9 v10 v11 wr => ∃ (k : Nat) (all : ByteArray) (sure : Int), k ≤ l.length ∧ v9 = .string all ∧ v10 = .int .i64 sure ∧ v11 = .int .i64 k ∧ Hid (IsDisk wr sb mb (kD k all sure) ∧ But (Own sb mb) w2 wr ∧ St k all sure)) (fun _ _ v11 _ => l.length - (intOf v11).toNat)
  case atStart => exact ⟨0, noS, 0, Nat.zero_le _, rfl, rfl, rfl, H2.out, But.refl _ _, by decide, by decide, by decide, fun _ => ⟨rfl, rfl⟩⟩
  case round =>
    obtain ⟨k, all, sure, hk, rfl, rfl, rfl, hR⟩ := hrel
    have hbw : Hid (Below w.heap.size w wr) := (B2.out.trans (hR.out.2.1.below B2.out.size HO.out))
    by_cases hlt : k < l.length
    · obtain ⟨a', cap', hv, -, -, hcell⟩ := SR_str (HL.out.mono (fun i hi _ => hbw.out.block i hi))
      cases hv
      obtain ⟨b, off, rfl, hbS, hc, hsz⟩ := hcell k l[k] (List.getElem?_eq_getElem hlt)
      generalize hs : l[k] = s at hc hsz
      have Hs := Lib.hid hs
      clear hcell hs
      go_wp2_with fail
      refine (append_any sb mb (kD k all sure) kF s wr hR.out.1 (kD_ok hR.out.2.2) hsz).mono ?_
      rintro e w3 ⟨rfl, h3, b3⟩
      have hst := hR.out.2.2
      by_cases hfull : 1048576 < all.size + s.size
      · rw [kD_full hst hfull]
        have B3 := Lib.hid b3
        clear h3 b3 hst
        go_wp2
        go_ret
        exact ⟨rfl, hbw.out.trans ((B3.out.below hbw.out.size HO.out))⟩
      · rw [(kD_app hst hfull).1]
        rw [(kD_app hst hfull).2] at h3
        have hc3 : w3.cell? ⟨b, off + k, none⟩ = some (.string s) := b3.cell hc (fun hf => by have := HO.out b hf; omega)
        have B3 := Lib.hid (hR.out.2.1.trans b3)
        have H3 := Lib.hid h3
        have hsum : all.size + s.size ≤ 1048576 := by omega
        have hap : (all ++ s).size = all.size + s.size := ByteArray.size_append
        have hst' : Hid (St k all sure) := hst
        clear h3 b3 hst hfull
        by_cases hsy : (k : Int) = synced
        · have hq : ((k : Int) == synced) = true := by rw [beq_iff_eq]; exact hsy
          clear hsy
          generalize hall : all ++ s = all2 at hap
          have HA := Lib.hid hall
          rw [hall] at H3
          clear hall
          go_wp2_with fail
          rw [HA.out]
          refine (sync_any sb mb (kD (k + 1) all2 sure) kF w3 H3.out).mono ?_
          rintro e w4 ⟨rfl, h4, b4⟩
          rw [(kD_sync k all2 sure).1]
          rw [(kD_sync k all2 sure).2] at h4
          have B4 := Lib.hid (B3.out.trans b4)
          have H4 := Lib.hid h4
          clear h4 b4
          go_wp2
          refine ⟨⟨k + 1, all2, all2.size, by omega, rfl, congrArg (Value.int .i64) (by omega), by go_num, H4.out, B4.out, by omega, by omega, by omega, by simp⟩, by simp [intOf]; omega⟩
        · have hq : ((k : Int) == synced) = false := by rw [beq_eq_false_iff_ne]; exact hsy
          clear hsy
          go_wp2
          have hst := hst'.out
          refine ⟨⟨k + 1, all ++ s, sure, by omega, rfl, rfl, by go_num, H3.out, B3.out, by omega, hst.2.1, by have := hst.2.2.1; omega, by simp⟩, by simp [intOf]; omega⟩
    · have hkl : k = l.length := by omega
      subst hkl
      have hlts := hR.out.1.lts
      have hltm := hR.out.1.ltm
      go_wp2_with fail
      refine (crash_any sb mb (kD l.length all sure) _ [keep] _ (by exact hR.out.1.alloc _) (kD_ok hR.out.2.2) (by exact fun W hW => SlR.box _ _ hW (fun hf => by rcases hf with hf | hf <;> omega))).mono ?_
      rintro e w3 ⟨rfl, h3, b3⟩
      have B3 := Lib.hid ((hR.out.2.1.alloc _).trans b3)
      clear b3
      go_wp2_with fail
      refine (read_any sb mb _ kF w3 h3).mono ?_
      rintro e w4 ⟨rfl, b4⟩
      have B4 : Hid (Below w.heap.size w w4) := B2.out.trans ((B3.out.trans (But.of b4)).below B2.out.size HO.out)
      have hst := hR.out.2.2
      clear b4 h3
      by_cases hl0 : l.length = 0
      · have hq : ((l.length : Int) == 0) = true := by rw [beq_iff_eq]; omega
        rw [hl0, kD_crash0, kD_find0, ← hl0]
        clear hl0 hst
        go_wp2
        go_ret
        exact ⟨rfl, B4.out⟩
      · have hq : ((l.length : Int) == 0) = false := by rw [beq_eq_false_iff_ne]; omega
        obtain ⟨n, hn⟩ : ∃ n, l.length = n + 1 := ⟨l.length - 1, by omega⟩
        have e1 : findE (crD (kD l.length all sure) [keep]) kF = 0 := by rw [hn, kD_crash, (kD_find _ _ _).1]
        have e2 : (findF (crD (kD l.length all sure) [keep]) kF).b = all.extract 0 (crS ⟨all, sure⟩ (some keep)).toNat := by rw [hn, kD_crash, (kD_find _ _ _).2]
        rw [e1, e2]
        clear e1 e2 hl0 hn
        obtain ⟨h1, h2, h3, -⟩ := hst
        obtain ⟨m, rfl⟩ := Int.eq_ofNat_of_zero_le h2
        by_cases hk0 : keep ≤ 0
        · have e : (crS ⟨all, (m : Int)⟩ (some keep)).toNat = m := by simp only [crS]; omega
          rw [e]
          clear e
          have hk1 : ¬ 0 < keep := by omega
          go_wp2
          go_ret
          exact ⟨rfl, B4.out⟩
        · have hk1 : 0 < keep := by omega
          obtain ⟨q, rfl⟩ := Int.eq_ofNat_of_zero_le (show 0 ≤ keep by omega)
          by_cases hk2 : (q : Int) < (all.size : Int) - (m : Int)
          · have e : (crS ⟨all, (m : Int)⟩ (some (q : Int))).toNat = m + q := by simp only [crS]; omega
            rw [e]
            clear e hk0
            go_wp2
            go_ret
            exact ⟨rfl, B4.out⟩
          · have e : (crS ⟨all, (m : Int)⟩ (some (q : Int))).toNat = all.size := by simp only [crS]; omega
            rw [e]
            clear e hk0
            go_wp2
            go_ret
            exact ⟨rfl, B4.out⟩
end Go.Proofs.Ytcbjokofjmefnaa
