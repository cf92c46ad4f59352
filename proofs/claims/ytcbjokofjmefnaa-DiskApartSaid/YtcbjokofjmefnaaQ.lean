/- DiskApart: what is done to a file changes no other one. The walk. -/
import Derived.Test.YtcbjokofjmefnaaS
import Derived.Test.YtcbjokofjmefnaaT
namespace Go.Proofs.Ytcbjokofjmefnaa
open Go.RowKit

theorem cells_apart : Try.prog.cellsOf 37 = 4 := by kernel_rfl
noncomputable def repApart : Rep Try.prog 37 (List ByteArray × ByteArray × ByteArray × Int × Unit) :=
  Rep.struct Try.underlying37 (Fl.cons repStrs (Fl.cons repStr (Fl.cons repStr (Fl.cons repInt (Fl.nil _))))) id
set_option maxRecDepth 100000 in
theorem open_apart {S : Nat → Prop} {w : World} {cs : Array Value} {x : List ByteArray × ByteArray × ByteArray × Int × Unit} (h : repApart.R S w cs.toList x) :
    ∃ v, cs = #[v, .string x.2.1, .string x.2.2.1, .int .i64 x.2.2.2.1] ∧ repStr.SR S w v x.1 ∧ x.2.1.size ≤ 140737488351232 ∧ x.2.2.1.size ≤ 140737488351232 := by
  obtain ⟨hl, y, ⟨h0, h1, h2, h3, _⟩, rfl⟩ := h
  rw [cells_apart] at hl
  obtain ⟨l⟩ := cs
  simp only at hl h0 h1 h2 h3
  match l, hl with
  | [c0, c1, c2, c3], _ =>
    obtain ⟨v, hv, hs⟩ := h0
    simp only [cells_strings, List.drop_zero, List.take_succ_cons, List.take_zero] at hv
    obtain ⟨h1, b1⟩ := h1
    obtain ⟨h2, b2⟩ := h2
    obtain ⟨h3, _⟩ := h3
    simp only [cells_string, cells_int, List.drop_succ_cons, List.drop_zero, List.take_succ_cons, List.take_zero, List.cons.injEq, and_true] at hv h1 h2 h3
    subst hv h1 h2 h3
    exact ⟨c0, rfl, hs, b1, b2⟩

theorem noS_app (a : ByteArray) : noS ++ a = a := ByteArray.empty_append
namespace Aparts
def kA : ByteArray := ⟨#[97]⟩
def kB : ByteArray := ⟨#[98]⟩
def kC : ByteArray := ⟨#[99]⟩
theorem ab : kA ≠ kB := by decide
theorem ac : kA ≠ kC := by decide
theorem bc : kB ≠ kC := by decide
def aD (A B : ByteArray) (o : Option FileV) : DiskV := ⟨(kA, ⟨A, A.size⟩) :: (kC, ⟨B, 0⟩) :: (match o with | none => [] | some f => [(kB, f)]), -1, false⟩
def OOk (o : Option FileV) : Prop := ∀ f, o = some f → FOk f
section
variable {A B : ByteArray} {o : Option FileV}
theorem aD_ok (hA : A.size ≤ 1000) (hB : B.size ≤ 1000) (ho : OOk o) : DOk (aD A B o) := by
  have h1 : 1 ≤ kA.size ∧ kA.size ≤ 32 := by decide
  have h2 : 1 ≤ kB.size ∧ kB.size ≤ 32 := by decide
  have h3 : 1 ≤ kC.size ∧ kC.size ≤ 32 := by decide
  refine ⟨by cases o <;> simp [aD], fun x hx => ?_⟩
  have hx : x = (kA, ⟨A, A.size⟩) ∨ x = (kC, ⟨B, 0⟩) ∨ ∃ f, o = some f ∧ x = (kB, f) := by
    cases o <;> simpa [aD] using hx
  rcases hx with rfl | rfl | ⟨f, hf, rfl⟩
  · exact ⟨by show A.size ≤ _; omega, by show (0 : Int) ≤ A.size; omega, Int.le_refl _, h1⟩
  · exact ⟨by show B.size ≤ _; omega, by show (0 : Int) ≤ 0; omega, by show (0 : Int) ≤ B.size; omega, h3⟩
  · exact ⟨(ho f hf).1, (ho f hf).2.1, (ho f hf).2.2, h2⟩
theorem look_b : mlook (aD A B o).files kB = o := by
  cases o <;> simp [aD, mlook, Ne.symm ab, bc]
theorem put_b (f : FileV) : mput (aD A B o).files kB f = (aD A B (some f)).files := by
  cases o <;> simp [aD, mput, Ne.symm ab, bc]
theorem del_b : mdel (aD A B o).files kB = (aD A B none).files := by
  cases o <;> simp [aD, mdel, Ne.symm ab, bc]
theorem ch_b (f : FileV) : chD (aD A B o) kB f = aD A B (some f) := by
  unfold chD
  rw [if_neg (by simp [aD]), put_b]
  unfold actD
  rw [if_neg (by simp [aD]), if_neg (by simp [aD])]
  simp [aD]
theorem app_b (s : ByteArray) (ho : OOk o) : ∃ o', apD (aD A B o) kB s = aD A B o' ∧ OOk o' := by
  unfold apD
  split
  · rename_i hb
    rw [ch_b, look_b]
    refine ⟨_, rfl, fun f hf => ?_⟩
    injection hf with hf
    subst hf
    have hsz : (fileOr o).b.size + s.size ≤ 1048576 := by
      unfold apBad at hb
      rw [look_b] at hb
      by_cases h1 : 1048576 < (fileOr o).b.size + s.size
      · exfalso
        rw [if_neg (by simp [aD]), if_neg (by decide), if_pos (.inl h1)] at hb
        omega
      · omega
    have hfo : FOk (fileOr o) := by
      cases o with
      | none => exact ⟨by show (0 : Nat) ≤ _; omega, by show (0 : Int) ≤ 0; omega, by show (0 : Int) ≤ ((0 : Nat) : Int); omega⟩
      | some f => exact ho f rfl
    exact ⟨by rw [ByteArray.size_append]; omega, hfo.2.1, by have := hfo.2.2; rw [ByteArray.size_append]; simp only [Int.natCast_add]; omega⟩
  · exact ⟨o, rfl, ho⟩
theorem find_b : findE (aD A B o) kB = (if o.isSome then 0 else 5) ∧ findF (aD A B o) kB = fileOr o := by
  constructor
  · unfold findE
    rw [if_neg (by simp [aD]), mhas, look_b]
  · unfold findF
    rw [if_neg (by simp [aD]), look_b]
theorem sync_b (ho : OOk o) : ∃ o', syD (aD A B o) kB = aD A B o' ∧ OOk o' := by
  cases o with
  | none => exact ⟨none, by simp [syD, find_b.1], ho⟩
  | some f =>
    refine ⟨some ⟨f.b, f.b.size⟩, ?_, fun g hg => ?_⟩
    · unfold syD
      rw [if_pos (by simp [find_b.1]), ch_b, find_b.2]
      rfl
    · injection hg with hg
      subst hg
      exact ⟨(ho f rfl).1, by show (0 : Int) ≤ f.b.size; omega, Int.le_refl _⟩
theorem cut_b (ho : OOk o) : ∃ o', cuD (aD A B o) kB 0 = aD A B o' ∧ OOk o' := by
  cases o with
  | none =>
    refine ⟨none, ?_, ho⟩
    have : cuBad (aD A B none) kB 0 = 5 := by simp [cuBad, find_b.1]
    simp [cuD, this]
  | some f =>
    have hf := ho f rfl
    have h0 : cuBad (aD A B (some f)) kB 0 = 0 := by
      unfold cuBad
      rw [if_pos (by simp [find_b.1]), if_neg]
      omega
    refine ⟨some ⟨f.b.extract 0 0, minI f.safe 0⟩, ?_, fun g hg => ?_⟩
    · unfold cuD
      rw [if_pos h0, ch_b, find_b.2]
      rfl
    · injection hg with hg
      subst hg
      have hm : minI f.safe 0 = 0 := by unfold minI; have := hf.2.1; split <;> omega
      exact ⟨by simp, by rw [hm]; exact Int.le_refl _, by rw [hm]; exact Int.natCast_nonneg _⟩
theorem del_bD : deD (aD A B o) kB = aD A B none := by
  cases o with
  | none => simp [deD, find_b.1]
  | some f =>
    unfold deD
    rw [if_pos (by simp [find_b.1]), if_neg (by simp [aD]), del_b]
    unfold actD
    rw [if_neg (by simp [aD]), if_neg (by simp [aD])]
    simp [aD]
theorem find_a : findE (aD A B o) kA = 0 ∧ (findF (aD A B o) kA).b = A := by
  constructor
  · simp [findE, aD, mhas, mlook]
  · simp [findF, aD, mlook, fileOr]
theorem find_c : findE (aD A B o) kC = 0 ∧ (findF (aD A B o) kC).b = B := by
  constructor
  · simp [findE, aD, mhas, mlook, Ne.symm ac]
  · simp [findF, aD, mlook, fileOr, Ne.symm ac]
theorem keys_ac : skeys (aD A B none).files = [kA, kC] := by
  have h : ([[97], [99]] : List (List UInt8)).mergeSort leB = [[97], [99]] := List.mergeSort_of_pairwise (by simp [leB]; decide)
  simp [skeys, aD, kA, kC, h]
theorem crash_ac (keep : Int) : crD (aD A B none) [keep, B.size] = ⟨[(kA, ⟨A, A.size⟩), (kC, ⟨B, B.size⟩)], -1, false⟩ := by
  unfold crD
  rw [keys_ac]
  have h1 : crF ⟨A, A.size⟩ (some keep) = ⟨A, A.size⟩ := by
    have : crS ⟨A, A.size⟩ (some keep) = A.size := by simp only [crS]; omega
    simp only [crF, this, Int.toNat_natCast, ByteArray.extract_zero_size]
  have h2 : crF ⟨B, 0⟩ (some (B.size : Int)) = ⟨B, B.size⟩ := by
    have : crS ⟨B, 0⟩ (some (B.size : Int)) = B.size := by simp only [crS]; omega
    simp only [crF, this, Int.toNat_natCast, ByteArray.extract_zero_size]
  show (⟨crL [(kA, ⟨A, A.size⟩), (kC, ⟨B, 0⟩)] [kA, kC] [keep, B.size] 2, -1, false⟩ : DiskV) = _
  simp [crL, mput, mlook, fileOr, h1, h2, Ne.symm ac]
theorem a_1 (hA : A.size ≤ 1000) : apD ⟨[], -1, false⟩ kA A = ⟨[(kA, ⟨A, 0⟩)], -1, false⟩ := by
  have hb : apBad ⟨[], -1, false⟩ kA A = 0 := by
    unfold apBad
    rw [if_neg (by simp), if_neg (by decide), if_neg]
    have : noS.size = 0 := rfl
    simp [mlook, fileOr, this]; omega
  unfold apD
  rw [if_pos hb]
  simp [chD, actD, mput, mlook, fileOr, noS_app]
theorem a_2 : syD ⟨[(kA, ⟨A, 0⟩)], -1, false⟩ kA = ⟨[(kA, ⟨A, A.size⟩)], -1, false⟩ := by
  simp [syD, findE, findF, mhas, mlook, fileOr, chD, actD, mput]
theorem a_3 (hB : B.size ≤ 1000) : apD ⟨[(kA, ⟨A, A.size⟩)], -1, false⟩ kC B = aD A B none := by
  have hb : apBad ⟨[(kA, ⟨A, A.size⟩)], -1, false⟩ kC B = 0 := by
    unfold apBad
    rw [if_neg (by simp), if_neg (by decide), if_neg]
    have : noS.size = 0 := rfl
    simp [mlook, fileOr, Ne.symm ac, this]; omega
  unfold apD
  rw [if_pos hb]
  simp [chD, actD, mput, mlook, fileOr, Ne.symm ac, noS_app, aD]
theorem ok_1 (s : Int) (hA : A.size ≤ 1000) (hs : 0 ≤ s ∧ s ≤ A.size) : DOk ⟨[(kA, ⟨A, s⟩)], -1, false⟩ :=
  ⟨by show 1 ≤ 256; omega, fun x hx => by
    have : x = (kA, ⟨A, s⟩) := by simpa using hx
    subst this
    exact ⟨by show A.size ≤ _; omega, hs.1, hs.2, by show 1 ≤ kA.size; decide, by show kA.size ≤ 32; decide⟩⟩
end
end Aparts
open Aparts
theorem ok_0 : DOk ⟨[], -1, false⟩ := ⟨by show 0 ≤ 256; omega, by simp⟩
set_option maxHeartbeats 2000000 in
theorem apart_law (cs : Array Value) (x : List ByteArray × ByteArray × ByteArray × Int × Unit) (w : World) (hr : repApart.R (fun k => k < w.heap.size) w cs.toList x) :
    Calls Try.prog 5 #[.agg cs] w fun e w' => e = .returned (.bool true) ∧ Below w.heap.size w w' := by
  obtain ⟨l, A, B, keep, u⟩ := x
  obtain ⟨v, rfl, hl, hA, hB⟩ := open_apart hr
  clear hr
  simp only at hl hA hB ⊢
  obtain ⟨a, cap, rfl, hlen, hcap, -⟩ := SR_str hl
  have HL := Lib.hid hl
  clear hl
  go_enter Try.func5, Try.ntmps5
  go_wp2_with fail
  refine (shown_any _).mono ?_
  rintro e w1 ⟨rfl, b1⟩
  go_wp2_with fail
  refine (new_any w1).mono ?_
  rintro e w2 ⟨sb, mb, rfl, h2, b2, l1, l2⟩
  have hs1 : w.heap.size ≤ w1.heap.size := by have := b1.size; simp at this; omega
  have B2 : Hid (Below w.heap.size w w2) := (((Below.refl _ w).alloc (Nat.le_refl _) _).trans (b1.mono (by simp))).trans (b2.mono hs1)
  have hO : ∀ k, Own sb mb k → w.heap.size ≤ k := fun k hk => by rcases hk with hk | hk <;> omega
  have HO := Lib.hid hO
  have H2 := Lib.hid h2
  clear b1 b2 hO h2 l1 l2
  by_cases hA1 : 1000 < A.size
  · go_wp2
    go_ret
    exact ⟨rfl, B2.out⟩
  by_cases hB1 : 1000 < B.size
  · go_wp2
    go_ret
    exact ⟨rfl, B2.out⟩
  have hA2 : A.size ≤ 1000 := by omega
  have hB2 : B.size ≤ 1000 := by omega
  go_wp2_with fail
  refine (append_any sb mb _ kA A w2 H2.out ok_0 hA).mono ?_
  rintro e w3 ⟨rfl, h3, b3⟩
  rw [a_1 hA2] at h3
  have B3 := Lib.hid b3
  clear b3
  go_wp2_with fail
  refine (sync_any sb mb _ kA w3 h3).mono ?_
  rintro e w4 ⟨rfl, h4, b4⟩
  rw [a_2] at h4
  have B4 := Lib.hid (B3.out.trans b4)
  clear b4 h3
  go_wp2_with fail
  refine (append_any sb mb _ kC B w4 h4 (ok_1 _ hA2 ⟨by omega, Int.le_refl _⟩) hB).mono ?_
  rintro e w5 ⟨rfl, h5, b5⟩
  rw [a_3 hB2] at h5
  have B5 := Lib.hid (B4.out.trans b5)
  have H5 := Lib.hid h5
  clear b5 h4 h5
  go_wp2_with fail
  go_loopw [9] (fun v wr => ∃ k : Nat, k ≤ l.length ∧ v = .int .i64 k ∧ Hid (∃ o, IsDisk wr sb mb (aD A B o) ∧ But (Own sb mb) w2 wr ∧ OOk o)) (fun v _ => l.length - (intOf v).toNat)
  case atStart => exact ⟨0, Nat.zero_le _, rfl, none, H5.out, B5.out, by intro f hf; cases hf⟩
  case round =>
    obtain ⟨k, hk, rfl, hR⟩ := hrel
    obtain ⟨o, hd, hbut, hoo⟩ := hR.out
    have HD := Lib.hid hd
    have HB := Lib.hid hbut
    have HOO := Lib.hid hoo
    clear hR hd hbut hoo
    by_cases hlt : k < l.length
    · obtain ⟨a', cap', hv, -, -, hcell⟩ := SR_str (HL.out.mono (fun i hi _ => (B2.out.trans (HB.out.below B2.out.size HO.out)).block i hi))
      cases hv
      obtain ⟨b, off, rfl, hbS, hc, hsz⟩ := hcell k l[k] (List.getElem?_eq_getElem hlt)
      generalize hs : l[k] = s at hc hsz
      clear hcell hs
      go_wp2_with fail
      refine (append_any sb mb _ kB s wr HD.out (aD_ok hA2 hB2 HOO.out) hsz).mono ?_
      rintro e w6 ⟨rfl, h6, b6⟩
      obtain ⟨o1, e1, ho1⟩ := app_b (A := A) (B := B) s HOO.out
      rw [e1] at h6
      have B6 := Lib.hid (HB.out.trans b6)
      have H6 := Lib.hid h6
      have HO1 := Lib.hid ho1
      clear b6 e1 h6 ho1
      rcases (show k % 3 = 0 ∨ k % 3 = 1 ∨ k % 3 = 2 by omega) with hm | hm | hm
      · have q1 : ((k : Int) % 3 == 1) = false := by rw [beq_eq_false_iff_ne]; omega
        have q2 : ((k : Int) % 3 == 2) = false := by rw [beq_eq_false_iff_ne]; omega
        clear hm
        go_wp2
        exact ⟨⟨k + 1, by omega, by go_num, o1, H6.out, B6.out, HO1.out⟩, by simp [intOf]; omega⟩
      · have q1 : ((k : Int) % 3 == 1) = true := by rw [beq_iff_eq]; omega
        have q2 : ((k : Int) % 3 == 2) = false := by rw [beq_eq_false_iff_ne]; omega
        clear hm
        go_wp2_with fail
        refine (sync_any sb mb _ kB w6 H6.out).mono ?_
        rintro e w7 ⟨rfl, h7, b7⟩
        obtain ⟨o2, e2, ho2⟩ := sync_b (A := A) (B := B) HO1.out
        rw [e2] at h7
        have B7 := Lib.hid (B6.out.trans b7)
        have H7 := Lib.hid h7
        have HO2 := Lib.hid ho2
        clear b7 e2 h7 ho2
        go_wp2
        exact ⟨⟨k + 1, by omega, by go_num, o2, H7.out, B7.out, HO2.out⟩, by simp [intOf]; omega⟩
      · have q1 : ((k : Int) % 3 == 1) = false := by rw [beq_eq_false_iff_ne]; omega
        have q2 : ((k : Int) % 3 == 2) = true := by rw [beq_iff_eq]; omega
        clear hm
        go_wp2_with fail
        refine (cut_any sb mb _ kB 0 w6 H6.out (aD_ok hA2 hB2 HO1.out)).mono ?_
        rintro e w7 ⟨rfl, h7, b7⟩
        obtain ⟨o2, e2, ho2⟩ := cut_b (A := A) (B := B) HO1.out
        rw [e2] at h7
        have B7 := Lib.hid (B6.out.trans b7)
        have H7 := Lib.hid h7
        have HO2 := Lib.hid ho2
        clear b7 e2 h7 ho2
        go_wp2
        exact ⟨⟨k + 1, by omega, by go_num, o2, H7.out, B7.out, HO2.out⟩, by simp [intOf]; omega⟩
    · go_wp2_with fail
      refine (read_any sb mb _ kA wr HD.out).mono ?_
      rintro e w6 ⟨rfl, b6⟩
      rw [find_a.1, find_a.2]
      have h6 := HD.out.below b6
      have B6 := Lib.hid (HB.out.trans (But.of b6))
      clear b6
      go_wp2_with fail
      refine (read_any sb mb _ kC w6 h6).mono ?_
      rintro e w7 ⟨rfl, b7⟩
      rw [find_c.1, find_c.2]
      have h7 := h6.below b7
      have B7 := Lib.hid (B6.out.trans (But.of b7))
      clear b7 h6
      go_wp2_with fail
      refine (delete_any sb mb _ kB w7 h7).mono ?_
      rintro e w8 ⟨rfl, h8, b8⟩
      rw [del_bD] at h8
      have B8 := Lib.hid (B7.out.trans b8)
      have hs8 := h8.lts
      have hm8 := h8.ltm
      have H8 := Lib.hid h8
      clear b8 h7 h8
      go_wp2_with fail
      refine (crash_any sb mb _ _ [keep, (B.size : Int)] _ (by exact H8.out.alloc _) (aD_ok hA2 hB2 (by intro f hf; cases hf)) (by exact fun W hW => SlR.boxes _ _ hW (fun hf => by rcases hf with hf | hf <;> omega) (by simp [maxLen]))).mono ?_
      rintro e w9 ⟨rfl, h9, b9⟩
      rw [crash_ac] at h9
      have B9 := Lib.hid ((B8.out.alloc _).trans b9)
      clear b9
      have f1 : findE ⟨[(kA, ⟨A, A.size⟩), (kC, ⟨B, B.size⟩)], -1, false⟩ kA = 0 := by simp [findE, mhas, mlook]
      have f2 : (findF ⟨[(kA, ⟨A, A.size⟩), (kC, ⟨B, B.size⟩)], -1, false⟩ kA).b = A := by simp [findF, mlook, fileOr]
      have f3 : findE ⟨[(kA, ⟨A, A.size⟩), (kC, ⟨B, B.size⟩)], -1, false⟩ kC = 0 := by simp [findE, mhas, mlook, Ne.symm ac]
      have f4 : (findF ⟨[(kA, ⟨A, A.size⟩), (kC, ⟨B, B.size⟩)], -1, false⟩ kC).b = B := by simp [findF, mlook, fileOr, Ne.symm ac]
      go_wp2_with fail
      refine (read_any sb mb _ kA w9 h9).mono ?_
      rintro e w10 ⟨rfl, b10⟩
      rw [f1, f2]
      have h10 := h9.below b10
      have B10 := Lib.hid (B9.out.trans (But.of b10))
      clear b10 h9 f1 f2
      go_wp2_with fail
      refine (read_any sb mb _ kC w10 h10).mono ?_
      rintro e w11 ⟨rfl, b11⟩
      rw [f3, f4]
      have B11 := Lib.hid (B10.out.trans (But.of b11))
      clear b11 h10 f3 f4
      go_wp2
      go_ret
      exact ⟨rfl, B2.out.trans (B11.out.below B2.out.size HO.out)⟩
end Go.Proofs.Ytcbjokofjmefnaa
