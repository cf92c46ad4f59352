/- The reference's disk: Append, all ways. -/
import Derived.Test.YtcbjokofjmefnaaM
namespace Go.Proofs.Ytcbjokofjmefnaa
open Go.RowKit

structure ROk (r : RefV) : Prop where
  many : r.F.length ≤ 256
  each : ∀ f ∈ r.F, f.s.size + f.t.size ≤ 1048576 ∧ 1 ≤ f.n.size ∧ f.n.size ≤ 32
theorem NewV.refl (w : World) (v : Value) : NewV w v v := fun _ h => .inl h
set_option maxRecDepth 100000 in
set_option maxHeartbeats 4000000 in
theorem rappend_any (rb : Nat) (v : Value) (r : RefV) (k s : ByteArray) (w : World) (h : IsRef w rb v r) (hok : ROk r) (hss : s.size ≤ 140737488351232) :
    Calls Try.prog 32 #[.pointer (some ⟨rb, 0, none⟩), .string k, .string s] w fun e w' => e = .returned (.int .i64 (rapE r k s)) ∧ ∃ v', IsRef w' rb v' (rapD r k s) ∧ But (OwnR rb v) w w' ∧ NewV w v v' := by
  have hF : r.F.length ≤ 1000000 := by have := hok.many; omega
  have c2 := h.c2
  have c0 := h.c0
  have H := Lib.hid h
  obtain ⟨a, cap, rfl⟩ := own_slice h.row
  clear h
  cases ho : r.off with
  | true =>
    have hb : rapBad r k s = 7 := by simp [rapBad, ho]
    have E : Hid (rapE r k s = 7 ∧ rapD r k s = r) := ⟨by simp [rapE, hb], by simp [rapD, hb]⟩
    rw [ho] at c2
    clear hb ho hok
    go_enter Try.func32, Try.ntmps32
    go_wp2
    go_ret
    rw [E.out.1, E.out.2]
    exact ⟨rfl, _, H.out, But.refl _ _, NewV.refl _ _⟩
  | false =>
    rw [ho] at c2
    by_cases hk : k.size < 1 ∨ 32 < k.size
    · have hb : rapBad r k s = 1 := by unfold rapBad; rw [if_neg (by simp [ho]), if_pos hk]
      have E : Hid (rapE r k s = 1 ∧ rapD r k s = r) := ⟨by simp [rapE, hb], by simp [rapD, hb]⟩
      clear hb ho hok
      rcases hk with hk | hk
      · go_enter Try.func32, Try.ntmps32
        go_wp2
        go_ret
        rw [E.out.1, E.out.2]
        exact ⟨rfl, _, H.out, But.refl _ _, NewV.refl _ _⟩
      · go_enter Try.func32, Try.ntmps32
        go_wp2
        go_ret
        rw [E.out.1, E.out.2]
        exact ⟨rfl, _, H.out, But.refl _ _, NewV.refl _ _⟩
    · have hk1 : ¬ k.size < 1 := fun hc => hk (.inl hc)
      have hk2 : ¬ 32 < k.size := fun hc => hk (.inr hc)
      by_cases hfi : rfind r.F k < 0
      · have hm1 : rfind r.F k = -1 := by have := rfind_ge r.F k; omega
        by_cases hfull : r.F.length = 256 ∨ 1048576 < s.size
        · have hb : rapBad r k s = 4 := by unfold rapBad; rw [if_neg (by simp [ho]), if_neg hk, if_pos hfi, if_pos hfull]
          have E : Hid (rapE r k s = 4 ∧ rapD r k s = r) := ⟨by simp [rapE, hb], by simp [rapD, hb]⟩
          clear hb ho hok hk hfi
          by_cases hl : r.F.length = 256
          · have hq : ((r.F.length : Int) == 256) = true := by rw [beq_iff_eq]; omega
            clear hfull hl
            go_enter Try.func32, Try.ntmps32
            go_wp2_with fail
            refine (rfind_any rb _ r k w H.out hF).mono ?_
            rintro e w1 ⟨rfl, rfl⟩
            rw [hm1]
            clear hm1
            go_wp2_with fail
            go_quiet (fail)
            go_wp2
            go_ret
            rw [E.out.1, E.out.2]
            exact ⟨rfl, _, H.out.drewN _, ⟨rfl, rfl, rfl, Nat.le_refl _, fun _ _ _ => rfl⟩, NewV.refl _ _⟩
          · have hq : ((r.F.length : Int) == 256) = false := by rw [beq_eq_false_iff_ne]; omega
            have hs0 := hfull.resolve_left hl
            have hs1 : decide ((1048576 : Int) < (s.size : Int)) = true := decide_eq_true (by omega)
            have hs2 : decide (1048576 < s.size) = true := decide_eq_true hs0
            clear hfull hl hs0
            go_enter Try.func32, Try.ntmps32
            go_wp2_with fail
            refine (rfind_any rb _ r k w H.out hF).mono ?_
            rintro e w1 ⟨rfl, rfl⟩
            rw [hm1]
            clear hm1
            go_wp2_with fail
            go_quiet (fail)
            go_wp2
            go_ret
            rw [E.out.1, E.out.2]
            exact ⟨rfl, _, H.out.drewN _, ⟨rfl, rfl, rfl, Nat.le_refl _, fun _ _ _ => rfl⟩, NewV.refl _ _⟩
        · have hb : rapBad r k s = 0 := by unfold rapBad; rw [if_neg (by simp [ho]), if_neg hk, if_pos hfi, if_neg hfull]
          have hl1 : r.F.length < 256 := by have := hok.many; omega
          have hs0 : ¬ 1048576 < s.size := fun hc => hfull (.inr hc)
          cases ha : ract r with
          | true =>
            have E : rapE r k s = 0 ∧ rapD r k s = { ractD r with F := ins r.F ⟨k, ⟨#[]⟩, s⟩ } := ⟨by simp [rapE, hb, ha], by simp [rapD, hb, ha, rapF, hfi]⟩
            rw [E.1, E.2]
            exact rappend_new rb _ r k s w H.out hl1 hk1 hk2 hs0 ho hfi ha (fun f hf => (hok.each f hf).2.2)
          | false =>
            have E : Hid (rapE r k s = 7 ∧ rapD r k s = ractD r) := ⟨by simp [rapE, hb, ha], by simp [rapD, hb, ha]⟩
            have hq : ((r.F.length : Int) == 256) = false := by rw [beq_eq_false_iff_ne]; omega
            have hs1 : decide ((1048576 : Int) < (s.size : Int)) = false := decide_eq_false (by omega)
            have hs2 : decide (1048576 < s.size) = false := decide_eq_false hs0
            clear hb ho hok hk hfi hfull
            go_enter Try.func32, Try.ntmps32
            go_wp2_with fail
            refine (rfind_any rb _ r k w H.out hF).mono ?_
            rintro e w1 ⟨rfl, rfl⟩
            rw [hm1]
            clear hm1
            go_wp2_with fail
            go_quiet (fail)
            go_wp2_with fail
            refine (ract_any rb _ r _ (by exact H.out.drewN _)).mono ?_
            rintro e w2 ⟨rfl, h2, b2⟩
            rw [ha]
            have H2 := Lib.hid h2
            have B2 := Lib.hid (show But (OwnR rb (.slice a r.F.length cap)) w w2 from ⟨b2.os, b2.tape, b2.output, b2.size, b2.block⟩)
            clear h2 b2 ha
            go_wp2
            go_ret
            rw [E.out.1, E.out.2]
            exact ⟨rfl, _, H2.out, B2.out, NewV.refl _ _⟩
      · obtain ⟨i, f, h1, h2, h3⟩ := rfind_some hfi
        have hgd : r.F.getD (rfind r.F k).toNat noF = f := by rw [h1, Int.toNat_natCast, List.getD_eq_getElem?_getD, h2]; rfl
        have hfs := (hok.each f (List.mem_of_getElem? h2)).1
        have hil := (List.getElem?_eq_some_iff.1 h2).1
        have hfl := flatR_at r.F i f h2
        obtain ⟨g, cap', hv, -, -, -, -, hcell⟩ := own_at H.out.row hfl.1
        cases hv
        have hc1 := hcell _ _ hfl.2.1
        have hc2 := hcell _ _ hfl.2.2
        have hi0 : decide ((i : Int) < 0) = false := decide_eq_false (by omega)
        have hi1 : decide ((0 : Int) ≤ (i : Int)) = true := decide_eq_true (by omega)
        have hi2 : (0 : Int) ≤ (i : Int) := by omega
        have hi3 : (i : Int) < (r.F.length : Int) := by omega
        have hbad : rapBad r k s = if 1048576 < f.s.size + f.t.size + s.size then 4 else 0 := by
          unfold rapBad
          rw [if_neg (by simp [ho]), if_neg hk, if_neg hfi, hgd]
        have H2 := Lib.hid h2
        have hpf : rapF r k s = r.F.set i (appF s f) := by unfold rapF; rw [if_neg hfi, hgd, h1, Int.toNat_natCast]
        clear hcell hfl hok hk hgd h2 h3 hfi
        by_cases hfull : 1048576 < f.s.size + f.t.size + s.size
        · have E : Hid (rapE r k s = 4 ∧ rapD r k s = r) := by
            rw [if_pos hfull] at hbad
            exact ⟨by simp [rapE, hbad], by simp [rapD, hbad]⟩
          have hs1 : decide ((1048576 : Int) < (f.s.size : Int) + (f.t.size : Int) + (s.size : Int)) = true := decide_eq_true (by omega)
          have hs2 : decide (1048576 < f.s.size + f.t.size + s.size) = true := decide_eq_true hfull
          clear hbad hpf hfull
          go_enter Try.func32, Try.ntmps32
          go_wp2_with fail
          refine (rfind_any rb _ r k w H.out hF).mono ?_
          rintro e w1 ⟨rfl, rfl⟩
          rw [h1]
          clear h1
          go_wp2_with fail
          go_quiet (fail)
          go_wp2
          go_ret
          rw [E.out.1, E.out.2]
          exact ⟨rfl, _, H.out.drewN _, ⟨rfl, rfl, rfl, Nat.le_refl _, fun _ _ _ => rfl⟩, NewV.refl _ _⟩
        · have hs1 : decide ((1048576 : Int) < (f.s.size : Int) + (f.t.size : Int) + (s.size : Int)) = false := decide_eq_false (by omega)
          have hs2 : decide (1048576 < f.s.size + f.t.size + s.size) = false := decide_eq_false hfull
          rw [if_neg hfull] at hbad
          cases ha : ract r with
          | false =>
            have E : Hid (rapE r k s = 7 ∧ rapD r k s = ractD r) := ⟨by simp [rapE, hbad, ha], by simp [rapD, hbad, ha]⟩
            clear hbad hpf hfull
            go_enter Try.func32, Try.ntmps32
            go_wp2_with fail
            refine (rfind_any rb _ r k w H.out hF).mono ?_
            rintro e w1 ⟨rfl, rfl⟩
            rw [h1]
            clear h1
            go_wp2_with fail
            go_quiet (fail)
            go_wp2_with fail
            refine (ract_any rb _ r _ (by exact H.out.drewN _)).mono ?_
            rintro e w2 ⟨rfl, h2, b2⟩
            rw [ha]
            have HH2 := Lib.hid h2
            have B2 := Lib.hid (show But (OwnR rb (.slice (some ⟨g, 0, none⟩) r.F.length cap)) w w2 from ⟨b2.os, b2.tape, b2.output, b2.size, b2.block⟩)
            clear h2 b2 ha
            go_wp2
            go_ret
            rw [E.out.1, E.out.2]
            exact ⟨rfl, _, HH2.out, B2.out, NewV.refl _ _⟩
          | true =>
            have E : Hid (rapE r k s = 0 ∧ rapD r k s = { ractD r with F := r.F.set i (appF s f) }) := ⟨by simp [rapE, hbad, ha], by simp [rapD, hbad, ha, hpf]⟩
            clear hbad hpf
            go_enter Try.func32, Try.ntmps32
            go_wp2_with fail
            refine (rfind_any rb _ r k w H.out hF).mono ?_
            rintro e w1 ⟨rfl, rfl⟩
            rw [h1]
            clear h1
            go_wp2_with fail
            go_quiet (fail)
            go_wp2_with fail
            refine (ract_any rb _ r _ (by exact H.out.drewN _)).mono ?_
            rintro e w2 ⟨rfl, h2, b2⟩
            rw [ha]
            have hfl' := flatR_at (ractD r).F i f (by rw [ractD_F]; exact H2.out)
            obtain ⟨g', cap2, hv, -, -, -, f1, hcell⟩ := own_at h2.row hfl'.2.2
            rw [ractD_F] at hv
            cases hv
            have hd2 := hcell _ _ hfl'.2.2
            have d0 := h2.c0
            have HH2 := Lib.hid h2
            have B2 := Lib.hid (show But (OwnR rb (.slice (some ⟨g, 0, none⟩) r.F.length cap)) w w2 from ⟨b2.os, b2.tape, b2.output, b2.size, b2.block⟩)
            clear h2 b2 ha hfl' hcell hc1 hc2 c0 c2 hs1 hs2
            go_wp2
            go_region
            go_wp2
            go_ret
            rw [E.out.1, E.out.2]
            have hl : (ractD r).F.length = r.F.length := by rw [ractD_F]
            have h1 := HH2.out
            rw [← hl] at h1
            have hset2 : (flatR (ractD r).F).set (i * 3 + 2) (.string (f.t ++ s)) = flatR (r.F.set i (appF s f)) := by
              rw [ractD_F, flatR_setT r.F i f H2.out]; rfl
            have s1 := h1.store (F := r.F.set i (appF s f)) hset2 (by rw [List.length_set, ractD_F])
            rw [hl] at s1
            exact ⟨rfl, _, s1.drew, (B2.out.setCell (p := ⟨g, i * 3 + 2, none⟩) (fun _ => .inr rfl) _).drew, NewV.refl _ _⟩
end Go.Proofs.Ytcbjokofjmefnaa
