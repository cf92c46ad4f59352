/- The reference's disk: act, asks, Read, SetPower, New, Sync, Cut. -/
import Derived.Test.YtcbjokofjmefnaaF
namespace Go.Proofs.Ytcbjokofjmefnaa
open Go.RowKit

def ract (r : RefV) : Bool := !(r.power == 0)
def ractD (r : RefV) : RefV := if r.power = 0 then { r with off := true } else if r.power > 0 then { r with power := r.power - 1 } else r
theorem ractD_F (r : RefV) : (ractD r).F = r.F := by unfold ractD; split <;> (try split) <;> rfl
theorem ract_any (rb : Nat) (v : Value) (r : RefV) (w : World) (h : IsRef w rb v r) :
    Calls Try.prog 43 #[.pointer (some ⟨rb, 0, none⟩)] w fun e w' => e = .returned (.bool (ract r)) ∧ IsRef w' rb v (ractD r) ∧ But (OwnR rb v) w w' := by
  have c1 := h.c1
  have c2 := h.c2
  have f1 := h.fr 1
  have f2 := h.fr 2
  have hp := h.pw
  have H := Lib.hid h
  clear h
  rcases Int.lt_trichotomy r.power 0 with h0 | h0 | h0
  · have e : (r.power == 0) = false := by rw [beq_eq_false_iff_ne]; omega
    have E : Hid (ract r = true) := by unfold ract; rw [e]; rfl
    have D : Hid (ractD r = r) := by unfold ractD; rw [if_neg (by omega), if_neg (by omega)]; rfl
    go_enter Try.func43, Try.ntmps43
    go_wp2
    go_ret
    rw [E.out, D.out]
    exact ⟨rfl, H.out, But.refl _ _⟩
  · have e : (r.power == 0) = true := by rw [beq_iff_eq]; omega
    have E : Hid (ract r = false) := by unfold ract; rw [e]; rfl
    have D : Hid (ractD r = { r with off := true }) := by unfold ractD; rw [if_pos h0]; rfl
    clear h0
    go_enter Try.func43, Try.ntmps43
    go_wp2
    go_ret
    rw [E.out, D.out]
    exact ⟨rfl, H.out.setOff true, (But.refl _ _).setCell (fun _ => .inl rfl) _⟩
  · have e : (r.power == 0) = false := by rw [beq_eq_false_iff_ne]; omega
    have E : Hid (ract r = true) := by unfold ract; rw [e]; rfl
    have D : Hid (ractD r = { r with power := r.power - 1 }) := by unfold ractD; rw [if_neg (by omega), if_pos (by omega)]; rfl
    go_enter Try.func43, Try.ntmps43
    go_wp2
    go_ret
    rw [E.out, D.out]
    exact ⟨rfl, H.out.setPower _ (by omega), (But.refl _ _).setCell (fun _ => .inl rfl) _⟩

def raskI (r : RefV) (k : ByteArray) : Int := if r.off then 0 else if rfind r.F k < 0 then 0 else rfind r.F k
def raskE (r : RefV) (k : ByteArray) : Int := if r.off then 7 else if rfind r.F k < 0 then 5 else 0
theorem rasks_any (rb : Nat) (v : Value) (r : RefV) (k : ByteArray) (w : World) (h : IsRef w rb v r) (hF : r.F.length ≤ 1000000) :
    Calls Try.prog 38 #[.pointer (some ⟨rb, 0, none⟩), .string k] w fun e w' => e = .returned (.tuple #[.int .i64 (raskI r k), .int .i64 (raskE r k)]) ∧ w = w' := by
  have c2 := h.c2
  have H := Lib.hid h
  clear h
  cases ho : r.off with
  | true =>
    have E : Hid (raskI r k = 0 ∧ raskE r k = 7) := ⟨by simp [raskI, ho], by simp [raskE, ho]⟩
    rw [ho] at c2
    clear ho
    go_enter Try.func38, Try.ntmps38
    go_wp2
    go_ret2
    rw [E.out.1, E.out.2]
    exact ⟨rfl, rfl⟩
  | false =>
    rw [ho] at c2
    by_cases hf : rfind r.F k < 0
    · have E : Hid (raskI r k = 0 ∧ raskE r k = 5) := ⟨by simp [raskI, hf], by simp [raskE, ho, hf]⟩
      clear ho
      go_enter Try.func38, Try.ntmps38
      go_wp2_with fail
      refine (rfind_any rb v r k w H.out hF).mono ?_
      rintro e w1 ⟨rfl, rfl⟩
      go_wp2
      go_ret2
      rw [E.out.1, E.out.2]
      exact ⟨rfl, rfl⟩
    · have E : Hid (raskI r k = rfind r.F k ∧ raskE r k = 0) := ⟨by simp [raskI, ho, hf], by simp [raskE, ho, hf]⟩
      clear ho
      go_enter Try.func38, Try.ntmps38
      go_wp2_with fail
      refine (rfind_any rb v r k w H.out hF).mono ?_
      rintro e w1 ⟨rfl, rfl⟩
      go_wp2
      go_ret2
      rw [E.out.1, E.out.2]
      exact ⟨rfl, rfl⟩

theorem rfind_some {F : List FileR} {k : ByteArray} (h : ¬ rfind F k < 0) : ∃ (i : Nat) (f : FileR), rfind F k = i ∧ F[i]? = some f ∧ f.n = k := by
  induction F with
  | nil => simp [rfind] at h
  | cons g F ih =>
    by_cases hg : g.n = k
    · exact ⟨0, g, by simp [rfind, hg], rfl, hg⟩
    · simp only [rfind, if_neg hg] at h ⊢
      by_cases h1 : rfind F k = -1
      · rw [if_pos h1] at h; omega
      · rw [if_neg h1] at h ⊢
        obtain ⟨i, f, h2, h3, h4⟩ := ih (by have := rfind_ge F k; omega)
        exact ⟨i + 1, f, by rw [h2]; simp, by simpa using h3, h4⟩

/-- What reading tells. -/
def rrdS (r : RefV) (k : ByteArray) : ByteArray := if raskE r k = 0 then ((r.F[(raskI r k).toNat]?).map fun f => f.s ++ f.t).getD ⟨#[]⟩ else ⟨#[]⟩
theorem rread_any (rb : Nat) (v : Value) (r : RefV) (k : ByteArray) (w : World) (h : IsRef w rb v r) (hF : r.F.length ≤ 1000000) (hsz : ∀ f ∈ r.F, f.s.size + f.t.size ≤ 1048576) :
    Calls Try.prog 26 #[.pointer (some ⟨rb, 0, none⟩), .string k] w fun e w' => e = .returned (.tuple #[.string (rrdS r k), .int .i64 (raskE r k)]) ∧ ∃ n, w' = w.drewN n := by
  have c0 := h.c0
  have H := Lib.hid h
  clear h
  by_cases hE : raskE r k = 0
  · have hf : ¬ rfind r.F k < 0 ∧ r.off = false := by
      unfold raskE at hE
      cases ho : r.off with
      | true => simp [ho] at hE
      | false =>
        refine ⟨fun hf => ?_, rfl⟩
        simp [ho, hf] at hE
    obtain ⟨i, f, h1, h2, h3⟩ := rfind_some hf.1
    have e1 : raskI r k = i := by unfold raskI; rw [if_neg (by simp [hf.2]), if_neg hf.1, h1]
    have e2 : Hid (rrdS r k = f.s ++ f.t) := by show rrdS r k = _; simp [rrdS, hE, e1, h2]
    have hs := hsz f (List.mem_of_getElem? h2)
    have hil := (List.getElem?_eq_some_iff.1 h2).1
    have hfl := flatR_at r.F i f h2
    obtain ⟨g, cap', rfl, -, -, -, -, hcell⟩ := own_at H.out.row hfl.1
    have hc1 := hcell _ _ hfl.2.1
    have hc2 := hcell _ _ hfl.2.2
    have HE := Lib.hid hE
    clear hf h1 h2 h3 hfl hcell hsz
    go_enter Try.func26, Try.ntmps26
    go_wp2_with fail
    refine (rasks_any rb _ r k w H.out hF).mono ?_
    rintro e w1 ⟨rfl, rfl⟩
    rw [e1, HE.out]
    clear e1 hE
    go_wp2
    go_region
    go_wp2
    go_ret2
    rw [e2.out, HE.out]
    exact ⟨rfl, 1, rfl⟩
  · have e2 : Hid (rrdS r k = ⟨#[]⟩) := by show rrdS r k = _; simp [rrdS, hE]
    have hq : (raskE r k == 0) = false := by rw [beq_eq_false_iff_ne]; exact hE
    go_enter Try.func26, Try.ntmps26
    go_wp2_with fail
    refine (rasks_any rb v r k w H.out hF).mono ?_
    rintro e w1 ⟨rfl, rfl⟩
    go_wp2
    go_ret2
    rw [e2.out]
    exact ⟨rfl, 0, rfl⟩

/-- What asks finds, at hand. -/
theorem rask_some {r : RefV} {k : ByteArray} (hE : raskE r k = 0) : ∃ (i : Nat) (f : FileR), raskI r k = i ∧ r.F[i]? = some f ∧ f.n = k := by
  have hf : ¬ rfind r.F k < 0 ∧ r.off = false := by
    unfold raskE at hE
    cases ho : r.off with
    | true => simp [ho] at hE
    | false =>
      refine ⟨fun hf => ?_, rfl⟩
      simp [ho, hf] at hE
  obtain ⟨i, f, h1, h2, h3⟩ := rfind_some hf.1
  exact ⟨i, f, by unfold raskI; rw [if_neg (by simp [hf.2]), if_neg hf.1, h1], h2, h3⟩

/-! Sync -/
def syncF (f : FileR) : FileR := ⟨f.n, f.s ++ f.t, ⟨#[]⟩⟩
def noF : FileR := ⟨⟨#[]⟩, ⟨#[]⟩, ⟨#[]⟩⟩
/-- A file is changed, if there is power. -/
def rchE (r : RefV) (k : ByteArray) : Int := if raskE r k = 0 then (if ract r then 0 else 7) else raskE r k
def rchD (r : RefV) (k : ByteArray) (g : FileR → FileR) : RefV :=
  if raskE r k = 0 then (if ract r then { ractD r with F := r.F.set (raskI r k).toNat (g (r.F.getD (raskI r k).toNat noF)) } else ractD r) else r
set_option maxHeartbeats 1000000 in
theorem rsync_any (rb : Nat) (v : Value) (r : RefV) (k : ByteArray) (w : World) (h : IsRef w rb v r) (hF : r.F.length ≤ 1000000) (hsz : ∀ f ∈ r.F, f.s.size + f.t.size ≤ 1048576) :
    Calls Try.prog 33 #[.pointer (some ⟨rb, 0, none⟩), .string k] w fun e w' => e = .returned (.int .i64 (rchE r k)) ∧ IsRef w' rb v (rchD r k syncF) ∧ But (OwnR rb v) w w' := by
  have H := Lib.hid h
  clear h
  by_cases hE : raskE r k = 0
  · obtain ⟨i, f, e1, h2, -⟩ := rask_some hE
    have hs := hsz f (List.mem_of_getElem? h2)
    have hil := (List.getElem?_eq_some_iff.1 h2).1
    have hgd : r.F.getD (raskI r k).toNat noF = f := by rw [e1, Int.toNat_natCast, List.getD_eq_getElem?_getD, h2]; rfl
    have HE := Lib.hid hE
    cases ha : ract r with
    | false =>
      have E : Hid (rchE r k = 7 ∧ rchD r k syncF = ractD r) := ⟨by simp [rchE, hE, ha], by simp [rchD, hE, ha]⟩
      clear hE hsz hgd h2
      go_enter Try.func33, Try.ntmps33
      go_wp2_with fail
      refine (rasks_any rb _ r k w H.out hF).mono ?_
      rintro e w1 ⟨rfl, rfl⟩
      rw [e1, HE.out]
      clear e1
      go_wp2_with fail
      refine (ract_any rb _ r w H.out).mono ?_
      rintro e w1 ⟨rfl, h1, b1⟩
      rw [ha]
      have H1 := Lib.hid h1
      have B1 := Lib.hid b1
      clear h1 b1 ha
      go_wp2
      go_ret
      rw [E.out.1, E.out.2]
      exact ⟨rfl, H1.out, B1.out⟩
    | true =>
      have E : Hid (rchE r k = 0 ∧ rchD r k syncF = { ractD r with F := (r.F.set i (syncF f)) }) := ⟨by simp [rchE, hE, ha], by rw [rchD, if_pos hE, if_pos ha, hgd, e1]; rfl⟩
      clear hE hsz hgd
      go_enter Try.func33, Try.ntmps33
      go_wp2_with fail
      refine (rasks_any rb _ r k w H.out hF).mono ?_
      rintro e w1 ⟨rfl, rfl⟩
      rw [e1, HE.out]
      clear e1
      go_wp2_with fail
      refine (ract_any rb _ r w H.out).mono ?_
      rintro e w1 ⟨rfl, h1, b1⟩
      rw [ha]
      have hfl := flatR_at r.F i f h2
      have hfl' := flatR_at (ractD r).F i f (by rw [ractD_F]; exact h2)
      obtain ⟨g, cap', hv, -, -, -, f1, hcell⟩ := own_at h1.row hfl'.2.1
      obtain ⟨g2, cap2, hv2, -, -, -, f2, -⟩ := own_at h1.row hfl'.2.2
      rw [hv2] at hv
      cases hv
      rw [ractD_F] at hv2
      subst hv2
      have hc1 := hcell _ _ hfl'.2.1
      have hc2 := hcell _ _ hfl'.2.2
      have c0 := h1.c0
      have hne := h1.ne g rfl
      have hne2 := Ne.symm hne
      have H1 := Lib.hid h1
      have B1 := Lib.hid b1
      have H2 := Lib.hid h2
      clear hfl hfl' hcell h1 b1 ha h2
      go_wp2
      go_region
      go_wp2
      go_ret
      rw [E.out.1, E.out.2]
      have hl : (ractD r).F.length = r.F.length := by rw [ractD_F]
      have h1 := H1.out
      rw [← hl] at h1
      have hset1 : (flatR (ractD r).F).set (i * 3 + 1) (.string (f.s ++ f.t)) = flatR (r.F.set i ⟨f.n, f.s ++ f.t, f.t⟩) := by
        rw [ractD_F]; exact flatR_setS r.F i f H2.out _
      have s1 := h1.store (F := r.F.set i ⟨f.n, f.s ++ f.t, f.t⟩) hset1 (by rw [List.length_set, ractD_F])
      have hset2 : (flatR (r.F.set i ⟨f.n, f.s ++ f.t, f.t⟩)).set (i * 3 + 2) (.string ⟨#[]⟩) = flatR (r.F.set i (syncF f)) := by
        rw [flatR_setT (r.F.set i ⟨f.n, f.s ++ f.t, f.t⟩) i ⟨f.n, f.s ++ f.t, f.t⟩ (by rw [List.getElem?_set_self (by omega)])]
        rw [List.set_set]; rfl
      have s2 := IsRef.store (r := { ractD r with F := r.F.set i ⟨f.n, f.s ++ f.t, f.t⟩ }) (g := g) (cap := cap') (j := i * 3 + 2) (u := .string ⟨#[]⟩) (F := r.F.set i (syncF f)) (by simpa [ractD_F] using s1) hset2 (by simp)
      simp only [List.length_set] at s2
      exact ⟨rfl, s2.drew, ((B1.out.setCell (p := ⟨g, i * 3 + 1, none⟩) (fun _ => .inr rfl) _).setCell (p := ⟨g, i * 3 + 2, none⟩) (fun _ => .inr rfl) _).drew⟩
  · have E : Hid (rchE r k = raskE r k ∧ rchD r k syncF = r) := ⟨by simp [rchE, hE], by simp [rchD, hE]⟩
    have hq : (raskE r k == 0) = false := by rw [beq_eq_false_iff_ne]; exact hE
    go_enter Try.func33, Try.ntmps33
    go_wp2_with fail
    refine (rasks_any rb v r k w H.out hF).mono ?_
    rintro e w1 ⟨rfl, rfl⟩
    go_wp2
    go_ret
    rw [E.out.1, E.out.2]
    exact ⟨rfl, H.out, But.refl _ _⟩
end Go.Proofs.Ytcbjokofjmefnaa
