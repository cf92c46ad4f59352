/- The reference's disk: Cut, SetPower, New. -/
import Derived.Test.YtcbjokofjmefnaaG
namespace Go.Proofs.Ytcbjokofjmefnaa
open Go.RowKit

def cutF (n : Int) (f : FileR) : FileR := if n ≤ f.s.size then ⟨f.n, f.s.extract 0 n.toNat, ⟨#[]⟩⟩ else ⟨f.n, f.s, f.t.extract 0 (n - f.s.size).toNat⟩
/-- May it be cut so? -/
def rcuBad (r : RefV) (k : ByteArray) (n : Int) : Bool := raskE r k == 0 && (decide (n < 0) || decide ((((r.F.getD (raskI r k).toNat noF).s.size + (r.F.getD (raskI r k).toNat noF).t.size : Nat) : Int) < n))
def rcuE (r : RefV) (k : ByteArray) (n : Int) : Int := if rcuBad r k n then 1 else rchE r k
def rcuD (r : RefV) (k : ByteArray) (n : Int) : RefV := if rcuBad r k n then r else rchD r k (cutF n)
set_option maxHeartbeats 2000000 in
theorem rcut_any (rb : Nat) (v : Value) (r : RefV) (k : ByteArray) (n : Int) (w : World) (h : IsRef w rb v r) (hF : r.F.length ≤ 1000000) (hsz : ∀ f ∈ r.F, f.s.size + f.t.size ≤ 1048576) :
    Calls Try.prog 34 #[.pointer (some ⟨rb, 0, none⟩), .string k, .int .i64 n] w fun e w' => e = .returned (.int .i64 (rcuE r k n)) ∧ IsRef w' rb v (rcuD r k n) ∧ But (OwnR rb v) w w' := by
  have H := Lib.hid h
  clear h
  by_cases hE : raskE r k = 0
  · obtain ⟨i, f, e1, h2, -⟩ := rask_some hE
    have hs := hsz f (List.mem_of_getElem? h2)
    have hil := (List.getElem?_eq_some_iff.1 h2).1
    have hgd : r.F.getD (raskI r k).toNat noF = f := by rw [e1, Int.toNat_natCast, List.getD_eq_getElem?_getD, h2]; rfl
    have HE := Lib.hid hE
    have hfl := flatR_at r.F i f h2
    obtain ⟨g, cap', hv, -, -, -, -, hcell⟩ := own_at H.out.row hfl.1
    subst hv
    have hc0 := hcell _ _ hfl.1
    have hc1 := hcell _ _ hfl.2.1
    have hc2 := hcell _ _ hfl.2.2
    have c0 := H.out.c0
    have HG := Lib.hid hgd
    have H2 := Lib.hid h2
    clear hcell hsz hfl hgd h2
    by_cases hn : n < 0 ∨ ((f.s.size + f.t.size : Nat) : Int) < n
    · have E : Hid (rcuE r k n = 1 ∧ rcuD r k n = r) := by
        have hb : rcuBad r k n = true := by
          unfold rcuBad
          rw [HG.out, hE]
          rcases hn with hn | hn
          · simp only [decide_eq_true hn, Bool.true_or]; rfl
          · simp only [decide_eq_true hn, Bool.or_true]; rfl
        exact ⟨by simp [rcuE, hb], by simp [rcuD, hb]⟩
      clear hE
      rcases hn with hn | hn
      · go_enter Try.func34, Try.ntmps34
        go_wp2_with fail
        refine (rasks_any rb _ r k w H.out hF).mono ?_
        rintro e w1 ⟨rfl, rfl⟩
        rw [e1, HE.out]
        clear e1
        go_wp2
        go_ret
        rw [E.out.1, E.out.2]
        exact ⟨rfl, H.out.below ((Below.refl _ _).alloc (Nat.le_refl _) _), (But.refl _ _).alloc _⟩
      · have hn0 : ¬ n < 0 := by omega
        go_enter Try.func34, Try.ntmps34
        go_wp2_with fail
        refine (rasks_any rb _ r k w H.out hF).mono ?_
        rintro e w1 ⟨rfl, rfl⟩
        rw [e1, HE.out]
        clear e1
        go_wp2
        go_ret
        rw [E.out.1, E.out.2]
        exact ⟨rfl, H.out.below ((Below.refl _ _).alloc (Nat.le_refl _) _), (But.refl _ _).alloc _⟩
    · have hb : rcuBad r k n = false := by
        unfold rcuBad
        rw [HG.out, hE]
        have h1 : ¬ n < 0 := fun hc => hn (.inl hc)
        have h2 : ¬ ((f.s.size + f.t.size : Nat) : Int) < n := fun hc => hn (.inr hc)
        simp only [decide_eq_false h1, decide_eq_false h2]; rfl
      have hn1 : 0 ≤ n := by omega
      have hn2 : n ≤ (f.s.size : Int) + (f.t.size : Int) := by omega
      obtain ⟨m, rfl⟩ := Int.eq_ofNat_of_zero_le hn1
      clear hn hn1
      cases ha : ract r with
      | false =>
        have E : Hid (rcuE r k m = 7 ∧ rcuD r k m = ractD r) := ⟨by simp [rcuE, hb, rchE, hE, ha], by simp [rcuD, hb, rchD, hE, ha]⟩
        clear hE hb
        go_enter Try.func34, Try.ntmps34
        go_wp2_with fail
        refine (rasks_any rb _ r k w H.out hF).mono ?_
        rintro e w1 ⟨rfl, rfl⟩
        rw [e1, HE.out]
        clear e1
        go_wp2_with fail
        refine (ract_any rb _ r _ (by exact H.out.alloc _)).mono ?_
        rintro e w1 ⟨rfl, h1, b1⟩
        rw [ha]
        have H1 := Lib.hid h1
        have B1 := Lib.hid b1
        clear h1 b1 ha
        go_wp2
        go_ret
        rw [E.out.1, E.out.2]
        exact ⟨rfl, H1.out, ((But.refl _ _).alloc _).trans B1.out⟩
      | true =>
        have E : Hid (rcuE r k m = 0 ∧ rcuD r k m = { ractD r with F := (r.F.set i (cutF m f)) }) := by
          refine ⟨by simp [rcuE, hb, rchE, hE, ha], ?_⟩
          show rcuD r k m = _
          rw [rcuD, hb, if_neg (by simp), rchD, if_pos hE, if_pos ha, HG.out, e1]; rfl
        clear hE hb
        by_cases hms : m ≤ f.s.size
        · go_enter Try.func34, Try.ntmps34
          go_wp2_with fail
          refine (rasks_any rb _ r k w H.out hF).mono ?_
          rintro e w1 ⟨rfl, rfl⟩
          rw [e1, HE.out]
          clear e1
          go_wp2_with fail
          refine (ract_any rb _ r _ (by exact H.out.alloc _)).mono ?_
          rintro e w1 ⟨rfl, h1, b1⟩
          rw [ha]
          have hfl' := flatR_at (ractD r).F i f (by rw [ractD_F]; exact H2.out)
          obtain ⟨g', cap2, hv, -, -, -, f1, hcell⟩ := own_at h1.row hfl'.2.1
          obtain ⟨_, _, hv2, -, -, -, f2, -⟩ := own_at h1.row hfl'.2.2
          rw [ractD_F] at hv hv2
          cases hv
          cases hv2
          have hd1 := hcell _ _ hfl'.2.1
          have hd2 := hcell _ _ hfl'.2.2
          have d0 := h1.c0
          have hne := h1.ne g rfl
          have hgl := H.out.ltv g rfl
          have hrl := H.out.lt
          have hold := b1.block w.heap.size (by simp) (by intro hk; rcases hk with hk | hk; · omega
                                                          · have : g = w.heap.size := by injection hk
                                                            omega)
          rw [alloc_new] at hold
          have k0 : w1.cell? ⟨w.heap.size, 0, none⟩ = some (.string f.n) := cell_of hold 0
          have k1 : w1.cell? ⟨w.heap.size, 1, none⟩ = some (.string f.s) := cell_of hold 1
          have k2 : w1.cell? ⟨w.heap.size, 2, none⟩ = some (.string f.t) := cell_of hold 2
          have hne2 := Ne.symm hne
          have H1 := Lib.hid h1
          have B1 := Lib.hid (((But.refl _ _).alloc _).trans b1)
          clear hfl' hcell h1 b1 ha hold hc0 hc1 hc2 c0
          go_wp2
          go_region
          go_wp2
          go_ret
          rw [E.out.1, E.out.2]
          have hl : (ractD r).F.length = r.F.length := by rw [ractD_F]
          have h1 := H1.out
          rw [← hl] at h1
          have hset1 : (flatR (ractD r).F).set (i * 3 + 1) (.string (f.s.extract 0 m)) = flatR (r.F.set i ⟨f.n, f.s.extract 0 m, f.t⟩) := by
            rw [ractD_F]; exact flatR_setS r.F i f H2.out _
          have s1 := h1.store (F := r.F.set i ⟨f.n, f.s.extract 0 m, f.t⟩) hset1 (by rw [List.length_set, ractD_F])
          have hcf : cutF (m : Int) f = ⟨f.n, f.s.extract 0 m, ⟨#[]⟩⟩ := by unfold cutF; rw [if_pos (by omega)]; rfl
          have hset2 : (flatR (r.F.set i ⟨f.n, f.s.extract 0 m, f.t⟩)).set (i * 3 + 2) (.string ⟨#[]⟩) = flatR (r.F.set i (cutF m f)) := by
            rw [flatR_setT (r.F.set i ⟨f.n, f.s.extract 0 m, f.t⟩) i ⟨f.n, f.s.extract 0 m, f.t⟩ (by rw [List.getElem?_set_self (by omega)]), List.set_set, hcf]
          have s2 := IsRef.store (r := { ractD r with F := r.F.set i ⟨f.n, f.s.extract 0 m, f.t⟩ }) (g := g) (cap := cap') (j := i * 3 + 2) (u := .string ⟨#[]⟩) (F := r.F.set i (cutF m f)) (by simpa [ractD_F] using s1) hset2 (by simp)
          simp only [List.length_set] at s2
          exact ⟨rfl, s2.drew, ((B1.out.setCell (p := ⟨g, i * 3 + 1, none⟩) (fun _ => .inr rfl) _).setCell (p := ⟨g, i * 3 + 2, none⟩) (fun _ => .inr rfl) _).drew⟩
        · go_enter Try.func34, Try.ntmps34
          go_wp2_with fail
          refine (rasks_any rb _ r k w H.out hF).mono ?_
          rintro e w1 ⟨rfl, rfl⟩
          rw [e1, HE.out]
          clear e1
          go_wp2_with fail
          refine (ract_any rb _ r _ (by exact H.out.alloc _)).mono ?_
          rintro e w1 ⟨rfl, h1, b1⟩
          rw [ha]
          have hfl' := flatR_at (ractD r).F i f (by rw [ractD_F]; exact H2.out)
          obtain ⟨g', cap2, hv, -, -, -, f1, hcell⟩ := own_at h1.row hfl'.2.1
          obtain ⟨_, _, hv2, -, -, -, f2, -⟩ := own_at h1.row hfl'.2.2
          rw [ractD_F] at hv hv2
          cases hv
          cases hv2
          have hd1 := hcell _ _ hfl'.2.1
          have hd2 := hcell _ _ hfl'.2.2
          have d0 := h1.c0
          have hne := h1.ne g rfl
          have hgl := H.out.ltv g rfl
          have hrl := H.out.lt
          have hold := b1.block w.heap.size (by simp) (by intro hk; rcases hk with hk | hk; · omega
                                                          · have : g = w.heap.size := by injection hk
                                                            omega)
          rw [alloc_new] at hold
          have k0 : w1.cell? ⟨w.heap.size, 0, none⟩ = some (.string f.n) := cell_of hold 0
          have k1 : w1.cell? ⟨w.heap.size, 1, none⟩ = some (.string f.s) := cell_of hold 1
          have k2 : w1.cell? ⟨w.heap.size, 2, none⟩ = some (.string f.t) := cell_of hold 2
          have hne2 := Ne.symm hne
          have H1 := Lib.hid h1
          have B1 := Lib.hid (((But.refl _ _).alloc _).trans b1)
          clear hfl' hcell h1 b1 ha hold hc0 hc1 hc2 c0
          go_wp2
          go_region
          go_wp2
          go_ret
          rw [E.out.1, E.out.2]
          have hl : (ractD r).F.length = r.F.length := by rw [ractD_F]
          have h1 := H1.out
          rw [← hl] at h1
          have hcf : cutF (m : Int) f = ⟨f.n, f.s, f.t.extract 0 (m - f.s.size)⟩ := by unfold cutF; rw [if_neg (by omega), show ((m : Int) - (f.s.size : Int)).toNat = m - f.s.size by omega]
          have hset2 : (flatR (ractD r).F).set (i * 3 + 2) (.string (f.t.extract 0 (m - f.s.size))) = flatR (r.F.set i (cutF m f)) := by
            rw [ractD_F, flatR_setT r.F i f H2.out, hcf]
          have s1 := h1.store (F := r.F.set i (cutF m f)) hset2 (by rw [List.length_set, ractD_F])
          rw [hl] at s1
          exact ⟨rfl, s1.drew, (B1.out.setCell (p := ⟨g, i * 3 + 2, none⟩) (fun _ => .inr rfl) _).drew⟩
  · have E : Hid (rcuE r k n = raskE r k ∧ rcuD r k n = r) := ⟨by simp [rcuE, rcuBad, hE, rchE], by simp [rcuD, rcuBad, hE, rchD]⟩
    have hq : (raskE r k == 0) = false := by rw [beq_eq_false_iff_ne]; exact hE
    go_enter Try.func34, Try.ntmps34
    go_wp2_with fail
    refine (rasks_any rb v r k w H.out hF).mono ?_
    rintro e w1 ⟨rfl, rfl⟩
    go_wp2
    go_ret
    rw [E.out.1, E.out.2]
    exact ⟨rfl, H.out, But.refl _ _⟩

def rpoD (r : RefV) (n : Int) : RefV := { r with power := if n < 0 then -1 else n }
theorem IsRef.setPower2 {w : World} {rb : Nat} {v : Value} {r : RefV} (h : IsRef w rb v r) (u : Value) (p : Int) (hp : -1 ≤ p ∧ p ≤ 9223372036854775807) :
    IsRef ((w.setCell ⟨rb, 1, none⟩ u).setCell ⟨rb, 1, none⟩ (.int .i64 p)) rb v { r with power := p } := by
  refine ⟨by rw [setCell_at (setCell_at h.st 1 u)]; rfl, ⟨h.row.1, ?_⟩, hp⟩
  rcases h.row.2 with hn | ⟨g, cap, cur, hv, hb, hh, rest⟩
  · exact .inl hn
  · have hne := h.ne g (by rw [hv]; rfl)
    exact .inr ⟨g, cap, cur, hv, hb, (Below.heap_setCell _ _ _ _ hne).trans ((Below.heap_setCell _ _ _ _ hne).trans hh), rest⟩
theorem rpower_any (rb : Nat) (v : Value) (r : RefV) (n : Int) (w : World) (h : IsRef w rb v r) (hn : n ≤ 9223372036854775807) :
    Calls Try.prog 36 #[.pointer (some ⟨rb, 0, none⟩), .int .i64 n] w fun e w' => e = .returned (.tuple #[]) ∧ IsRef w' rb v (rpoD r n) ∧ But (OwnR rb v) w w' := by
  have c1 := h.c1
  have f1 := h.fr 1
  have H := Lib.hid h
  clear h
  by_cases hneg : n < 0
  · go_enter Try.func36, Try.ntmps36
    go_wp2
    go_end0
    have E : rpoD r n = { r with power := -1 } := by unfold rpoD; rw [if_pos hneg]
    rw [E]
    exact ⟨rfl, H.out.setPower2 (.int .i64 n) (-1) (by omega), ((But.refl _ _).setCell (fun _ => .inl rfl) _).setCell (fun _ => .inl rfl) _⟩
  · go_enter Try.func36, Try.ntmps36
    go_wp2
    go_end0
    have E : rpoD r n = { r with power := n } := by unfold rpoD; rw [if_neg (by omega)]
    rw [E]
    exact ⟨rfl, H.out.setPower n (by omega), (But.refl _ _).setCell (fun _ => .inl rfl) _⟩
theorem rnew_any (w : World) : Calls Try.prog 19 #[] w fun e w' => ∃ rb, e = .returned (.pointer (some ⟨rb, 0, none⟩)) ∧ IsRef w' rb (.slice none 0 0) ⟨[], -1, false⟩ ∧ Below w.heap.size w w' ∧ w.heap.size ≤ rb := by
  go_enter Try.func19, Try.ntmps19
  go_wp2
  go_ret
  exact ⟨_, rfl, ⟨alloc_new _ _, World.ownsRow_nil _ _ _ _, by decide⟩, (Below.refl _ _).alloc (Nat.le_refl _) _, Nat.le_refl _⟩
end Go.Proofs.Ytcbjokofjmefnaa
