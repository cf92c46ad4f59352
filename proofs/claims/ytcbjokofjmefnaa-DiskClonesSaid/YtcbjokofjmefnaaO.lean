/- The reference's disk: Delete, Names, Crash. -/
import Derived.Test.YtcbjokofjmefnaaM2
namespace Go.Proofs.Ytcbjokofjmefnaa
open Go.RowKit

def rdeD (r : RefV) (k : ByteArray) : RefV := if raskE r k = 0 then (if ract r then { ractD r with F := r.F.eraseIdx (raskI r k).toNat } else ractD r) else r
theorem erase_step {F : List FileR} {i n : Nat} {f : FileR} (h : F[n]? = some f) : (F.take (n + 1)).eraseIdx i = if n = i then (F.take n).eraseIdx i else (F.take n).eraseIdx i ++ [f] := by
  have hl := (List.getElem?_eq_some_iff.1 h).1
  rw [show F.take (n + 1) = F.take n ++ [f] by simp [List.take_add_one, h]]
  by_cases he : n = i
  · subst he
    rw [if_pos rfl, List.eraseIdx_append_of_length_le (by simp; omega)]
    simp [List.length_take, Nat.min_eq_left (Nat.le_of_lt hl)]
    rw [List.eraseIdx_of_length_le (by simp; omega)]
  · rw [if_neg he]
    by_cases h1 : i < (F.take n).length
    · rw [List.eraseIdx_append_of_lt_length h1]
    · rw [List.eraseIdx_append_of_length_le (by omega), List.eraseIdx_of_length_le (l := F.take n) (by omega)]
      rw [List.eraseIdx_of_length_le]
      simp at h1 ⊢
      omega
set_option maxHeartbeats 2000000 in
theorem rdelete_any (rb : Nat) (v : Value) (r : RefV) (k : ByteArray) (w : World) (h : IsRef w rb v r) (hok : ROk r) :
    Calls Try.prog 35 #[.pointer (some ⟨rb, 0, none⟩), .string k] w fun e w' => e = .returned (.int .i64 (rchE r k)) ∧ ∃ v', IsRef w' rb v' (rdeD r k) ∧ But (OwnR rb v) w w' ∧ NewV w v v' := by
  have hF : r.F.length ≤ 1000000 := by have := hok.many; omega
  have hF2 := hok.many
  have H := Lib.hid h
  obtain ⟨a, cap, rfl⟩ := own_slice h.row
  clear h hok
  by_cases hE : raskE r k = 0
  · obtain ⟨i, f, e1, h2, -⟩ := rask_some hE
    have HE := Lib.hid hE
    cases ha : ract r with
    | false =>
      have E : Hid (rchE r k = 7 ∧ rdeD r k = ractD r) := ⟨by simp [rchE, hE, ha], by simp [rdeD, hE, ha]⟩
      clear hE h2
      go_enter Try.func35, Try.ntmps35
      go_wp2_with fail
      refine (rasks_any rb _ r k w H.out hF).mono ?_
      rintro e w1 ⟨rfl, rfl⟩
      rw [e1, HE.out]
      clear e1
      go_wp2_with fail
      refine (ract_any rb _ r w H.out).mono ?_
      rintro e w1 ⟨rfl, h1, b1⟩
      rw [ha]
      have H1 := Lib.hid h1
      have B1 := Lib.hid b1
      clear h1 b1 ha
      go_wp2
      go_ret
      rw [E.out.1, E.out.2]
      exact ⟨rfl, _, H1.out, B1.out, NewV.refl _ _⟩
    | true =>
      have E : Hid (rchE r k = 0 ∧ rdeD r k = { ractD r with F := r.F.eraseIdx i }) := ⟨by simp [rchE, hE, ha], by show rdeD r k = _; rw [rdeD, if_pos hE, if_pos ha, e1]; rfl⟩
      clear hE h2
      go_enter Try.func35, Try.ntmps35
      go_wp2_with fail
      refine (rasks_any rb _ r k w H.out hF).mono ?_
      rintro e w1 ⟨rfl, rfl⟩
      rw [e1, HE.out]
      clear e1
      go_wp2_with fail
      refine (ract_any rb _ r w H.out).mono ?_
      rintro e w2 ⟨rfl, h2, b2⟩
      rw [ha]
      have H2 := Lib.hid h2
      have B2 := Lib.hid b2
      have hsz2 := b2.size
      clear h2 b2 ha
      go_wp2_with fail
      go_loopw [8, 9] (fun v8 v9 wr => ∃ n : Nat, n ≤ r.F.length ∧ v9 = .int .i64 n ∧
          Hid (wr.ownsRow w2.heap.size 53 3 v8 ((r.F.take n).eraseIdx i).length (flatR ((r.F.take n).eraseIdx i)) ∧ Below w2.heap.size w2 wr))
        (fun _ v9 _ => r.F.length - (intOf v9).toNat)
      case atStart => exact ⟨0, Nat.zero_le _, rfl, World.ownsRow_nil _ _ _ _, Below.refl _ _⟩
      case round =>
        obtain ⟨n, hn, rfl, hR⟩ := hrel
        have hdr := H2.out.below hR.out.2
        have c0 := hdr.c0
        have hws := hR.out.2.size
        by_cases hlt : n < r.F.length
        · have hfe : r.F[n]? = some r.F[n] := List.getElem?_eq_getElem hlt
          generalize r.F[n] = f at hfe
          have hfl := flatR_at (ractD r).F n f (by rw [ractD_F]; exact hfe)
          obtain ⟨g, cap', hv, -, -, -, -, hcell⟩ := own_at hdr.row hfl.1
          rw [ractD_F] at hv
          cases hv
          have hc0 := hcell _ _ hfl.1
          have hc1 := hcell _ _ hfl.2.1
          have hc2 := hcell _ _ hfl.2.2
          have hst := erase_step (i := i) hfe
          have hlen : ((r.F.take n).eraseIdx i).length ≤ 256 := by
            have := List.length_eraseIdx_le (r.F.take n) i
            rw [List.length_take] at this
            omega
          have HRow := Lib.hid hR.out.1
          have HB := Lib.hid hR.out.2
          have HS := Lib.hid hst
          clear hcell hfl hdr hst hfe hR
          by_cases hni : n = i
          · have hq : ((n : Int) != (i : Int)) = false := by rw [hni]; simp
            have HS2 : Hid ((r.F.take (n + 1)).eraseIdx i = (r.F.take n).eraseIdx i) := by have := HS.out; rw [if_pos hni] at this; exact this
            clear hni
            go_wp2
            refine ⟨⟨n + 1, by omega, by go_num, ?_, HB.out⟩, by simp [intOf]; omega⟩
            rw [HS2.out]
            exact HRow.out
          · have hq : ((n : Int) != (i : Int)) = true := by rw [bne_iff_ne]; omega
            have HS2 : Hid ((r.F.take (n + 1)).eraseIdx i = (r.F.take n).eraseIdx i ++ [f]) := by have := HS.out; rw [if_neg hni] at this; exact this
            clear hni
            go_wp2_with (at_builtin; refine app1 48 53 Try.underlying48 info_file rfl (by decide) HRow.out hws (by unfold maxLen; omega) (by omega) rfl rfl rfl rfl rfl (by simp [Value.oneCell']) ?_; intro v' w4 hown4 hb4)
            refine ⟨⟨n + 1, by omega, by go_num, ?_, HB.out.trans hb4⟩, by simp [intOf]; omega⟩
            rw [HS2.out]
            exact own_snoc hown4
        · have hin : n = r.F.length := by omega
          subst hin
          rw [List.take_length] at hR
          obtain ⟨a9, c9, rfl⟩ := own_slice hR.out.1
          have f0 := hdr.fr 0
          have hrl := H2.out.lt
          have HDr := Lib.hid hdr
          clear hdr
          go_wp2
          go_ret
          rw [E.out.1, E.out.2]
          refine ⟨rfl, .slice a9 (r.F.eraseIdx i).length c9, ?_, ((B2.out.trans (But.of hR.out.2))).setCell (p := ⟨rb, 0, none⟩) (fun _ => .inl rfl) _, ?_⟩
          · exact HDr.out.setF _ _ (ownsRow_base_a hR.out.1 (Nat.zero_le _))
          · intro b hb
            right
            have := (hR.out.1.lt b hb).1
            omega
  · have E : Hid (rchE r k = raskE r k ∧ rdeD r k = r) := ⟨by simp [rchE, hE], by simp [rdeD, hE]⟩
    have hq : (raskE r k == 0) = false := by rw [beq_eq_false_iff_ne]; exact hE
    go_enter Try.func35, Try.ntmps35
    go_wp2_with fail
    refine (rasks_any rb _ r k w H.out hF).mono ?_
    rintro e w1 ⟨rfl, rfl⟩
    go_wp2
    go_ret
    rw [E.out.1, E.out.2]
    exact ⟨rfl, _, H.out, But.refl _ _, NewV.refl _ _⟩

/-! Names -/
theorem info_string : (Try.prog.info? 9).map (fun i => (i.zero, i.size, i.bytes)) = some (some (.string ⟨#[]⟩), 1, 16) := by kernel_rfl
def namesR (F : List FileR) : List ByteArray := F.map (·.n)
theorem rnames_any (rb : Nat) (v : Value) (r : RefV) (w : World) (h : IsRef w rb v r) (hok : ROk r) :
    Calls Try.prog 25 #[.pointer (some ⟨rb, 0, none⟩)] w fun e w' => ∃ v', e = .returned v' ∧ w'.ownsRow w.heap.size 9 1 v' r.F.length ((namesR r.F).map Value.string) ∧ Below w.heap.size w w' := by
  have hF2 := hok.many
  have H := Lib.hid h
  obtain ⟨a, cap, rfl⟩ := own_slice h.row
  clear h hok
  go_enter Try.func25, Try.ntmps25
  go_wp2_with fail
  go_loopw [3, 4] (fun v3 v4 wr => ∃ n : Nat, n ≤ r.F.length ∧ v4 = .int .i64 n ∧ Hid (wr.ownsRow w.heap.size 9 1 v3 n ((namesR (r.F.take n)).map Value.string) ∧ Below w.heap.size w wr)) (fun _ v4 _ => r.F.length - (intOf v4).toNat)
  case atStart => exact ⟨0, Nat.zero_le _, rfl, World.ownsRow_nil _ _ _ _, Below.refl _ _⟩
  case round =>
    obtain ⟨n, hn, rfl, hR⟩ := hrel
    have hdr := H.out.below hR.out.2
    have c0 := hdr.c0
    have hws := hR.out.2.size
    by_cases hlt : n < r.F.length
    · have hfe : r.F[n]? = some r.F[n] := List.getElem?_eq_getElem hlt
      generalize r.F[n] = f at hfe
      have hfl := flatR_at r.F n f hfe
      obtain ⟨g, cap', hv, -, -, -, -, hcell⟩ := own_at hdr.row hfl.1
      cases hv
      have hc0 := hcell _ _ hfl.1
      have HRow := Lib.hid hR.out.1
      have HB := Lib.hid hR.out.2
      have HS : Hid ((namesR (r.F.take (n + 1))).map Value.string = (namesR (r.F.take n)).map Value.string ++ [.string f.n]) := by
        show _ = _
        simp [namesR, List.take_add_one, hfe]
      clear hcell hfl hdr hfe hR
      go_wp2_with (at_builtin; refine app1 22 9 Try.underlying22 info_string rfl (by decide) HRow.out hws (by unfold maxLen; omega) (by omega) rfl rfl rfl rfl rfl (by simp [Value.oneCell']) ?_; intro v' w4 hown4 hb4)
      refine ⟨⟨n + 1, by omega, by go_num, ?_, HB.out.trans hb4⟩, by simp [intOf]; omega⟩
      rw [HS.out]
      exact hown4
    · have hin : n = r.F.length := by omega
      subst hin
      rw [List.take_length] at hR
      clear hdr
      go_wp2
      go_ret
      exact ⟨_, rfl, hR.out.1, hR.out.2⟩
end Go.Proofs.Ytcbjokofjmefnaa
