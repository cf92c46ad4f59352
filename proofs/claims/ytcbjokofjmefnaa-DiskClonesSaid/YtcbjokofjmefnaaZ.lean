/- What an act does to both. -/
import Derived.Test.YtcbjokofjmefnaaY
namespace Go.Proofs.Ytcbjokofjmefnaa
open Go.RowKit

def Both (sb mb rb : Nat) (v : Value) (k : Nat) : Prop := Own sb mb k ∨ OwnR rb v k
theorem apart {w : World} {sb mb rb : Nat} {v : Value} {d : DiskV} {r : RefV} (h : IsDisk w sb mb d) (h2 : IsRef w rb v r) : ∀ k, Own sb mb k → ¬ OwnR rb v k := by
  have e1 := h.st
  obtain ⟨l, ck, e2, -⟩ := h.mp
  have e3 := h2.st
  have e4 : ∀ k, v.ownBlock = some k → ∃ cs, w.heap[k]? = some (.cells cs 53 (0, 0)) := by
    intro k hk
    rcases h2.row.2 with ⟨rfl, _⟩ | ⟨g, cap, cur, rfl, _, hh, _⟩
    · simp [Value.ownBlock] at hk
    · simp [Value.ownBlock] at hk
      subst hk
      exact ⟨cur, hh⟩
  rintro k (rfl | rfl) (rfl | hk)
  · rw [e1] at e3; injection e3 with e3; injection e3 with _ ht; exact absurd ht (by decide)
  · obtain ⟨cs, hh⟩ := e4 _ hk
    rw [e1] at hh; injection hh with hh; injection hh with _ ht; exact absurd ht (by decide)
  · rw [e2] at e3; cases e3
  · obtain ⟨cs, hh⟩ := e4 _ hk
    rw [e2] at hh; cases hh
theorem IsRef.aside {w w' : World} {sb mb rb : Nat} {v : Value} {d : DiskV} {r : RefV} (h : IsDisk w sb mb d) (h2 : IsRef w rb v r) (hb : But (Own sb mb) w w') : IsRef w' rb v r :=
  h2.but hb (fun hc => apart h h2 rb hc (.inl rfl)) (fun k hk hc => apart h h2 k hc (.inr hk))
theorem IsDisk.aside {w w' : World} {sb mb rb : Nat} {v : Value} {d : DiskV} {r : RefV} (h : IsDisk w sb mb d) (h2 : IsRef w rb v r) (hb : But (OwnR rb v) w w') : IsDisk w' sb mb d :=
  h.but hb (apart h h2 sb (.inl rfl)) (apart h h2 mb (.inr rfl))

set_option maxRecDepth 100000 in
set_option maxHeartbeats 4000000 in
theorem does_any (sb mb rb : Nat) (v : Value) (d : DiskV) (r : RefV) (kd n : Int) (nm s : ByteArray) (kv : Value) (kp : List Int) (w : World) (h : IsDisk w sb mb d) (h2 : IsRef w rb v r) (hs : Sim d r)
    (hn : n ≤ 9223372036854775807) (hss : s.size ≤ 140737488351232) (hk : ∀ W, But (Both sb mb rb v) w W → SlR W kv (kp.map (Value.int .i64))) :
    Calls Try.prog 22 #[.pointer (some ⟨sb, 0, none⟩), .pointer (some ⟨rb, 0, none⟩), .agg #[.int .i64 kd, .int .i64 n, .string nm, .string s, kv]] w
      fun e w' => e = .returned (.bool true) ∧ ∃ d' v' r', IsDisk w' sb mb d' ∧ IsRef w' rb v' r' ∧ Sim d' r' ∧ But (Both sb mb rb v) w w' ∧ NewV w v v' := by
  have hF : r.F.length ≤ 1000000 := by have := hs.ok.many; omega
  have hsz : ∀ f ∈ r.F, f.s.size + f.t.size ≤ 1048576 := fun f hf => (hs.ok.each f hf).1
  have hsb := h.lts
  have hmb := h.ltm
  have hrl := h2.lt
  have hvl := h2.ltv
  have hnO : ¬ Own sb mb w.heap.size := by rintro (e | e) <;> omega
  have hnR : ¬ OwnR rb v w.heap.size := by
    rintro (e | e)
    · omega
    · have := hvl _ e
      omega
  have HSZ := Lib.hid hsz
  have H := Lib.hid h
  have H2 := Lib.hid h2
  have HS := Lib.hid hs
  have HK := Lib.hid hk
  have HN := Lib.hid (And.intro hnO hnR)
  have HV := Lib.hid hvl
  clear h h2 hs hk hsz hnO hnR hvl
  let W0 := w.alloc (.cells #[.int .i64 kd, .int .i64 n, .string nm, .string s, kv] 44)
  have hW0 : Hid (IsDisk W0 sb mb d ∧ IsRef W0 rb v r) := ⟨H.out.alloc _, H2.out.alloc _⟩
  have hb0 : Hid (Below w.heap.size w W0) := (Below.refl _ w).alloc (Nat.le_refl _) _
  by_cases k1 : kd = 1
  · subst k1
    have S := Lib.hid (HS.out.append nm s)
    go_enter Try.func22, Try.ntmps22
    go_wp2_with fail
    refine (append_any sb mb d nm s W0 hW0.out.1 HS.out.dok hss).mono ?_
    rintro e w1 ⟨rfl, h1, b1⟩
    rw [S.out.1]
    have hold := (b1.block w.heap.size (by simp [W0]) HN.out.1).trans (alloc_new _ _)
    have k0 := cell_of hold 0
    have k1 := cell_of hold 1
    have k2 := cell_of hold 2
    have k3 := cell_of hold 3
    have k4 := cell_of hold 4
    have r1 := hW0.out.2.aside hW0.out.1 b1
    have R1 := Lib.hid r1
    have H1 := Lib.hid h1
    have B1 := Lib.hid b1
    have hz1 : w.heap.size ≤ w1.heap.size := Nat.le_trans (by simp [W0]) b1.size
    clear r1 h1 b1 hold
    go_wp2_with fail
    refine (rappend_any rb v r nm s w1 R1.out HS.out.ok hss).mono ?_
    rintro e w2 ⟨rfl, v2, h2, b2, n2⟩
    have HH2 := Lib.hid h2
    have B2 := Lib.hid b2
    clear h2 b2
    go_wp2
    go_ret
    exact ⟨rfl, apD d nm s, v2, rapD r nm s, H1.out.aside R1.out B2.out, HH2.out, S.out.2, (But.of hb0.out).trans ((B1.out.mono fun i _ hi => .inl hi).trans (B2.out.mono fun i _ hi => .inr hi)), fun k hk => (n2 k hk).imp id (fun h => Nat.le_trans hz1 h)⟩
  by_cases k2 : kd = 2
  · subst k2
    have S := Lib.hid (HS.out.sync nm)
    go_enter Try.func22, Try.ntmps22
    go_wp2_with fail
    refine (sync_any sb mb d nm W0 hW0.out.1).mono ?_
    rintro e w1 ⟨rfl, h1, b1⟩
    rw [S.out.1]
    have hold := (b1.block w.heap.size (by simp [W0]) HN.out.1).trans (alloc_new _ _)
    have k0 := cell_of hold 0
    have k1 := cell_of hold 1
    have k2 := cell_of hold 2
    have k3 := cell_of hold 3
    have k4 := cell_of hold 4
    have r1 := hW0.out.2.aside hW0.out.1 b1
    have R1 := Lib.hid r1
    have H1 := Lib.hid h1
    have B1 := Lib.hid b1
    have hz1 : w.heap.size ≤ w1.heap.size := Nat.le_trans (by simp [W0]) b1.size
    clear r1 h1 b1 hold
    go_wp2_with fail
    refine (rsync_any rb v r nm w1 R1.out hF HSZ.out).mono ?_
    rintro e w2 ⟨rfl, h2, b2⟩
    have HH2 := Lib.hid h2
    have B2 := Lib.hid b2
    clear h2 b2
    go_wp2
    go_ret
    exact ⟨rfl, syD d nm, v, rchD r nm syncF, H1.out.aside R1.out B2.out, HH2.out, S.out.2, (But.of hb0.out).trans ((B1.out.mono fun i _ hi => .inl hi).trans (B2.out.mono fun i _ hi => .inr hi)), NewV.refl _ _⟩
  by_cases k3 : kd = 3
  · subst k3
    have S := Lib.hid (HS.out.cut nm n)
    go_enter Try.func22, Try.ntmps22
    go_wp2_with fail
    refine (cut_any sb mb d nm n W0 hW0.out.1 HS.out.dok).mono ?_
    rintro e w1 ⟨rfl, h1, b1⟩
    rw [S.out.1]
    have hold := (b1.block w.heap.size (by simp [W0]) HN.out.1).trans (alloc_new _ _)
    have k0 := cell_of hold 0
    have k1 := cell_of hold 1
    have k2 := cell_of hold 2
    have k3 := cell_of hold 3
    have k4 := cell_of hold 4
    have r1 := hW0.out.2.aside hW0.out.1 b1
    have R1 := Lib.hid r1
    have H1 := Lib.hid h1
    have B1 := Lib.hid b1
    have hz1 : w.heap.size ≤ w1.heap.size := Nat.le_trans (by simp [W0]) b1.size
    clear r1 h1 b1 hold
    go_wp2_with fail
    refine (rcut_any rb v r nm n w1 R1.out hF HSZ.out).mono ?_
    rintro e w2 ⟨rfl, h2, b2⟩
    have HH2 := Lib.hid h2
    have B2 := Lib.hid b2
    clear h2 b2
    go_wp2
    go_ret
    exact ⟨rfl, cuD d nm n, v, rcuD r nm n, H1.out.aside R1.out B2.out, HH2.out, S.out.2, (But.of hb0.out).trans ((B1.out.mono fun i _ hi => .inl hi).trans (B2.out.mono fun i _ hi => .inr hi)), NewV.refl _ _⟩
  by_cases k4 : kd = 4
  · subst k4
    have S := Lib.hid (HS.out.delete nm)
    go_enter Try.func22, Try.ntmps22
    go_wp2_with fail
    refine (delete_any sb mb d nm W0 hW0.out.1).mono ?_
    rintro e w1 ⟨rfl, h1, b1⟩
    rw [S.out.1]
    have hold := (b1.block w.heap.size (by simp [W0]) HN.out.1).trans (alloc_new _ _)
    have k0 := cell_of hold 0
    have k1 := cell_of hold 1
    have k2 := cell_of hold 2
    have k3 := cell_of hold 3
    have k4 := cell_of hold 4
    have r1 := hW0.out.2.aside hW0.out.1 b1
    have R1 := Lib.hid r1
    have H1 := Lib.hid h1
    have B1 := Lib.hid b1
    have hz1 : w.heap.size ≤ w1.heap.size := Nat.le_trans (by simp [W0]) b1.size
    clear r1 h1 b1 hold
    go_wp2_with fail
    refine (rdelete_any rb v r nm w1 R1.out HS.out.ok).mono ?_
    rintro e w2 ⟨rfl, v2, h2, b2, n2⟩
    have HH2 := Lib.hid h2
    have B2 := Lib.hid b2
    clear h2 b2
    go_wp2
    go_ret
    exact ⟨rfl, deD d nm, v2, rdeD r nm, H1.out.aside R1.out B2.out, HH2.out, S.out.2, (But.of hb0.out).trans ((B1.out.mono fun i _ hi => .inl hi).trans (B2.out.mono fun i _ hi => .inr hi)), fun k hk => (n2 k hk).imp id (fun h => Nat.le_trans hz1 h)⟩
  by_cases k5 : kd = 5
  · subst k5
    have S := Lib.hid (HS.out.read nm)
    go_enter Try.func22, Try.ntmps22
    go_wp2_with fail
    refine (read_any sb mb d nm W0 hW0.out.1).mono ?_
    rintro e w1 ⟨rfl, b1⟩
    have h1 : IsDisk w1 sb mb d := hW0.out.1.below b1
    have b1 : But (Own sb mb) W0 w1 := But.of b1
    rw [S.out.1, S.out.2]
    have hold := (b1.block w.heap.size (by simp [W0]) HN.out.1).trans (alloc_new _ _)
    have k0 := cell_of hold 0
    have k1 := cell_of hold 1
    have k2 := cell_of hold 2
    have k3 := cell_of hold 3
    have k4 := cell_of hold 4
    have r1 := hW0.out.2.aside hW0.out.1 b1
    have R1 := Lib.hid r1
    have H1 := Lib.hid h1
    have B1 := Lib.hid b1
    have hz1 : w.heap.size ≤ w1.heap.size := Nat.le_trans (by simp [W0]) b1.size
    clear r1 h1 b1 hold
    go_wp2_with fail
    refine (rread_any rb v r nm w1 R1.out hF HSZ.out).mono ?_
    rintro e w2 ⟨rfl, nd, rfl⟩
    go_wp2
    go_ret
    have X : But (Both sb mb rb v) w w1 := (But.of hb0.out).trans (B1.out.mono fun i _ hi => .inl hi)
    exact ⟨rfl, d, v, r, H1.out.same rfl rfl, R1.out.drewN nd, HS.out, ⟨X.os, X.tape, X.output, X.size, X.block⟩, NewV.refl _ _⟩
  by_cases k6 : kd = 6
  · subst k6
    have S := Lib.hid (HS.out.power n)
    go_enter Try.func22, Try.ntmps22
    go_wp2_with fail
    refine (power_any sb mb d n W0 hW0.out.1 hn).mono ?_
    rintro e w1 ⟨rfl, h1, b1⟩
    have hold := (b1.block w.heap.size (by simp [W0]) HN.out.1).trans (alloc_new _ _)
    have k0 := cell_of hold 0
    have k1 := cell_of hold 1
    have k2 := cell_of hold 2
    have k3 := cell_of hold 3
    have k4 := cell_of hold 4
    have r1 := hW0.out.2.aside hW0.out.1 b1
    have R1 := Lib.hid r1
    have H1 := Lib.hid h1
    have B1 := Lib.hid b1
    have hz1 : w.heap.size ≤ w1.heap.size := Nat.le_trans (by simp [W0]) b1.size
    clear r1 h1 b1 hold
    go_wp2_with fail
    refine (rpower_any rb v r n w1 R1.out hn).mono ?_
    rintro e w2 ⟨rfl, h2, b2⟩
    have HH2 := Lib.hid h2
    have B2 := Lib.hid b2
    clear h2 b2
    go_wp2
    go_ret
    exact ⟨rfl, poD d n, v, rpoD r n, H1.out.aside R1.out B2.out, HH2.out, S.out, (But.of hb0.out).trans ((B1.out.mono fun i _ hi => .inl hi).trans (B2.out.mono fun i _ hi => .inr hi)), NewV.refl _ _⟩
  by_cases k7 : kd = 7
  · subst k7
    have S := Lib.hid (HS.out.crash kp)
    go_enter Try.func22, Try.ntmps22
    go_wp2_with fail
    refine (crash_any sb mb d kv kp W0 hW0.out.1 HS.out.dok (fun W hW => HK.out W ((But.of hb0.out).trans (hW.mono fun i _ hi => .inl hi)))).mono ?_
    rintro e w1 ⟨rfl, h1, b1⟩
    have hold := (b1.block w.heap.size (by simp [W0]) HN.out.1).trans (alloc_new _ _)
    have k0 := cell_of hold 0
    have k1 := cell_of hold 1
    have k2 := cell_of hold 2
    have k3 := cell_of hold 3
    have k4 := cell_of hold 4
    have r1 := hW0.out.2.aside hW0.out.1 b1
    have R1 := Lib.hid r1
    have H1 := Lib.hid h1
    have B1 := Lib.hid b1
    have hz1 : w.heap.size ≤ w1.heap.size := Nat.le_trans (by simp [W0]) b1.size
    clear r1 h1 b1 hold
    go_wp2_with fail
    refine (rcrash_any rb v r kv kp w1 R1.out HS.out.ok (fun W hW => HK.out W ((But.of hb0.out).trans ((B1.out.mono fun i _ hi => .inl hi).trans (hW.mono fun i _ hi => .inr hi))))).mono ?_
    rintro e w2 ⟨rfl, h2, b2⟩
    have HH2 := Lib.hid h2
    have B2 := Lib.hid b2
    clear h2 b2
    go_wp2
    go_ret
    exact ⟨rfl, crD d kp, v, rcrD r kp, H1.out.aside R1.out B2.out, HH2.out, S.out, (But.of hb0.out).trans ((B1.out.mono fun i _ hi => .inl hi).trans (B2.out.mono fun i _ hi => .inr hi)), NewV.refl _ _⟩
  · have q1 : (kd == 1) = false := beq_eq_false_iff_ne.2 k1
    have q2 : (kd == 2) = false := beq_eq_false_iff_ne.2 k2
    have q3 : (kd == 3) = false := beq_eq_false_iff_ne.2 k3
    have q4 : (kd == 4) = false := beq_eq_false_iff_ne.2 k4
    have q5 : (kd == 5) = false := beq_eq_false_iff_ne.2 k5
    have q6 : (kd == 6) = false := beq_eq_false_iff_ne.2 k6
    have q7 : (kd == 7) = false := beq_eq_false_iff_ne.2 k7
    clear k1 k2 k3 k4 k5 k6 k7
    go_enter Try.func22, Try.ntmps22
    go_wp2
    go_ret
    exact ⟨rfl, d, v, r, hW0.out.1, hW0.out.2, HS.out, But.of hb0.out, NewV.refl _ _⟩
end Go.Proofs.Ytcbjokofjmefnaa
