/- DiskClones: the walk. -/
import Derived.Test.YtcbjokofjmefnaaPy
namespace Go.Proofs.Ytcbjokofjmefnaa
open Go.RowKit

theorem Pair.aside {B : Nat} {w w' : World} {sb mb rb : Nat} {v : Value} {d : DiskV} {r : RefV} {F : Nat → Prop} (h : Pair B w sb mb rb v d r) (hb : But F w w') (hF : ∀ k, Both sb mb rb v k → ¬ F k) : Pair B w' sb mb rb v d r :=
  ⟨h.hd.but hb (hF _ (.inl (.inl rfl))) (hF _ (.inl (.inr rfl))), h.hr.but hb (hF _ (.inr (.inl rfl))) (fun _ hk => hF _ (.inr (.inr hk))), h.hs, h.new⟩
theorem Pair.lt {B : Nat} {w : World} {sb mb rb : Nat} {v : Value} {d : DiskV} {r : RefV} (h : Pair B w sb mb rb v d r) (k : Nat) (hk : Both sb mb rb v k) : k < w.heap.size := by
  rcases hk with (rfl | rfl) | (rfl | hk)
  · exact h.hd.lts
  · exact h.hd.ltm
  · exact h.hr.lt
  · exact h.hr.ltv k hk
/-- What an act does to both, all told. -/
theorem does_pair (B : Nat) (sb mb rb : Nat) (v : Value) (d : DiskV) (r : RefV) (kd n : Int) (nm s : ByteArray) (kv : Value) (kp : List Int) (w : World) (h : Pair B w sb mb rb v d r) (hB : B ≤ w.heap.size)
    (hn : n ≤ 9223372036854775807) (hss : s.size ≤ 140737488351232) (hk : repInt.SR (fun k => k < B) w kv kp) :
    Calls Try.prog 22 #[.pointer (some ⟨sb, 0, none⟩), .pointer (some ⟨rb, 0, none⟩), .agg #[.int .i64 kd, .int .i64 n, .string nm, .string s, kv]] w
      fun e w' => e = .returned (.bool true) ∧ ∃ d' v' r', Pair B w' sb mb rb v' d' r' ∧ But (Both sb mb rb v) w w' ∧ NewV w v v' := by
  refine (does_any sb mb rb v d r kd n nm s kv kp w h.hd h.hr h.hs hn hss (fun X hX => SR_ints (hk.mono (fun k hk hk2 => hX.block k hk2 (fun hc => by have := h.new k hc; omega))))).mono ?_
  rintro e w' ⟨he, d', v', r', hd, hr, hs, hb, hnv⟩
  refine ⟨he, d', v', r', ⟨hd, hr, hs, ?_⟩, hb, hnv⟩
  rintro k (hk | (rfl | hk))
  · exact h.new k (.inl hk)
  · exact h.new k (.inr (.inl rfl))
  · rcases hnv k hk with hk | hk
    · exact h.new k (.inr (.inr hk))
    · exact Nat.le_trans hB hk
/-- Two such, apart. -/
structure Two (B : Nat) (wb w : World) (sb mb rb : Nat) (v : Value) (d : DiskV) (r : RefV) (sc mc rc : Nat) (v2 : Value) (c : DiskV) (q : RefV) : Prop where
  p : Pair B w sb mb rb v d r
  q : Pair B w sc mc rc v2 c q
  dis : ∀ k, Both sb mb rb v k → ¬ Both sc mc rc v2 k
  bel : Below B wb w
  sz : B ≤ w.heap.size
section
variable {B : Nat} {wb w w' : World} {sb mb rb : Nat} {v : Value} {d : DiskV} {r : RefV} {sc mc rc : Nat} {v2 : Value} {c : DiskV} {q : RefV}
theorem Two.below (h : Two B wb w sb mb rb v d r sc mc rc v2 c q) (hb : Below w.heap.size w w') : Two B wb w' sb mb rb v d r sc mc rc v2 c q :=
  ⟨h.p.below hb, h.q.below hb, h.dis, h.bel.trans (hb.mono h.sz), Nat.le_trans h.sz hb.size⟩
theorem drewN_below (w : World) (n B : Nat) : Below B w (w.drewN n) := ⟨rfl, rfl, rfl, Nat.le_refl _, fun _ _ => rfl⟩
theorem Two.first (h : Two B wb w sb mb rb v d r sc mc rc v2 c q) {v' : Value} {d' : DiskV} {r' : RefV} (h' : Pair B w' sb mb rb v' d' r') (hb : But (Both sb mb rb v) w w') (hn : NewV w v v') : Two B wb w' sb mb rb v' d' r' sc mc rc v2 c q := by
  refine ⟨h', h.q.aside hb (fun k h1 h2 => h.dis k h2 h1), ?_, h.bel.trans (hb.below h.sz h.p.new), Nat.le_trans h.sz hb.size⟩
  rintro k (hk | (rfl | hk)) hq
  · exact h.dis k (.inl hk) hq
  · exact h.dis _ (.inr (.inl rfl)) hq
  · rcases hn k hk with hk | hk
    · exact h.dis k (.inr (.inr hk)) hq
    · have := h.q.lt k hq; omega
theorem Two.swap (h : Two B wb w sb mb rb v d r sc mc rc v2 c q) : Two B wb w sc mc rc v2 c q sb mb rb v d r := ⟨h.q, h.p, fun k h1 h2 => h.dis k h2 h1, h.bel, h.sz⟩
end
set_option maxRecDepth 100000 in
set_option maxHeartbeats 8000000 in
theorem clones_law (v : Value) (l : List ActT) (ca cb : Array Value) (xa xb : ActT) (w : World) (hl : repAct.SR (fun k => k < w.heap.size) w v l) (ha : repAct.R (fun k => k < w.heap.size) w ca.toList xa) (hb : repAct.R (fun k => k < w.heap.size) w cb.toList xb) :
    Calls Try.prog 7 #[v, .agg ca, .agg cb] w fun e w' => e = .returned (.bool true) ∧ Below w.heap.size w w' := by
  obtain ⟨kva, hA⟩ := open_act ha
  obtain ⟨kvb, hB⟩ := open_act hb
  obtain ⟨la⟩ := ca
  obtain ⟨lb⟩ := cb
  have ea := hA.cs_eq
  have eb := hB.cs_eq
  simp only at ea eb
  subst ea eb
  obtain ⟨kda, ana, nma, sa, kpa, ua⟩ := xa
  obtain ⟨kdb, anb, nmb, sb0, kpb, ub⟩ := xb
  have Ha := Lib.hid (And.intro hA.keep (And.intro hA.n hA.s))
  have Hb := Lib.hid (And.intro hB.keep (And.intro hB.n hB.s))
  dsimp only at Ha Hb ⊢
  clear hA hB ha hb
  obtain ⟨a, cap, rfl, hlen, hcap, -⟩ := SR_act hl
  have HL := Lib.hid hl
  clear hl
  go_enter Try.func7, Try.ntmps7
  go_wp2_with fail
  let wb := (w.alloc (.cells #[.int .i64 kda, .int .i64 ana, .string nma, .string sa, kva] 44)).alloc (.cells #[.int .i64 kdb, .int .i64 anb, .string nmb, .string sb0, kvb] 44)
  have hwz : wb.heap.size = w.heap.size + 2 := by simp [wb]
  have hwb : Hid (Below w.heap.size w wb) := ((Below.refl _ w).alloc (Nat.le_refl _) _).alloc (by simp) _
  have hbx : Hid (wb.heap[w.heap.size]? = some (.cells #[.int .i64 kda, .int .i64 ana, .string nma, .string sa, kva] 44) ∧ wb.heap[w.heap.size + 1]? = some (.cells #[.int .i64 kdb, .int .i64 anb, .string nmb, .string sb0, kvb] 44)) := by
    refine ⟨(alloc_old _ (by simp)).trans (alloc_new _ _), ?_⟩
    have := alloc_new (w.alloc (.cells #[.int .i64 kda, .int .i64 ana, .string nma, .string sa, kva] 44)) (.cells #[.int .i64 kdb, .int .i64 anb, .string nmb, .string sb0, kvb] 44)
    rw [show (w.alloc (.cells #[.int .i64 kda, .int .i64 ana, .string nma, .string sa, kva] 44)).heap.size = w.heap.size + 1 by simp] at this
    exact this
  refine (shown_any wb).mono ?_
  rintro e w1 ⟨rfl, b1⟩
  go_wp2_with fail
  refine (new_any w1).mono ?_
  rintro e w2 ⟨sb, mb, rfl, h2, b2, l1, l2⟩
  have B2 := Lib.hid (b1.trans (b2.mono b1.size))
  have hz := b1.size
  have H2 := Lib.hid h2
  clear b1 b2 h2
  go_wp2_with fail
  refine (rnew_any w2).mono ?_
  rintro e w3 ⟨rb, rfl, h3, b3, l3⟩
  have hz2 := B2.out.size
  have hP : Hid (Pair wb.heap.size w3 sb mb rb (.slice none 0 0) ⟨[], -1, false⟩ ⟨[], -1, false⟩ ∧ Below wb.heap.size wb w3) := by
    refine ⟨⟨H2.out.below b3, h3, ⟨rfl, rfl, List.Perm.refl _, List.Pairwise.nil, ⟨by simp, by simp⟩⟩, ?_⟩, B2.out.trans (b3.mono hz2)⟩
    rintro k ((rfl | rfl) | (rfl | hk))
    · omega
    · omega
    · omega
    · simp [Value.ownBlock] at hk
  clear h3 b3 l1 l2 l3 hz hz2
  clear_value wb
  go_wp2_with fail
  go_loopw [10] (fun v10 wr => ∃ (v : Value) (d : DiskV) (r : RefV) (n : Nat), n ≤ l.length ∧ v10 = .int .i64 n ∧ Hid (Pair wb.heap.size wr sb mb rb v d r ∧ Below wb.heap.size wb wr))
    (fun v10 _ => l.length - (intOf v10).toNat)
  case atStart => exact ⟨_, _, _, 0, Nat.zero_le _, rfl, hP.out⟩
  case round =>
    obtain ⟨vv, d, r, n, hn, rfl, hR⟩ := hrel
    have hbw : Hid (Below w.heap.size w wr) := hwb.out.trans (hR.out.2.mono (by omega))
    have hrz := hR.out.2.size
    by_cases hlt : n < l.length
    · obtain ⟨a', cap', hv, -, -, hcell⟩ := SR_act (HL.out.mono (fun i hi _ => hbw.out.block i hi))
      cases hv
      obtain ⟨⟨kd, an, nm, s, kp, u⟩, hx⟩ : ∃ x, l[n]? = some x := ⟨_, List.getElem?_eq_getElem hlt⟩
      obtain ⟨b, off, kv, rfl, hbS, hc0, hc1, hc2, hc3, hc4, hkeep, hn2, hss⟩ := hcell n _ hx
      dsimp only at hc0 hc1 hc2 hc3 hc4 hkeep hn2 hss
      have HKeep := Lib.hid hkeep
      clear hcell hkeep hx
      go_wp2_with fail
      refine (does_pair wb.heap.size sb mb rb vv d r kd an nm s kv kp wr hR.out.1 hrz hn2 hss (HKeep.out.weak (by rw [cells_int]; exact Nat.one_pos) (fun k _ hk => by omega))).mono ?_
      rintro e w6 ⟨rfl, d', v', r', p6, b6, n6⟩
      have P6 := Lib.hid (And.intro p6 (hR.out.2.trans (b6.below hrz hR.out.1.new)))
      clear p6 b6 n6
      go_wp2
      exact ⟨⟨v', d', r', n + 1, by omega, by go_num, P6.out⟩, by simp [intOf]; omega⟩
    · have hin : n = l.length := by omega
      subst hin
      go_wp2_with fail
      refine (clone_any sb mb d wr hR.out.1.hd).mono ?_
      rintro e w4 ⟨sc, mc, rfl, h4, l4, l5, b4⟩
      have r4 := hR.out.1.hr.below b4
      have D4 := Lib.hid (And.intro h4 (And.intro r4 b4))
      have hz4 := b4.size
      clear h4 r4 b4
      go_wp2_with fail
      refine (rclone_any rb vv r w4 D4.out.2.1 hR.out.1.hs.ok.many).mono ?_
      rintro e w5 ⟨rc, v5, rfl, h5, l6, l7, b5⟩
      have T5 : Hid (Two wb.heap.size wb w5 sb mb rb vv d r sc mc rc v5 d r) := by
        have bb : Below wr.heap.size wr w5 := D4.out.2.2.trans (b5.mono hz4)
        have hnew : ∀ k, Both sc mc rc v5 k → wr.heap.size ≤ k := by
          rintro k ((rfl | rfl) | (rfl | hk))
          · omega
          · omega
          · omega
          · have := l7 k hk
            omega
        refine ⟨hR.out.1.below bb, ⟨D4.out.1.below b5, h5, hR.out.1.hs, fun k hk => Nat.le_trans hrz (hnew k hk)⟩, fun k h1 h2 => ?_, hR.out.2.trans (bb.mono hrz), Nat.le_trans hrz bb.size⟩
        have := hR.out.1.lt k h1
        have := hnew k h2
        omega
      clear h5 l4 l5 l6 l7 b5 hz4
      have ba : w5.heap[w.heap.size]? = _ := (T5.out.bel.block w.heap.size (by omega)).trans hbx.out.1
      have k0 := cell_of ba 0
      have k1 := cell_of ba 1
      have k2 := cell_of ba 2
      have k3 := cell_of ba 3
      have k4 := cell_of ba 4
      have SA : Hid (repInt.SR (fun k => k < wb.heap.size) w5 kva kpa) := (Ha.out.1.mono (w' := w5) (fun k hk _ => (T5.out.bel.block k (by omega)).trans (hwb.out.block k hk))).weak (by rw [cells_int]; exact Nat.one_pos) (fun k _ hk => by omega)
      clear ba
      go_wp2_with fail
      refine (does_pair wb.heap.size sb mb rb vv d r kda ana nma sa kva kpa w5 T5.out.p T5.out.sz Ha.out.2.1 Ha.out.2.2 SA.out).mono ?_
      rintro e w6 ⟨rfl, d6, v6, r6, p6, b6, n6⟩
      have T6 := Lib.hid (T5.out.first p6 b6 n6)
      clear p6 b6 n6 k0 k1 k2 k3 k4
      have ba : w6.heap[w.heap.size + 1]? = _ := (T6.out.bel.block (w.heap.size + 1) (by omega)).trans hbx.out.2
      have k0 := cell_of ba 0
      have k1 := cell_of ba 1
      have k2 := cell_of ba 2
      have k3 := cell_of ba 3
      have k4 := cell_of ba 4
      have SB : Hid (repInt.SR (fun k => k < wb.heap.size) w6 kvb kpb) := (Hb.out.1.mono (w' := w6) (fun k hk _ => (T6.out.bel.block k (by omega)).trans (hwb.out.block k hk))).weak (by rw [cells_int]; exact Nat.one_pos) (fun k _ hk => by omega)
      clear ba
      go_wp2_with fail
      refine (does_pair wb.heap.size sc mc rc v5 d r kdb anb nmb sb0 kvb kpb w6 T6.out.q T6.out.sz Hb.out.2.1 Hb.out.2.2 SB.out).mono ?_
      rintro e w7 ⟨rfl, d7, v7, r7, p7, b7, n7⟩
      have T7 := Lib.hid (T6.out.swap.first p7 b7 n7).swap
      clear p7 b7 n7 k0 k1 k2 k3 k4
      go_wp2_with fail
      refine (Names_any sb mb d6 w7 T7.out.p.hd T7.out.p.hs.dok).mono ?_
      rintro e w8 ⟨x8, rfl, o8, b8⟩
      have T8 := Lib.hid (T7.out.below b8)
      have O8 := Lib.hid o8
      clear o8 b8
      go_wp2_with fail
      refine (rnames_any rb v6 r6 w8 T8.out.p.hr T8.out.p.hs.ok).mono ?_
      rintro e w9 ⟨x9, rfl, o9, b9⟩
      have T9 := Lib.hid (T8.out.below b9)
      have O9 := Lib.hid (And.intro o9 (own_but (F := fun _ => False) O8.out (But.of b9) (fun _ _ hf => hf)))
      clear o9 b9
      go_wp2_with fail
      refine (same_any x8 x9 _ _ w9 (SlR.of_own O9.out.2) (SlR.of_own O9.out.1) (by rw [skeys_length]; have := T9.out.p.hs.dok.many; omega)).mono ?_
      rintro e w10' ⟨rfl, nd10, rfl⟩
      rw [decide_eq_true T9.out.p.hs.names]
      have T10 := Lib.hid (T9.out.below (drewN_below w9 nd10 _))
      generalize w9.drewN nd10 = w10 at T10
      go_wp2_with fail
      refine (Names_any sc mc d7 w10 T10.out.q.hd T10.out.q.hs.dok).mono ?_
      rintro e w11 ⟨x11, rfl, o11, b11⟩
      have T11 := Lib.hid (T10.out.below b11)
      have O11 := Lib.hid o11
      clear o11 b11
      go_wp2_with fail
      refine (rnames_any rc v7 r7 w11 T11.out.q.hr T11.out.q.hs.ok).mono ?_
      rintro e w12 ⟨x12, rfl, o12, b12⟩
      have T12 := Lib.hid (T11.out.below b12)
      have O12 := Lib.hid (And.intro o12 (own_but (F := fun _ => False) O11.out (But.of b12) (fun _ _ hf => hf)))
      clear o12 b12
      go_wp2_with fail
      refine (same_any x11 x12 _ _ w12 (SlR.of_own O12.out.2) (SlR.of_own O12.out.1) (by rw [skeys_length]; have := T12.out.q.hs.dok.many; omega)).mono ?_
      rintro e w13' ⟨rfl, nd13, rfl⟩
      rw [decide_eq_true T12.out.q.hs.names]
      have T13 := Lib.hid (T12.out.below (drewN_below w12 nd13 _))
      generalize w12.drewN nd13 = w13 at T13
      have hm7 := T13.out.q.hs.ok.many
      obtain ⟨a7, c7, rfl⟩ := own_slice T13.out.q.hr.row
      go_wp2_with fail
      go_loopw [17] (fun v17 wr => ∃ n : Nat, n ≤ r7.F.length ∧ v17 = .int .i64 n ∧ Hid (Two wb.heap.size wb wr sb mb rb v6 d6 r6 sc mc rc (.slice a7 r7.F.length c7) d7 r7)) (fun v17 _ => r7.F.length - (intOf v17).toNat)
      case atStart => exact ⟨0, Nat.zero_le _, rfl, T13.out⟩
      case round =>
        obtain ⟨n, hn, rfl, hR⟩ := hrel
        have hq := hR.out.q
        have c0 := hq.hr.c0
        by_cases hlt : n < r7.F.length
        · have hfe : r7.F[n]? = some r7.F[n] := List.getElem?_eq_getElem hlt
          generalize r7.F[n] = f at hfe
          have hfl := flatR_at r7.F n f hfe
          obtain ⟨g, cap', hv, -, -, -, -, hcell⟩ := own_at hq.hr.row hfl.1
          cases hv
          have hc := hcell _ _ hfl.1
          have hgl := hq.hr.ltv g rfl
          have hrl := hq.hr.lt
          have hrd := Lib.hid (hq.hs.read f.n)
          clear hcell hfl hfe hq
          go_wp2_with fail
          refine (read_any sc mc d7 f.n wr hR.out.q.hd).mono ?_
          rintro e w14 ⟨rfl, b14⟩
          rw [hrd.out.1, hrd.out.2]
          have T14 := Lib.hid (hR.out.below b14)
          have kc0 := (b14.cell (p := ⟨rc, 0, none⟩) hrl).trans c0
          have kc1 := (b14.cell (p := ⟨g, n * 3, none⟩) hgl).trans hc
          clear b14 c0 hc
          go_wp2_with fail
          refine (rread_any rc _ r7 f.n w14 T14.out.q.hr (by have := T14.out.q.hs.ok.many; omega) (fun f hf => (T14.out.q.hs.ok.each f hf).1)).mono ?_
          rintro e w15 ⟨rfl, nd, rfl⟩
          go_wp2
          exact ⟨⟨n + 1, by omega, by go_num, T14.out.below (drewN_below w14 nd _)⟩, by simp [intOf]; omega⟩
        · have hin : n = r7.F.length := by omega
          subst hin
          clear hq
          go_wp2
          go_ret
          exact ⟨rfl, hwb.out.trans (hR.out.bel.mono (by omega))⟩
end Go.Proofs.Ytcbjokofjmefnaa
