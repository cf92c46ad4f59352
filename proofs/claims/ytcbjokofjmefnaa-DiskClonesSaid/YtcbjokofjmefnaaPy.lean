/- DiskPlays: the walk. -/
import Derived.Test.YtcbjokofjmefnaaAct
import Derived.Deep.RegionHeld3
namespace Go.Proofs.Ytcbjokofjmefnaa
open Go.RowKit

/-- Both, all of it new. -/
structure Pair (B : Nat) (w : World) (sb mb rb : Nat) (v : Value) (d : DiskV) (r : RefV) : Prop where
  hd : IsDisk w sb mb d
  hr : IsRef w rb v r
  hs : Sim d r
  new : ∀ k, Both sb mb rb v k → B ≤ k
theorem Pair.below {B : Nat} {w w' : World} {sb mb rb : Nat} {v : Value} {d : DiskV} {r : RefV} (h : Pair B w sb mb rb v d r) (hb : Below w.heap.size w w') : Pair B w' sb mb rb v d r :=
  ⟨h.hd.below hb, h.hr.below hb, h.hs, h.new⟩
set_option maxRecDepth 100000 in
set_option maxHeartbeats 4000000 in
theorem plays_law (v : Value) (l : List ActT) (w : World) (hl : repAct.SR (fun k => k < w.heap.size) w v l) :
    Calls Try.prog 6 #[v] w fun e w' => e = .returned (.bool true) ∧ Below w.heap.size w w' := by
  obtain ⟨a, cap, rfl, hlen, hcap, -⟩ := SR_act hl
  have HL := Lib.hid hl
  clear hl
  go_enter Try.func6, Try.ntmps6
  go_wp2_with fail
  refine (shown_any w).mono ?_
  rintro e w1 ⟨rfl, b1⟩
  go_wp2_with fail
  refine (new_any w1).mono ?_
  rintro e w2 ⟨sb, mb, rfl, h2, b2, l1, l2⟩
  have B2 := Lib.hid (b1.trans (b2.mono b1.size))
  have hz := b1.size
  have H2 := Lib.hid h2
  clear b1 b2 h2
  go_wp2_with fail
  refine (rnew_any w2).mono ?_
  rintro e w3 ⟨rb, rfl, h3, b3, l3⟩
  have hz2 := B2.out.size
  have hP : Hid (Pair w.heap.size w3 sb mb rb (.slice none 0 0) ⟨[], -1, false⟩ ⟨[], -1, false⟩ ∧ Below w.heap.size w w3) := by
    refine ⟨⟨H2.out.below b3, h3, ⟨rfl, rfl, List.Perm.refl _, List.Pairwise.nil, ⟨by simp, by simp⟩⟩, ?_⟩, B2.out.trans (b3.mono hz2)⟩
    rintro k ((rfl | rfl) | (rfl | hk))
    · omega
    · omega
    · omega
    · simp [Value.ownBlock] at hk
  clear h3 b3 l1 l2 l3 hz hz2
  go_wp2_with fail
  go_loopw [4, 5, 6] (fun v4 v5 v6 wr => ∃ (sb mb rb : Nat) (v : Value) (d : DiskV) (r : RefV) (n : Nat), n ≤ l.length ∧ v4 = .pointer (some ⟨sb, 0, none⟩) ∧ v5 = .pointer (some ⟨rb, 0, none⟩) ∧ v6 = .int .i64 n ∧ Hid (Pair w.heap.size wr sb mb rb v d r ∧ Below w.heap.size w wr))
    (fun _ _ v6 _ => l.length - (intOf v6).toNat)
  case atStart => exact ⟨sb, mb, rb, _, _, _, 0, Nat.zero_le _, rfl, rfl, rfl, hP.out⟩
  case round =>
    obtain ⟨sb, mb, rb, vv, d, r, n, hn, rfl, rfl, rfl, hR⟩ := hrel
    by_cases hlt : n < l.length
    · obtain ⟨a', cap', hv, -, -, hcell⟩ := SR_act (HL.out.mono (fun i hi _ => hR.out.2.block i hi))
      cases hv
      obtain ⟨⟨kd, an, nm, s, kp, u⟩, hx⟩ : ∃ x, l[n]? = some x := ⟨_, List.getElem?_eq_getElem hlt⟩
      obtain ⟨b, off, kv, rfl, hbS, hc0, hc1, hc2, hc3, hc4, hkeep, hn2, hss⟩ := hcell n _ hx
      dsimp only at hc0 hc1 hc2 hc3 hc4 hkeep hn2 hss
      clear hx
      have HKeep := Lib.hid hkeep
      clear hcell hkeep
      by_cases h8 : kd = 8
      · subst h8
        go_wp2_with fail
        refine (clone_any sb mb d wr hR.out.1.hd).mono ?_
        rintro e w4 ⟨sb', mb', rfl, h4, l4, l5, b4⟩
        go_wp2_with fail
        have r4 := hR.out.1.hr.below b4
        have D4 := Lib.hid (And.intro h4 (And.intro r4 b4))
        have hz4 := b4.size
        clear h4 r4 b4
        refine (rclone_any rb vv r w4 D4.out.2.1 hR.out.1.hs.ok.many).mono ?_
        rintro e w5 ⟨rb', v5, rfl, h5, l6, l7, b5⟩
        have PP : Hid (Pair w.heap.size w5 sb' mb' rb' v5 d r ∧ Below w.heap.size w w5) := by
          have hz := hR.out.2.size
          have bb := D4.out.2.2.trans (b5.mono hz4)
          refine ⟨⟨D4.out.1.below b5, h5, hR.out.1.hs, ?_⟩, hR.out.2.trans (bb.mono hz)⟩
          rintro k ((rfl | rfl) | (rfl | hk))
          · omega
          · omega
          · omega
          · have := l7 k hk
            omega
        have HK2 : Hid (repInt.SR (fun k => k < w.heap.size) w5 kv kp) := HKeep.out.mono (fun k hk hk2 => (b5.block k (by omega)).trans (D4.out.2.2.block k hk2))
        have hcs : Hid (∀ j u, wr.cell? ⟨b, off + n * 5 + j, none⟩ = some u → w5.cell? ⟨b, off + n * 5 + j, none⟩ = some u) := by
          intro j u hu
          have hlt := World.block_lt_of_cell? wr _ hu
          exact (b5.cell (p := ⟨b, off + n * 5 + j, none⟩) (by exact Nat.lt_of_lt_of_le hlt hz4)).trans ((D4.out.2.2.cell (p := ⟨b, off + n * 5 + j, none⟩) hlt).trans hu)
        have kc0 : w5.cell? ⟨b, off + n * 5, none⟩ = some (.int .i64 8) := hcs.out 0 _ hc0
        have kc1 := hcs.out 1 _ hc1
        have kc2 := hcs.out 2 _ hc2
        have kc3 := hcs.out 3 _ hc3
        have kc4 := hcs.out 4 _ hc4
        clear h5 l4 l5 l6 l7 b5 hz4 hc0 hc1 hc2 hc3 hc4
        go_wp2_with fail
        refine (does_any sb' mb' rb' v5 d r 8 an nm s kv kp w5 PP.out.1.hd PP.out.1.hr PP.out.1.hs hn2 hss (fun X hX => SR_ints (HK2.out.mono (fun k hk hk2 => hX.block k hk2 (fun hc => by have := PP.out.1.new k hc; omega))))).mono ?_
        rintro e w6 ⟨rfl, d', v', r', hd6, hr6, hs6, b6, n6⟩
        have P6 : Hid (Pair w.heap.size w6 sb' mb' rb' v' d' r' ∧ Below w.heap.size w w6) := by
          refine ⟨⟨hd6, hr6, hs6, ?_⟩, PP.out.2.trans (b6.below PP.out.2.size PP.out.1.new)⟩
          rintro k (hk | (rfl | hk))
          · exact PP.out.1.new k (.inl hk)
          · exact PP.out.1.new k (.inr (.inl rfl))
          · rcases n6 k hk with hk | hk
            · exact PP.out.1.new k (.inr (.inr hk))
            · exact Nat.le_trans PP.out.2.size hk
        clear hd6 hr6 hs6 b6 n6
        go_wp2_with fail
        refine (Names_any sb' mb' d' w6 P6.out.1.hd P6.out.1.hs.dok).mono ?_
        rintro e w7 ⟨v7, rfl, o7, b7⟩
        have P7 := Lib.hid (And.intro (P6.out.1.below b7) (P6.out.2.trans (b7.mono P6.out.2.size)))
        have O7 := Lib.hid o7
        clear o7 b7
        go_wp2_with fail
        refine (rnames_any rb' v' r' w7 P7.out.1.hr P7.out.1.hs.ok).mono ?_
        rintro e w8 ⟨v8, rfl, o8, b8⟩
        have P8 := Lib.hid (And.intro (P7.out.1.below b8) (P7.out.2.trans (b8.mono P7.out.2.size)))
        have O8 := Lib.hid (And.intro o8 (own_but (F := fun _ => False) O7.out (But.of b8) (fun _ _ hf => hf)))
        clear o8 b8
        go_wp2_with fail
        refine (same_any v7 v8 (skeys d'.files) (namesR r'.F) w8 (SlR.of_own O8.out.2) (SlR.of_own O8.out.1) (by rw [skeys_length]; have := P8.out.1.hs.dok.many; omega)).mono ?_
        rintro e w9 ⟨rfl, nd, rfl⟩
        rw [decide_eq_true P8.out.1.hs.names]
        have P9 : Hid (Pair w.heap.size (w8.drewN nd) sb' mb' rb' v' d' r' ∧ Below w.heap.size w (w8.drewN nd)) := ⟨⟨P8.out.1.hd.same rfl rfl, P8.out.1.hr.drewN nd, P8.out.1.hs, P8.out.1.new⟩, ⟨P8.out.2.os, P8.out.2.tape, P8.out.2.output, P8.out.2.size, P8.out.2.block⟩⟩
        generalize w8.drewN nd = W9 at P9
        have c2 := P9.out.1.hr.c2
        go_wp2_with fail
        go_region_held3 (fun w' => w'.cell? ⟨rb', 2, none⟩ = some (.bool r'.off))
          (first
            | go_keep
            | exact c2)
          (first
            | (go_at_call 16 ; refine (off_any sb' mb' d' _ (by exact P9.out.1.hd.same rfl rfl)).mono ?_; rintro e w1 ⟨rfl, rfl⟩; rw [P9.out.1.hs.of]))
        go_wp2
        refine ⟨⟨sb', mb', rb', v', d', r', n + 1, by omega, rfl, rfl, by go_num, ?_⟩, by simp [intOf]; omega⟩
        exact ⟨⟨P9.out.1.hd.same rfl rfl, P9.out.1.hr.drew, P9.out.1.hs, P9.out.1.new⟩, ⟨P9.out.2.os, P9.out.2.tape, P9.out.2.output, P9.out.2.size, P9.out.2.block⟩⟩
      · have hq8 : (kd == 8) = false := beq_eq_false_iff_ne.2 h8
        clear h8
        have PP := hR
        have HK2 := HKeep
        go_wp2_with fail
        refine (does_any sb mb rb vv d r kd an nm s kv kp wr PP.out.1.hd PP.out.1.hr PP.out.1.hs hn2 hss (fun X hX => SR_ints (HK2.out.mono (fun k hk hk2 => hX.block k hk2 (fun hc => by have := PP.out.1.new k hc; omega))))).mono ?_
        rintro e w6 ⟨rfl, d', v', r', hd6, hr6, hs6, b6, n6⟩
        have P6 : Hid (Pair w.heap.size w6 sb mb rb v' d' r' ∧ Below w.heap.size w w6) := by
          refine ⟨⟨hd6, hr6, hs6, ?_⟩, PP.out.2.trans (b6.below PP.out.2.size PP.out.1.new)⟩
          rintro k (hk | (rfl | hk))
          · exact PP.out.1.new k (.inl hk)
          · exact PP.out.1.new k (.inr (.inl rfl))
          · rcases n6 k hk with hk | hk
            · exact PP.out.1.new k (.inr (.inr hk))
            · exact Nat.le_trans PP.out.2.size hk
        clear hd6 hr6 hs6 b6 n6
        go_wp2_with fail
        refine (Names_any sb mb d' w6 P6.out.1.hd P6.out.1.hs.dok).mono ?_
        rintro e w7 ⟨v7, rfl, o7, b7⟩
        have P7 := Lib.hid (And.intro (P6.out.1.below b7) (P6.out.2.trans (b7.mono P6.out.2.size)))
        have O7 := Lib.hid o7
        clear o7 b7
        go_wp2_with fail
        refine (rnames_any rb v' r' w7 P7.out.1.hr P7.out.1.hs.ok).mono ?_
        rintro e w8 ⟨v8, rfl, o8, b8⟩
        have P8 := Lib.hid (And.intro (P7.out.1.below b8) (P7.out.2.trans (b8.mono P7.out.2.size)))
        have O8 := Lib.hid (And.intro o8 (own_but (F := fun _ => False) O7.out (But.of b8) (fun _ _ hf => hf)))
        clear o8 b8
        go_wp2_with fail
        refine (same_any v7 v8 (skeys d'.files) (namesR r'.F) w8 (SlR.of_own O8.out.2) (SlR.of_own O8.out.1) (by rw [skeys_length]; have := P8.out.1.hs.dok.many; omega)).mono ?_
        rintro e w9 ⟨rfl, nd, rfl⟩
        rw [decide_eq_true P8.out.1.hs.names]
        have P9 : Hid (Pair w.heap.size (w8.drewN nd) sb mb rb v' d' r' ∧ Below w.heap.size w (w8.drewN nd)) := ⟨⟨P8.out.1.hd.same rfl rfl, P8.out.1.hr.drewN nd, P8.out.1.hs, P8.out.1.new⟩, ⟨P8.out.2.os, P8.out.2.tape, P8.out.2.output, P8.out.2.size, P8.out.2.block⟩⟩
        generalize w8.drewN nd = W9 at P9
        have c2 := P9.out.1.hr.c2
        go_wp2_with fail
        go_region_held3 (fun w' => w'.cell? ⟨rb, 2, none⟩ = some (.bool r'.off))
          (first
            | go_keep
            | exact c2)
          (first
            | (go_at_call 16 ; refine (off_any sb mb d' _ (by exact P9.out.1.hd.same rfl rfl)).mono ?_; rintro e w1 ⟨rfl, rfl⟩; rw [P9.out.1.hs.of]))
        go_wp2
        refine ⟨⟨sb, mb, rb, v', d', r', n + 1, by omega, rfl, rfl, by go_num, ?_⟩, by simp [intOf]; omega⟩
        exact ⟨⟨P9.out.1.hd.same rfl rfl, P9.out.1.hr.drew, P9.out.1.hs, P9.out.1.new⟩, ⟨P9.out.2.os, P9.out.2.tape, P9.out.2.output, P9.out.2.size, P9.out.2.block⟩⟩
    · have hin : n = l.length := by omega
      subst hin
      go_wp2
      go_ret
      exact ⟨rfl, hR.out.2⟩
end Go.Proofs.Ytcbjokofjmefnaa
