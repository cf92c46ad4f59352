/- KeepReads: contracts (Rp Rz). -/
import Derived.Test.YthikijlbclckdaaGreatQ12
import Derived.Test.YthikijlbclckdaaGreatQ22
import Derived.Test.YthikijlbclckdaaGreatQ23
import Derived.Laws.EntriesVeiled
namespace Go.Proofs.YthikijlbclckdaaGreat
set_option maxRecDepth 100000
set_option maxHeartbeats 40000000
set_option linter.unusedSimpArgs false
set_option linter.unusedVariables false
open Go.IntWalk Go.RowKit
theorem info_rrow2 : (Tryz.prog.info? 70).map (fun i => (i.zero, i.size, i.bytes)) = some (some (.agg #[.string ⟨#[]⟩, .string ⟨#[]⟩]), 2, 32) := by kernel_rfl
theorem plain_any (l : List RowV) (hl : l.length ≤ 4194304) (v : Value) (w : World) (h : rowsF l v w) :
  Calls Tryz.prog 21 #[v] w fun e w' => ∃ u, e = .returned u ∧ rowsF l u w' ∧ Below w.heap.size w w' := by
 have H := hid h
 obtain ⟨a, c', rfl, hc1, hcm, -⟩ := h
 unfold maxLen at hcm
 go_enter Tryz.func21, Tryz.ntmps21
 go_wp2
 go_loopw [3, 4] (fun vk vi wr => ∃ i : Nat, i ≤ l.length ∧ vi = .int .i64 i ∧ w.heap.size ≤ wr.heap.size ∧ Hid (wr.ownsRow w.heap.size 70 2 vk i (rowsC (l.take i)) ∧ Below w.heap.size w wr)) (fun _ vi _ => l.length - (intOf vi).toNat)
 case atStart => exact ⟨0, Nat.zero_le _, rfl, Nat.le_refl _, ⟨⟨rfl, .inl ⟨rfl, rfl⟩⟩, Below.refl _ _⟩⟩
 case round =>
  obtain ⟨i, hi, rfl, hws, hR⟩ := hrel
  obtain ⟨ak, ck, rfl⟩ := own_slice hR.out.1
  by_cases hlt : i < l.length
  ·
   obtain ⟨⟨rk, rv⟩, hx⟩ : ∃ x, l[i]? = some x := ⟨_, List.getElem?_eq_getElem hlt⟩
   obtain ⟨b, off, cap', he, d0, d1⟩ := rows_at H.out hx
   cases he
   dsimp only at d0 d1
   have hb0 := World.block_lt_of_cell? w _ d0
   dsimp only at hb0
   have D0 := hid ((hR.out.2.cell (p := ⟨b, off + i * 2, none⟩) hb0).trans d0)
   have D1 := hid ((hR.out.2.cell (p := ⟨b, off + i * 2 + 1, none⟩) hb0).trans d1)
   have ht := hid (take_snoc hx)
   have KO := hid hR.out.1
   have BB := hid hR.out.2
   have nl := hid (own_lt hR.out.1)
   have nb := hid (show ¬ ownB (.slice ak i ck) b from fun hh => by have := (hR.out.1.lt b hh).1; omega)
   clear hx d0 d1 hR
   go_wp2_with fail
   refine Ps.wp_par (Ps.relC (fun x => ownB (.slice ak i ck) x) (fun x _ => x = b)) (fun W => True ∧ W.ownsRow w.heap.size 70 2 (.slice ak i ck) i (rowsC (l.take i))) (false :: false :: false :: false :: false :: false :: false :: false :: false :: false :: false :: false :: false :: true :: []) _ (.fix ?_ :: .fix ?_ :: .fix ?_ :: .fix ?_ :: .fix ?_ :: .fix ?_ :: .fix ?_ :: .fix ?_ :: .fix ?_ :: .fix ?_ :: .fix ?_ :: .fix ?_ :: .new (Ps.rowN 2 ?_ ?_ wr.heap.size) :: .st (some (i + 1)) (fun _ _ => True) (fun u W => True ∧ W.ownsRow w.heap.size 70 2 u (i + 1) (rowsC (l.take i) ++ [.string rk, .string rv])) :: []) (by kernel_rfl) (by kernel_rfl) (by simp only [List.length_cons, List.length_nil, List.drop_succ_cons, List.drop_zero, List.drop_nil]; with_reducible rfl) rfl (fun _ _ _ _ _ => ⟨fun h => h, fun h => h⟩) (fun _ _ h hb => ⟨trivial, own_below h.2 hb⟩) (⟨trivial, KO.out⟩) ?_
   rotate_left 14
   iterate 12
    first
     | (refine Ps.par_skip (a' := ?_) (by rfl) (by rfl) ?_ ?_ ?_; rotate_left 1; with_reducible rfl; (simp only [lays]; with_reducible rfl))
     | (refine Ps.par_run (a' := ?_) (by rfl) (by rfl) (fun w' hb hn => ?_) ?_ ?_; rotate_left 1; (have q0 := hb.2 b _ _ rfl D0.out; have q1 := hb.2 b _ _ rfl D1.out; go_simp; (try simp (disch := omega) only [nrm, toNatUp, iteOmega]); first | with_reducible rfl | (go_simp; with_reducible rfl)); (simp only [lays]; with_reducible rfl))
   refine Ps.par_row (a' := ?ap1k12) (m := ?mp1k12) (T := ?Tp1k12) (cs := ?cp1k12) (r := ?rp1k12) (fun x h => nl.out x h) (by rfl) (by rfl) (fun w' hb hn => ?hp1k12) (fun w' => ?ep1k12) ?np1k12 ?vp1k12 ?lp1k12 ?xp1k12 (fun u => ?pp1k12) (fun u => ?gp1k12)
   case hp1k12 => (have q0 := hb.2 b _ _ rfl D0.out; have q1 := hb.2 b _ _ rfl D1.out; go_simp; (try simp (disch := omega) only [nrm, toNatUp, iteOmega]); with_reducible rfl)
   case ep1k12 => with_reducible rfl
   case np1k12 => with_reducible rfl
   case vp1k12 => with_reducible rfl
   case lp1k12 => simp only [List.length_cons, List.length_nil]
   case xp1k12 => (unfold maxLen; omega)
   case pp1k12 => (simp only [lays]; with_reducible rfl)
   refine Ps.par_app (a' := ?ap2k13) (A := fun W => True) 41 70 Tryz.underlying41 info_rrow2 rfl (by decide) hws (by unfold maxLen; omega) (by omega) (by simp [Value.oneCell']) (fun _ _ _ _ _ => trivial) (fun _ _ _ _ => trivial) (fun _ h => h) (fun x i hs hb => by subst hs; exact nb.out hb) (by rfl) rfl rfl rfl rfl (fun w' hb hn => ?xp2k13) (fun u => ?pp2k13) (fun u hu13 => ?gp2k13)
   case xp2k13 => (exact (Ps.need_head hn (by kernel_rfl)).1)
   case pp2k13 => (simp only [lays]; with_reducible rfl)
   obtain ⟨au13, cu13, rfl⟩ := hu13
   refine Ps.par_end (fun w9 hb9 hf9 hr9 => ?_)
   try refine Ps.wpList_none ?_
   have B9 : Below w.heap.size w w9 := ((But.of (w := w) BB.out).trans' hb9.1 (F := fun _ => False) (fun k hk ho => by have := (KO.out.lt k ho).1; omega)).grow
   have O9 := hr9.2
   replace B9 := hid B9
   replace O9 := hid O9
   clear hb9 hf9 hr9
   go_wp2
   exact ⟨⟨i + 1, by omega, by go_num, B9.out.size, by rw [ht.out, rowsC_snoc]; exact O9.out, B9.out⟩, by simp [intOf]; omega⟩
  ·
   have hin : i = l.length := by omega
   subst hin
   have F1 := hid (FlatAt.of_own hR.out.1)
   go_wp2
   go_ret
   exact ⟨_, rfl, by have := F1.out; rw [List.take_length] at this; exact this, hR.out.2⟩
end Go.Proofs.YthikijlbclckdaaGreat
namespace Go.Proofs.YthikijlbclckdaaGreat
set_option maxRecDepth 100000
set_option maxHeartbeats 40000000
set_option linter.unusedSimpArgs false
set_option linter.unusedVariables false
open Go.RowKit Go.Shelf
theorem ltS_eq (a b : ByteArray) : ltS a b = decide (a.data.toList < b.data.toList) := bytesLess_eq _ _
theorem ltS_irr (a : ByteArray) : ltS a a = false := by rw [ltS_eq]; exact decide_eq_false (List.lt_irrefl _)
theorem ltS_trans {a b c : ByteArray} (h1 : ltS a b = true) (h2 : ltS b c = true) : ltS a c = true := by
 rw [ltS_eq, decide_eq_true_eq] at *
 exact List.lt_trans h1 h2
theorem ltS_emp {a k : ByteArray} (h : ltS a k = true) : 0 < k.size := by
 rcases Nat.eq_zero_or_pos k.size with h0 | h0
 ·
  have : k = ⟨#[]⟩ := by
   obtain ⟨d⟩ := k
   have h1 : d.size = 0 := h0
   rw [Array.eq_empty_of_size_eq_zero h1]
  subst this
  rw [ltS_eq, decide_eq_true_eq] at h
  exact absurd h (List.not_lt_nil _)
 ·
  exact h0
theorem key_a {k : ByteArray} (h0 : 0 < k.size) (hc : (k.data.toList.headD 0).toNat = 97) (hs : k.size = 1) : k = c1 97 := by
 obtain ⟨⟨l⟩⟩ := k
 cases l with
 | nil => cases h0
 | cons b l =>
  have hl : l = [] := List.length_eq_zero_iff.1 (by have : (b :: l).length = 1 := hs; simpa using this)
  subst hl
  have hb : b.toNat = 97 := hc
  have : b = 97 := UInt8.toNat_inj.1 (by rw [hb]; rfl)
  subst this
  rfl
theorem rdz (a : Rd3) (hf : a.fst = true) (rv : ByteArray) : rdStep (some a) (c1 97, rv) = if endR (stepA a.s ⟨rv, 0⟩).r ≠ 0 then none else some ⟨false, c1 97, (stepA a.s ⟨rv, 0⟩).s⟩ := by
 have hb : (stepA a.s ⟨rv, 0⟩).bad = false := rfl
 have h1 : rowStep true a.last a.s (c1 97, rv) = if endR (stepA a.s ⟨rv, 0⟩).r ≠ 0 then none else some (stepA a.s ⟨rv, 0⟩).s := by
  unfold rowStep
  rw [if_neg (show ¬ (c1 97).size = 0 by decide), if_neg (by rw [decide_eq_true rfl]; decide), if_neg (by simp)]
  rw [show ((c1 97).data.toList.headD 0).toNat = 97 from rfl, show sizeK 97 = 0 from rfl, if_neg (by decide), if_neg (by rintro ⟨-, h⟩; exact h rfl)]
  rw [show ∀ k n i s r, stepOf 97 k n i s r = stepA s r from fun _ _ _ _ _ => rfl, hb]
  simp
 simp only [rdStep, hf, h1, Option.bind_some]
 by_cases he : endR (stepA a.s ⟨rv, 0⟩).r ≠ 0
 ·
  rw [if_pos he, if_pos he]; rfl
 ·
  rw [if_neg he, if_neg he]; rfl
theorem rds_lt (a : Rd3) (hf : a.fst = false) (rk rv : ByteArray) (h : ltS a.last rk = false) : rdStep (some a) (rk, rv) = none := by
 have h1 : rowStep false a.last a.s (rk, rv) = none := by
  unfold rowStep
  by_cases h0 : rk.size = 0
  ·
   rw [if_pos h0]
  ·
   rw [if_neg h0]
   split
   ·
    rfl
   ·
    rw [if_pos ⟨rfl, h⟩]
 simp only [rdStep, hf, h1, Option.bind_some, Option.map_none]
theorem rds (a : Rd3) (hf : a.fst = false) (rk rv : ByteArray) (h : ltS a.last rk = true) (hne : rk ≠ c1 97) (c : Nat) (hc : c = (rk.data.toList.headD 0).toNat) :
  rdStep (some a) (rk, rv) = if sizeK c = -2 then none else if 0 ≤ sizeK c ∧ ((rk.extract 1 rk.size).size : Int) ≠ sizeK c then none else
   if (stepOf c (rowKN c (rk.extract 1 rk.size)).1 (rowKN c (rk.extract 1 rk.size)).2 (rk.extract 1 rk.size) a.s ⟨rv, 0⟩).bad = true ∨ endR (stepOf c (rowKN c (rk.extract 1 rk.size)).1 (rowKN c (rk.extract 1 rk.size)).2 (rk.extract 1 rk.size) a.s ⟨rv, 0⟩).r ≠ 0 then none
   else some ⟨false, rk, (stepOf c (rowKN c (rk.extract 1 rk.size)).1 (rowKN c (rk.extract 1 rk.size)).2 (rk.extract 1 rk.size) a.s ⟨rv, 0⟩).s⟩ := by
 subst hc
 have h0 := ltS_emp h
 simp only [rdStep, hf, Option.bind_some]
 unfold rowStep
 dsimp only
 rw [if_neg (show ¬ rk.size = 0 by omega), if_neg (by rw [decide_eq_false hne]; decide), if_neg (by rw [h]; simp)]
 split
 ·
  rfl
 ·
  split
  ·
   rfl
  ·
   split <;> rfl
theorem ext0 {s : ByteArray} {n : Nat} (h : s.size = n) : s.extract 0 n = s := by subst h; exact ByteArray.extract_zero_size
theorem ext19 {s : ByteArray} (h : 9 ≤ s.size) : (s.extract 1 s.size).extract 0 8 = s.extract 1 9 := by
 rw [ByteArray.extract_extract]
 congr 1
 omega
theorem ext9 {s : ByteArray} (h : 9 ≤ s.size) : (s.extract 1 s.size).extract 8 (s.extract 1 s.size).size = s.extract 9 s.size := by
 rw [ByteArray.extract_extract]
 have h2 : (s.extract 1 s.size).size = s.size - 1 := by simp
 rw [h2]
 congr 1
 omega
theorem RnB.grow {w w' : World} {base xb rb : Nat} {s : StateV} {odd : Bool} (h : RnB w base xb rb s odd) (hb : Below w.heap.size w w') : RnB w' base xb rb s odd := by
 obtain ⟨vp, vi, vt, vj, vr, vs, vk, vl, vm, hx, hL⟩ := h
 exact ⟨vp, vi, vt, vj, vr, vs, vk, vl, vm, (hb.block _ (heap_lt hx)).trans hx, hL.keepC (ts := []) (fun b _ _ _ _ h => (hb.block b (heap_lt h)).trans h) (by simp) (by simp) (by simp)⟩
theorem one_any (c : Nat) (hc : sizeK c = 8) (id : ByteArray) (xb rb k : Nat) (node : Int) (odd : Bool) (s : StateV) (r : RdV) (w : World) (base : Nat) (hbase : base ≤ w.heap.size) (hbx : base ≤ xb) (hbr : base ≤ rb) (hs : RnB w base xb rb s odd) (hr : IsR 92 w rb r)
  (hsz : r.s.size ≤ 1099511627776) (hk : k < 18446744073709551616) (hno : I64 node) (hl : Many s 2097152) :
  Calls Tryz.prog 40 #[.pointer (some ⟨xb, 0, none⟩), .int .u8 c, .int .u64 k] w fun e w' => e = .returned (.tuple #[]) ∧ RnB w' base xb rb (stepOf c k node id s r).s (odd || (stepOf c k node id s r).bad) ∧ IsR 92 w' rb (stepOf c k node id s r).r ∧ TyBut base refTs w w' := by
 rcases sizeK_cases (show sizeK c ≠ -2 by omega) with rfl | rfl | rfl | rfl | rfl | rfl | rfl | rfl | rfl | rfl
 ·
  cases hc
 ·
  exact one_g xb rb k node odd s r w base hbase hbx hbr hs hr hsz hk hno hl.msgs
 ·
  exact one_i xb rb k node odd s r w base hbase hbx hbr hs hr hsz hk hno hl.insts
 ·
  exact one_j xb rb k node odd s r w base hbase hbx hbr hs hr hsz hk hno hl.jobs
 ·
  cases hc
 ·
  cases hc
 ·
  cases hc
 ·
  cases hc
 ·
  cases hc
 ·
  exact one_t xb rb k node odd s r w base hbase hbx hbr hs hr hsz hk hno hl.tokens
theorem two_any (c : Nat) (hc : sizeK c = 10) (id : ByteArray) (xb rb k : Nat) (node : Int) (odd : Bool) (s : StateV) (r : RdV) (w : World) (base : Nat) (hbase : base ≤ w.heap.size) (hbx : base ≤ xb) (hbr : base ≤ rb) (hs : RnB w base xb rb s odd) (hr : IsR 92 w rb r)
  (hsz : r.s.size ≤ 1099511627776) (hk : k < 18446744073709551616) (hno : I64 node) (hl : Many s 2097152) :
  Calls Tryz.prog 42 #[.pointer (some ⟨xb, 0, none⟩), .int .u8 c, .int .u64 k, .int .i64 node] w fun e w' => e = .returned (.tuple #[]) ∧ RnB w' base xb rb (stepOf c k node id s r).s (odd || (stepOf c k node id s r).bad) ∧ IsR 92 w' rb (stepOf c k node id s r).r ∧ TyBut base refTs w w' := by
 rcases sizeK_cases (show sizeK c ≠ -2 by omega) with rfl | rfl | rfl | rfl | rfl | rfl | rfl | rfl | rfl | rfl
 ·
  cases hc
 ·
  cases hc
 ·
  cases hc
 ·
  cases hc
 ·
  exact two_k xb rb k node odd s r w base hbase hbx hbr hs hr hsz hk hno hl.kept
 ·
  exact two_l xb rb k node odd s r w base hbase hbx hbr hs hr hsz hk hno hl.listed
 ·
  cases hc
 ·
  exact two_r xb rb k node odd s r w base hbase hbx hbr hs hr hsz hk hno hl.timers
 ·
  exact two_s xb rb k node odd s r w base hbase hbx hbr hs hr hsz hk hno hl.subs
 ·
  cases hc
end Go.Proofs.YthikijlbclckdaaGreat
