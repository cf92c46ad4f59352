/- Keep: contracts (Fc Md Hd Ru). -/
import Derived.Test.YtjkbfoeakeoeiaaGreatV1
import Derived.Test.YtjkbfoeakeoeiaaGreatV6
import Derived.Test.YtjkbfoeakeoeiaaGreatV21
import Derived.Test.YtjkbfoeakeoeiaaGreatV22
import Derived.Test.YtjkbfoeakeoeiaaGreatRows
import Derived.Deep.Slices
import Derived.ProofKit
import Derived.SizedLaws
namespace Go.Proofs.YtjkbfoeakeoeiaaGreat
set_option maxRecDepth 100000
set_option maxHeartbeats 40000000
set_option linter.unusedSimpArgs false
set_option linter.unusedVariables false
open Go.RowKit
theorem shard_range (key : ByteArray) (parts : Int) : 0 ≤ shardV key parts ∧ (parts < 1 ∨ shardV key parts < parts) := by
  unfold shardV
  split
  · rename_i h
    exact ⟨Int.le_refl _, .inl h⟩
  · rename_i h
    exact ⟨Int.emod_nonneg _ (by omega), .inr (Int.emod_lt_of_pos _ (by omega))⟩
end Go.Proofs.YtjkbfoeakeoeiaaGreat
namespace Go.Proofs.YtjkbfoeakeoeiaaGreat
set_option maxRecDepth 100000
set_option maxHeartbeats 40000000
set_option linter.unusedSimpArgs false
set_option linter.unusedVariables false
open Go.IntWalk Go.RowKit
theorem cut_len {α : Type} (most : Int) (l : List α) : (cutM most l).length ≤ l.length := by
  unfold cutM
  split
  · exact Nat.le_refl _
  · rw [List.length_take]; omega
theorem SendsIn.take {W : World} {a : Option Addr} {n c : Nat} {l : List (Int × RecV)} (h : SendsIn W (.slice a n c) l) (m : Nat) (hm : m ≤ n) : SendsIn W (.slice a m c) (l.take m) := by
  obtain ⟨xs, hx, ⟨a', c', e, h1, h2, h3, h4⟩, hv⟩ := h
  cases e
  have hl : (xs.take m).length = m := by rw [List.length_take]; omega
  refine ⟨xs.take m, by rw [List.map_take, hx], ⟨a, c, by rw [hl], by omega, by omega, by rw [toldC_len], fun j u hu => h4 j u ?_⟩, fun x hx => hv x (List.mem_of_mem_take hx)⟩
  have hsplit : xs.flatMap toldC = (xs.take m).flatMap toldC ++ (xs.drop m).flatMap toldC := by rw [← List.flatMap_append, List.take_append_drop]
  rw [hsplit, List.getElem?_append_left (List.getElem?_eq_some_iff.1 hu).1]
  exact hu
theorem SendsIn.lens {W : World} {a : Option Addr} {n c : Nat} {l : List (Int × RecV)} (h : SendsIn W (.slice a n c) l) : n = l.length ∧ n ≤ c ∧ (0 < n → ∃ b off, a = some ⟨b, off, none⟩) := by
  obtain ⟨xs, hx, ⟨a', c', e, h1, h2, h3, h4⟩, hv⟩ := h
  cases e
  refine ⟨by rw [← hx, List.length_map], h1, fun hn => ?_⟩
  have h0 : (xs.flatMap toldC)[0]? = some ((xs.flatMap toldC)[0]'(by omega)) := List.getElem?_eq_getElem _
  obtain ⟨b, off, e, -⟩ := h4 0 _ h0
  exact ⟨b, off, e⟩
theorem mshard_b (key : ByteArray) (parts : Int) (h1 : -9223372036854775808 ≤ parts) (h2 : parts ≤ 9223372036854775807) (hk : key.size ≤ 140737488355328) (w : World) : Calls Tryz.prog 7 #[.string key, I parts] w fun e w' => e = .returned (I (shardV key parts)) ∧ Below w.heap.size w w' := (mshard_any key parts h1 h2 hk w).mono (fun e w2 ⟨he, hw⟩ => ⟨he, hw ▸ Below.refl _ _⟩)
theorem mhome_c (key : Nat) (h : key < 18446744073709551616) (w : World) : Calls Tryz.prog 9 #[U key] w fun e w' => e = .returned (I (homeV key)) ∧ Below w.heap.size w w' := (mhome_any key h w).mono (fun _ _ ⟨he, hw⟩ => ⟨he, hw ▸ Below.refl _ _⟩)
theorem asks_any (w : World) (s : StateV) (hok : StateOk s) (cs : List Value) (hs : StAt (fun _ => False) w cs s) (key : ByteArray) (parts most : Int) (hkz : key.size ≤ 140737488355328) (hpt : I64 parts) (hm : I64 most) (hlv : ∀ x ∈ s.listed, x.vars.length ≤ 1048576) :
    Calls Tryz.prog 3 #[.agg (cs ++ [.string key, I parts, I most]).toArray] w fun e w' => e = .returned (.bool true) ∧ Below w.heap.size w w' := by
  have HS := hid hs
  obtain ⟨vp, vi, vt, vj, vr, vs, vk, vl, vm, hs⟩ := hs
  have hcs := hs.cells
  obtain ⟨⟨pa, pc, rfl⟩, ⟨ia, ic, rfl⟩, ⟨ta, tc, rfl⟩, ⟨ja, jc, rfl⟩, ⟨ra, rc, rfl⟩, ⟨sa, sc, rfl⟩, ⟨ka, kc, rfl⟩, ⟨la, lc, rfl⟩, ⟨ma, mc, rfl⟩⟩ := hs.shapes
  subst hcs
  clear hs
  obtain ⟨hp1, hp2⟩ := hpt
  have hpos : s.pos < 18446744073709551616 := hok.pos
  have hsub : ∀ x ∈ s.subs, x.key.size ≤ 140737488355328 := fun x hx => by have h := (hok.subs x hx).key; unfold Sz at h; omega
  have hlis : ∀ x ∈ s.listed, x.token < 18446744073709551616 ∧ x.vars.length ≤ 1048576 := fun x hx => ⟨(hok.listed x hx).token, hlv x hx⟩
  have HN := hid (show (pendingV s parts).length ≤ 4194303 from by
    have h1 : ∀ l : List SubV, (l.flatMap (pendSub parts)).length ≤ l.length := fun l => by
      induction l with
      | nil => simp
      | cons x l ih => rw [List.flatMap_cons, List.length_append, List.length_cons]; have : (pendSub parts x).length ≤ 1 := by unfold pendSub; split <;> simp
                       omega
    have h2 : ∀ l : List LisV, (l.flatMap pendLis).length ≤ l.length := fun l => by
      induction l with
      | nil => simp
      | cons x l ih => rw [List.flatMap_cons, List.length_append, List.length_cons]; have : (pendLis x).length ≤ 1 := by unfold pendLis; split <;> simp
                       omega
    have h3 := hok.many
    have h4 := h1 s.subs
    have h5 := h2 s.listed
    unfold pendingV
    rw [List.length_append]
    omega)
  have hrange := shard_range key parts
  have HR := hid hrange
  clear hrange hok hlv
  show Calls _ _ #[.agg #[U s.pos, U s.done, U s.made, .slice pa s.procs.length pc, .slice ia s.insts.length ic, .slice ta s.tokens.length tc, .slice ja s.jobs.length jc, .slice ra s.timers.length rc, .slice sa s.subs.length sc, .slice ka s.kept.length kc, .slice la s.listed.length lc, .slice ma s.msgs.length mc, .string key, I parts, I most]] _ _
  go_enter Tryz.func3, Tryz.ntmps3
  go_wp2_with fail
  refine calls_box2 ?_
  intro W0 h0 h1 B0 hz
  refine (mshown_any W0).mono ?_
  rintro e w1 ⟨rfl, b1⟩
  have B1 := hid (B0.out.trans (b1.mono B0.out.size))
  have H1 := hid (keep_at b1 h1.out)
  have hl1 := heap_lt H1.out
  have k0 := cell_of H1.out 0
  clear b1 h0 h1 hz
  go_wp2_with fail
  refine wp_par (fun _ => False) (fun _ => True) (List.replicate 20 false) _ [.fix ?_, .fix ?_, .fix ?_, .fix ?_, .fix ?_, .fix ?_, .fix ?_, .fix ?_, .fix ?_, .fix (.bool false), .fix ?_, .fix ?_, .fix ?_, .fix ?_, .fix ?_, .fix ?_, .fix ?_, .fix ?_, .fix (.bool false), .fix ?_] (by kernel_rfl) (by kernel_rfl) (by simp only [List.length_replicate, List.drop_succ_cons, List.drop_zero, List.drop_nil]; with_reducible rfl) rfl (fun _ _ _ _ _ => ⟨fun h => h, fun h => h⟩) (fun _ _ h _ => h) trivial ?_
  rotate_left 18
  iterate 5
    first
      | (refine par_skip (a' := ?_) (by rfl) (by rfl) ?_ ?_ ?_; rotate_left 1; with_reducible rfl; (simp only [Act.put, List.setIfInBounds_toArray, List.set_cons_zero, List.set_cons_succ]; with_reducible rfl))
      | (refine par_run (a' := ?_) (by rfl) (by rfl) (fun w' hb hn => ?_) ?_ ?_; rotate_left 1; (have hc := hb.cells; first | (go_simp; (try simp (disch := omega) only [IntWalk.i64_in, IntWalk.i32_in, IntWalk.u64_in, IntWalk.u8_in, IntWalk.u32_in, toNatUp, iteOmega]); with_reducible rfl) | (go_simp; (try simp (disch := omega) only [IntWalk.i64_in, IntWalk.i32_in, IntWalk.u64_in, IntWalk.u8_in, IntWalk.u32_in, toNatUp, iteOmega]); go_simp; with_reducible rfl)); (simp only [Act.put, List.setIfInBounds_toArray, List.set_cons_zero, List.set_cons_succ]; with_reducible rfl))
  refine par_call (a' := ?_) (f := ?_) (args := ?_) (by rfl) (by rfl) (fun w' => ?_) (fun w' hb hn => ?_) ?_ ?_; rotate_left 3; (go_simp; constructor <;> with_reducible rfl); (exact mshard_b key parts hp1 hp2 hkz w'); (simp only [Act.put, List.setIfInBounds_toArray, List.set_cons_zero, List.set_cons_succ]; with_reducible rfl)
  iterate 2
    first
      | (refine par_skip (a' := ?_) (by rfl) (by rfl) ?_ ?_ ?_; rotate_left 1; with_reducible rfl; (simp only [Act.put, List.setIfInBounds_toArray, List.set_cons_zero, List.set_cons_succ]; with_reducible rfl))
      | (refine par_run (a' := ?_) (by rfl) (by rfl) (fun w' hb hn => ?_) ?_ ?_; rotate_left 1; (have hc := hb.cells; first | (go_simp; (try simp (disch := omega) only [IntWalk.i64_in, IntWalk.i32_in, IntWalk.u64_in, IntWalk.u8_in, IntWalk.u32_in, toNatUp, iteOmega]); with_reducible rfl) | (go_simp; (try simp (disch := omega) only [IntWalk.i64_in, IntWalk.i32_in, IntWalk.u64_in, IntWalk.u8_in, IntWalk.u32_in, toNatUp, iteOmega]); go_simp; with_reducible rfl)); (simp only [Act.put, List.setIfInBounds_toArray, List.set_cons_zero, List.set_cons_succ]; with_reducible rfl))
  refine par_call (a' := ?_) (f := ?_) (args := ?_) (by rfl) (by rfl) (fun w' => ?_) (fun w' hb hn => ?_) ?_ ?_; rotate_left 3; (go_simp; constructor <;> with_reducible rfl); (exact rshard_any key parts hp1 hp2 hkz w'); (simp only [Act.put, List.setIfInBounds_toArray, List.set_cons_zero, List.set_cons_succ]; with_reducible rfl)
  refine par_run (a' := ?a87k9) (by rfl) (by rfl) (fun w' hb hn => ?h87k9) ?p87k9 ?g87k9
  case h87k9 => (have hc := hb.cells; go_simp; (try simp (disch := omega) only [IntWalk.i64_in, IntWalk.i32_in, IntWalk.u64_in, IntWalk.u8_in, IntWalk.u32_in, toNatUp, iteOmega]); first | done | simp)
  case p87k9 => (simp only [Act.put, List.setIfInBounds_toArray, List.set_cons_zero, List.set_cons_succ]; with_reducible rfl)
  iterate 4
    first
      | (refine par_skip (a' := ?_) (by rfl) (by rfl) ?_ ?_ ?_; rotate_left 1; with_reducible rfl; (simp only [Act.put, List.setIfInBounds_toArray, List.set_cons_zero, List.set_cons_succ]; with_reducible rfl))
      | (refine par_run (a' := ?_) (by rfl) (by rfl) (fun w' hb hn => ?_) ?_ ?_; rotate_left 1; (have hc := hb.cells; first | (go_simp; (try simp (disch := omega) only [IntWalk.i64_in, IntWalk.i32_in, IntWalk.u64_in, IntWalk.u8_in, IntWalk.u32_in, toNatUp, iteOmega]); with_reducible rfl) | (go_simp; (try simp (disch := omega) only [IntWalk.i64_in, IntWalk.i32_in, IntWalk.u64_in, IntWalk.u8_in, IntWalk.u32_in, toNatUp, iteOmega]); go_simp; with_reducible rfl)); (simp only [Act.put, List.setIfInBounds_toArray, List.set_cons_zero, List.set_cons_succ]; with_reducible rfl))
  refine par_call (a' := ?_) (f := ?_) (args := ?_) (by rfl) (by rfl) (fun w' => ?_) (fun w' hb hn => ?_) ?_ ?_; rotate_left 3; (go_simp; constructor <;> with_reducible rfl); (exact mhome_c s.pos hpos w'); (simp only [Act.put, List.setIfInBounds_toArray, List.set_cons_zero, List.set_cons_succ]; with_reducible rfl)
  iterate 2
    first
      | (refine par_skip (a' := ?_) (by rfl) (by rfl) ?_ ?_ ?_; rotate_left 1; with_reducible rfl; (simp only [Act.put, List.setIfInBounds_toArray, List.set_cons_zero, List.set_cons_succ]; with_reducible rfl))
      | (refine par_run (a' := ?_) (by rfl) (by rfl) (fun w' hb hn => ?_) ?_ ?_; rotate_left 1; (have hc := hb.cells; first | (go_simp; (try simp (disch := omega) only [IntWalk.i64_in, IntWalk.i32_in, IntWalk.u64_in, IntWalk.u8_in, IntWalk.u32_in, toNatUp, iteOmega]); with_reducible rfl) | (go_simp; (try simp (disch := omega) only [IntWalk.i64_in, IntWalk.i32_in, IntWalk.u64_in, IntWalk.u8_in, IntWalk.u32_in, toNatUp, iteOmega]); go_simp; with_reducible rfl)); (simp only [Act.put, List.setIfInBounds_toArray, List.set_cons_zero, List.set_cons_succ]; with_reducible rfl))
  refine par_call (a' := ?_) (f := ?_) (args := ?_) (by rfl) (by rfl) (fun w' => ?_) (fun w' hb hn => ?_) ?_ ?_; rotate_left 3; (go_simp; constructor <;> with_reducible rfl); (exact rhome_any s.pos hpos w'); (simp only [Act.put, List.setIfInBounds_toArray, List.set_cons_zero, List.set_cons_succ]; with_reducible rfl)
  refine par_run (a' := ?a100k18) (by rfl) (by rfl) (fun w' hb hn => ?h100k18) ?p100k18 ?g100k18
  case h100k18 => (have hc := hb.cells; go_simp; (try simp (disch := omega) only [IntWalk.i64_in, IntWalk.i32_in, IntWalk.u64_in, IntWalk.u8_in, IntWalk.u32_in, toNatUp, iteOmega]); first | done | simp)
  case p100k18 => (simp only [Act.put, List.setIfInBounds_toArray, List.set_cons_zero, List.set_cons_succ]; with_reducible rfl)
  iterate 1
    first
      | (refine par_skip (a' := ?_) (by rfl) (by rfl) ?_ ?_ ?_; rotate_left 1; with_reducible rfl; (simp only [Act.put, List.setIfInBounds_toArray, List.set_cons_zero, List.set_cons_succ]; with_reducible rfl))
      | (refine par_run (a' := ?_) (by rfl) (by rfl) (fun w' hb hn => ?_) ?_ ?_; rotate_left 1; (have hc := hb.cells; first | (go_simp; (try simp (disch := omega) only [IntWalk.i64_in, IntWalk.i32_in, IntWalk.u64_in, IntWalk.u8_in, IntWalk.u32_in, toNatUp, iteOmega]); with_reducible rfl) | (go_simp; (try simp (disch := omega) only [IntWalk.i64_in, IntWalk.i32_in, IntWalk.u64_in, IntWalk.u8_in, IntWalk.u32_in, toNatUp, iteOmega]); go_simp; with_reducible rfl)); (simp only [Act.put, List.setIfInBounds_toArray, List.set_cons_zero, List.set_cons_succ]; with_reducible rfl))
  refine par_end (fun w9 hb9 hf9 _ => ?_)
  replace hb9 := hb9.grow
  try refine wpList_none ?_
  have B2 := hid (B1.out.trans (hb9.mono B1.out.size))
  have H2 := hid (keep_at hb9 H1.out)
  obtain ⟨w2, rfl⟩ : ∃ w2 : World, w2 = w9 := ⟨_, rfl⟩
  clear hb9 hf9 H1 B1 k0 hl1
  obtain ⟨k0, k1, k2, k3, k4, k5, k6, k7, k8, k9, k10, k11⟩ := cells12 H2.out
  go_wp2_with fail
  clear k0 k1 k2 k3 k4 k5 k6 k7 k8 k9 k10 k11
  refine (rpend_any w2 (fun _ => False) s [U s.pos, U s.done, U s.made, .slice pa s.procs.length pc, .slice ia s.insts.length ic, .slice ta s.tokens.length tc, .slice ja s.jobs.length jc, .slice ra s.timers.length rc, .slice sa s.subs.length sc, .slice ka s.kept.length kc, .slice la s.listed.length lc, .slice ma s.msgs.length mc] parts (fun _ h => h.elim) (HS.out.grow B2.out) hp1 hp2 hsub hlis HN.out).mono ?_
  rintro e w3 ⟨u3, rfl, hs3, b3⟩
  obtain ⟨a3, c3, rfl⟩ := hs3.shape
  have HU3 := hid hs3.in_
  have BQ := hid (B2.out.trans (b3.mono B2.out.size))
  have H3 := hid (keep_at b3 H2.out)
  clear b3 hs3 H2 B2
  obtain ⟨k0, k1, k2, k3, k4, k5, k6, k7, k8, k9, k10, k11⟩ := cells12 H3.out
  obtain ⟨WQ, rfl⟩ : ∃ WQ : World, WQ = w3 := ⟨_, rfl⟩
  have hrange := HR.out
  have hL := HN.out
  have hc3 : (pendingV s parts).length ≤ c3 := HU3.out.lens.2.1
  by_cases hneg : most < 0
  · have HUQ := hid (show SendsIn WQ (.slice a3 (pendingV s parts).length c3) (cutM most (pendingV s parts)) by unfold cutM; rw [if_pos hneg]; exact HU3.out)
    have q1 : (0 ≤ most) = False := by simp; omega
    go_wp2_with fail
    clear q1
    refine (mshard_b key parts hp1 hp2 hkz WQ).mono ?_
    rintro e w5 ⟨rfl, b5⟩
    have B5 := hid (BQ.out.trans (b5.mono BQ.out.size))
    have HU5 := hid (HUQ.out.below b5)
    have H5 := hid (keep_at b5 H3.out)
    clear b5 HUQ BQ k0 k1 k2 k3 k4 k5 k6 k7 k8 k9 k10 k11
    obtain ⟨k0, k1, k2, k3, k4, k5, k6, k7, k8, k9, k10, k11⟩ := cells12 H5.out
    go_wp2_with fail
    refine (mpending_any w5 (fun _ => False) s [U s.pos, U s.done, U s.made, .slice pa s.procs.length pc, .slice ia s.insts.length ic, .slice ta s.tokens.length tc, .slice ja s.jobs.length jc, .slice ra s.timers.length rc, .slice sa s.subs.length sc, .slice ka s.kept.length kc, .slice la s.listed.length lc, .slice ma s.msgs.length mc] parts (fun _ h => h.elim) (HS.out.grow B5.out)).mono ?_
    rintro e w6 ⟨sb, pb, rfl, hp, b6⟩
    have B6 := hid (B5.out.trans (b6.mono B5.out.size))
    have HU6 := hid (HU5.out.below b6)
    clear b6 HU5 B5 k0 k1 k2 k3 k4 k5 k6 k7 k8 k9 k10 k11
    go_wp2_with fail
    refine (sends_any w6 (fun _ => False) sb pb s parts most hp hp1 hp2 hsub hlis (Nat.le_trans HN.out (by decide)) hm).mono ?_
    rintro e w7 ⟨u7, rfl, hs7, b7⟩
    have B7 := hid (B6.out.trans (b7.mono B6.out.size))
    have HU7 := hid (HU6.out.below b7)
    have HS7 := hid hs7.in_
    clear b7 hp hs7 HU6 B6
    go_wp2_with fail
    refine (ssame_any w7 (cutM most (pendingV s parts)) _ _ HS7.out HU7.out (by have := cut_len most (pendingV s parts); have := HN.out; omega)).mono ?_
    rintro e w8 ⟨rfl, b8⟩
    have B8 := hid (B7.out.trans (b8.mono B7.out.size))
    obtain ⟨hr1, hr2⟩ := hrange
    clear b8 HU7 HS7 B7
    rcases hr2 with hr2 | hr2
    · have g1 : (parts < 1) = True := by simp; omega
      clear hr2
      go_wp2
      go_ret
      exact ⟨rfl, B8.out⟩
    · by_cases hpp : parts < 1
      · have g1 : (parts < 1) = True := by simp; omega
        go_wp2
        go_ret
        exact ⟨rfl, B8.out⟩
      · have g1 : (parts < 1) = False := by simp; omega
        go_wp2
        go_ret
        exact ⟨rfl, B8.out⟩
  · by_cases hlt : most < (pendingV s parts).length
    · obtain ⟨m, rfl⟩ := Int.eq_ofNat_of_zero_le (show 0 ≤ most by omega)
      have HUQ := hid (show SendsIn WQ (.slice a3 m c3) (cutM (m : Int) (pendingV s parts)) by unfold cutM; rw [if_neg hneg]; exact HU3.out.take m (by omega))
      have hm1 : m < (pendingV s parts).length := by omega
      obtain ⟨ab, ao, hab⟩ : ∃ ab ao, a3 = some ⟨ab, ao, none⟩ := HU3.out.lens.2.2 (by omega)
      subst hab
      clear hneg
      go_wp2_with fail
      refine (mshard_b key parts hp1 hp2 hkz WQ).mono ?_
      rintro e w5 ⟨rfl, b5⟩
      have B5 := hid (BQ.out.trans (b5.mono BQ.out.size))
      have HU5 := hid (HUQ.out.below b5)
      have H5 := hid (keep_at b5 H3.out)
      clear b5 HUQ BQ k0 k1 k2 k3 k4 k5 k6 k7 k8 k9 k10 k11
      obtain ⟨k0, k1, k2, k3, k4, k5, k6, k7, k8, k9, k10, k11⟩ := cells12 H5.out
      go_wp2_with fail
      refine (mpending_any w5 (fun _ => False) s [U s.pos, U s.done, U s.made, .slice pa s.procs.length pc, .slice ia s.insts.length ic, .slice ta s.tokens.length tc, .slice ja s.jobs.length jc, .slice ra s.timers.length rc, .slice sa s.subs.length sc, .slice ka s.kept.length kc, .slice la s.listed.length lc, .slice ma s.msgs.length mc] parts (fun _ h => h.elim) (HS.out.grow B5.out)).mono ?_
      rintro e w6 ⟨sb, pb, rfl, hp, b6⟩
      have B6 := hid (B5.out.trans (b6.mono B5.out.size))
      have HU6 := hid (HU5.out.below b6)
      clear b6 HU5 B5 k0 k1 k2 k3 k4 k5 k6 k7 k8 k9 k10 k11
      go_wp2_with fail
      refine (sends_any w6 (fun _ => False) sb pb s parts (m : Int) hp hp1 hp2 hsub hlis (Nat.le_trans HN.out (by decide)) hm).mono ?_
      rintro e w7 ⟨u7, rfl, hs7, b7⟩
      have B7 := hid (B6.out.trans (b7.mono B6.out.size))
      have HU7 := hid (HU6.out.below b7)
      have HS7 := hid hs7.in_
      clear b7 hp hs7 HU6 B6
      go_wp2_with fail
      refine (ssame_any w7 (cutM (m : Int) (pendingV s parts)) _ _ HS7.out HU7.out (by have := cut_len (m : Int) (pendingV s parts); have := HN.out; omega)).mono ?_
      rintro e w8 ⟨rfl, b8⟩
      have B8 := hid (B7.out.trans (b8.mono B7.out.size))
      obtain ⟨hr1, hr2⟩ := hrange
      clear b8 HU7 HS7 B7
      rcases hr2 with hr2 | hr2
      · have g1 : (parts < 1) = True := by simp; omega
        clear hr2
        go_wp2
        go_ret
        exact ⟨rfl, B8.out⟩
      · by_cases hpp : parts < 1
        · have g1 : (parts < 1) = True := by simp; omega
          go_wp2
          go_ret
          exact ⟨rfl, B8.out⟩
        · have g1 : (parts < 1) = False := by simp; omega
          go_wp2
          go_ret
          exact ⟨rfl, B8.out⟩
    · have HUQ := hid (show SendsIn WQ (.slice a3 (pendingV s parts).length c3) (cutM most (pendingV s parts)) by unfold cutM; rw [if_neg hneg, List.take_of_length_le (by omega)]; exact HU3.out)
      have q1 : (0 ≤ most) = True := by simp; omega
      have q2 : (most < ((pendingV s parts).length : Int)) = False := by simp; omega
      go_wp2_with fail
      clear q1 q2
      refine (mshard_b key parts hp1 hp2 hkz WQ).mono ?_
      rintro e w5 ⟨rfl, b5⟩
      have B5 := hid (BQ.out.trans (b5.mono BQ.out.size))
      have HU5 := hid (HUQ.out.below b5)
      have H5 := hid (keep_at b5 H3.out)
      clear b5 HUQ BQ k0 k1 k2 k3 k4 k5 k6 k7 k8 k9 k10 k11
      obtain ⟨k0, k1, k2, k3, k4, k5, k6, k7, k8, k9, k10, k11⟩ := cells12 H5.out
      go_wp2_with fail
      refine (mpending_any w5 (fun _ => False) s [U s.pos, U s.done, U s.made, .slice pa s.procs.length pc, .slice ia s.insts.length ic, .slice ta s.tokens.length tc, .slice ja s.jobs.length jc, .slice ra s.timers.length rc, .slice sa s.subs.length sc, .slice ka s.kept.length kc, .slice la s.listed.length lc, .slice ma s.msgs.length mc] parts (fun _ h => h.elim) (HS.out.grow B5.out)).mono ?_
      rintro e w6 ⟨sb, pb, rfl, hp, b6⟩
      have B6 := hid (B5.out.trans (b6.mono B5.out.size))
      have HU6 := hid (HU5.out.below b6)
      clear b6 HU5 B5 k0 k1 k2 k3 k4 k5 k6 k7 k8 k9 k10 k11
      go_wp2_with fail
      refine (sends_any w6 (fun _ => False) sb pb s parts most hp hp1 hp2 hsub hlis (Nat.le_trans HN.out (by decide)) hm).mono ?_
      rintro e w7 ⟨u7, rfl, hs7, b7⟩
      have B7 := hid (B6.out.trans (b7.mono B6.out.size))
      have HU7 := hid (HU6.out.below b7)
      have HS7 := hid hs7.in_
      clear b7 hp hs7 HU6 B6
      go_wp2_with fail
      refine (ssame_any w7 (cutM most (pendingV s parts)) _ _ HS7.out HU7.out (by have := cut_len most (pendingV s parts); have := HN.out; omega)).mono ?_
      rintro e w8 ⟨rfl, b8⟩
      have B8 := hid (B7.out.trans (b8.mono B7.out.size))
      obtain ⟨hr1, hr2⟩ := hrange
      clear b8 HU7 HS7 B7
      rcases hr2 with hr2 | hr2
      · have g1 : (parts < 1) = True := by simp; omega
        clear hr2
        go_wp2
        go_ret
        exact ⟨rfl, B8.out⟩
      · by_cases hpp : parts < 1
        · have g1 : (parts < 1) = True := by simp; omega
          go_wp2
          go_ret
          exact ⟨rfl, B8.out⟩
        · have g1 : (parts < 1) = False := by simp; omega
          go_wp2
          go_ret
          exact ⟨rfl, B8.out⟩
end Go.Proofs.YtjkbfoeakeoeiaaGreat
namespace Go.Proofs.YtjkbfoeakeoeiaaGreat
set_option maxRecDepth 100000
set_option maxHeartbeats 40000000
set_option linter.unusedSimpArgs false
set_option linter.unusedVariables false
open Go.RowKit
section
variable {P : Program} {c : Code} {Q : Exit → Act → World → Prop} {a : Act} {W : World} {b i : Nat} {cs : Array Value} {v v2 : Value} {T : TypeId} {A : Obj}
end
end Go.Proofs.YtjkbfoeakeoeiaaGreat
namespace Go.Proofs.YtjkbfoeakeoeiaaGreat
set_option maxRecDepth 100000
set_option maxHeartbeats 40000000
set_option linter.unusedSimpArgs false
set_option linter.unusedVariables false
open Go.RowKit Go.Deep
structure Rep (P : Program) (t : TypeId) (α : Type) where
  R : (Nat → Prop) → World → List Value → α → Prop
  bulk : α → Nat
  len : ∀ {S : Nat → Prop} {w : World} {cs : List Value} {x : α}, R S w cs x → cs.length = P.cellsOf t
  mono : ∀ {S : Nat → Prop} {w w' : World} {cs : List Value} {x : α}, (∀ k, S k → k < w.heap.size → w'.heap[k]? = w.heap[k]?) → R S w cs x → R S w' cs x
  weak : ∀ {S S' : Nat → Prop} {w : World} {cs : List Value} {x : α}, (∀ k, k < w.heap.size → S k → S' k) → R S w cs x → R S' w cs x
  opens : ∀ {H : Type} {enc : TypeId × Value → H} {w : World} {base : Nat} {held : Bool} {fuel : Nat} {cs : List Value} {d : DataW H} {ps : List MemPlace},
    DataW.trod enc P w base (fun _ => true) held fuel t cs = some (d, ps) → (∀ n ∈ d.weights P t, n ≤ reachBytes) → ∃ x, R (fun k => base ≤ k ∧ k < w.heap.size) w cs x ∧ bulk x ≤ Rows.uptoBulk d
theorem bulk_one {H : Type} (d : DataW H) : 1 ≤ Rows.uptoBulk d := by
  cases d with
  | lit l => cases l <;> simp [Rows.uptoBulk]
  | nil => simp [Rows.uptoBulk]
  | ptr d => simp [Rows.uptoBulk]
  | slice elems spare => simp [Rows.uptoBulk]
  | agg parts => simp [Rows.uptoBulk]
  | iface t d => simp [Rows.uptoBulk]
  | map entries => simp [Rows.uptoBulk]
  | held h => simp [Rows.uptoBulk]
theorem cell_mono {S : Nat → Prop} {w w' : World} (h : ∀ k, S k → k < w.heap.size → w'.heap[k]? = w.heap[k]?) {a : Addr} (ha : S a.block) {v : Value} (hc : w.cell? a = some v) : w'.cell? a = some v := by
  rw [World.cell?_of_block (w := w) (h a.block ha (World.block_lt_of_cell? w a hc))]
  exact hc
section
variable {P : Program} {t e : TypeId} {α β : Type}
def Rep.int (k : IntKind) (ht : P.underlying t = some (.int k)) (hc : P.cellsOf t = 1) : Rep P t Int where
  R _ _ cs x := cs = [.int k x] ∧ (Lit.int k x).wf = true
  bulk _ := 1
  len h := by rw [h.1, hc]; rfl
  mono _ h := h
  weak _ h := h
  opens h _ := by
    obtain ⟨n, rfl, _, hw⟩ := DataW.trod_int ht h
    exact ⟨n, ⟨rfl, hw⟩, bulk_one _⟩
def Rep.u64 (ht : P.underlying t = some (.int .u64)) (hc : P.cellsOf t = 1) : Rep P t Nat where
  R _ _ cs x := cs = [.int .u64 (x : Int)] ∧ x < 18446744073709551616
  bulk _ := 1
  len h := by rw [h.1, hc]; rfl
  mono _ h := h
  weak _ h := h
  opens h _ := by
    obtain ⟨n, rfl, _, hw⟩ := DataW.trod_int ht h
    have hx : 0 ≤ n ∧ n ≤ 18446744073709551615 := by simpa [Lit.wf, IntKind.min, IntKind.max, IntKind.signed, IntKind.bits] using hw
    exact ⟨n.toNat, ⟨by rw [Int.toNat_of_nonneg hx.1], by omega⟩, bulk_one _⟩
def Rep.bool (ht : P.underlying t = some .bool) (hc : P.cellsOf t = 1) : Rep P t Bool where
  R _ _ cs x := cs = [.bool x]
  bulk _ := 1
  len h := by rw [h, hc]; rfl
  mono _ h := h
  weak _ h := h
  opens h _ := by
    obtain ⟨n, rfl, _⟩ := DataW.trod_bool ht h
    exact ⟨n, rfl, bulk_one _⟩
def Rep.str (ht : P.underlying t = some .string) (hc : P.cellsOf t = 1) : Rep P t ByteArray where
  R _ _ cs x := cs = [.string x] ∧ x.size ≤ reachBytes
  bulk x := x.size + 1
  len h := by rw [h.1, hc]; rfl
  mono _ h := h
  weak _ h := h
  opens h hw := by
    obtain ⟨s, rfl, hx, _⟩ := DataW.trod_string ht h
    injection hx with hd _
    subst hd
    refine ⟨s, ⟨rfl, ?_⟩, ?_⟩
    · have := hw s.data.toList.length (by simp [DataW.weights])
      rwa [Array.length_toList] at this
    · simp only [Rows.uptoBulk, Array.length_toList]; exact Nat.le_refl _
def Rep.SR (r : Rep P e α) (S : Nat → Prop) (w : World) (v : Value) (xs : List α) : Prop :=
  ∃ a cap, v = .slice a xs.length cap ∧ xs.length ≤ cap ∧ cap ≤ maxLen ∧ cap * P.bytesOf e ≤ reachBytes ∧
    ∀ i x, xs[i]? = some x → ∃ b off, a = some ⟨b, off, none⟩ ∧ S b ∧ ∃ cs, r.R S w cs x ∧ ∀ j u, cs[j]? = some u → w.cell? ⟨b, off + (i * P.cellsOf e + j), none⟩ = some u
theorem Rep.SR.mono {r : Rep P e α} {S : Nat → Prop} {w w' : World} {v : Value} {xs : List α} (hm : ∀ k, S k → k < w.heap.size → w'.heap[k]? = w.heap[k]?) (h : r.SR S w v xs) : r.SR S w' v xs := by
  obtain ⟨a, cap, hv, h1, h2, h3, h4⟩ := h
  refine ⟨a, cap, hv, h1, h2, h3, fun i x hx => ?_⟩
  obtain ⟨b, off, ha, hb, cs, hr, hc⟩ := h4 i x hx
  exact ⟨b, off, ha, hb, cs, r.mono hm hr, fun j u hu => cell_mono hm (a := ⟨b, off + (i * P.cellsOf e + j), none⟩) hb (hc j u hu)⟩
theorem Rep.SR.weak {r : Rep P e α} {S S' : Nat → Prop} {w : World} {v : Value} {xs : List α} (hpos : 0 < P.cellsOf e) (hm : ∀ k, k < w.heap.size → S k → S' k) (h : r.SR S w v xs) : r.SR S' w v xs := by
  obtain ⟨a, cap, hv, h1, h2, h3, h4⟩ := h
  refine ⟨a, cap, hv, h1, h2, h3, fun i x hx => ?_⟩
  obtain ⟨b, off, ha, hb, cs, hr, hc⟩ := h4 i x hx
  refine ⟨b, off, ha, ?_, cs, r.weak hm hr, hc⟩
  have hl := r.len hr
  have h0 : cs[0]? = some (cs[0]'(by omega)) := List.getElem?_eq_getElem _
  exact hm b (World.block_lt_of_cell? w _ (hc 0 _ h0)) hb
theorem Rep.SR.nil (r : Rep P e α) (S : Nat → Prop) (w : World) : r.SR S w (.slice none 0 0) [] := ⟨none, 0, rfl, Nat.le_refl _, by simp [maxLen], by simp, by simp⟩
theorem mapM_len {γ δ : Type} {f : γ → Option δ} : ∀ {l : List γ} {r : List δ}, l.mapM f = some r → r.length = l.length
  | [], r, h => by simp at h; subst h; rfl
  | c :: l, r, h => by
    simp only [List.mapM_cons, Option.bind_eq_bind, Option.bind_eq_some_iff, Option.pure_def, Option.some.injEq] at h
    obtain ⟨b, hb, r', hr', rfl⟩ := h
    simp [mapM_len hr']
theorem mapM_opt {γ δ : Type} {f : γ → Option δ} : ∀ {l : List γ} {r : List δ}, l.mapM f = some r → ∀ (i : Nat) (a : γ), l[i]? = some a → f a = r[i]?
  | [], r, h, i, a, ha => by simp at ha
  | c :: l, r, h, i, a, ha => by
    simp only [List.mapM_cons, Option.bind_eq_bind, Option.bind_eq_some_iff, Option.pure_def, Option.some.injEq] at h
    obtain ⟨b, hb, r', hr', rfl⟩ := h
    cases i with
    | zero => simp at ha; subst ha; simpa using hb
    | succ i => simpa using mapM_opt hr' i a (by simpa using ha)
theorem cells_at {w : World} {base : Nat} {a : Addr} {n : Nat} {cs : List Value} (h : w.cells? base a n = some cs) : base ≤ a.block ∧ cs.length = n ∧ ∀ j u, cs[j]? = some u → w.cell? (a.add j) = some u := by
  unfold World.cells? at h
  split at h
  · rename_i hb
    have hl : cs.length = n := by have := mapM_len h; simpa using this
    refine ⟨hb, hl, fun j u hu => ?_⟩
    have hj : j < n := by have := (List.getElem?_eq_some_iff.1 hu).1; omega
    have := mapM_opt h j j (by simp [hj])
    rw [this, hu]
  · cases h
theorem list_of {γ : Type} {Q : Nat → γ → Prop} : ∀ (n : Nat), (∀ i, i < n → ∃ x, Q i x) → ∃ xs : List γ, xs.length = n ∧ ∀ i x, xs[i]? = some x → Q i x
  | 0, _ => ⟨[], rfl, by simp⟩
  | n + 1, h => by
    obtain ⟨xs, hl, hx⟩ := list_of n (fun i hi => h i (by omega))
    obtain ⟨y, hy⟩ := h n (by omega)
    refine ⟨xs ++ [y], by simp [hl], fun i x hi => ?_⟩
    rcases Nat.lt_or_ge i n with h1 | h1
    · rw [List.getElem?_append_left (by omega)] at hi
      exact hx i x hi
    · rw [List.getElem?_append_right (by omega), hl] at hi
      have : i = n := by
        have := (List.getElem?_eq_some_iff.1 hi).1
        simp at this; omega
      subst this
      simp at hi
      subst hi
      exact hy
theorem weightsAll_mem' {H : Type} {P : Program} {e : TypeId} : ∀ {l : List (DataW H)} {d : DataW H}, d ∈ l → ∀ n ∈ d.weights P e, n ∈ DataW.weightsAll P e l
  | c :: l, d, hd, n, hn => by
    simp only [DataW.weightsAll, List.mem_append]
    rcases List.mem_cons.1 hd with rfl | hd
    · exact .inl hn
    · exact .inr (weightsAll_mem' hd n hn)
theorem sum_bulk {γ H : Type} (f : γ → Nat) : ∀ (xs : List γ) (ds : List (DataW H)), xs.length = ds.length → (∀ (i : Nat) (x : γ) (d : DataW H), xs[i]? = some x → ds[i]? = some d → f x ≤ Rows.uptoBulk d) → (xs.map f).sum ≤ Rows.uptoBulkAll ds
  | [], [], _, _ => by simp [Rows.uptoBulkAll]
  | x :: xs, d :: ds, hl, h => by
    have h0 := h 0 x d rfl rfl
    have h1 := sum_bulk f xs ds (by simpa using hl) (fun i y e hy he => h (i + 1) y e (by simpa using hy) (by simpa using he))
    simp only [List.map_cons, List.sum_cons, Rows.uptoBulkAll]
    omega
  | [], _ :: _, hl, _ => by simp at hl
  | _ :: _, [], hl, _ => by simp at hl
theorem le_sum {γ : Type} (f : γ → Nat) {x : γ} : ∀ {xs : List γ}, x ∈ xs → f x ≤ (xs.map f).sum
  | y :: xs, h => by
    simp only [List.map_cons, List.sum_cons]
    rcases List.mem_cons.1 h with rfl | h
    · omega
    · have := le_sum f h; omega
theorem len_sum {γ : Type} (f : γ → Nat) (hf : ∀ x, 1 ≤ f x) : ∀ (xs : List γ), xs.length ≤ (xs.map f).sum
  | [] => by simp
  | x :: xs => by
    have := len_sum f hf xs
    have := hf x
    simp only [List.map_cons, List.sum_cons, List.length_cons]
    omega
def Rep.slice (r : Rep P e α) (ht : P.underlying t = some (.slice e)) (hc : P.cellsOf t = 1) (hpos : 0 < P.cellsOf e) : Rep P t (List α) where
  R S w cs xs := ∃ v, cs = [v] ∧ r.SR S w v xs
  bulk xs := (xs.map r.bulk).sum + 1
  len h := by obtain ⟨v, rfl, _⟩ := h; rw [hc]; rfl
  mono hm h := by obtain ⟨v, hv, hs⟩ := h; exact ⟨v, hv, hs.mono hm⟩
  weak hm h := by obtain ⟨v, hv, hs⟩ := h; exact ⟨v, hv, hs.weak hpos hm⟩
  opens {H enc w base held fuel cs d ps} h hw := by
    rcases open_slice ht h with ⟨rfl, hx⟩ | ⟨a, len, cap, m, n, D, Pl, rfl, hb, hl, hm, hmm, hx, hel⟩
    · exact ⟨[], ⟨_, rfl, Rep.SR.nil r _ w⟩, bulk_one _⟩
    · injection hx with hd _
      subst hd
      simp only [if_true] at hmm
      subst hmm
      have hwt : (len + (m - len)) * P.bytesOf e ≤ reachBytes := by
        have := hw ((len + (m - len)) * P.bytesOf e) (by simp [DataW.weights, ht])
        exact this
      have hq : ∀ i, i < len → ∃ x, r.bulk x ≤ Rows.uptoBulk (D i) ∧ ∃ b off, (some a : Option Addr) = some ⟨b, off, none⟩ ∧ (base ≤ b ∧ b < w.heap.size) ∧ ∃ cs, r.R (fun k => base ≤ k ∧ k < w.heap.size) w cs x ∧ ∀ j u, cs[j]? = some u → w.cell? ⟨b, off + (i * P.cellsOf e + j), none⟩ = some u := by
        intro i hi
        obtain ⟨cs', hcs, htr⟩ := hel i (by omega)
        obtain ⟨hba, hcl, hcc⟩ := cells_at hcs
        obtain ⟨x, hx, hbk⟩ := r.opens htr (fun q hq => hw q (by
          simp only [DataW.weights, ht, List.mem_cons, List.mem_append]
          exact .inr (.inl (weightsAll_mem' (List.mem_map.2 ⟨i, by simp [hi], rfl⟩) q hq))))
        have hlen := r.len hx
        have hc0 := hcc 0 _ (List.getElem?_eq_getElem (show 0 < cs'.length by omega))
        have hspot : a.spot = none := by
          cases hs : a.spot with
          | none => rfl
          | some s =>
            exfalso
            obtain ⟨cs0, hcs0, _⟩ := hel 0 (by omega)
            obtain ⟨_, hl0, hc00⟩ := cells_at hcs0
            have := hc00 0 _ (List.getElem?_eq_getElem (show 0 < cs0.length by omega))
            simp [Addr.add, World.cell?, hs] at this
            split at this <;> simp at this
        obtain ⟨b, off, sp⟩ := a
        simp only at hspot
        subst hspot
        have hadd : ∀ j, ((⟨b, off, none⟩ : Addr).add (i * P.cellsOf e)).add j = ⟨b, off + (i * P.cellsOf e + j), none⟩ := by
          intro j
          unfold Addr.add
          split <;> split <;> simp_all [Nat.add_assoc]
        rw [hadd] at hc0
        exact ⟨x, hbk, b, off, rfl, ⟨hb, World.block_lt_of_cell? w _ hc0⟩, cs', hx, fun j u hu => by have := hcc j u hu; rwa [hadd] at this⟩
      obtain ⟨xs, hxl, hxs⟩ := list_of len hq
      refine ⟨xs, ⟨_, rfl, some a, m, by rw [hxl], by omega, hm, ?_, fun i x hx => (hxs i x hx).2⟩, ?_⟩
      · rwa [show len + (m - len) = m by omega] at hwt
      · have hs := sum_bulk r.bulk xs ((List.range len).map D) (by simp [hxl]) (fun i x d hx hd => by
          simp only [List.getElem?_map, Option.map_eq_some_iff] at hd
          obtain ⟨j, hj, rfl⟩ := hd
          have hj' : j = i := by
            have := List.getElem?_eq_some_iff.1 hj
            obtain ⟨h1, h2⟩ := this
            simp at h2
            omega
          subst hj'
          exact (hxs j x hx).1)
        simp only [Rows.uptoBulk]
        omega
structure Fl (P : Program) (fs : List Field) (α : Type) where
  R : (Nat → Prop) → World → List Value → α → Prop
  bulk : α → Nat
  mono : ∀ {S : Nat → Prop} {w w' : World} {cs : List Value} {x : α}, (∀ k, S k → k < w.heap.size → w'.heap[k]? = w.heap[k]?) → R S w cs x → R S w' cs x
  weak : ∀ {S S' : Nat → Prop} {w : World} {cs : List Value} {x : α}, (∀ k, k < w.heap.size → S k → S' k) → R S w cs x → R S' w cs x
  opens : ∀ {H : Type} {enc : TypeId × Value → H} {w : World} {base : Nat} {held : Bool} {fuel : Nat} {cs : List Value} {xs : List (DataW H × List MemPlace)}, xs.length = fs.length →
    (∀ (i : Nat) (f : Field), fs[i]? = some f → DataW.trod enc P w base (fun _ => true) held fuel f.type ((cs.drop f.offset).take (P.cellsOf f.type)) = xs[i]?) →
    (∀ n ∈ DataW.weightsEach P (fs.map (·.type)) (xs.map (·.1)), n ≤ reachBytes) → ∃ x, R (fun k => base ≤ k ∧ k < w.heap.size) w cs x ∧ bulk x ≤ Rows.uptoBulkAll (xs.map (·.1))
def Fl.nil (P : Program) : Fl P [] Unit where
  R _ _ _ _ := True
  bulk _ := 0
  mono _ _ := trivial
  weak _ _ := trivial
  opens _ _ _ := ⟨(), trivial, Nat.zero_le _⟩
def Fl.cons {f : Field} {fs : List Field} (r : Rep P f.type α) (l : Fl P fs β) : Fl P (f :: fs) (α × β) where
  R S w cs x := r.R S w ((cs.drop f.offset).take (P.cellsOf f.type)) x.1 ∧ l.R S w cs x.2
  bulk x := r.bulk x.1 + l.bulk x.2
  mono hm h := ⟨r.mono hm h.1, l.mono hm h.2⟩
  weak hm h := ⟨r.weak hm h.1, l.weak hm h.2⟩
  opens {H enc w base held fuel cs xs} hl h hw := by
    match xs, hl with
    | y :: ys, hl =>
      have h0 := h 0 f rfl
      obtain ⟨x, hx, hb1⟩ := r.opens (d := y.1) (ps := y.2) (by simpa using h0) (fun n hn => hw n (by simp only [List.map_cons, DataW.weightsEach, List.mem_append]; exact .inl hn))
      obtain ⟨z, hz, hb2⟩ := l.opens (xs := ys) (by simpa using hl) (fun i g hg => by simpa using h (i + 1) g (by simpa using hg)) (fun n hn => hw n (by simp only [List.map_cons, DataW.weightsEach, List.mem_append]; exact .inr hn))
      exact ⟨(x, z), ⟨hx, hz⟩, by simp only [List.map_cons, Rows.uptoBulkAll]; omega⟩
def Rep.struct {fs : Array Field} (ht : P.underlying t = some (.struct fs)) (l : Fl P fs.toList α) (g : α → β) (bk : β → Nat) (hbk : ∀ x, bk (g x) ≤ l.bulk x + 1) : Rep P t β where
  R S w cs y := cs.length = P.cellsOf t ∧ ∃ x, l.R S w cs x ∧ y = g x
  bulk := bk
  len h := h.1
  mono hm h := by obtain ⟨h1, x, h2, h3⟩ := h; exact ⟨h1, x, l.mono hm h2, h3⟩
  weak hm h := by obtain ⟨h1, x, h2, h3⟩ := h; exact ⟨h1, x, l.weak hm h2, h3⟩
  opens h hw := by
    obtain ⟨xs, n, _, hx, hl, hlen, hf⟩ := DataW.trod_struct ht h
    injection hx with hd _
    subst hd
    obtain ⟨x, hx, hb⟩ := l.opens (xs := xs) (by simpa using hlen) (fun i f hf' => hf i f (by simpa using hf')) (fun n hn => hw n (by simpa [DataW.weights, ht] using hn))
    exact ⟨g x, ⟨hl, x, hx, rfl⟩, by have := hbk x; simp only [Rows.uptoBulk]; omega⟩
theorem Rep.arg (r : Rep P t α) {H : Type} {enc : TypeId × Value → H} {W : World} {held : Bool} {v : Value} {d : DataW H} {p : List MemPlace} (h : DataW.Trod enc P W 0 (fun _ => true) held t v d p)
    {ts : List TypeId} {ds : List (DataW H)} (hsz : (DataW.weightsEach P ts ds).all (· ≤ reachBytes) = true) {j : Nat} (hj : ts[j]? = some t) (hd : ds[j]? = some d) : ∃ x, r.R (fun k => k < W.heap.size) W v.cells.toList x ∧ r.bulk x ≤ Rows.uptoBulk d := by
  obtain ⟨fuel, hf⟩ := h
  obtain ⟨x, hx, hb⟩ := r.opens hf (fun n hn => by
    have := List.all_eq_true.1 hsz n (DataW.weights_mem_each hj hd n hn)
    simpa using this)
  exact ⟨x, r.weak (fun k _ hk => hk.2) hx, hb⟩
end
end Go.Proofs.YtjkbfoeakeoeiaaGreat
