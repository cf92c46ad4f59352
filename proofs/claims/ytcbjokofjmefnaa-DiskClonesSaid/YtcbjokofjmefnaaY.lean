/- The disk and its reference, side by side: each act. -/
import Derived.Test.YtcbjokofjmefnaaW
namespace Go.Proofs.Ytcbjokofjmefnaa
open Go.RowKit

structure Sim (d : DiskV) (r : RefV) : Prop where
  po : d.power = r.power
  of : d.off = r.off
  pm : d.files.Perm (encR r.F)
  so : Rises (namesR r.F)
  ok : ROk r
section
variable {d : DiskV} {r : RefV}
theorem Sim.kn2 (h : Sim d r) : KN (encR r.F) := by rw [KN, encR_keys]; exact h.so.nodup
theorem Sim.kn (h : Sim d r) : KN d.files := h.kn2.perm h.pm.symm
theorem Sim.look (h : Sim d r) (k : ByteArray) : mlook d.files k = mlook (encR r.F) k := mlook_perm h.kn h.pm k
theorem Sim.len (h : Sim d r) : d.files.length = r.F.length := by rw [h.pm.length_eq]; simp [encR]
theorem Sim.dok (h : Sim d r) : DOk d := by
  refine ⟨by rw [h.len]; exact h.ok.many, fun p hp => ?_⟩
  have := h.pm.mem_iff.1 hp
  obtain ⟨f, hf, rfl⟩ := List.mem_map.1 this
  have := h.ok.each f hf
  refine ⟨?_, ?_, ?_, this.2⟩
  · show (f.s ++ f.t).size ≤ _; rw [ByteArray.size_append]; exact this.1
  · show (0 : Int) ≤ (f.s.size : Int); omega
  · show (f.s.size : Int) ≤ ((f.s ++ f.t).size : Int); rw [ByteArray.size_append]; omega
theorem Sim.names (h : Sim d r) : skeys d.files = namesR r.F := (skeys_perm h.pm).trans (sorted_names h.so)
theorem Sim.at (h : Sim d r) {i : Nat} {f : FileR} (hf : r.F[i]? = some f) : mlook d.files f.n = some (toV f) := by
  rw [h.look, mlook_iff h.kn2]
  exact List.mem_map.2 ⟨f, List.mem_of_getElem? hf, rfl⟩
theorem Sim.no (h : Sim d r) {k : ByteArray} (hk : rfind r.F k < 0) : mlook d.files k = none := by
  rw [h.look, mlook_none, encR_keys]
  exact rfind_none hk
theorem Sim.act (h : Sim d r) : actE d = (if ract r then 0 else 7) ∧ Sim (actD d) (ractD r) := by
  have hp := h.po
  refine ⟨?_, ?_⟩
  · unfold actE ract
    rw [hp]
    by_cases h0 : r.power = 0 <;> simp [h0]
  · unfold actD ractD
    rw [hp]
    by_cases h0 : r.power = 0
    · rw [if_pos h0, if_pos h0]; exact ⟨rfl, rfl, h.pm, h.so, ⟨h.ok.many, h.ok.each⟩⟩
    · rw [if_neg h0, if_neg h0]
      by_cases h1 : r.power > 0
      · rw [if_pos h1, if_pos h1]; exact ⟨rfl, h.of, h.pm, h.so, ⟨h.ok.many, h.ok.each⟩⟩
      · rw [if_neg h1, if_neg h1]; exact h
theorem Sim.put (h : Sim d r) {i : Nat} {f g : FileR} (hf : r.F[i]? = some f) (hg : g.n = f.n) (hs : g.s.size + g.t.size ≤ 1048576) : Sim { d with files := mput d.files f.n (toV g) } { r with F := r.F.set i g } := by
  refine ⟨h.po, h.of, ?_, ?_, ⟨by simpa using h.ok.many, fun x hx => ?_⟩⟩
  · exact (mput_rest h.kn f.n (toV g)).trans (((mrest_perm h.pm f.n).cons _).trans (set_rest h.so.nodup hf hg).symm)
  · show Rises (namesR (r.F.set i g))
    rw [namesR_set hf hg]; exact h.so
  · rcases List.mem_or_eq_of_mem_set hx with hx | rfl
    · exact h.ok.each x hx
    · refine ⟨hs, ?_⟩
      rw [hg]
      exact (h.ok.each f (List.mem_of_getElem? hf)).2
theorem Sim.ins (h : Sim d r) {f : FileR} (hf : rfind r.F f.n < 0) (hs : f.s.size + f.t.size ≤ 1048576) (hn : 1 ≤ f.n.size ∧ f.n.size ≤ 32) (hl : r.F.length < 256) : Sim { d with files := mput d.files f.n (toV f) } { r with F := ins r.F f } := by
  have hno := rfind_none hf
  have hno2 : f.n ∉ d.files.map (·.1) := fun hc => hno (by rw [← encR_keys]; exact (h.pm.map _).mem_iff.1 hc)
  refine ⟨h.po, h.of, ?_, ins_rises h.so hno, ⟨by show (Go.Proofs.Ytcbjokofjmefnaa.ins r.F f).length ≤ 256; rw [(ins_perm r.F f).length_eq]; simp; omega, fun x hx => ?_⟩⟩
  · refine (mput_rest h.kn f.n (toV f)).trans ?_
    rw [mrest_none hno2]
    exact (h.pm.cons _).trans (((ins_perm r.F f).map fun f : FileR => (f.n, toV f)).symm)
  · rcases List.mem_cons.1 ((ins_perm r.F f).mem_iff.1 hx) with rfl | hx
    · exact ⟨hs, hn⟩
    · exact h.ok.each x hx
theorem Sim.del (h : Sim d r) {i : Nat} {f : FileR} (hf : r.F[i]? = some f) : Sim { d with files := mdel d.files f.n } { r with F := r.F.eraseIdx i } := by
  have hsub : (r.F.eraseIdx i).Sublist r.F := List.eraseIdx_sublist _ _
  refine ⟨h.po, h.of, ?_, ?_, ⟨?_, fun x hx => ?_⟩⟩
  · show (mdel d.files f.n).Perm (encR (r.F.eraseIdx i))
    rw [mdel_rest h.kn, erase_rest h.so.nodup hf]
    exact mrest_perm h.pm _
  · exact h.so.sublist (hsub.map _)
  · have := hsub.length_le
    have := h.ok.many
    show (r.F.eraseIdx i).length ≤ 256
    omega
  · exact h.ok.each x (hsub.subset hx)

/-! find -/
theorem Sim.find (h : Sim d r) (k : ByteArray) : findE d k = raskE r k := by
  unfold findE raskE
  rw [h.of]
  by_cases ho : r.off = true
  · rw [if_pos ho, if_pos ho]
  · rw [if_neg ho, if_neg ho]
    by_cases hf : rfind r.F k < 0
    · rw [if_pos hf, mhas, h.no hf]; rfl
    · obtain ⟨i, f, -, h2, rfl⟩ := rfind_some hf
      rw [if_neg hf, mhas, h.at h2]; rfl
theorem Sim.found (h : Sim d r) {k : ByteArray} (hE : raskE r k = 0) : ∃ i f, raskI r k = (i : Nat) ∧ r.F[i]? = some f ∧ f.n = k ∧ findF d k = toV f ∧ r.F.getD (raskI r k).toNat noF = f := by
  obtain ⟨i, f, h1, h2, rfl⟩ := rask_some hE
  refine ⟨i, f, h1, h2, rfl, ?_, by rw [h1, Int.toNat_natCast, List.getD_eq_getElem?_getD, h2]; rfl⟩
  have ho : d.off = false := by
    rw [h.of]
    unfold raskE at hE
    cases ho : r.off with
    | true => rw [if_pos ho] at hE; exact absurd hE (by decide)
    | false => rfl
  unfold findF
  rw [if_neg (by rw [ho]; simp), h.at h2]
  rfl
theorem Sim.change (h : Sim d r) {k : ByteArray} (hE : raskE r k = 0) (g : FileR → FileR) (x : FileV) (hg : ∀ i f, r.F[i]? = some f → f.n = k → raskI r k = (i : Nat) → (g f).n = f.n ∧ (g f).s.size + (g f).t.size ≤ 1048576 ∧ toV (g f) = x) :
    actE d = rchE r k ∧ Sim (chD d k x) (rchD r k g) := by
  obtain ⟨i, f, h1, h2, rfl, -, h4⟩ := h.found hE
  obtain ⟨g1, g2, rfl⟩ := hg i f h2 rfl h1
  have ha := h.act
  refine ⟨by rw [rchE, if_pos hE]; exact ha.1, ?_⟩
  rw [rchD, if_pos hE, h4, h1, Int.toNat_natCast, chD]
  have hp := h.po
  by_cases h0 : r.power = 0
  · rw [if_pos (by rw [hp]; exact h0), if_neg (by simp [ract, h0])]
    exact ha.2
  · rw [if_neg (by rw [hp]; exact h0), if_pos (by simp [ract, h0])]
    have := ha.2.put (i := i) (f := f) (by rw [ractD_F]; exact h2) g1 g2
    rw [actD_files, ractD_F] at this
    exact this

/-! Each act -/
theorem app_noS (a : ByteArray) : a ++ (⟨#[]⟩ : ByteArray) = a := ByteArray.append_empty
theorem Sim.sync (h : Sim d r) (k : ByteArray) : syE d k = rchE r k ∧ Sim (syD d k) (rchD r k syncF) := by
  unfold syE syD
  rw [h.find]
  by_cases hE : raskE r k = 0
  · rw [if_pos hE, if_pos hE]
    obtain ⟨i, f, h1, h2, h3, h5, h4⟩ := h.found hE
    refine h.change hE syncF _ fun j f' hf' hn hj => ?_
    obtain rfl : i = j := by omega
    rw [h2] at hf'
    cases hf'
    have := (h.ok.each f (List.mem_of_getElem? h2)).1
    refine ⟨rfl, ?_, ?_⟩
    · show (f.s ++ f.t).size + 0 ≤ _; rw [ByteArray.size_append]; omega
    · rw [h5]; simp only [toV, syncF, app_noS]
  · rw [if_neg hE, if_neg hE, rchE, if_neg hE, rchD, if_neg hE]
    exact ⟨rfl, h⟩
theorem Sim.read (h : Sim d r) (k : ByteArray) : findE d k = raskE r k ∧ (findF d k).b = rrdS r k := by
  refine ⟨h.find k, ?_⟩
  unfold rrdS
  by_cases hE : raskE r k = 0
  · obtain ⟨i, f, h1, h2, h3, h5, h4⟩ := h.found hE
    rw [if_pos hE, h5, h1, Int.toNat_natCast, h2]
    rfl
  · rw [if_neg hE]
    have h1 := h.find k
    rcases find_cases d k with ⟨_, _, h3⟩ | ⟨x, _, _, h3, _⟩ | ⟨_, _, _, h3⟩
    · rw [h3]; rfl
    · rw [h3] at h1; exact absurd h1.symm hE
    · rw [h3]; rfl
theorem Sim.power (h : Sim d r) (n : Int) : Sim (poD d n) (rpoD r n) := by
  refine ⟨?_, h.of, h.pm, h.so, ⟨h.ok.many, h.ok.each⟩⟩
  show (if -1 > n then -1 else n) = (if n < 0 then -1 else n)
  by_cases h1 : -1 > n
  · rw [if_pos h1, if_pos (by omega)]
  · by_cases h2 : n < 0
    · rw [if_neg h1, if_pos h2]; omega
    · rw [if_neg h1, if_neg h2]
theorem Sim.delete (h : Sim d r) (k : ByteArray) : deE d k = rchE r k ∧ Sim (deD d k) (rdeD r k) := by
  have ha := h.act
  unfold deE deD rchE rdeD
  rw [h.find]
  by_cases hE : raskE r k = 0
  · obtain ⟨i, f, h1, h2, rfl, h5, h4⟩ := h.found hE
    simp only [if_pos hE]
    refine ⟨ha.1, ?_⟩
    have hp := h.po
    by_cases h0 : r.power = 0
    · rw [if_pos (by rw [hp]; exact h0), if_neg (by simp [ract, h0])]
      exact ha.2
    · rw [if_neg (by rw [hp]; exact h0), if_pos (by simp [ract, h0]), h1, Int.toNat_natCast]
      have := ha.2.del (i := i) (f := f) (by rw [ractD_F]; exact h2)
      rw [actD_files, ractD_F] at this
      exact this
  · simp only [if_neg hE]
    exact ⟨trivial, h⟩
theorem ext_app (a b : ByteArray) (n : Nat) : (a ++ b).extract 0 n = a.extract 0 n ++ b.extract 0 (n - a.size) := by
  rw [ByteArray.extract_append]; simp
theorem ext_all (a : ByteArray) (n : Nat) (h : a.size ≤ n) : a.extract 0 n = a := by
  apply ByteArray.ext
  simp only [ByteArray.data_extract]
  exact Array.extract_eq_self_of_le (by simpa using h)
theorem ext_none (a : ByteArray) : a.extract 0 0 = ⟨#[]⟩ := by simp; rfl
theorem Sim.append (h : Sim d r) (k s : ByteArray) : apE d k s = rapE r k s ∧ Sim (apD d k s) (rapD r k s) := by
  have hb : apBad d k s = rapBad r k s := by
    unfold apBad rapBad
    rw [h.of]
    by_cases ho : r.off = true
    · rw [if_pos ho, if_pos ho]
    rw [if_neg ho, if_neg ho]
    by_cases hk : k.size < 1 ∨ 32 < k.size
    · rw [if_pos hk, if_pos hk]
    rw [if_neg hk, if_neg hk]
    by_cases hf : rfind r.F k < 0
    · rw [if_pos hf, mhas, h.no hf, h.len]
      have e : (fileOr (none : Option FileV)).b.size = 0 := rfl
      rw [e]
      have hiff : (1048576 < 0 + s.size ∨ (none : Option FileV).isSome = false ∧ r.F.length = 256) ↔ (r.F.length = 256 ∨ 1048576 < s.size) := by
        simp only [Option.isSome_none, true_and, Nat.zero_add]
        exact Or.comm
      simp only [hiff]
    · obtain ⟨i, f, h1, h2, rfl⟩ := rfind_some hf
      rw [if_neg hf, mhas, h.at h2, h1, Int.toNat_natCast, List.getD_eq_getElem?_getD, h2]
      have e : (fileOr (some (toV f))).b.size = f.s.size + f.t.size := by show (f.s ++ f.t).size = _; rw [ByteArray.size_append]
      rw [e]
      simp
  have ha := h.act
  unfold apE rapE apD rapD
  rw [hb]
  by_cases h0 : rapBad r k s = 0
  · simp only [if_pos h0]
    refine ⟨ha.1, ?_⟩
    have hp := h.po
    unfold chD
    by_cases hpz : r.power = 0
    · rw [if_pos (by rw [hp]; exact hpz), if_neg (by simp [ract, hpz])]
      exact ha.2
    · rw [if_neg (by rw [hp]; exact hpz), if_pos (by simp [ract, hpz])]
      have h1 := h0
      unfold rapBad at h1
      by_cases ho : r.off = true
      · rw [if_pos ho] at h1; exact absurd h1 (by decide)
      rw [if_neg ho] at h1
      by_cases hk : k.size < 1 ∨ 32 < k.size
      · rw [if_pos hk] at h1; exact absurd h1 (by decide)
      rw [if_neg hk] at h1
      by_cases hf : rfind r.F k < 0
      · rw [if_pos hf] at h1
        by_cases h2 : r.F.length = 256 ∨ 1048576 < s.size
        · rw [if_pos h2] at h1; exact absurd h1 (by decide)
        · have hm := h.ok.many
          have := ha.2.ins (f := ⟨k, ⟨#[]⟩, s⟩) (by rw [ractD_F]; exact hf) (by show 0 + s.size ≤ _; omega) (by show 1 ≤ k.size ∧ k.size ≤ 32; omega) (by rw [ractD_F]; omega)
          rw [actD_files, ractD_F] at this
          rw [rapF, if_pos hf, h.no hf]
          exact this
      · rw [if_neg hf] at h1
        obtain ⟨i, f, h2, h3, rfl⟩ := rfind_some hf
        have hgd : r.F.getD (rfind r.F f.n).toNat noF = f := by rw [h2, Int.toNat_natCast, List.getD_eq_getElem?_getD, h3]; rfl
        rw [hgd] at h1
        have hs : ¬ 1048576 < f.s.size + f.t.size + s.size := fun hc => by rw [if_pos hc] at h1; exact absurd h1 (by decide)
        have := ha.2.put (i := i) (f := f) (g := appF s f) (by rw [ractD_F]; exact h3) rfl (by show f.s.size + (f.t ++ s).size ≤ _; rw [ByteArray.size_append]; omega)
        rw [actD_files, ractD_F] at this
        rw [rapF, if_neg hf, hgd, h2, Int.toNat_natCast, h.at h3]
        have e : (⟨(fileOr (some (toV f))).b ++ s, (fileOr (some (toV f))).safe⟩ : FileV) = toV (appF s f) := by
          show (⟨(f.s ++ f.t) ++ s, f.s.size⟩ : FileV) = ⟨f.s ++ (f.t ++ s), f.s.size⟩
          rw [ByteArray.append_assoc]
        rw [e]
        exact this
  · simp only [if_neg h0]
    exact ⟨trivial, h⟩
theorem Sim.cut (h : Sim d r) (k : ByteArray) (n : Int) : cuE d k n = rcuE r k n ∧ Sim (cuD d k n) (rcuD r k n) := by
  unfold cuE cuD rcuE rcuD cuBad
  rw [h.find]
  by_cases hE : raskE r k = 0
  · obtain ⟨i, f, h1, h2, rfl, h5, h4⟩ := h.found hE
    have hb : rcuBad r f.n n = (decide (n < 0) || decide (((f.s.size + f.t.size : Nat) : Int) < n)) := by unfold rcuBad; rw [hE, h4]; rfl
    have hsz : (findF d f.n).b.size = f.s.size + f.t.size := by rw [h5]; show (f.s ++ f.t).size = _; rw [ByteArray.size_append]
    rw [hb, hsz]
    simp only [if_pos hE]
    by_cases hn : n < 0 ∨ ((f.s.size + f.t.size : Nat) : Int) < n
    · have e : (decide (n < 0) || decide (((f.s.size + f.t.size : Nat) : Int) < n)) = true := by
        rcases hn with hn | hn
        · rw [decide_eq_true hn]; rfl
        · rw [decide_eq_true hn, Bool.or_true]
      rw [if_pos hn, e]
      exact ⟨rfl, h⟩
    · have e : (decide (n < 0) || decide (((f.s.size + f.t.size : Nat) : Int) < n)) = false := by
        rw [not_or] at hn
        rw [decide_eq_false hn.1, decide_eq_false hn.2]; rfl
      rw [if_neg hn, e]
      obtain ⟨m, rfl⟩ := Int.eq_ofNat_of_zero_le (show 0 ≤ n by omega)
      have hmn : m ≤ f.s.size + f.t.size := by omega
      have hfs := (h.ok.each f (List.mem_of_getElem? h2)).1
      refine h.change hE (cutF m) _ fun j f' hf' hn hj => ?_
      obtain rfl : i = j := by omega
      rw [h2] at hf'
      cases hf'
      rw [h5]
      by_cases hm : m ≤ f.s.size
      · have ec : cutF (m : Int) f = ⟨f.n, f.s.extract 0 m, ⟨#[]⟩⟩ := by unfold cutF; rw [if_pos (by omega)]; rfl
        rw [ec]
        refine ⟨rfl, ?_, ?_⟩
        · show (f.s.extract 0 m).size + 0 ≤ _
          rw [ByteArray.size_extract]; omega
        · have e1 : minI (toV f).safe (m : Int) = m := by
            show (if (m : Int) < (f.s.size : Int) then (m : Int) else (f.s.size : Int)) = m
            split <;> omega
          rw [e1]
          show (⟨f.s.extract 0 m ++ (⟨#[]⟩ : ByteArray), (f.s.extract 0 m).size⟩ : FileV) = ⟨(f.s ++ f.t).extract 0 m, m⟩
          have e2 : (f.s ++ f.t).extract 0 m = f.s.extract 0 m := by
            rw [ext_app, show m - f.s.size = 0 by omega, ext_none, app_noS]
          rw [e2, app_noS, ByteArray.size_extract]
          congr 1
          omega
      · have ec : cutF (m : Int) f = ⟨f.n, f.s, f.t.extract 0 (m - f.s.size)⟩ := by unfold cutF; rw [if_neg (by omega), show ((m : Int) - (f.s.size : Int)).toNat = m - f.s.size by omega]
        rw [ec]
        refine ⟨rfl, ?_, ?_⟩
        · show f.s.size + (f.t.extract 0 (m - f.s.size)).size ≤ _
          rw [ByteArray.size_extract]; omega
        · have e1 : minI (toV f).safe (m : Int) = f.s.size := by
            show (if (m : Int) < (f.s.size : Int) then (m : Int) else (f.s.size : Int)) = f.s.size
            split <;> omega
          rw [e1]
          show (⟨f.s ++ f.t.extract 0 (m - f.s.size), f.s.size⟩ : FileV) = ⟨(f.s ++ f.t).extract 0 m, f.s.size⟩
          rw [ext_app, ext_all f.s m (by omega)]
  · have hb : rcuBad r k n = false := by simp [rcuBad, hE]
    rw [hb]
    simp only [if_neg hE]
    refine ⟨?_, ?_⟩
    · simp [rchE, hE]
    · rw [rchD, if_neg hE]; exact h
theorem crash_file (f : FileR) (kp : Option Int) : crF (toV f) kp = toV (rcrF f kp) := by
  have hn : (crS (toV f) kp) = ((f.s.size + rkn f kp : Nat) : Int) := by
    cases kp with
    | none => simp [crS, toV, rkn]
    | some q =>
      simp only [crS, toV, rkn, ByteArray.size_append]
      omega
  have hle : rkn f kp ≤ f.t.size := by
    cases kp with
    | none => exact Nat.zero_le _
    | some q => simp only [rkn]; omega
  unfold crF
  rw [hn, Int.toNat_natCast]
  show (⟨(f.s ++ f.t).extract 0 (f.s.size + rkn f kp), _⟩ : FileV) = ⟨(f.s ++ f.t.extract 0 (rkn f kp)) ++ (⟨#[]⟩ : ByteArray), ((f.s ++ f.t.extract 0 (rkn f kp)).size : Int)⟩
  rw [app_noS, ext_app, ext_all f.s _ (by omega), Nat.add_sub_cancel_left, ByteArray.size_append, ByteArray.size_extract]
  congr 2
  omega
theorem Sim.crash (h : Sim d r) (kp : List Int) : Sim (crD d kp) (rcrD r kp) := by
  have key : ∀ i, i ≤ r.F.length → Sim ⟨crL d.files (skeys d.files) kp i, -1, false⟩ ⟨rcrL r.F kp i, -1, false⟩ := by
    intro i hi
    induction i with
    | zero => exact ⟨rfl, rfl, h.pm, h.so, ⟨h.ok.many, h.ok.each⟩⟩
    | succ i ih =>
      have ih := ih (by omega)
      have h2 : (rcrL r.F kp i)[i]? = some r.F[i] := by rw [rcrL_ge r.F kp i i (Nat.le_refl _), List.getElem?_eq_getElem (by omega)]
      have hnm : (skeys d.files).getD i noS = (r.F[i]).n := by
        rw [h.names, List.getD_eq_getElem?_getD, namesR, List.getElem?_map, List.getElem?_eq_getElem (by omega)]; rfl
      generalize r.F[i] = f at h2 hnm
      have hl := ih.at (i := i) (f := f) h2
      rw [crL, rcrL, hnm, List.getD_eq_getElem?_getD, h2]
      have e : fileOr (mlook (crL d.files (skeys d.files) kp i) f.n) = toV f := by
        have : mlook (crL d.files (skeys d.files) kp i) f.n = some (toV f) := hl
        rw [this]; rfl
      rw [e, crash_file]
      have hs := (ih.ok.each f (List.mem_of_getElem? h2)).1
      refine ih.put (i := i) (f := f) (g := rcrF f kp[i]?) h2 rfl ?_
      show (f.s ++ f.t.extract 0 (rkn f kp[i]?)).size + 0 ≤ _
      rw [ByteArray.size_append, ByteArray.size_extract]
      omega
  have := key r.F.length (Nat.le_refl _)
  unfold crD rcrD
  rw [h.len]
  exact this
end
end Go.Proofs.Ytcbjokofjmefnaa
