/- The reference's disk: Crash. -/
import Derived.Test.YtcbjokofjmefnaaO
namespace Go.Proofs.Ytcbjokofjmefnaa
open Go.RowKit

def rkn (f : FileR) (kp : Option Int) : Nat := match kp with | none => 0 | some q => min q.toNat f.t.size
def rcrF (f : FileR) (kp : Option Int) : FileR := ⟨f.n, f.s ++ f.t.extract 0 (rkn f kp), ⟨#[]⟩⟩
def rcrL (F : List FileR) (kp : List Int) : Nat → List FileR
  | 0 => F
  | i + 1 => (rcrL F kp i).set i (rcrF ((rcrL F kp i).getD i noF) kp[i]?)
theorem rcrL_length (F : List FileR) (kp : List Int) (i : Nat) : (rcrL F kp i).length = F.length := by
  induction i with
  | zero => rfl
  | succ i ih => rw [rcrL, List.length_set, ih]
theorem rcrL_ge (F : List FileR) (kp : List Int) (i j : Nat) (h : i ≤ j) : (rcrL F kp i)[j]? = F[j]? := by
  induction i with
  | zero => rfl
  | succ i ih => rw [rcrL, List.getElem?_set_ne (by omega), ih (by omega)]
theorem rcrL_lt (F : List FileR) (kp : List Int) (i j : Nat) (h : j < i) : (rcrL F kp i)[j]? = F[j]?.map fun f => rcrF f kp[j]? := by
  induction i with
  | zero => omega
  | succ i ih =>
    rw [rcrL]
    by_cases hij : j = i
    · subst hij
      have h1 := rcrL_ge F kp j j (Nat.le_refl _)
      rw [List.getElem?_set, if_pos rfl, List.getD_eq_getElem?_getD, h1, rcrL_length]
      by_cases hl : j < F.length
      · rw [if_pos hl, List.getElem?_eq_getElem hl]; rfl
      · rw [if_neg hl, List.getElem?_eq_none (l := F) (by omega)]; rfl
    · rw [List.getElem?_set_ne (by omega), ih (by omega)]
theorem rcrL_all (F : List FileR) (kp : List Int) (j : Nat) : (rcrL F kp F.length)[j]? = F[j]?.map fun f => rcrF f kp[j]? := by
  by_cases h : j < F.length
  · exact rcrL_lt F kp _ j h
  · rw [List.getElem?_eq_none (by rw [rcrL_length]; omega), List.getElem?_eq_none (l := F) (by omega)]; rfl
def rcrD (r : RefV) (kp : List Int) : RefV := ⟨rcrL r.F kp r.F.length, -1, false⟩

set_option maxRecDepth 100000 in
set_option maxHeartbeats 4000000 in
theorem rcrash_any (rb : Nat) (v : Value) (r : RefV) (kv : Value) (kp : List Int) (w : World) (h : IsRef w rb v r) (hok : ROk r) (hk : ∀ W, But (OwnR rb v) w W → SlR W kv (kp.map (Value.int .i64))) :
    Calls Try.prog 37 #[.pointer (some ⟨rb, 0, none⟩), kv] w fun e w' => e = .returned (.tuple #[]) ∧ IsRef w' rb v (rcrD r kp) ∧ But (OwnR rb v) w w' := by
  have hF := hok.many
  have hsz : ∀ f ∈ r.F, f.s.size + f.t.size ≤ 1048576 := fun f hf => (hok.each f hf).1
  obtain ⟨ka, kcap, rfl, hkl, hkc, -⟩ := hk w (But.refl _ _)
  obtain ⟨a, cap, rfl⟩ := own_slice h.row
  have hkpl : (kp.map (Value.int .i64)).length = kp.length := by simp
  have H := Lib.hid h
  have HK := Lib.hid hk
  clear h hok hk
  rw [hkpl] at hkl hkc ⊢
  unfold maxLen at hkl
  go_enter Try.func37, Try.ntmps37
  go_wp2_with fail
  go_loopw [4] (fun v4 wr => ∃ i : Nat, i ≤ r.F.length ∧ v4 = .int .i64 i ∧ Hid (IsRef wr rb (.slice a r.F.length cap) { r with F := rcrL r.F kp i } ∧ But (OwnR rb (.slice a r.F.length cap)) w wr)) (fun v4 _ => r.F.length - (intOf v4).toNat)
  case atStart => exact ⟨0, Nat.zero_le _, rfl, H.out, But.refl _ _⟩
  case round =>
    obtain ⟨i, hi, rfl, hR⟩ := hrel
    have hdr := hR.out.1
    have c0 := hdr.c0
    by_cases hlt : i < r.F.length
    · have hfe : r.F[i]? = some r.F[i] := List.getElem?_eq_getElem hlt
      have hs := hsz _ (List.getElem_mem hlt)
      generalize r.F[i] = f at hfe hs
      have hfe2 : (rcrL r.F kp i)[i]? = some f := by rw [rcrL_ge r.F kp i i (Nat.le_refl _)]; exact hfe
      have hgd : (rcrL r.F kp i).getD i noF = f := by rw [List.getD_eq_getElem?_getD, hfe2]; rfl
      have hfl := flatR_at (rcrL r.F kp i) i f hfe2
      obtain ⟨g, cap', hv, -, -, -, f1, hcell⟩ := own_at hdr.row hfl.2.1
      obtain ⟨_, _, hv2, -, -, -, f2, -⟩ := own_at hdr.row hfl.2.2
      have hl : (rcrL r.F kp i).length = r.F.length := rcrL_length _ _ _
      rw [show ({ r with F := rcrL r.F kp i } : RefV).F.length = r.F.length from hl] at hv hv2
      cases hv
      cases hv2
      have hc1 := hcell _ _ hfl.2.1
      have hc2 := hcell _ _ hfl.2.2
      have hne := hdr.ne g rfl
      have hne2 := Ne.symm hne
      have hgl := hdr.ltv g rfl
      have hrl := hdr.lt
      have HF := Lib.hid hfe2
      have HG := Lib.hid hgd
      clear hcell hfl hdr hfe hsz hl hfe2 hgd
      by_cases hk2 : i < kp.length
      · obtain ⟨ka', kcap', hkv, -, -, hkcell⟩ := HK.out wr hR.out.2
        rw [hkpl] at hkv
        cases hkv
        obtain ⟨kb, koff, rfl, hkc2⟩ := hkcell i (.int .i64 kp[i]) (by simp [hk2])
        have hkq : kp[i]? = some kp[i] := List.getElem?_eq_getElem hk2
        generalize kp[i] = q at hkc2 hkq
        have Hq := Lib.hid hkq
        have hkb : kb < wr.heap.size := World.block_lt_of_cell? wr _ hkc2
        clear hkcell hkq
        by_cases hq0 : 0 < q
        · obtain ⟨m, rfl⟩ := Int.eq_ofNat_of_zero_le (Int.le_of_lt hq0)
          by_cases hqm : f.t.size < m
          · have HN : Hid (rkn f kp[i]? = f.t.size) := by show _ = _; rw [Hq.out]; simp only [rkn, Int.toNat_natCast]; omega
            go_wp2_with fail
            go_region
            go_wp2
            have hl : (rcrL r.F kp i).length = r.F.length := rcrL_length _ _ _
            have h1 : IsRef wr rb (.slice (some ⟨g, 0, none⟩) (rcrL r.F kp i).length cap) { r with F := rcrL r.F kp i } := by rw [hl]; exact hR.out.1
            have s1 := IsRef.store (r := { r with F := rcrL r.F kp i }) (g := g) (cap := cap) (h := h1) (j := i * 3 + 1) (u := .string (f.s ++ f.t)) (F := (rcrL r.F kp i).set i ⟨f.n, f.s ++ f.t, f.t⟩) (flatR_setS _ i f HF.out _) (by rw [List.length_set])
            have hset2 : (flatR ((rcrL r.F kp i).set i ⟨f.n, f.s ++ f.t, f.t⟩)).set (i * 3 + 2) (.string ⟨#[]⟩) = flatR (rcrL r.F kp (i + 1)) := by
              rw [flatR_setT _ i ⟨f.n, f.s ++ f.t, f.t⟩ (by rw [List.getElem?_set_self (by omega)]), List.set_set, rcrL, HG.out, rcrF, HN.out]
              all_goals simp
            have s2 := IsRef.store (r := { r with F := (rcrL r.F kp i).set i ⟨f.n, f.s ++ f.t, f.t⟩ }) (g := g) (cap := cap) (j := i * 3 + 2) (u := .string ⟨#[]⟩) (F := rcrL r.F kp (i + 1)) (by rw [List.length_set]; exact s1) hset2 (by rw [List.length_set, rcrL_length, rcrL_length])
            rw [List.length_set, hl] at s2
            exact ⟨⟨i + 1, by omega, by go_num, s2.drew, ((hR.out.2.setCell (p := ⟨g, i * 3 + 1, none⟩) (fun _ => .inr rfl) _).setCell (p := ⟨g, i * 3 + 2, none⟩) (fun _ => .inr rfl) _).drew⟩, by simp [intOf]; omega⟩
          · have HN : Hid (rkn f kp[i]? = m) := by show _ = _; rw [Hq.out]; simp only [rkn, Int.toNat_natCast]; omega
            go_wp2_with fail
            go_region
            go_wp2
            have hl : (rcrL r.F kp i).length = r.F.length := rcrL_length _ _ _
            have h1 : IsRef wr rb (.slice (some ⟨g, 0, none⟩) (rcrL r.F kp i).length cap) { r with F := rcrL r.F kp i } := by rw [hl]; exact hR.out.1
            have s1 := IsRef.store (r := { r with F := rcrL r.F kp i }) (g := g) (cap := cap) (h := h1) (j := i * 3 + 1) (u := .string (f.s ++ f.t.extract 0 m)) (F := (rcrL r.F kp i).set i ⟨f.n, f.s ++ f.t.extract 0 m, f.t⟩) (flatR_setS _ i f HF.out _) (by rw [List.length_set])
            have hset2 : (flatR ((rcrL r.F kp i).set i ⟨f.n, f.s ++ f.t.extract 0 m, f.t⟩)).set (i * 3 + 2) (.string ⟨#[]⟩) = flatR (rcrL r.F kp (i + 1)) := by
              rw [flatR_setT _ i ⟨f.n, f.s ++ f.t.extract 0 m, f.t⟩ (by rw [List.getElem?_set_self (by omega)]), List.set_set, rcrL, HG.out, rcrF, HN.out]
              all_goals simp
            have s2 := IsRef.store (r := { r with F := (rcrL r.F kp i).set i ⟨f.n, f.s ++ f.t.extract 0 m, f.t⟩ }) (g := g) (cap := cap) (j := i * 3 + 2) (u := .string ⟨#[]⟩) (F := rcrL r.F kp (i + 1)) (by rw [List.length_set]; exact s1) hset2 (by rw [List.length_set, rcrL_length, rcrL_length])
            rw [List.length_set, hl] at s2
            exact ⟨⟨i + 1, by omega, by go_num, s2.drew, ((hR.out.2.setCell (p := ⟨g, i * 3 + 1, none⟩) (fun _ => .inr rfl) _).setCell (p := ⟨g, i * 3 + 2, none⟩) (fun _ => .inr rfl) _).drew⟩, by simp [intOf]; omega⟩
        · have HN : Hid (rkn f kp[i]? = 0) := by show _ = _; rw [Hq.out]; simp only [rkn]; omega
          go_wp2_with fail
          go_region
          go_wp2
          have hl : (rcrL r.F kp i).length = r.F.length := rcrL_length _ _ _
          have h1 : IsRef wr rb (.slice (some ⟨g, 0, none⟩) (rcrL r.F kp i).length cap) { r with F := rcrL r.F kp i } := by rw [hl]; exact hR.out.1
          have s1 := IsRef.store (r := { r with F := rcrL r.F kp i }) (g := g) (cap := cap) (h := h1) (j := i * 3 + 1) (u := .string (f.s)) (F := (rcrL r.F kp i).set i ⟨f.n, f.s, f.t⟩) (flatR_setS _ i f HF.out _) (by rw [List.length_set])
          have hset2 : (flatR ((rcrL r.F kp i).set i ⟨f.n, f.s, f.t⟩)).set (i * 3 + 2) (.string ⟨#[]⟩) = flatR (rcrL r.F kp (i + 1)) := by
            rw [flatR_setT _ i ⟨f.n, f.s, f.t⟩ (by rw [List.getElem?_set_self (by omega)]), List.set_set, rcrL, HG.out, rcrF, HN.out]
            all_goals simp
          have s2 := IsRef.store (r := { r with F := (rcrL r.F kp i).set i ⟨f.n, f.s, f.t⟩ }) (g := g) (cap := cap) (j := i * 3 + 2) (u := .string ⟨#[]⟩) (F := rcrL r.F kp (i + 1)) (by rw [List.length_set]; exact s1) hset2 (by rw [List.length_set, rcrL_length, rcrL_length])
          rw [List.length_set, hl] at s2
          exact ⟨⟨i + 1, by omega, by go_num, s2.drew, ((hR.out.2.setCell (p := ⟨g, i * 3 + 1, none⟩) (fun _ => .inr rfl) _).setCell (p := ⟨g, i * 3 + 2, none⟩) (fun _ => .inr rfl) _).drew⟩, by simp [intOf]; omega⟩
      · have HN : Hid (rkn f kp[i]? = 0) := by show _ = _; rw [List.getElem?_eq_none (by omega)]; rfl
        go_wp2_with fail
        go_region
        go_wp2
        have hl : (rcrL r.F kp i).length = r.F.length := rcrL_length _ _ _
        have h1 : IsRef wr rb (.slice (some ⟨g, 0, none⟩) (rcrL r.F kp i).length cap) { r with F := rcrL r.F kp i } := by rw [hl]; exact hR.out.1
        have s1 := IsRef.store (r := { r with F := rcrL r.F kp i }) (g := g) (cap := cap) (h := h1) (j := i * 3 + 1) (u := .string (f.s)) (F := (rcrL r.F kp i).set i ⟨f.n, f.s, f.t⟩) (flatR_setS _ i f HF.out _) (by rw [List.length_set])
        have hset2 : (flatR ((rcrL r.F kp i).set i ⟨f.n, f.s, f.t⟩)).set (i * 3 + 2) (.string ⟨#[]⟩) = flatR (rcrL r.F kp (i + 1)) := by
          rw [flatR_setT _ i ⟨f.n, f.s, f.t⟩ (by rw [List.getElem?_set_self (by omega)]), List.set_set, rcrL, HG.out, rcrF, HN.out]
          all_goals simp
        have s2 := IsRef.store (r := { r with F := (rcrL r.F kp i).set i ⟨f.n, f.s, f.t⟩ }) (g := g) (cap := cap) (j := i * 3 + 2) (u := .string ⟨#[]⟩) (F := rcrL r.F kp (i + 1)) (by rw [List.length_set]; exact s1) hset2 (by rw [List.length_set, rcrL_length, rcrL_length])
        rw [List.length_set, hl] at s2
        exact ⟨⟨i + 1, by omega, by go_num, s2.drew, ((hR.out.2.setCell (p := ⟨g, i * 3 + 1, none⟩) (fun _ => .inr rfl) _).setCell (p := ⟨g, i * 3 + 2, none⟩) (fun _ => .inr rfl) _).drew⟩, by simp [intOf]; omega⟩
    · have : i = r.F.length := by omega
      subst this
      have k1 := hdr.c1
      have k2 := hdr.c2
      have f1 := hdr.fr 1
      have f2 := hdr.fr 2
      clear hdr
      go_wp2
      go_end0
      have s := (hR.out.1.setOff false).setPower (-1) (by omega)
      exact ⟨rfl, s, ((hR.out.2).setCell (fun _ => .inl rfl) _).setCell (fun _ => .inl rfl) _⟩
end Go.Proofs.Ytcbjokofjmefnaa
