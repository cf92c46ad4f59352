/- A disk's crash, and its clone. -/
import Derived.Test.YtcbjokofjmefnaaN
import Derived.Test.YtcbjokofjmefnaaE
import Derived.WalkSpells
import Derived.Deep.RegionHeld3
namespace Go.Proofs.Ytcbjokofjmefnaa
open Go.RowKit

def FOk (f : FileV) : Prop := f.b.size ≤ 1048576 ∧ 0 ≤ f.safe ∧ f.safe ≤ f.b.size
theorem file_ok {l : Fm FileV} (h : ∀ p ∈ l, FOk p.2) (k : ByteArray) : FOk (fileOr (mlook l k)) := by
  cases hl : mlook l k with
  | none => exact ⟨by show (0 : Nat) ≤ _; omega, by show (0 : Int) ≤ 0; omega, by show (0 : Int) ≤ ((0 : Nat) : Int); omega⟩
  | some x => exact h _ (mlook_mem hl)
theorem mput_mem {α : Type} {l : Fm α} {k : ByteArray} {x : α} {p : ByteArray × α} (h : p ∈ mput l k x) : p ∈ l ∨ p = (k, x) := by
  induction l with
  | nil => simp [mput] at h; exact .inr h
  | cons q l ih =>
    by_cases hk : k = q.1
    · simp only [mput, if_pos hk] at h
      rcases List.mem_cons.1 h with h | h
      · exact .inr h
      · exact .inl (by simp [h])
    · simp only [mput, if_neg hk] at h
      rcases List.mem_cons.1 h with h | h
      · exact .inl (by simp [h])
      · rcases ih h with h | h
        · exact .inl (by simp [h])
        · exact .inr h
/-- How much of a file is safe behind a crash. -/
def crS (f : FileV) (kp : Option Int) : Int := match kp with | none => f.safe | some q => f.safe + min (max q 0) (f.b.size - f.safe)
/-- A file behind a crash. -/
def crF (f : FileV) (kp : Option Int) : FileV := ⟨f.b.extract 0 (crS f kp).toNat, crS f kp⟩
theorem crS_ok {f : FileV} (h : FOk f) (kp : Option Int) : 0 ≤ crS f kp ∧ crS f kp ≤ f.b.size := by
  obtain ⟨_, h1, h2⟩ := h
  cases kp <;> simp only [crS] <;> omega
theorem crF_ok {f : FileV} (h : FOk f) (kp : Option Int) : FOk (crF f kp) := by
  have hs := crS_ok h kp
  have := h.1
  refine ⟨?_, hs.1, ?_⟩ <;> simp only [crF, ByteArray.size_extract] <;> omega
/-- .. the first i of them. -/
def crL (m : Fm FileV) (ns : List ByteArray) (kp : List Int) : Nat → Fm FileV
  | 0 => m
  | i + 1 => mput (crL m ns kp i) (ns.getD i noS) (crF (fileOr (mlook (crL m ns kp i) (ns.getD i noS))) kp[i]?)
theorem crL_ok {m : Fm FileV} (h : ∀ p ∈ m, FOk p.2) (ns : List ByteArray) (kp : List Int) (i : Nat) : ∀ p ∈ crL m ns kp i, FOk p.2 := by
  induction i with
  | zero => exact h
  | succ i ih =>
    intro p hp
    rcases mput_mem hp with hp | rfl
    · exact ih p hp
    · exact crF_ok (file_ok ih _) _
def crD (d : DiskV) (kp : List Int) : DiskV := ⟨crL d.files (skeys d.files) kp d.files.length, -1, false⟩

theorem crash_nil (v : Value) (w : World) : Calls Try.prog 13 #[.pointer none, v] w fun e w' => e = .returned (.tuple #[]) ∧ w = w' := by
  go_enter Try.func13, Try.ntmps13
  go_wp2
  exact bodyPost_ret (results_none rfl _ _ _) rfl ⟨rfl, rfl⟩

set_option maxHeartbeats 1000000 in
theorem crash_any (sb mb : Nat) (d : DiskV) (kv : Value) (kp : List Int) (w : World) (h : IsDisk w sb mb d) (hok : DOk d) (hk : ∀ W, But (Own sb mb) w W → SlR W kv (kp.map (Value.int .i64))) :
    Calls Try.prog 13 #[.pointer (some ⟨sb, 0, none⟩), kv] w fun e w' => e = .returned (.tuple #[]) ∧ IsDisk w' sb mb (crD d kp) ∧ But (Own sb mb) w w' := by
  obtain ⟨ka, kcap, rfl, hkl, hkc, -⟩ := hk w (But.refl _ _)
  have c0 := h.c0
  have H := Lib.hid h
  have HO := Lib.hid hok
  have HK := Lib.hid hk
  clear h hok hk
  go_enter Try.func13, Try.ntmps13
  go_wp2_with fail
  refine (names_any mb d.files w H.out.mp (by have := HO.out.many; omega) (fun p hp => by have := HO.out.each p hp; unfold maxLen; omega)).mono ?_
  rintro e w1 ⟨v, rfl, hrow, hb⟩
  obtain ⟨na, ncap, rfl, hnl, hnc, -⟩ := SlR.of_own hrow
  have Hrow := Lib.hid hrow
  have Hb := Lib.hid hb
  clear hrow hb
  have hlen : ((skeys d.files).map Value.string).length = d.files.length := by simp [skeys_length]
  have hkpl : (kp.map (Value.int .i64)).length = kp.length := by simp
  rw [hlen] at hnl hnc ⊢
  rw [hkpl] at hkl hkc ⊢
  unfold maxLen at hnl hkl
  have hdl := HO.out.many
  go_wp2
  go_loopw [15] (fun v wr => ∃ i : Nat, i ≤ d.files.length ∧ v = .int .i64 i ∧ Hid (IsDisk wr sb mb { d with files := crL d.files (skeys d.files) kp i } ∧ But (Own sb mb) w1 wr)) (fun v _ => d.files.length - (intOf v).toNat)
  case atStart => exact ⟨0, Nat.zero_le _, rfl, H.out.below Hb.out, But.refl _ _⟩
  case round =>
    obtain ⟨i, hi, rfl, hR⟩ := hrel
    have hdr := hR.out.1
    have hbr := hR.out.2
    by_cases hlt : i < d.files.length
    · have hnm : (skeys d.files)[i]? = some ((skeys d.files).getD i noS) := by
        rw [List.getD_eq_getElem?_getD, List.getElem?_eq_getElem (by rw [skeys_length]; exact hlt)]; rfl
      generalize hnmk : (skeys d.files).getD i noS = nm at hnm
      have hrow2 : wr.ownsRow w.heap.size 9 1 (.slice na d.files.length ncap) d.files.length ((skeys d.files).map Value.string) := by
        have h1 := own_but Hrow.out hbr (fun k hk hf => by have := H.out.lts; have := H.out.ltm; rcases hf with hf | hf <;> omega)
        rwa [hlen] at h1
      obtain ⟨na', ncap', hv, -, -, hcell⟩ := SlR.of_own hrow2
      rw [hlen] at hv
      cases hv
      obtain ⟨nb, noff, rfl, hc⟩ := hcell i (.string nm) (by simp [hnm])
      clear hcell hrow2 hnm
      have c0r := hdr.c0
      have hlk := hdr.mp.look_one (P := Try.prog) Try.underlying58 Try.underlying9 (zero_file _) nm
      rw [look_enc] at hlk
      simp only at hlk
      generalize hx : fileOr (mlook (crL d.files (skeys d.files) kp i) nm) = x at hlk
      obtain ⟨O, hu, hm⟩ := hdr.mp.upd (P := Try.prog) Try.underlying58 Try.underlying9 nm
      have hu1 : ∀ (o : Obj) (v : Value), (Instr.mapUpdate 58 (.map (some mb)) (.string nm) v).run Try.prog (wr.alloc o).drew = .ok () (setB (wr.alloc o).drew mb (O v)) := fun o v => hu v _ (alloc_old o hdr.ltm)
      have hu2 : ∀ (o : Obj) (v : Value), (Instr.mapUpdate 58 (.map (some mb)) (.string nm) v).run Try.prog (wr.alloc o).drew.drew = .ok () (setB (wr.alloc o).drew.drew mb (O v)) := fun o v => hu v _ (alloc_old o hdr.ltm)
      have hxs : 0 ≤ x.safe ∧ x.safe ≤ x.b.size ∧ x.b.size ≤ 1048576 := by
        have := file_ok (crL_ok (fun p hp => (HO.out.each p hp) |> fun z => ⟨z.1, z.2.1, z.2.2.1⟩) (skeys d.files) kp i) nm
        rw [hx] at this
        exact ⟨this.2.1, this.2.2, this.1⟩
      have hsb := hdr.lts
      have hmb := hdr.ltm
      have Hm := Lib.hid hm
      have Hnm := Lib.hid hnmk
      have Hx := Lib.hid hx
      clear hu hm hdr hbr hnmk hx
      by_cases hk2 : i < kp.length
      · obtain ⟨ka', kcap', hkv, -, -, hkcell⟩ := HK.out wr ((But.of Hb.out).trans hR.out.2)
        rw [hkpl] at hkv
        cases hkv
        obtain ⟨kb, koff, rfl, hkc2⟩ := hkcell i (.int .i64 kp[i]) (by simp [hk2])
        generalize hq : kp[i] = q at hkc2
        have Hq := Lib.hid hq
        have hkb : kb < wr.heap.size := World.block_lt_of_cell? wr _ hkc2
        clear hkcell hq
        have hE : ∃ E, x.safe + min (max q 0) (x.b.size - x.safe) = E ∧ 0 ≤ E ∧ E ≤ x.b.size := ⟨_, rfl, by omega, by omega⟩
        obtain ⟨E, hE, hE0, hE1⟩ := hE
        have HE := Lib.hid hE
        clear hE
        go_wp2
        go_region
        rw [HE.out]
        go_wp2
        go_region
        go_wp2
        have e1 : crL d.files (skeys d.files) kp (i + 1) = mput (crL d.files (skeys d.files) kp i) nm (crF x kp[i]?) := by rw [crL, Hnm.out, Hx.out]
        have e2 : FileV.enc (crF x kp[i]?) = .agg #[.string (x.b.extract 0 E.toNat), .int .i64 E] := by
          have : crS x kp[i]? = E := by rw [List.getElem?_eq_getElem hk2, Hq.out]; exact HE.out
          simp only [FileV.enc, crF, this]
        refine ⟨⟨i + 1, by omega, by go_num, ?_, (((hR.out.2.alloc _).drew).drew).setB (fun _ => .inr rfl) _⟩, by simp [intOf]; omega⟩
        rw [e1, ← e2]
        exact (((hR.out.1.alloc _).drew).drew).setMap _ _ (Hm.out _ _ (alloc_old _ hmb))
      · go_wp2
        go_region
        go_wp2
        have e1 : crL d.files (skeys d.files) kp (i + 1) = mput (crL d.files (skeys d.files) kp i) nm (crF x kp[i]?) := by rw [crL, Hnm.out, Hx.out]
        have e2 : FileV.enc (crF x kp[i]?) = .agg #[.string (x.b.extract 0 x.safe.toNat), .int .i64 x.safe] := by
          have : crS x kp[i]? = x.safe := by rw [List.getElem?_eq_none (by omega)]; rfl
          simp only [FileV.enc, crF, this]
        refine ⟨⟨i + 1, by omega, by go_num, ?_, ((hR.out.2.alloc _).drew).setB (fun _ => .inr rfl) _⟩, by simp [intOf]; omega⟩
        rw [e1, ← e2]
        exact ((hR.out.1.alloc _).drew).setMap _ _ (Hm.out _ _ (alloc_old _ hmb))
    · have : i = d.files.length := by omega
      subst this
      have k0 := hdr.c0
      have k1 := hdr.c1
      have k2 := hdr.c2
      have f1 := hdr.fr 1
      have f2 := hdr.fr 2
      clear hdr hbr
      go_wp2
      go_end0
      exact ⟨rfl, (hR.out.1.setOff false).setPower (-1) (by omega), (((But.of Hb.out).trans hR.out.2).setCell (fun _ => .inl rfl) _).setCell (fun _ => .inl rfl) _⟩

theorem run_xclone {P : Program} (w : World) {r : Nat} {es : Array MapEntry} {ck : Nat} (t : TypeId) (hb : w.heap[r]? = some (.map es ck)) :
    (Extern.MapsClone.clone #[.iface t (.map (some r))]).run P w = .ok (.iface t (.map (some w.heap.size))) (w.alloc (.map es ck)) := by
  have e : Extern.MapsClone.clone #[.iface t (.map (some r))] = (getObj r >>= fun o => match o with
      | .map entries clock => (newObj (.map entries clock) >>= fun n => pure (.iface t (.map (some n))))
      | _ => stuck "maps.clone: a map expected") := rfl
  rw [e]
  simp [run_getObj_map hb, Result.andThen, go_sem]
theorem run_assertMap {P : Program} (w : World) (t xT k e : TypeId) (v : Value) (h : P.underlying t = some (.map k e)) : (Instr.typeAssert (.iface t v) xT t false).run P w = .ok v w := by
  simp [Instr.typeAssert, run_underlying h, go_sem, Result.andThen]

set_option maxRecDepth 100000 in
theorem mclone_any (mb : Nat) (m : Fm FileV) (w : World) (h : MapAt w mb FileV.enc m) :
    Calls Try.prog 31 #[.map (some mb)] w fun e w' => e = .returned (.map (some w.heap.size)) ∧ MapAt w' w.heap.size FileV.enc m ∧ w'.heap.size = w.heap.size + 1 ∧ Below w.heap.size w w' := by
  have hn := fun (w : World) (r : Option Nat) => run_eql_map_nil (P := Try.prog) w 58 _ _ r Try.underlying58
  obtain ⟨l, ck, hb, hl, hst⟩ := h
  have Hl := Lib.hid hl
  have Hst := Lib.hid hst
  clear hl hst
  go_enter Try.func31, Try.ntmps31
  go_wp2
  rw [run_callFunc_extern Try.func41 (by kernel_rfl) (by kernel_rfl) (by kernel_rfl) (e := Extern.MapsClone.clone) (by kernel_rfl), run_xclone w 58 hb]
  simp only [Result.andThen]
  rw [Oper.upon_value]
  go_wp2
  rw [run_assertMap _ 58 20 _ _ _ Try.underlying58]
  simp only [Result.andThen]
  rw [Oper.upon_value]
  go_wp2
  go_ret
  exact ⟨rfl, ⟨l, ck, alloc_new _ _, Hl.out, Hst.out⟩, by simp, (Below.refl _ w).alloc (Nat.le_refl _) _⟩

theorem clone_nil (w : World) : Calls Try.prog 20 #[.pointer none] w fun e w' => e = .returned (.pointer none) ∧ w = w' := by
  go_enter Try.func20, Try.ntmps20
  go_wp2
  go_ret
  exact ⟨rfl, rfl⟩
theorem clone_any (sb mb : Nat) (d : DiskV) (w : World) (h : IsDisk w sb mb d) :
    Calls Try.prog 20 #[.pointer (some ⟨sb, 0, none⟩)] w fun e w' => ∃ sb' mb', e = .returned (.pointer (some ⟨sb', 0, none⟩)) ∧ IsDisk w' sb' mb' d ∧ w.heap.size ≤ sb' ∧ w.heap.size ≤ mb' ∧ Below w.heap.size w w' := by
  have c0 := h.c0
  have c1 := h.c1
  have c2 := h.c2
  have hsb := h.lts
  have H := Lib.hid h
  clear h
  go_enter Try.func20, Try.ntmps20
  go_wp2_with fail
  go_region_held3 (fun w' => w'.cell? ⟨sb, 0, none⟩ = some (.map (some mb)) ∧ w'.cell? ⟨sb, 1, none⟩ = some (.int .i64 d.power) ∧ w'.cell? ⟨sb, 2, none⟩ = some (.bool d.off))
    (first
      | go_keep
      | exact ⟨(hb1.cell (p := ⟨sb, 0, none⟩) (by simpa using hsb)).trans (by go_simp), (hb1.cell (p := ⟨sb, 1, none⟩) (by simpa using hsb)).trans (by go_simp), (hb1.cell (p := ⟨sb, 2, none⟩) (by simpa using hsb)).trans (by go_simp)⟩)
    (first
      | (go_at_call 31 ; refine (mclone_any mb d.files _ (by exact H.out.mp.same rfl)).mono ?_; rintro e w1 ⟨rfl, hm1, hz1, hb1⟩))
  go_wp2
  go_ret
  have hz : w1.heap.size = w.heap.size + 1 := hz1
  refine ⟨w.heap.size + 1, w.heap.size, rfl, ⟨?_, (show MapAt w1 w.heap.size FileV.enc d.files from hm1).same (alloc_old _ (by omega)), H.out.pw⟩, by omega, Nat.le_refl _, ?_⟩
  · rw [← hz]
    exact alloc_new _ _
  · exact Below.alloc (show Below w.heap.size w w1 from ⟨hb1.os, hb1.tape, hb1.output, hb1.size, hb1.block⟩) (by omega) _
end Go.Proofs.Ytcbjokofjmefnaa
