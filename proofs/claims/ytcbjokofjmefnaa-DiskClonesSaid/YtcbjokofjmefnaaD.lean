/- The disk: what it is in memory, and what its calls do to it. -/
import Derived.Test.YtcbjokofjmefnaaA
import Derived.Test.YtcbjokofjmefnaaProg
import Derived.KernelRfl
import Derived.WalkLawsBesides
namespace Go.Proofs.Ytcbjokofjmefnaa
open Go.RowKit

structure FileV where
  b : ByteArray
  safe : Int
def FileV.enc (f : FileV) : Value := .agg #[.string f.b, .int .i64 f.safe]
structure DiskV where
  files : Fm FileV
  power : Int
  off : Bool
/-- A disk in memory: its block, its map's. -/
structure IsDisk (w : World) (sb mb : Nat) (d : DiskV) : Prop where
  st : w.heap[sb]? = some (.cells #[.map (some mb), .int .i64 d.power, .bool d.off] 60 (0, 0))
  mp : MapAt w mb FileV.enc d.files
  pw : -1 ≤ d.power ∧ d.power ≤ 9223372036854775807
/-- The blocks of a disk. -/
def Own (sb mb : Nat) (k : Nat) : Prop := k = sb ∨ k = mb

section
variable {w w' : World} {sb mb : Nat} {d : DiskV}
theorem IsDisk.lts (h : IsDisk w sb mb d) : sb < w.heap.size := heap_lt h.st
theorem IsDisk.ltm (h : IsDisk w sb mb d) : mb < w.heap.size := h.mp.lt
theorem IsDisk.ne (h : IsDisk w sb mb d) : sb ≠ mb := by
  obtain ⟨hs, ⟨l, ck, hm, _⟩, _⟩ := h
  intro e
  subst e
  rw [hs] at hm
  cases hm
theorem IsDisk.same (h : IsDisk w sb mb d) (h1 : w'.heap[sb]? = w.heap[sb]?) (h2 : w'.heap[mb]? = w.heap[mb]?) : IsDisk w' sb mb d :=
  ⟨h1.trans h.st, h.mp.same h2, h.pw⟩
theorem IsDisk.below (h : IsDisk w sb mb d) (hb : Below w.heap.size w w') : IsDisk w' sb mb d := h.same (hb.block _ h.lts) (hb.block _ h.ltm)
theorem IsDisk.drew (h : IsDisk w sb mb d) : IsDisk w.drew sb mb d := h.same rfl rfl
theorem IsDisk.alloc (h : IsDisk w sb mb d) (o : Obj) : IsDisk (w.alloc o) sb mb d := h.below ((Below.refl _ _).alloc (Nat.le_refl _) o)
theorem IsDisk.but {F : Nat → Prop} (h : IsDisk w sb mb d) (hb : But F w w') (h1 : ¬ F sb) (h2 : ¬ F mb) : IsDisk w' sb mb d := h.same (hb.block _ h.lts h1) (hb.block _ h.ltm h2)
theorem IsDisk.c0 (h : IsDisk w sb mb d) : w.cell? ⟨sb, 0, none⟩ = some (.map (some mb)) := cell_of h.st 0
theorem IsDisk.c1 (h : IsDisk w sb mb d) : w.cell? ⟨sb, 1, none⟩ = some (.int .i64 d.power) := cell_of h.st 1
theorem IsDisk.c2 (h : IsDisk w sb mb d) : w.cell? ⟨sb, 2, none⟩ = some (.bool d.off) := cell_of h.st 2
theorem IsDisk.fr (h : IsDisk w sb mb d) (i : Nat) : w.frozen? ⟨sb, i, none⟩ = false := free_of h.st i
theorem IsDisk.setOff (h : IsDisk w sb mb d) (b : Bool) : IsDisk (w.setCell ⟨sb, 2, none⟩ (.bool b)) sb mb { d with off := b } :=
  ⟨by rw [setCell_at h.st]; rfl, h.mp.same (Below.heap_setCell _ _ _ _ (Ne.symm h.ne)), h.pw⟩
theorem IsDisk.setPower (h : IsDisk w sb mb d) (p : Int) (hp : -1 ≤ p ∧ p ≤ 9223372036854775807) : IsDisk (w.setCell ⟨sb, 1, none⟩ (.int .i64 p)) sb mb { d with power := p } :=
  ⟨by rw [setCell_at h.st]; rfl, h.mp.same (Below.heap_setCell _ _ _ _ (Ne.symm h.ne)), hp⟩
theorem IsDisk.setMap (h : IsDisk w sb mb d) (o : Obj) (f : Fm FileV) (hm : MapAt (setB w mb o) mb FileV.enc f) : IsDisk (setB w mb o) sb mb { d with files := f } :=
  ⟨(setB_past w o sb h.ne).trans h.st, hm, h.pw⟩
end

def noS : ByteArray := ⟨#[]⟩
def fileOr (o : Option FileV) : FileV := o.getD ⟨noS, 0⟩
def findE (d : DiskV) (k : ByteArray) : Int := if d.off then 7 else if mhas d.files k then 0 else 5
def findF (d : DiskV) (k : ByteArray) : FileV := if d.off then ⟨noS, 0⟩ else fileOr (mlook d.files k)

theorem zero_file (w : World) : (zeroValue 62).run Try.prog w = .ok (FileV.enc ⟨noS, 0⟩) w := by kernel_rfl

theorem look_enc (l : Fm FileV) (k : ByteArray) : ((mlook l k).map FileV.enc).getD (FileV.enc ⟨noS, 0⟩) = .agg #[.string (fileOr (mlook l k)).b, .int .i64 (fileOr (mlook l k)).safe] := by
  cases mlook l k <;> rfl

theorem find_nil (k : ByteArray) (w : World) :
    Calls Try.prog 27 #[.pointer none, .string k] w fun e w' =>
      e = .returned (.tuple #[.agg #[.string noS, .int .i64 0], .int .i64 1]) ∧ Below w.heap.size w w' := by
  go_enter Try.func27, Try.ntmps27
  go_wp2
  exact bodyPost_ret (v := .tuple #[.agg #[.string noS, .int .i64 0], .int .i64 1]) (by simp [results, Try.results27, go_sem, noS]) rfl ⟨rfl, (Below.refl _ _).alloc (Nat.le_refl _) _⟩

theorem find_any (sb mb : Nat) (d : DiskV) (k : ByteArray) (w : World) (h : IsDisk w sb mb d) :
    Calls Try.prog 27 #[.pointer (some ⟨sb, 0, none⟩), .string k] w fun e w' =>
      e = .returned (.tuple #[.agg #[.string (findF d k).b, .int .i64 (findF d k).safe], .int .i64 (findE d k)]) ∧ Below w.heap.size w w' := by
  have c0 := h.c0
  have c2 := h.c2
  have hmb := h.ltm
  have hsb := h.lts
  have hl : ∀ o : Obj, (Instr.lookup 58 (.map (some mb)) (.string k) true).run Try.prog (w.alloc o) = .ok (.tuple #[.agg #[.string (fileOr (mlook d.files k)).b, .int .i64 (fileOr (mlook d.files k)).safe], .bool (mhas d.files k)]) (w.alloc o) := by
    intro o
    rw [(h.mp.same (alloc_old o hmb)).look_ok Try.underlying58 Try.underlying9 (zero_file _), look_enc]
  generalize hx : fileOr (mlook d.files k) = x at hl
  generalize hy : mhas d.files k = y at hl
  have HX := Lib.hid hx
  have HY := Lib.hid hy
  clear hx hy h
  cases ho : d.off with
  | true =>
    have HO := Lib.hid ho
    rw [ho] at c2
    clear ho
    go_enter Try.func27, Try.ntmps27
    go_wp2
    refine bodyPost_ret (v := .tuple #[.agg #[.string noS, .int .i64 0], .int .i64 7]) (by simp [results, Try.results27, go_sem, noS]) rfl ⟨?_, (Below.refl _ _).alloc (Nat.le_refl _) _⟩
    simp [findF, findE, HO.out]
  | false =>
    have HO := Lib.hid ho
    rw [ho] at c2
    clear ho
    cases y with
    | true =>
      go_enter Try.func27, Try.ntmps27
      go_wp2
      refine bodyPost_ret (v := .tuple #[.agg #[.string x.b, .int .i64 x.safe], .int .i64 0]) (by simp [results, Try.results27, go_sem]) rfl ⟨?_, ((Below.refl _ _).alloc (Nat.le_refl _) _).alloc (by simp) _⟩
      simp [findF, findE, HO.out, HX.out, HY.out]
    | false =>
      go_enter Try.func27, Try.ntmps27
      go_wp2
      refine bodyPost_ret (v := .tuple #[.agg #[.string noS, .int .i64 0], .int .i64 5]) (by simp [results, Try.results27, go_sem, noS]) rfl ⟨?_, ((Below.refl _ _).alloc (Nat.le_refl _) _).alloc (by simp) _⟩
      have hn : mlook d.files k = none := by have := HY.out; simpa [mhas] using this
      simp [findF, findE, HO.out, HY.out, hn, fileOr]

def actE (d : DiskV) : Int := if d.power = 0 then 7 else 0
def actD (d : DiskV) : DiskV := if d.power = 0 then { d with off := true } else if d.power > 0 then { d with power := d.power - 1 } else d

theorem act_any (sb mb : Nat) (d : DiskV) (w : World) (h : IsDisk w sb mb d) :
    Calls Try.prog 30 #[.pointer (some ⟨sb, 0, none⟩)] w fun e w' => e = .returned (.int .i64 (actE d)) ∧ IsDisk w' sb mb (actD d) ∧ But (Own sb mb) w w' := by
  have c1 := h.c1
  have f1 := h.fr 1
  have f2 := h.fr 2
  have c2 := h.c2
  have hp := h.pw
  have H := Lib.hid h
  clear h
  rcases Int.lt_trichotomy d.power 0 with h0 | h0 | h0
  · have e : (d.power == 0) = false := by rw [beq_eq_false_iff_ne]; omega
    have n : ¬ d.power > 0 := by omega
    have E : Hid (actE d = 0) := by unfold actE; rw [if_neg (by omega)]; rfl
    have D : Hid (actD d = d) := by unfold actD; rw [if_neg (by omega), if_neg (by omega)]; rfl
    go_enter Try.func30, Try.ntmps30
    go_wp2
    go_ret
    rw [E.out, D.out]
    exact ⟨rfl, H.out, But.refl _ _⟩
  · have e : (d.power == 0) = true := by rw [beq_iff_eq]; omega
    have E : Hid (actE d = 7) := by unfold actE; rw [if_pos h0]; rfl
    have D : Hid (actD d = { d with off := true }) := by unfold actD; rw [if_pos h0]; rfl
    clear h0
    go_enter Try.func30, Try.ntmps30
    go_wp2
    go_ret
    rw [E.out, D.out]
    exact ⟨rfl, H.out.setOff true, (But.refl _ _).setCell (fun _ => .inl rfl) _⟩
  · have e : (d.power == 0) = false := by rw [beq_eq_false_iff_ne]; omega
    have E : Hid (actE d = 0) := by unfold actE; rw [if_neg (by omega)]; rfl
    have D : Hid (actD d = { d with power := d.power - 1 }) := by unfold actD; rw [if_neg (by omega), if_pos (by omega)]; rfl
    go_enter Try.func30, Try.ntmps30
    go_wp2
    go_ret
    rw [E.out, D.out]
    exact ⟨rfl, H.out.setPower _ (by omega), (But.refl _ _).setCell (fun _ => .inl rfl) _⟩

/-- What a change of one file leaves. -/
def chD (d : DiskV) (k : ByteArray) (f : FileV) : DiskV := if d.power = 0 then actD d else { actD d with files := mput d.files k f }
theorem actD_files (d : DiskV) : (actD d).files = d.files := by unfold actD; split <;> (try split) <;> rfl

theorem change_any (sb mb : Nat) (d : DiskV) (k : ByteArray) (f : FileV) (w : World) (h : IsDisk w sb mb d) :
    Calls Try.prog 28 #[.pointer (some ⟨sb, 0, none⟩), .string k, .agg #[.string f.b, .int .i64 f.safe]] w fun e w' => e = .returned (.int .i64 (actE d)) ∧ IsDisk w' sb mb (chD d k f) ∧ But (Own sb mb) w w' := by
  have hsb := h.lts
  have hmb := h.ltm
  have H := Lib.hid h
  clear h
  go_enter Try.func28, Try.ntmps28
  go_wp2_with fail
  refine (act_any sb mb d _ (H.out.below ((Below.refl _ _).alloc (Nat.le_refl _) _))).mono ?_
  rintro e w1 ⟨rfl, hd1, hb1⟩
  have hs1 : w.heap.size < w1.heap.size := by have := hb1.size; simp at this; omega
  have k0 : w1.cell? ⟨w.heap.size, 0, none⟩ = some (.string f.b) := by
    have := hb1.block w.heap.size (by simp) (by intro hk; rcases hk with hk | hk <;> omega)
    rw [alloc_new] at this
    exact cell_of this 0
  have k1 : w1.cell? ⟨w.heap.size, 1, none⟩ = some (.int .i64 f.safe) := by
    have := hb1.block w.heap.size (by simp) (by intro hk; rcases hk with hk | hk <;> omega)
    rw [alloc_new] at this
    exact cell_of this 1
  have c0 := hd1.c0
  by_cases h0 : d.power = 0
  · have E : Hid (actE d = 7) := by unfold actE; rw [if_pos h0]; rfl
    have D : Hid (chD d k f = actD d) := by unfold chD; rw [if_pos h0]; rfl
    clear h0
    have Hd1 := Lib.hid hd1
    have Hb1 := Lib.hid hb1
    clear hd1 hb1
    rw [E.out]
    go_wp2
    go_ret
    rw [D.out, E.out]
    exact ⟨rfl, Hd1.out, ((But.refl _ _).alloc _).trans Hb1.out⟩
  · have E : Hid (actE d = 0) := by unfold actE; rw [if_neg h0]; rfl
    have D : Hid (chD d k f = { actD d with files := mput (actD d).files k f }) := by unfold chD; rw [if_neg h0, actD_files]; rfl
    clear h0
    rw [E.out]
    obtain ⟨o, hu, hm⟩ := (hd1.mp.same (show w1.drew.heap[mb]? = w1.heap[mb]? from rfl)).update (P := Try.prog) Try.underlying58 Try.underlying9 k f
    have hu' := hu (.agg #[.string f.b, .int .i64 f.safe]) rfl
    clear hu
    have Hm := Lib.hid hm
    have Hd1 := Lib.hid hd1
    have Hb1 := Lib.hid hb1
    clear hm hd1 hb1
    go_wp2
    go_region
    go_wp2
    go_ret
    rw [D.out, E.out]
    exact ⟨rfl, (Hd1.out.same (w' := w1.drew) rfl rfl).setMap o _ Hm.out, ((((But.refl _ _).alloc _).trans Hb1.out).drew).setB (fun _ => .inr rfl) o⟩

/-- What every disk's files are. -/
structure DOk (d : DiskV) : Prop where
  many : d.files.length ≤ 256
  each : ∀ p ∈ d.files, p.2.b.size ≤ 1048576 ∧ 0 ≤ p.2.safe ∧ p.2.safe ≤ p.2.b.size ∧ 1 ≤ p.1.size ∧ p.1.size ≤ 32
theorem mlook_mem {α : Type} {l : Fm α} {k : ByteArray} {x : α} (h : mlook l k = some x) : (k, x) ∈ l := by
  induction l with
  | nil => simp [mlook] at h
  | cons p l ih =>
    by_cases hk : k = p.1
    · simp only [mlook, if_pos hk] at h
      have : p = (k, x) := by rw [hk]; cases p; simp_all
      simp [this]
    · simp only [mlook, if_neg hk] at h
      simp [ih h]
theorem DOk.file {d : DiskV} (h : DOk d) (k : ByteArray) : (fileOr (mlook d.files k)).b.size ≤ 1048576 ∧ 0 ≤ (fileOr (mlook d.files k)).safe ∧ (fileOr (mlook d.files k)).safe ≤ (fileOr (mlook d.files k)).b.size := by
  cases hl : mlook d.files k with
  | none => exact ⟨by show (0 : Nat) ≤ _; omega, by show (0 : Int) ≤ 0; omega, by show (0 : Int) ≤ ((0 : Nat) : Int); omega⟩
  | some x => have := h.each _ (mlook_mem hl); simp only [fileOr, Option.getD_some]; exact ⟨this.1, this.2.1, this.2.2.1⟩

def apBad (d : DiskV) (k s : ByteArray) : Int :=
  if d.off then 7 else if k.size < 1 ∨ 32 < k.size then 1
  else if 1048576 < (fileOr (mlook d.files k)).b.size + s.size ∨ (mhas d.files k = false ∧ d.files.length = 256) then 4 else 0
def apE (d : DiskV) (k s : ByteArray) : Int := if apBad d k s = 0 then actE d else apBad d k s
def apD (d : DiskV) (k s : ByteArray) : DiskV := if apBad d k s = 0 then chD d k ⟨(fileOr (mlook d.files k)).b ++ s, (fileOr (mlook d.files k)).safe⟩ else d

theorem append_nil (k s : ByteArray) (w : World) :
    Calls Try.prog 11 #[.pointer none, .string k, .string s] w fun e w' => e = .returned (.int .i64 1) ∧ Below w.heap.size w w' := by
  go_enter Try.func11, Try.ntmps11
  go_wp2_with fail
  refine (find_nil k w).mono ?_
  rintro e w1 ⟨rfl, hb1⟩
  have Hb1 := Lib.hid hb1
  clear hb1
  go_wp2
  go_ret
  exact ⟨rfl, Hb1.out.alloc Hb1.out.size _⟩

theorem append_any (sb mb : Nat) (d : DiskV) (k s : ByteArray) (w : World) (h : IsDisk w sb mb d) (hok : DOk d) (hsz : s.size ≤ 140737488351232) :
    Calls Try.prog 11 #[.pointer (some ⟨sb, 0, none⟩), .string k, .string s] w fun e w' => e = .returned (.int .i64 (apE d k s)) ∧ IsDisk w' sb mb (apD d k s) ∧ But (Own sb mb) w w' := by
  go_enter Try.func11, Try.ntmps11
  go_wp2_with fail
  refine (find_any sb mb d k w h).mono ?_
  rintro e w1 ⟨rfl, hb1⟩
  have hd1 := h.below hb1
  have c0 : ∀ o : Obj, (w1.alloc o).cell? ⟨sb, 0, none⟩ = some (.map (some mb)) := fun o => (hd1.below ((Below.refl _ _).alloc (Nat.le_refl _) _)).c0
  have hlen : ∀ (o : Obj) (ty : TypeId), (Builtin.len_ #[58] ty #[.map (some mb)]).run Try.prog (w1.alloc o) = .ok (.int .i64 d.files.length) (w1.alloc o) :=
    fun o ty => (hd1.below ((Below.refl _ _).alloc (Nat.le_refl _) _)).mp.len Try.underlying58 ty
  have hf := hok.file k
  have Hb1 := Lib.hid hb1
  have Hd1 := Lib.hid hd1
  clear hb1 hd1 hok h
  cases ho : d.off with
  | true =>
    have e1 : findE d k = 7 := by simp [findE, ho]
    have e2 : findF d k = ⟨noS, 0⟩ := by simp [findF, ho]
    rw [e1, e2]
    have E : Hid (apE d k s = 7 ∧ apD d k s = d) := by
      have hb : apBad d k s = 7 := by simp [apBad, ho]
      exact ⟨by simp [apE, hb], by simp [apD, hb]⟩
    clear e1 e2 ho
    go_wp2
    go_ret
    rw [E.out.1, E.out.2]
    exact ⟨rfl, Hd1.out.below ((Below.refl _ _).alloc (Nat.le_refl _) _), But.of (Hb1.out.alloc Hb1.out.size _)⟩
  | false =>
    have e2 : findF d k = fileOr (mlook d.files k) := by simp [findF, ho]
    rw [e2]
    clear e2
    generalize hx : fileOr (mlook d.files k) = x at hf
    by_cases hn : k.size < 1 ∨ 32 < k.size
    · have E : Hid (apE d k s = 1 ∧ apD d k s = d) := by
        have hb : apBad d k s = 1 := by unfold apBad; rw [if_neg (by simp [ho]), if_pos hn]
        exact ⟨by simp [apE, hb], by simp [apD, hb]⟩
      have e1 : findE d k = 0 ∨ findE d k = 5 := by unfold findE; cases mhas d.files k <;> simp [ho]
      clear hx ho
      rcases e1 with e1 | e1 <;> rw [e1] <;> clear e1 <;> rcases hn with hn | hn
      all_goals
        go_wp2
        go_ret
        rw [E.out.1, E.out.2]
        exact ⟨rfl, Hd1.out.below ((Below.refl _ _).alloc (Nat.le_refl _) _), But.of (Hb1.out.alloc Hb1.out.size _)⟩
    · by_cases hm : 1048576 < x.b.size + s.size ∨ (mhas d.files k = false ∧ d.files.length = 256)
      · have E : Hid (apE d k s = 4 ∧ apD d k s = d) := by
          have hb : apBad d k s = 4 := by unfold apBad; rw [if_neg (by simp [ho]), if_neg hn, hx, if_pos hm]
          exact ⟨by simp [apE, hb], by simp [apD, hb]⟩
        have e1 : findE d k = if mhas d.files k then 0 else 5 := by simp [findE, ho]
        rw [e1]
        clear hx ho e1
        have hn1 : ¬ k.size < 1 := fun hc => hn (.inl hc)
        have hn2 : ¬ 32 < k.size := fun hc => hn (.inr hc)
        clear hn
        by_cases hm1 : 1048576 < x.b.size + s.size
        · cases mhas d.files k
          all_goals
            clear hm
            simp only [Bool.false_eq_true, if_true, if_false]
            go_wp2
            go_ret
            rw [E.out.1, E.out.2]
            exact ⟨rfl, Hd1.out.below ((Below.refl _ _).alloc (Nat.le_refl _) _), But.of (Hb1.out.alloc Hb1.out.size _)⟩
        · have hm2 := hm.resolve_left hm1
          rw [hm2.1]
          have hl : (d.files.length : Int) = 256 := by rw [hm2.2]; rfl
          rw [hl] at hlen
          clear hm hm2 hl
          simp only [Bool.false_eq_true, if_false]
          go_wp2
          go_ret
          rw [E.out.1, E.out.2]
          exact ⟨rfl, Hd1.out.below ((Below.refl _ _).alloc (Nat.le_refl _) _), But.of (Hb1.out.alloc Hb1.out.size _)⟩
      · have E : Hid (apE d k s = actE d ∧ apD d k s = chD d k ⟨x.b ++ s, x.safe⟩) := by
          have hb : apBad d k s = 0 := by unfold apBad; rw [if_neg (by simp [ho]), if_neg hn, hx, if_neg hm]
          exact ⟨by simp [apE, hb], by simp [apD, hb, hx]⟩
        have e1 : findE d k = if mhas d.files k then 0 else 5 := by simp [findE, ho]
        rw [e1]
        clear hx ho e1
        have hn1 : ¬ k.size < 1 := fun hc => hn (.inl hc)
        have hn2 : ¬ 32 < k.size := fun hc => hn (.inr hc)
        have hm1 : ¬ 1048576 < x.b.size + s.size := fun hc => hm (.inl hc)
        cases hh : mhas d.files k with
        | true =>
          clear hn hm hh
          simp only [if_true]
          go_wp2_with fail
          refine (change_any sb mb d k ⟨x.b ++ s, x.safe⟩ _ (Hd1.out.below ((Below.refl _ _).alloc (Nat.le_refl _) _))).mono ?_
          rintro e w2 ⟨rfl, hd2, hb2⟩
          have Hd2 := Lib.hid hd2
          have Hb2 := Lib.hid hb2
          clear hd2 hb2
          go_wp2
          go_ret
          rw [E.out.1, E.out.2]
          exact ⟨rfl, Hd2.out, (But.of (Hb1.out.alloc Hb1.out.size _)).trans Hb2.out⟩
        | false =>
          have hl : ((d.files.length : Int) == 256) = false := by
            rw [beq_eq_false_iff_ne]
            exact fun hc => hm (.inr ⟨hh, by omega⟩)
          clear hn hm hh
          simp only [Bool.false_eq_true, if_false]
          go_wp2_with fail
          refine (change_any sb mb d k ⟨x.b ++ s, x.safe⟩ _ (Hd1.out.below ((Below.refl _ _).alloc (Nat.le_refl _) _))).mono ?_
          rintro e w2 ⟨rfl, hd2, hb2⟩
          have Hd2 := Lib.hid hd2
          have Hb2 := Lib.hid hb2
          clear hd2 hb2
          go_wp2
          go_ret
          rw [E.out.1, E.out.2]
          exact ⟨rfl, Hd2.out, (But.of (Hb1.out.alloc Hb1.out.size _)).trans Hb2.out⟩
end Go.Proofs.Ytcbjokofjmefnaa
