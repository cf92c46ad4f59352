/- Keep: contracts (Ln Lm Ls Lp Ba Rn Ro Rz). -/
import Derived.Test.YthikijlbclckdaaGreatT16
import Derived.Test.YthikijlbclckdaaGreatT17
import Derived.Test.YthikijlbclckdaaGreatT18
import Derived.Test.YthikijlbclckdaaGreatT19
import Derived.Test.YthikijlbclckdaaGreatT21
import Derived.Test.YthikijlbclckdaaGreatT22
import Derived.Test.YthikijlbclckdaaGreatT23
import Derived.Lib.SmallJoins
import Derived.Laws.EntriesVeiled
namespace Go.Proofs.YthikijlbclckdaaGreat
set_option maxRecDepth 100000
set_option maxHeartbeats 40000000
set_option linter.unusedSimpArgs false
set_option linter.unusedVariables false
open Go.RowKit
def numN (v : Nat) (b : UInt8) : Nat := v * 256 % 18446744073709551616 + b.toNat
def numK (s : ByteArray) : Nat := s.data.toList.foldl numN 0
theorem numN_lt (v : Nat) (b : UInt8) : numN v b < 18446744073709551616 := by
 have := b.toNat_lt
 unfold numN; omega
theorem numL_lt : ∀ (l : List UInt8) (v : Nat), v < 18446744073709551616 → l.foldl numN v < 18446744073709551616
 | [], v, h => h
 | b :: l, v, _ => numL_lt l _ (numN_lt v b)
theorem numK_lt (s : ByteArray) : numK s < 18446744073709551616 := numL_lt _ _ (by omega)
theorem num_take (s : ByteArray) (i : Nat) (h : i < s.size) : (s.data.toList.take (i + 1)).foldl numN 0 = numN ((s.data.toList.take i).foldl numN 0) s[i] := by
 have e : s.data.toList[i]? = some s[i] := by
  rw [List.getElem?_eq_getElem (by simpa using h)]; rfl
 rw [List.take_add_one, e]
 simp
theorem num_shl (v : Nat) (hv : v < 18446744073709551616) (b : Nat) (hb : b < 256) : bits .or .u64 (IntKind.u64.wrap ((v : Int) * 256)) (b : Int) = ((v * 256 % 18446744073709551616 + b : Nat) : Int) := by
 have e1 : IntKind.u64.wrap ((v : Int) * 256) = ((v * 256 % 18446744073709551616 : Nat) : Int) := by rw [IntKind.wrap_u64]; omega
 rw [e1, bits_or_u64_nat _ _ (by omega) (by omega)]
 congr 1
 have e2 : v * 256 % 18446744073709551616 = (v * 256 % 18446744073709551616 / 256) * 2 ^ 8 := by omega
 rw [e2, ← Nat.shiftLeft_eq, ← Nat.shiftLeft_add_eq_or_of_lt (by omega)]
theorem number14_any (s : ByteArray) (hs : s.size ≤ 140737488355328) (w : World) : Calls Tryz.prog 34 #[.string s] w fun e w' => e = .returned (.int .u64 (numK s)) ∧ w' = w := by
 go_enter Tryz.func34, Tryz.ntmps34
 go_wp2
 go_loop [3, 7] (fun v i => ∃ k n : Nat, k ≤ s.size ∧ i = .int .i64 k ∧ v = .int .u64 n ∧ n < 18446744073709551616 ∧ Hid (n = (s.data.toList.take k).foldl numN 0)) (fun _ i => s.size - (intOf i).toNat)
 case atStart => exact ⟨0, 0, Nat.zero_le _, rfl, rfl, by omega, rfl⟩
 case round =>
  obtain ⟨k, n, hk, rfl, rfl, hn, hR⟩ := hrel
  by_cases hlt : k < s.size
  ·
   have hby := s[k].toNat_lt
   have hor := hid (num_shl n hn s[k].toNat hby)
   have hst := hid (num_take s k hlt)
   go_wp2
   go_round
   case rel => exact ⟨k + 1, numN n s[k], by omega, by go_num, by rw [hor.out]; rfl, numN_lt _ _, show _ = _ by rw [hst.out, hR.out]⟩
   case measure => simp [intOf]; omega
  ·
   have hin : k = s.size := by omega
   subst hin
   have hE := hid (show numK s = n by rw [hR.out, List.take_of_length_le (by simp)]; rfl)
   go_wp2
   go_ret
   exact ⟨by rw [hE.out]; rfl, rfl⟩
def sizeK (c : Nat) : Int := if c = 97 then 0 else if c = 103 ∨ c = 105 ∨ c = 106 ∨ c = 116 then 8 else if c = 107 ∨ c = 108 ∨ c = 114 ∨ c = 115 then 10 else if c = 112 then -1 else -2
end Go.Proofs.YthikijlbclckdaaGreat
namespace Go.Proofs.YthikijlbclckdaaGreat
set_option maxRecDepth 100000
set_option maxHeartbeats 40000000
set_option linter.unusedSimpArgs false
set_option linter.unusedVariables false
open Go.RowKit
abbrev L8 := List (Nat × Value × Nat)
def ents8 (l : L8) : Array MapEntry := (l.map fun p => (⟨.int .u8 (p.1 : Int), p.2.1, p.2.2⟩ : MapEntry)).toArray
def look8 : L8 → Nat → Option Value
 | [], _ => none
 | p :: l, k => if k = p.1 then some p.2.1 else look8 l k
def place8 : L8 → Nat → Nat
 | [], _ => 0
 | p :: l, k => if k = p.1 then 0 else place8 l k + 1
theorem findNow8 (k : Nat) (l : L8) (i : Nat) :
  Instr.findNow (.int .u8) (.int .u8 (k : Int)) (l.map fun p => (⟨.int .u8 (p.1 : Int), p.2.1, p.2.2⟩ : MapEntry)) i = some ((look8 l k).map fun x => (i + place8 l k, x)) := by
 induction l generalizing i with
 | nil => simp [Instr.findNow, look8]
 | cons p l ih =>
  by_cases h : k = p.1
  ·
   have hb : ((k : Int) == (p.1 : Int)) = true := by simp [h]
   simp only [List.map_cons, Instr.findNow, Instr.sameNow, hb, look8, place8, if_pos h]
   simp
  ·
   have hb : ((k : Int) == (p.1 : Int)) = false := by simp; omega
   simp only [List.map_cons, Instr.findNow, Instr.sameNow, hb, look8, place8, if_neg h, ih]
   cases look8 l k <;> simp
   omega
section
variable {P : Program} {w : World} {t K e : TypeId} {mb ck : Nat} {z : Value} {l : L8}
theorem run_findKey8 (hK : P.underlying K = some (.int .u8)) (k : Nat) : (Instr.findKey K (.int .u8 (k : Int)) (ents8 l).toList).run P w = .ok ((look8 l k).map fun x => (place8 l k, x)) w := by
 simp [Instr.findKey, run_underlying hK, ents8, findNow8]
theorem run_checkKey8 (hK : P.underlying K = some (.int .u8)) (b : Bool) (k : Nat) : (Instr.checkKey b 10000 K (.int .u8 (k : Int))).run P w = .ok () w :=
 MapKept.run_checkKey hK (k := .int .u8 (k : Int)) (by simp [MapKept.IsKey]) b 9999
theorem run_lookup8 (ht : P.underlying t = some (.map K e)) (hK : P.underlying K = some (.int .u8)) (hz : (zeroValue e).run P w = .ok z w)
  (hb : w.heap[mb]? = some (.map (ents8 l) ck)) (k : Nat) : (Instr.lookup t (.map (some mb)) (.int .u8 (k : Int)) true).run P w = .ok (.tuple #[(look8 l k).getD z, .bool (look8 l k).isSome]) w := by
 simp only [Instr.lookup]
 simp [run_underlying ht, run_getObj_map hb, run_checkKey8 hK, run_findKey8 hK]
 cases look8 l k <;> simp [hz]
theorem run_insert8 (ht : P.underlying t = some (.map K e)) (hK : P.underlying K = some (.int .u8)) (hb : w.heap[mb]? = some (.map (ents8 l) ck)) (k : Nat) (v : Value) (hn : look8 l k = none) :
  (Instr.mapUpdate t (.map (some mb)) (.int .u8 (k : Int)) v).run P w = .ok () (setB w mb (.map (ents8 (l ++ [(k, v, ck)])) (ck + 1))) := by
 unfold Instr.mapUpdate
 simp [run_underlying ht, run_getObj_map hb, run_checkKey8 hK, run_findKey8 hK, hn, run_setObj_map hb]
 simp [ents8]
end
def letV (n : Int) (f : Nat) : Value := .agg #[.int .i64 n, .func (.func f) #[] #[]]
def letTab : L8 := [(97, letV 0 86, 0), (103, letV 8 88, 1), (105, letV 8 93, 2), (106, letV 8 94, 3), (107, letV 10 95, 4),
 (108, letV 10 96, 5), (112, letV (-1) 97, 6), (114, letV 10 98, 7), (115, letV 10 99, 8), (116, letV 8 100, 9)]
def LetsAt (w : World) (mb : Nat) : Prop := w.heap[mb]? = some (.map (ents8 letTab) 10)
theorem letters_any (w : World) : Calls Tryz.prog 32 #[] w fun e w' => ∃ mb, e = .returned (.map (some mb)) ∧ LetsAt w' mb ∧ Below w.heap.size w w' := by
 have hmm := @run_makeMap Tryz.prog
 go_enter Tryz.func32, Tryz.ntmps32
 go_wp2_with fail
 have hb0 : (w.alloc (.map #[] 0)).heap[w.heap.size]? = some (.map (ents8 (letTab.take 0)) 0) := alloc_new w _
 have hB0 : Below w.heap.size w (w.alloc (.map #[] 0)) := (Below.refl _ w).alloc (Nat.le_refl _) _
 generalize w.alloc (.map #[] 0) = W0 at hb0 hB0 ⊢
 have Hb0 := hid hb0
 have HB0 := hid hB0
 clear hb0 hB0
 have hi0 : (Instr.mapUpdate 71 (.map (some w.heap.size)) (.int .u8 97) (.agg #[.int .i64 0, .func (.func 86) #[] #[]])).run Tryz.prog W0 = .ok () (setB W0 w.heap.size (.map (ents8 (letTab.take 1)) 1)) := run_insert8 Tryz.underlying71 Tryz.underlying5 Hb0.out 97 _ rfl
 rw [hi0]
 have Hb1 := hid (setB_at W0 (.map (ents8 (letTab.take 1)) 1) (heap_lt Hb0.out))
 have HB1 : Hid (Below w.heap.size w (setB W0 w.heap.size (.map (ents8 (letTab.take 1)) 1))) := ((But.of (w := w) HB0.out).setB (F := fun _ => False) (fun h => by omega) _).below (Nat.le_refl _) (fun _ h => h.elim)
 clear hi0 Hb0 HB0
 generalize setB W0 w.heap.size (.map (ents8 (letTab.take 1)) 1) = W1 at Hb1 HB1 ⊢
 simp only [Result.andThen_ok, Oper.upon_skip]
 go_wp2_with fail
 have hi1 : (Instr.mapUpdate 71 (.map (some w.heap.size)) (.int .u8 103) (.agg #[.int .i64 8, .func (.func 88) #[] #[]])).run Tryz.prog W1 = .ok () (setB W1 w.heap.size (.map (ents8 (letTab.take 2)) 2)) := run_insert8 Tryz.underlying71 Tryz.underlying5 Hb1.out 103 _ rfl
 rw [hi1]
 have Hb2 := hid (setB_at W1 (.map (ents8 (letTab.take 2)) 2) (heap_lt Hb1.out))
 have HB2 : Hid (Below w.heap.size w (setB W1 w.heap.size (.map (ents8 (letTab.take 2)) 2))) := ((But.of (w := w) HB1.out).setB (F := fun _ => False) (fun h => by omega) _).below (Nat.le_refl _) (fun _ h => h.elim)
 clear hi1 Hb1 HB1
 generalize setB W1 w.heap.size (.map (ents8 (letTab.take 2)) 2) = W2 at Hb2 HB2 ⊢
 simp only [Result.andThen_ok, Oper.upon_skip]
 go_wp2_with fail
 have hi2 : (Instr.mapUpdate 71 (.map (some w.heap.size)) (.int .u8 105) (.agg #[.int .i64 8, .func (.func 93) #[] #[]])).run Tryz.prog W2 = .ok () (setB W2 w.heap.size (.map (ents8 (letTab.take 3)) 3)) := run_insert8 Tryz.underlying71 Tryz.underlying5 Hb2.out 105 _ rfl
 rw [hi2]
 have Hb3 := hid (setB_at W2 (.map (ents8 (letTab.take 3)) 3) (heap_lt Hb2.out))
 have HB3 : Hid (Below w.heap.size w (setB W2 w.heap.size (.map (ents8 (letTab.take 3)) 3))) := ((But.of (w := w) HB2.out).setB (F := fun _ => False) (fun h => by omega) _).below (Nat.le_refl _) (fun _ h => h.elim)
 clear hi2 Hb2 HB2
 generalize setB W2 w.heap.size (.map (ents8 (letTab.take 3)) 3) = W3 at Hb3 HB3 ⊢
 simp only [Result.andThen_ok, Oper.upon_skip]
 go_wp2_with fail
 have hi3 : (Instr.mapUpdate 71 (.map (some w.heap.size)) (.int .u8 106) (.agg #[.int .i64 8, .func (.func 94) #[] #[]])).run Tryz.prog W3 = .ok () (setB W3 w.heap.size (.map (ents8 (letTab.take 4)) 4)) := run_insert8 Tryz.underlying71 Tryz.underlying5 Hb3.out 106 _ rfl
 rw [hi3]
 have Hb4 := hid (setB_at W3 (.map (ents8 (letTab.take 4)) 4) (heap_lt Hb3.out))
 have HB4 : Hid (Below w.heap.size w (setB W3 w.heap.size (.map (ents8 (letTab.take 4)) 4))) := ((But.of (w := w) HB3.out).setB (F := fun _ => False) (fun h => by omega) _).below (Nat.le_refl _) (fun _ h => h.elim)
 clear hi3 Hb3 HB3
 generalize setB W3 w.heap.size (.map (ents8 (letTab.take 4)) 4) = W4 at Hb4 HB4 ⊢
 simp only [Result.andThen_ok, Oper.upon_skip]
 go_wp2_with fail
 have hi4 : (Instr.mapUpdate 71 (.map (some w.heap.size)) (.int .u8 107) (.agg #[.int .i64 10, .func (.func 95) #[] #[]])).run Tryz.prog W4 = .ok () (setB W4 w.heap.size (.map (ents8 (letTab.take 5)) 5)) := run_insert8 Tryz.underlying71 Tryz.underlying5 Hb4.out 107 _ rfl
 rw [hi4]
 have Hb5 := hid (setB_at W4 (.map (ents8 (letTab.take 5)) 5) (heap_lt Hb4.out))
 have HB5 : Hid (Below w.heap.size w (setB W4 w.heap.size (.map (ents8 (letTab.take 5)) 5))) := ((But.of (w := w) HB4.out).setB (F := fun _ => False) (fun h => by omega) _).below (Nat.le_refl _) (fun _ h => h.elim)
 clear hi4 Hb4 HB4
 generalize setB W4 w.heap.size (.map (ents8 (letTab.take 5)) 5) = W5 at Hb5 HB5 ⊢
 simp only [Result.andThen_ok, Oper.upon_skip]
 go_wp2_with fail
 have hi5 : (Instr.mapUpdate 71 (.map (some w.heap.size)) (.int .u8 108) (.agg #[.int .i64 10, .func (.func 96) #[] #[]])).run Tryz.prog W5 = .ok () (setB W5 w.heap.size (.map (ents8 (letTab.take 6)) 6)) := run_insert8 Tryz.underlying71 Tryz.underlying5 Hb5.out 108 _ rfl
 rw [hi5]
 have Hb6 := hid (setB_at W5 (.map (ents8 (letTab.take 6)) 6) (heap_lt Hb5.out))
 have HB6 : Hid (Below w.heap.size w (setB W5 w.heap.size (.map (ents8 (letTab.take 6)) 6))) := ((But.of (w := w) HB5.out).setB (F := fun _ => False) (fun h => by omega) _).below (Nat.le_refl _) (fun _ h => h.elim)
 clear hi5 Hb5 HB5
 generalize setB W5 w.heap.size (.map (ents8 (letTab.take 6)) 6) = W6 at Hb6 HB6 ⊢
 simp only [Result.andThen_ok, Oper.upon_skip]
 go_wp2_with fail
 have hi6 : (Instr.mapUpdate 71 (.map (some w.heap.size)) (.int .u8 112) (.agg #[.int .i64 (-1), .func (.func 97) #[] #[]])).run Tryz.prog W6 = .ok () (setB W6 w.heap.size (.map (ents8 (letTab.take 7)) 7)) := run_insert8 Tryz.underlying71 Tryz.underlying5 Hb6.out 112 _ rfl
 rw [hi6]
 have Hb7 := hid (setB_at W6 (.map (ents8 (letTab.take 7)) 7) (heap_lt Hb6.out))
 have HB7 : Hid (Below w.heap.size w (setB W6 w.heap.size (.map (ents8 (letTab.take 7)) 7))) := ((But.of (w := w) HB6.out).setB (F := fun _ => False) (fun h => by omega) _).below (Nat.le_refl _) (fun _ h => h.elim)
 clear hi6 Hb6 HB6
 generalize setB W6 w.heap.size (.map (ents8 (letTab.take 7)) 7) = W7 at Hb7 HB7 ⊢
 simp only [Result.andThen_ok, Oper.upon_skip]
 go_wp2_with fail
 have hi7 : (Instr.mapUpdate 71 (.map (some w.heap.size)) (.int .u8 114) (.agg #[.int .i64 10, .func (.func 98) #[] #[]])).run Tryz.prog W7 = .ok () (setB W7 w.heap.size (.map (ents8 (letTab.take 8)) 8)) := run_insert8 Tryz.underlying71 Tryz.underlying5 Hb7.out 114 _ rfl
 rw [hi7]
 have Hb8 := hid (setB_at W7 (.map (ents8 (letTab.take 8)) 8) (heap_lt Hb7.out))
 have HB8 : Hid (Below w.heap.size w (setB W7 w.heap.size (.map (ents8 (letTab.take 8)) 8))) := ((But.of (w := w) HB7.out).setB (F := fun _ => False) (fun h => by omega) _).below (Nat.le_refl _) (fun _ h => h.elim)
 clear hi7 Hb7 HB7
 generalize setB W7 w.heap.size (.map (ents8 (letTab.take 8)) 8) = W8 at Hb8 HB8 ⊢
 simp only [Result.andThen_ok, Oper.upon_skip]
 go_wp2_with fail
 have hi8 : (Instr.mapUpdate 71 (.map (some w.heap.size)) (.int .u8 115) (.agg #[.int .i64 10, .func (.func 99) #[] #[]])).run Tryz.prog W8 = .ok () (setB W8 w.heap.size (.map (ents8 (letTab.take 9)) 9)) := run_insert8 Tryz.underlying71 Tryz.underlying5 Hb8.out 115 _ rfl
 rw [hi8]
 have Hb9 := hid (setB_at W8 (.map (ents8 (letTab.take 9)) 9) (heap_lt Hb8.out))
 have HB9 : Hid (Below w.heap.size w (setB W8 w.heap.size (.map (ents8 (letTab.take 9)) 9))) := ((But.of (w := w) HB8.out).setB (F := fun _ => False) (fun h => by omega) _).below (Nat.le_refl _) (fun _ h => h.elim)
 clear hi8 Hb8 HB8
 generalize setB W8 w.heap.size (.map (ents8 (letTab.take 9)) 9) = W9 at Hb9 HB9 ⊢
 simp only [Result.andThen_ok, Oper.upon_skip]
 go_wp2_with fail
 have hi9 : (Instr.mapUpdate 71 (.map (some w.heap.size)) (.int .u8 116) (.agg #[.int .i64 8, .func (.func 100) #[] #[]])).run Tryz.prog W9 = .ok () (setB W9 w.heap.size (.map (ents8 (letTab.take 10)) 10)) := run_insert8 Tryz.underlying71 Tryz.underlying5 Hb9.out 116 _ rfl
 rw [hi9]
 have Hb10 := hid (setB_at W9 (.map (ents8 (letTab.take 10)) 10) (heap_lt Hb9.out))
 have HB10 : Hid (Below w.heap.size w (setB W9 w.heap.size (.map (ents8 (letTab.take 10)) 10))) := ((But.of (w := w) HB9.out).setB (F := fun _ => False) (fun h => by omega) _).below (Nat.le_refl _) (fun _ h => h.elim)
 clear hi9 Hb9 HB9
 generalize setB W9 w.heap.size (.map (ents8 (letTab.take 10)) 10) = W10 at Hb10 HB10 ⊢
 simp only [Result.andThen_ok, Oper.upon_skip]
 go_wp2_with fail
 go_ret
 exact ⟨w.heap.size, rfl, Hb10.out, HB10.out⟩
end Go.Proofs.YthikijlbclckdaaGreat
namespace Go.Proofs.YthikijlbclckdaaGreat
set_option maxRecDepth 100000
set_option maxHeartbeats 40000000
set_option linter.unusedSimpArgs false
set_option linter.unusedVariables false
open Go.RowKit
def stepOf (c k : Nat) (node : Int) (id : ByteArray) (s : StateV) (r : RdV) : Stp :=
 if c = 97 then stepA s r
 else if c = 103 then stepG k s r
 else if c = 105 then stepI k s r
 else if c = 106 then stepJ k s r
 else if c = 107 then stepK k node s r
 else if c = 108 then stepL k node s r
 else if c = 112 then stepP id s r
 else if c = 114 then stepR k node s r
 else if c = 115 then stepS k node s r
 else stepT k s r
def letF (c : Nat) : Nat :=
 if c = 97 then 86
 else if c = 103 then 88
 else if c = 105 then 93
 else if c = 106 then 94
 else if c = 107 then 95
 else if c = 108 then 96
 else if c = 112 then 97
 else if c = 114 then 98
 else if c = 115 then 99
 else 100
theorem sizeK_cases {c : Nat} (h : sizeK c ≠ -2) : c = 97 ∨ c = 103 ∨ c = 105 ∨ c = 106 ∨ c = 107 ∨ c = 108 ∨ c = 112 ∨ c = 114 ∨ c = 115 ∨ c = 116 := by
 unfold sizeK at h
 (repeat' split at h) <;> omega
theorem look_let (c : Nat) : look8 letTab c = if sizeK c = -2 then none else some (letV (sizeK c) (letF c)) := by
 by_cases h : sizeK c = -2
 ·
  rw [if_pos h]
  have hn : c ≠ 97 ∧ c ≠ 103 ∧ c ≠ 105 ∧ c ≠ 106 ∧ c ≠ 107 ∧ c ≠ 108 ∧ c ≠ 112 ∧ c ≠ 114 ∧ c ≠ 115 ∧ c ≠ 116 := by
   unfold sizeK at h
   (repeat' split at h) <;> omega
  obtain ⟨h0, h1, h2, h3, h4, h5, h6, h7, h8, h9⟩ := hn
  simp only [letTab, look8, if_neg h0, if_neg h1, if_neg h2, if_neg h3, if_neg h4, if_neg h5, if_neg h6, if_neg h7, if_neg h8, if_neg h9]
 ·
  rw [if_neg h]
  rcases sizeK_cases h with rfl | rfl | rfl | rfl | rfl | rfl | rfl | rfl | rfl | rfl <;> rfl
structure Many (s : StateV) (n : Nat) : Prop where
 procs : s.procs.length ≤ n
 insts : s.insts.length ≤ n
 tokens : s.tokens.length ≤ n
 jobs : s.jobs.length ≤ n
 timers : s.timers.length ≤ n
 subs : s.subs.length ≤ n
 kept : s.kept.length ≤ n
 listed : s.listed.length ≤ n
 msgs : s.msgs.length ≤ n
theorem let_any (c : Nat) (hc : sizeK c ≠ -2) (xb sb rb k : Nat) (node : Int) (id : ByteArray) (odd : Bool) (s : StateV) (r : RdV) (w : World) (base : Nat) (hbase : base ≤ w.heap.size) (hbx : base ≤ xb) (hbs : base ≤ sb) (hbr : base ≤ rb) (hx : TakAt w xb sb rb k node id odd) (hs : StB w base sb s) (hr : IsR 168 w rb r)
  (hsz : r.s.size ≤ 1099511627776) (hk : k < 18446744073709551616) (hno : I64 node) (hm : Many s 2097152) :
  Calls Tryz.prog (letF c) #[.pointer (some ⟨xb, 0, none⟩)] w fun e w' => e = .returned (.tuple #[]) ∧ TakAt w' xb sb rb k node id (odd || (stepOf c k node id s r).bad) ∧ StB w' base sb (stepOf c k node id s r).s ∧ IsR 168 w' rb (stepOf c k node id s r).r ∧ TyBut base letTs w w' := by
 rcases sizeK_cases hc with rfl | rfl | rfl | rfl | rfl | rfl | rfl | rfl | rfl | rfl
 ·
  exact let1_any xb sb rb k node id odd s r w base hbase hbx hbs hbr hx hs hr hsz hk hno
 ·
  exact let2_any xb sb rb k node id odd s r w base hbase hbx hbs hbr hx hs hr hsz hk hno hm.msgs
 ·
  exact let3_any xb sb rb k node id odd s r w base hbase hbx hbs hbr hx hs hr hsz hk hno hm.insts
 ·
  exact let4_any xb sb rb k node id odd s r w base hbase hbx hbs hbr hx hs hr hsz hk hno hm.jobs
 ·
  exact let5_any xb sb rb k node id odd s r w base hbase hbx hbs hbr hx hs hr hsz hk hno hm.kept
 ·
  exact let6_any xb sb rb k node id odd s r w base hbase hbx hbs hbr hx hs hr hsz hk hno hm.listed
 ·
  exact let7_any xb sb rb k node id odd s r w base hbase hbx hbs hbr hx hs hr hsz hk hno hm.procs
 ·
  exact let8_any xb sb rb k node id odd s r w base hbase hbx hbs hbr hx hs hr hsz hk hno hm.timers
 ·
  exact let9_any xb sb rb k node id odd s r w base hbase hbx hbs hbr hx hs hr hsz hk hno hm.subs
 ·
  exact let10_any xb sb rb k node id odd s r w base hbase hbx hbs hbr hx hs hr hsz hk hno hm.tokens
def rowKN (c : Nat) (rest : ByteArray) : Nat × Int := if 8 ≤ sizeK c then (numK (rest.extract 0 8), (numK (rest.extract 8 rest.size) : Int)) else (0, 0)
def rowStep (fst : Bool) (last : ByteArray) (s : StateV) (x : RowV) : Option StateV :=
 if x.1.size = 0 then none
 else if (fst != decide (x.1 = c1 97)) = true then none
 else if fst = false ∧ ltS last x.1 = false then none
 else if sizeK (x.1.data.toList.headD 0).toNat = -2 then none
 else if 0 ≤ sizeK (x.1.data.toList.headD 0).toNat ∧ ((x.1.extract 1 x.1.size).size : Int) ≠ sizeK (x.1.data.toList.headD 0).toNat then none
 else if (stepOf (x.1.data.toList.headD 0).toNat (rowKN (x.1.data.toList.headD 0).toNat (x.1.extract 1 x.1.size)).1 (rowKN (x.1.data.toList.headD 0).toNat (x.1.extract 1 x.1.size)).2 (x.1.extract 1 x.1.size) s ⟨x.2, 0⟩).bad = true
   ∨ endR (stepOf (x.1.data.toList.headD 0).toNat (rowKN (x.1.data.toList.headD 0).toNat (x.1.extract 1 x.1.size)).1 (rowKN (x.1.data.toList.headD 0).toNat (x.1.extract 1 x.1.size)).2 (x.1.extract 1 x.1.size) s ⟨x.2, 0⟩).r ≠ 0 then none
 else some (stepOf (x.1.data.toList.headD 0).toNat (rowKN (x.1.data.toList.headD 0).toNat (x.1.extract 1 x.1.size)).1 (rowKN (x.1.data.toList.headD 0).toNat (x.1.extract 1 x.1.size)).2 (x.1.extract 1 x.1.size) s ⟨x.2, 0⟩).s
structure Rd3 where
 fst : Bool
 last : ByteArray
 s : StateV
def rd0 : Rd3 := ⟨true, ⟨#[]⟩, state0⟩
def rdStep (a : Option Rd3) (x : RowV) : Option Rd3 := a.bind fun a => (rowStep a.fst a.last a.s x).map fun s => ⟨false, x.1, s⟩
def readF (l : List RowV) : Option Rd3 := l.foldl rdStep (some rd0)
theorem readF_snoc (l : List RowV) (x : RowV) : readF (l ++ [x]) = rdStep (readF l) x := by simp [readF]
def readS (l : List RowV) : Option StateV := (readF l).bind fun a => if a.fst = true ∨ mayB a.s = false then none else some a.s
theorem rd_none (l : List RowV) : l.foldl rdStep none = none := by
 induction l with
 | nil => rfl
 | cons x l ih => exact ih
theorem readF_bad {l : List RowV} {pre : List RowV} (hp : pre <+: l) (h : readF pre = none) : readF l = none := by
 obtain ⟨t, rfl⟩ := hp
 unfold readF at h ⊢
 rw [List.foldl_append, h]
 exact rd_none t
end Go.Proofs.YthikijlbclckdaaGreat
namespace Go.Proofs.YthikijlbclckdaaGreat
set_option maxRecDepth 100000
set_option maxHeartbeats 40000000
set_option linter.unusedSimpArgs false
set_option linter.unusedVariables false
open Go.RowKit
theorem uintR_less2 (r : RdV) (h : (uintR r).2.e = 0) : r.e = 0 ∧ (uintR r).2.s.size + 1 ≤ r.s.size := by
 unfold uintR takeR at h ⊢
 by_cases h1 : r.e = 0
 ·
  rw [if_pos h1] at h ⊢
  by_cases h2 : (numS r.s).2.2 = 0
  ·
   rw [if_pos h2]
   refine ⟨h1, ?_⟩
   have h3 := ((numS_ok r.s).pos h2).1
   have h4 := numS_len r.s
   show (r.s.extract _ r.s.size).size + 1 ≤ _
   rw [extract_size]; omega
  ·
   rw [if_neg h2] at h; exact absurd h h2
 ·
  rw [if_neg h1] at h; exact absurd h h1
theorem instsL_ok : ∀ (n : Nat) (r : RdV) (l : List Nat), (∀ x ∈ l, U64 x) → (∀ x ∈ (instsL n r l).1, U64 x) ∧ (instsL n r l).1.length ≤ l.length + r.s.size + 1
 | 0, r, l, h => ⟨h, by simp only [instsL]; omega⟩
 | n + 1, r, l, h => by
  simp only [instsL]
  by_cases he : r.e = 0
  ·
   rw [if_pos he]
   have hl : ∀ x ∈ l ++ [(uintR r).1], U64 x := fun x hx => by
    rcases List.mem_append.1 hx with hx | hx
    ·
     exact h x hx
    ·
     rw [List.mem_singleton] at hx; subst hx; exact uintR_lt r
   have ih := instsL_ok n (uintR r).2 _ hl
   refine ⟨ih.1, ?_⟩
   by_cases h2 : (uintR r).2.e = 0
   ·
    have := (uintR_less2 r h2).2
    have := ih.2
    simp only [List.length_append, List.length_cons, List.length_nil] at this
    omega
   ·
    cases n with
    | zero => simp only [instsL, List.length_append, List.length_cons, List.length_nil]; omega
    | succ n => simp only [instsL, if_neg h2, List.length_append, List.length_cons, List.length_nil]; omega
  ·
   rw [if_neg he]
   exact ⟨h, by show l.length ≤ _; omega⟩
theorem takeInsts_ok (r : RdV) : (∀ x ∈ (takeInsts r).1, U64 x) ∧ (takeInsts r).1.length ≤ r.s.size + 1 := by
 unfold takeInsts
 have h := instsL_ok (uintR r).1 (uintR r).2 [] (by simp)
 have := uintR_size r
 exact ⟨h.1, by have := h.2; simp only [List.length_nil] at this; omega⟩
theorem takeInsts_len (r : RdV) : (takeInsts r).1.length ≤ r.s.size := by
 by_cases h : (uintR r).2.e = 0
 ·
  have h1 := (uintR_less2 r h).2
  have := (instsL_ok (uintR r).1 (uintR r).2 [] (by simp)).2
  simp only [List.length_nil] at this
  unfold takeInsts; omega
 ·
  unfold takeInsts
  cases (uintR r).1 with
  | zero => simp [instsL]
  | succ n => simp [instsL, h]
theorem varsOf_ok (r : RdV) : (∀ y ∈ varsOf r, VarOk y) ∧ (varsOf r).length ≤ 16 := by
 unfold varsOf takeVars
 by_cases h : 16 < (uintR r).1
 ·
  rw [if_pos h]; simp
 ·
  rw [if_neg h]
  cases hv : varsL (uintR r).1 (uintR r).2 [] with
  | mk o r' =>
   cases o with
   | none => simp
   | some l =>
    have := varsL_ok _ _ _ _ _ (by simp) hv
    simp only
    split
    ·
     exact ⟨this.1, by have := this.2.2; simp only [List.length_nil] at this; show l.length ≤ 16; omega⟩
    ·
     simp
theorem text_sz (r : RdV) : Sz (textR 16384 r).1 := by
 have := textR_size 16384 (by omega) r
 unfold Sz; omega
structure StN (s : StateV) (n : Nat) : Prop where
 pos : U64 s.pos
 done : U64 s.done
 made : U64 s.made
 procs : ∀ x ∈ s.procs, DepOk x
 insts : ∀ x ∈ s.insts, InstOk x ∧ x.vars.length ≤ 16
 tokens : ∀ x ∈ s.tokens, TokOk x
 jobs : ∀ x ∈ s.jobs, JobOk x
 timers : ∀ x ∈ s.timers, TimOk x
 subs : ∀ x ∈ s.subs, SubOk x
 kept : ∀ x ∈ s.kept, KeptOk x
 listed : ∀ x ∈ s.listed, LisOk x ∧ x.vars.length ≤ 16
 msgs : ∀ x ∈ s.msgs, MsgOk x ∧ x.vars.length ≤ 16
 many : s.procs.length + s.insts.length + s.tokens.length + s.jobs.length + s.timers.length + s.subs.length + s.kept.length + s.listed.length + s.msgs.length ≤ n
theorem StN.ok {s : StateV} {n : Nat} (h : StN s n) (hn : n ≤ 2097152) : StateOk s :=
 ⟨h.pos, h.done, h.made, h.procs, fun x hx => (h.insts x hx).1, h.tokens, h.jobs, h.timers, h.subs, h.kept, fun x hx => (h.listed x hx).1, fun x hx => (h.msgs x hx).1, by have := h.many; omega⟩
theorem StN.each {s : StateV} {n : Nat} (h : StN s n) : Many s n := by
 have := h.many
 constructor <;> omega
theorem okSnoc {α : Type} {p : α → Prop} {l : List α} {a : α} (h : ∀ x ∈ l, p x) (ha : p a) : ∀ x ∈ l ++ [a], p x := fun x hx => by
 rcases List.mem_append.1 hx with hx | hx
 ·
  exact h x hx
 ·
  rw [List.mem_singleton] at hx; subst hx; exact ha
theorem step_ok (c k : Nat) (node : Int) (id : ByteArray) (s : StateV) (r : RdV) (n : Nat) (h : StN s n) (hk : U64 k) (hno : I64 node) (hid : Sz id) (hr : r.s.size ≤ 2097152) : StN (stepOf c k node id s r).s (n + 1) := by
 have hm := h.many
 unfold stepOf
 (repeat' split)
 ·
  exact ⟨uintR_lt _, uintR_lt _, uintR_lt _, h.procs, h.insts, h.tokens, h.jobs, h.timers, h.subs, h.kept, h.listed, h.msgs, by simp only [stepA]; omega⟩
 ·
  refine ⟨h.pos, h.done, h.made, h.procs, h.insts, h.tokens, h.jobs, h.timers, h.subs, h.kept, h.listed, okSnoc h.msgs ⟨⟨hk, text_sz _, text_sz _, text_sz _, intR_in _, (varsOf_ok _).1, (takeInsts_ok _).1, ?_⟩, (varsOf_ok _).2⟩, by simp only [stepG, List.length_append, List.length_cons, List.length_nil]; omega⟩
  refine Nat.le_trans (takeInsts_len _) (Nat.le_trans (takeVars_size _) (Nat.le_trans (intR_size _) (Nat.le_trans (textR_sz _ _) (Nat.le_trans (textR_sz _ _) (Nat.le_trans (textR_sz _ _) hr)))))
 ·
  exact ⟨h.pos, h.done, h.made, h.procs, okSnoc h.insts ⟨⟨hk, text_sz _, (varsOf_ok _).1⟩, (varsOf_ok _).2⟩, h.tokens, h.jobs, h.timers, h.subs, h.kept, h.listed, h.msgs, by simp only [stepI, List.length_append, List.length_cons, List.length_nil]; omega⟩
 ·
  exact ⟨h.pos, h.done, h.made, h.procs, h.insts, h.tokens, okSnoc h.jobs ⟨hk, uintR_lt _, text_sz _, intR_in _, text_sz _, intR_in _⟩, h.timers, h.subs, h.kept, h.listed, h.msgs, by simp only [stepJ, List.length_append, List.length_cons, List.length_nil]; omega⟩
 ·
  exact ⟨h.pos, h.done, h.made, h.procs, h.insts, h.tokens, h.jobs, h.timers, h.subs, okSnoc h.kept ⟨hk, uintR_lt _, hno⟩, h.listed, h.msgs, by simp only [stepK, List.length_append, List.length_cons, List.length_nil]; omega⟩
 ·
  exact ⟨h.pos, h.done, h.made, h.procs, h.insts, h.tokens, h.jobs, h.timers, h.subs, h.kept, okSnoc h.listed ⟨⟨hk, uintR_lt _, hno, text_sz _, text_sz _, uintR_lt _, (varsOf_ok _).1⟩, (varsOf_ok _).2⟩, h.msgs, by simp only [stepL, List.length_append, List.length_cons, List.length_nil]; omega⟩
 ·
  exact ⟨h.pos, h.done, h.made, okSnoc h.procs ⟨hid, text_sz _⟩, h.insts, h.tokens, h.jobs, h.timers, h.subs, h.kept, h.listed, h.msgs, by simp only [stepP, List.length_append, List.length_cons, List.length_nil]; omega⟩
 ·
  exact ⟨h.pos, h.done, h.made, h.procs, h.insts, h.tokens, h.jobs, okSnoc h.timers ⟨hk, hno, intR_in _⟩, h.subs, h.kept, h.listed, h.msgs, by simp only [stepR, List.length_append, List.length_cons, List.length_nil]; omega⟩
 ·
  exact ⟨h.pos, h.done, h.made, h.procs, h.insts, h.tokens, h.jobs, h.timers, okSnoc h.subs ⟨hk, uintR_lt _, hno, text_sz _, text_sz _⟩, h.kept, h.listed, h.msgs, by simp only [stepS, List.length_append, List.length_cons, List.length_nil]; omega⟩
 ·
  exact ⟨h.pos, h.done, h.made, h.procs, h.insts, okSnoc h.tokens ⟨hk, uintR_lt _, uintR_lt _, intR_in _, intR_in _, text_sz _⟩, h.jobs, h.timers, h.subs, h.kept, h.listed, h.msgs, by simp only [stepT, List.length_append, List.length_cons, List.length_nil]; omega⟩
theorem num2 (s : ByteArray) (h : s.size ≤ 2) : numK s < 65536 := by
 unfold numK
 have hl : s.data.toList.length ≤ 2 := by simpa using h
 generalize s.data.toList = l at hl
 match l, hl with
 | [], _ => simp
 | [a], _ => have := a.toNat_lt; simp only [List.foldl, numN]; omega
 | [a, b], _ => have := a.toNat_lt; have := b.toNat_lt; simp only [List.foldl, numN]; omega
theorem rowKN_ok (c : Nat) (rest : ByteArray) (h : 0 ≤ sizeK c → (rest.size : Int) = sizeK c) : U64 (rowKN c rest).1 ∧ I64 (rowKN c rest).2 := by
 unfold rowKN
 split
 ·
  rename_i h8
  have h1 := h (by omega)
  have h10 : sizeK c ≤ 10 := by unfold sizeK; (repeat' split) <;> omega
  have h2 := num2 (rest.extract 8 rest.size) (by rw [extract_size]; omega)
  exact ⟨numK_lt _, by show (-9223372036854775808 : Int) ≤ (numK _ : Int); omega, by show (numK _ : Int) ≤ _; omega⟩
 ·
  exact ⟨by show (0 : Nat) < _; omega, by show (-9223372036854775808 : Int) ≤ 0; omega, by show (0 : Int) ≤ _; omega⟩
theorem rowStep_ok (fst : Bool) (last : ByteArray) (s s' : StateV) (x : RowV) (n : Nat) (h : StN s n) (hx : Sz x.1 ∧ Sz x.2) (he : rowStep fst last s x = some s') : StN s' (n + 1) := by
 unfold rowStep at he
 (repeat' split at he) <;> first | cases he | skip
 rename_i h1 _ _ _ h2 _
 have hk := rowKN_ok (x.1.data.toList.headD 0).toNat (x.1.extract 1 x.1.size) (fun h => Classical.byContradiction fun hn => h2 ⟨h, hn⟩)
 exact step_ok _ _ _ _ _ _ _ h hk.1 hk.2 (by have := hx.1; unfold Sz at *; rw [extract_size]; omega) hx.2
theorem stN0 : StN state0 0 := by
 constructor <;> first | (show (0 : Nat) < _; omega) | (intro x hx; cases hx) | (show (0 : Nat) ≤ _; omega)
theorem readF_ok : ∀ (l : List RowV) (n : Nat) (o : Option Rd3), (∀ a, o = some a → StN a.s n) → (∀ x ∈ l, Sz x.1 ∧ Sz x.2) → ∀ a, l.foldl rdStep o = some a → StN a.s (n + l.length)
 | [], n, o, h, _, a, he => h a he
 | x :: l, n, o, h, hx, a, he => by
  have := readF_ok l (n + 1) (rdStep o x) (fun b hb => by
   cases o with
   | none => cases hb
   | some a0 =>
    simp only [rdStep, Option.bind_some, Option.map_eq_some_iff] at hb
    obtain ⟨s', hs, rfl⟩ := hb
    exact rowStep_ok _ _ _ _ _ _ (h a0 rfl) (hx x List.mem_cons_self) hs) (fun y hy => hx y (List.mem_cons_of_mem _ hy)) a he
  rw [List.length_cons, show n + (l.length + 1) = n + 1 + l.length by omega]
  exact this
theorem read_ok {l : List RowV} {a : Rd3} (hx : ∀ x ∈ l, Sz x.1 ∧ Sz x.2) (h : readF l = some a) : StN a.s l.length := by
 have := readF_ok l 0 (some rd0) (fun a e => by cases e; exact stN0) hx a h
 simpa using this
end Go.Proofs.YthikijlbclckdaaGreat
namespace Go.Proofs.YthikijlbclckdaaGreat
set_option maxRecDepth 100000
set_option maxHeartbeats 40000000
set_option linter.unusedSimpArgs false
set_option linter.unusedVariables false
open Go.RowKit
theorem app_data (a b : ByteArray) : (a ++ b).data.toList = a.data.toList ++ b.data.toList := by
 rw [ByteArray.data_append, Array.toList_append]
theorem bytes_ext {a b : ByteArray} (h : a.data.toList = b.data.toList) : a = b := ByteArray.ext (Array.toList_inj.1 h)
theorem app_size (a b : ByteArray) : (a ++ b).size = a.size + b.size := ByteArray.size_append
theorem ext_data (s : ByteArray) (i j : Nat) : (s.extract i j).data.toList = (s.data.toList.take j).drop i := by
 rw [ByteArray.data_extract, Array.toList_extract, List.extract_eq_take_drop, List.drop_take]
theorem app_drop (a b : ByteArray) : (a ++ b).extract a.size (a ++ b).size = b := by
 refine bytes_ext ?_
 rw [ext_data, app_data]
 have h1 : (a ++ b).size = (a.data.toList ++ b.data.toList).length := by rw [← app_data]; rfl
 rw [h1, List.take_length]
 have h2 : a.size = a.data.toList.length := rfl
 rw [h2, List.drop_left]
theorem app_take (a b : ByteArray) : (a ++ b).extract 0 a.size = a := by
 refine bytes_ext ?_
 rw [ext_data, app_data, List.drop_zero]
 have h2 : a.size = a.data.toList.length := rfl
 rw [h2, List.take_left]
theorem app_mid (a b c : ByteArray) : (a ++ b ++ c).extract a.size (a.size + b.size) = b := by
 refine bytes_ext ?_
 have ha : a.size = a.data.toList.length := rfl
 have hb : b.size = b.data.toList.length := rfl
 rw [ext_data, app_data, app_data, ha, hb, ← List.length_append, List.take_left, List.drop_left]
theorem app_emp (a : ByteArray) : a ++ ⟨#[]⟩ = a := bytes_ext (by rw [app_data]; exact List.append_nil _)
theorem emp_app (a : ByteArray) : (⟨#[]⟩ : ByteArray) ++ a = a := bytes_ext (by rw [app_data]; rfl)
theorem app_assoc (a b c : ByteArray) : a ++ b ++ c = a ++ (b ++ c) := bytes_ext (by simp only [app_data, List.append_assoc])
theorem u8_of {n : Nat} (h : n < 256) : n.toUInt8.toNat = n := by
 show n % 256 = n
 omega
theorem numL_uv : ∀ (x i v : Nat) (rest : List UInt8), i ≤ 9 → x * 128 ^ i < 18446744073709551616 → (0 < i → 0 < x) → numL (Lib.uvarint x ++ rest) i v = (v + x * 128 ^ i, i + (Lib.uvarint x).length, 0) := by
 intro x
 induction x using Nat.strongRecOn with
 | _ x ih =>
  intro i v rest hi hx hp
  have h9 : i = 9 → x < 2 := fun h => by subst h; omega
  by_cases h : x < 128
  ·
   rw [Lib.uvarint_small h]
   simp only [List.cons_append, List.nil_append, numL]
   rw [u8_of (by omega), if_neg (by omega), if_pos h]
   simp
  ·
   rw [Lib.uvarint_big (by omega)]
   simp only [List.cons_append, numL]
   rw [u8_of (by omega)]
   have hne : i ≠ 9 := fun h => by have := h9 h; omega
   rw [if_neg (by omega), if_neg (by omega)]
   have hx2 : x * 128 ^ i = x / 128 * 128 ^ (i + 1) + x % 128 * 128 ^ i := by
    rw [Nat.pow_succ, ← Nat.mul_assoc, Nat.mul_right_comm, ← Nat.add_mul]
    congr 1
    omega
   rw [ih (x / 128) (by omega) (i + 1) _ rest (by omega) (by omega) (by omega)]
   rw [show (x % 128 + 128) % 128 = x % 128 by omega]
   simp only [List.length_cons]
   refine Prod.ext ?_ (Prod.ext ?_ rfl)
   ·
    show _ = _; rw [hx2]; omega
   ·
    show i + 1 + (Lib.uvarint (x / 128)).length = i + ((Lib.uvarint (x / 128)).length + 1); omega
theorem uv_data (n : Nat) : (uvS n).data.toList = Lib.uvarint n := rfl
theorem numS_uv (n : Nat) (hn : n < 18446744073709551616) (rest : ByteArray) : numS (uvS n ++ rest) = (n, (uvS n).size, 0) := by
 unfold numS
 rw [app_data, uv_data, numL_uv n 0 0 _ (by omega) (by omega) (by omega)]
 refine Prod.ext ?_ (Prod.ext ?_ rfl)
 ·
  show _ = _; omega
 ·
  show 0 + (Lib.uvarint n).length = (uvS n).size; rw [Nat.zero_add]; rfl
theorem uintR_uv (n : Nat) (hn : U64 n) (rest : ByteArray) : uintR ⟨uvS n ++ rest, 0⟩ = (n, ⟨rest, 0⟩) := by
 unfold uintR takeR
 dsimp only
 rw [numS_uv n hn rest]
 simp only [if_true, app_drop]
theorem intR_inS (x : Int) (hx : I64 x) (rest : ByteArray) : intR ⟨inS x ++ rest, 0⟩ = (x, ⟨rest, 0⟩) := by
 obtain ⟨h1, h2⟩ := hx
 have hz : U64 (zig x) := by unfold U64 zig; split <;> omega
 unfold intR inS
 rw [uintR_uv _ hz]
 dsimp only
 congr 1
 unfold sgn zig
 split <;> split <;> omega
theorem textR_tx (m : Int) (s : ByteArray) (hs : (s.size : Int) ≤ m) (hz : s.size < 18446744073709551616) (rest : ByteArray) : textR m ⟨txS s ++ rest, 0⟩ = (s, ⟨rest, 0⟩) := by
 have h : textF m (txS s ++ rest) = (s, (txS s).size, 0) := by
  have hn : numS (txS s ++ rest) = (s.size, (uvS s.size).size, 0) := by unfold txS; rw [app_assoc]; exact numS_uv _ hz _
  unfold textF
  rw [hn]
  dsimp only
  rw [if_neg (by simp), if_neg (by omega), if_neg (by unfold txS; rw [app_size, app_size]; omega)]
  refine Prod.ext ?_ (Prod.ext ?_ rfl)
  ·
   exact app_mid _ _ _
  ·
   show _ = _; unfold txS; rw [app_size]
 unfold textR takeR
 dsimp only
 rw [h]
 simp only [if_true, app_drop]
theorem byteR_k (k : Int) (h0 : 0 ≤ k) (h1 : k < 256) (rest : ByteArray) : byteR ⟨kS k ++ rest, 0⟩ = (k.toNat, ⟨rest, 0⟩) := by
 have hk : (kS k).size = 1 := rfl
 have h : byteF (kS k ++ rest) = (k.toNat, (kS k).size, 0) := by
  unfold byteF
  rw [if_neg (by rw [app_size, hk]; omega), app_data]
  refine Prod.ext ?_ rfl
  show ((k % 256).toNat.toUInt8).toNat = k.toNat
  rw [u8_of (by omega)]
  omega
 unfold byteR takeR
 dsimp only
 rw [h]
 simp only [if_true, app_drop]
theorem eS_is {s : ByteArray} (h : eS s = true) : s = ⟨#[]⟩ := by
 unfold eS at h
 have h2 : s.toList = [] := by simpa using h
 rw [Lib.toList_data] at h2
 exact bytes_ext h2
theorem takeV_val (v : ValV) (hv : mayV v = true) (hn : I64 v.n) (hz : v.s.size ≤ 2097152) (rest : ByteArray) : takeV ⟨valS v ++ rest, 0⟩ = ((v, true), ⟨rest, 0⟩) := by
 obtain ⟨k, n, s⟩ := v
 have hm := hv
 unfold mayV at hv
 dsimp only at hv hn hz
 have hP : takeP ⟨valS ⟨k, n, s⟩ ++ rest, 0⟩ = (⟨k, n, s⟩, ⟨rest, 0⟩) := by
  unfold valS
  rw [if_pos hm]
  dsimp only
  by_cases h3 : k = 3
  ·
   subst h3
   rw [if_pos rfl] at hv
   simp only [Bool.and_eq_true, beq_iff_eq, decide_eq_true_eq] at hv
   rw [if_pos rfl, app_assoc]
   unfold takeP
   rw [byteR_k 3 (by omega) (by omega)]
   dsimp only
   rw [if_pos (by decide), textR_tx 1024 s (by omega) (by omega)]
   obtain ⟨rfl, -⟩ := hv
   rfl
  ·
   rw [if_neg h3] at hv ⊢
   have hk : (k = 1 ∨ k = 2) ∧ s = ⟨#[]⟩ := by
    by_cases h1 : k = 1
    ·
     rw [if_pos h1] at hv; exact ⟨.inl h1, eS_is hv⟩
    ·
     rw [if_neg h1] at hv
     by_cases h2 : k = 2
     ·
      rw [if_pos h2] at hv; exact ⟨.inr h2, eS_is (by simp only [Bool.and_eq_true] at hv; exact hv.2)⟩
     ·
      rw [if_neg h2] at hv; cases hv
   obtain ⟨hk, rfl⟩ := hk
   rw [app_assoc]
   unfold takeP
   rw [byteR_k k (by omega) (by omega)]
   dsimp only
   have hne : ¬ ((k.toNat : Nat) : Int) = 3 := by omega
   have hke : ((k.toNat : Nat) : Int) = k := by omega
   first
    | rw [if_neg hne, intR_inS n hn, hke]
    | (rw [if_neg (show ¬ k.toNat = 3 by omega), intR_inS n hn, hke])
 unfold takeV
 rw [hP]
 dsimp only
 rw [if_pos ⟨rfl, hm⟩]
theorem fold_cat {α : Type} (f : α → ByteArray) : ∀ (l : List α) (s : ByteArray), l.foldl (fun s x => s ++ f x) s = s ++ l.foldl (fun s x => s ++ f x) ⟨#[]⟩
 | [], s => (app_emp s).symm
 | x :: l, s => by
  rw [List.foldl_cons, List.foldl_cons, fold_cat f l (s ++ f x), fold_cat f l (⟨#[]⟩ ++ f x), emp_app, app_assoc]
theorem cat_cons {α : Type} (f : α → ByteArray) (x : α) (l : List α) : catS f (x :: l) = f x ++ catS f l := by
 unfold catS
 rw [List.foldl_cons, fold_cat f l, emp_app]
theorem varsL_cat : ∀ (l : List VarV) (acc : List VarV) (rest : ByteArray), (∀ x ∈ l, named x.name = true ∧ mayV x.v = true ∧ VarOk x) → varsL l.length ⟨catS varS l ++ rest, 0⟩ acc = (some (acc ++ l), ⟨rest, 0⟩)
 | [], acc, rest, _ => by
  show (some acc, _) = _
  rw [List.append_nil]
  show (some acc, (⟨⟨#[]⟩ ++ rest, 0⟩ : RdV)) = _
  rw [emp_app]
 | x :: l, acc, rest, h => by
  obtain ⟨h1, h2, h3⟩ := h x (List.mem_cons_self ..)
  have hn : x.name.size ≤ 32 := by
   unfold named at h1
   simp only [Bool.and_eq_true, decide_eq_true_eq] at h1
   exact h1.1.1.1.2
  have e : catS varS (x :: l) ++ rest = txS x.name ++ (valS x.v ++ (catS varS l ++ rest)) := by
   rw [cat_cons]
   unfold varS
   simp only [app_assoc]
  simp only [List.length_cons, varsL]
  rw [e, textR_tx 32 x.name (by omega) (by omega)]
  dsimp only
  rw [takeV_val x.v h2 ⟨h3.v.n0, h3.v.n1⟩ h3.v.s]
  dsimp only
  rw [if_pos rfl, varsL_cat l _ rest (fun y hy => h y (List.mem_cons_of_mem _ hy))]
  simp
theorem right_each {l : List VarV} (h : rightV l = true) : l.length ≤ 16 ∧ ∀ x ∈ l, named x.name = true ∧ mayV x.v = true := by
 unfold rightV at h
 simp only [Bool.and_eq_true, decide_eq_true_eq, List.all_eq_true] at h
 refine ⟨h.1, fun x hx => ?_⟩
 obtain ⟨i, hi⟩ := List.mem_iff_getElem?.1 hx
 have hlt : i < l.length := by
  rcases Nat.lt_or_ge i l.length with h | h
  ·
   exact h
  ·
   rw [List.getElem?_eq_none h] at hi; cases hi
 have h2 := h.2 i (List.mem_range.2 hlt)
 unfold okAt at h2
 rw [hi] at h2
 simp only [Bool.and_eq_true] at h2
 exact h2.1
theorem takeVars_vs (l : List VarV) (hr : rightV l = true) (hok : ∀ y ∈ l, VarOk y) (rest : ByteArray) : takeVars ⟨varsS l ++ rest, 0⟩ = (some l, ⟨rest, 0⟩) := by
 obtain ⟨h16, hev⟩ := right_each hr
 unfold varsS
 rw [if_pos hr, fold_cat, app_assoc]
 unfold takeVars
 rw [uintR_uv l.length (by unfold U64; omega)]
 dsimp only
 rw [if_neg (by omega)]
 have h := varsL_cat l [] rest (fun x hx => ⟨(hev x hx).1, (hev x hx).2, hok x hx⟩)
 rw [show catS varS l = l.foldl (fun s x => s ++ varS x) ⟨#[]⟩ from rfl] at h
 rw [h]
 dsimp only
 rw [List.nil_append, if_pos ⟨rfl, hr⟩]
theorem instsL_cat : ∀ (l acc : List Nat) (rest : ByteArray), (∀ x ∈ l, U64 x) → instsL l.length ⟨catS uvS l ++ rest, 0⟩ acc = (acc ++ l, ⟨rest, 0⟩)
 | [], acc, rest, _ => by
  show (acc, (⟨⟨#[]⟩ ++ rest, 0⟩ : RdV)) = _
  rw [emp_app, List.append_nil]
 | x :: l, acc, rest, h => by
  simp only [List.length_cons, instsL]
  rw [cat_cons, app_assoc]
  rw [if_pos (by trivial), uintR_uv x (h x (List.mem_cons_self ..))]
  dsimp only
  rw [instsL_cat l _ rest (fun y hy => h y (List.mem_cons_of_mem _ hy))]
  simp
theorem takeInsts_is (l : List Nat) (hl : U64 l.length) (h : ∀ x ∈ l, U64 x) (rest : ByteArray) : takeInsts ⟨uvS l.length ++ (catS uvS l ++ rest), 0⟩ = (l, ⟨rest, 0⟩) := by
 unfold takeInsts
 rw [uintR_uv _ hl]
 dsimp only
 rw [instsL_cat l [] rest h, List.nil_append]
end Go.Proofs.YthikijlbclckdaaGreat
namespace Go.Proofs.YthikijlbclckdaaGreat
set_option maxRecDepth 100000
set_option maxHeartbeats 40000000
set_option linter.unusedSimpArgs false
set_option linter.unusedVariables false
open Go.RowKit
def RnC (w : World) (xb : Nat) (c0 c1 c2 c3 c4 c5 c6 c7 c8 c9 c10 c11 : Value) (rb : Nat) (odd : Bool) : Prop :=
 w.heap[xb]? = some (.cells #[c0, c1, c2, c3, c4, c5, c6, c7, c8, c9, c10, c11, .pointer (some ⟨rb, 0, none⟩), .bool odd] 89 (0, 0))
def RnB (w : World) (base xb rb : Nat) (s : StateV) (odd : Bool) : Prop :=
 ∃ vp vi vt vj vr vs vk vl vm, RnC w xb (U s.pos) (U s.done) (U s.made) vp vi vt vj vr vs vk vl vm rb odd ∧ ListsOwn w base s vp vi vt vj vr vs vk vl vm
end Go.Proofs.YthikijlbclckdaaGreat
namespace Go.Proofs.YthikijlbclckdaaGreat
set_option maxRecDepth 100000
set_option maxHeartbeats 40000000
set_option linter.unusedSimpArgs false
set_option linter.unusedVariables false
open Go.RowKit
end Go.Proofs.YthikijlbclckdaaGreat
namespace Go.Proofs.YthikijlbclckdaaGreat
set_option maxRecDepth 100000
set_option maxHeartbeats 40000000
set_option linter.unusedSimpArgs false
set_option linter.unusedVariables false
open Go.RowKit Go.Shelf
theorem ltS_eq (a b : ByteArray) : ltS a b = decide (a.data.toList < b.data.toList) := bytesLess_eq _ _
theorem ltS_irr (a : ByteArray) : ltS a a = false := by rw [ltS_eq]; exact decide_eq_false (List.lt_irrefl _)
theorem ltS_trans {a b c : ByteArray} (h1 : ltS a b = true) (h2 : ltS b c = true) : ltS a c = true := by
 rw [ltS_eq, decide_eq_true_eq] at *
 exact List.lt_trans h1 h2
theorem ltS_emp {a k : ByteArray} (h : ltS a k = true) : 0 < k.size := by
 rcases Nat.eq_zero_or_pos k.size with h0 | h0
 ·
  have : k = ⟨#[]⟩ := by
   obtain ⟨d⟩ := k
   have h1 : d.size = 0 := h0
   rw [Array.eq_empty_of_size_eq_zero h1]
  subst this
  rw [ltS_eq, decide_eq_true_eq] at h
  exact absurd h (List.not_lt_nil _)
 ·
  exact h0
theorem rdz (a : Rd3) (hf : a.fst = true) (rv : ByteArray) : rdStep (some a) (c1 97, rv) = if endR (stepA a.s ⟨rv, 0⟩).r ≠ 0 then none else some ⟨false, c1 97, (stepA a.s ⟨rv, 0⟩).s⟩ := by
 have hb : (stepA a.s ⟨rv, 0⟩).bad = false := rfl
 have h1 : rowStep true a.last a.s (c1 97, rv) = if endR (stepA a.s ⟨rv, 0⟩).r ≠ 0 then none else some (stepA a.s ⟨rv, 0⟩).s := by
  unfold rowStep
  rw [if_neg (show ¬ (c1 97).size = 0 by decide), if_neg (by rw [decide_eq_true rfl]; decide), if_neg (by simp)]
  rw [show ((c1 97).data.toList.headD 0).toNat = 97 from rfl, show sizeK 97 = 0 from rfl, if_neg (by decide), if_neg (by rintro ⟨-, h⟩; exact h rfl)]
  rw [show ∀ k n i s r, stepOf 97 k n i s r = stepA s r from fun _ _ _ _ _ => rfl, hb]
  simp
 simp only [rdStep, hf, h1, Option.bind_some]
 by_cases he : endR (stepA a.s ⟨rv, 0⟩).r ≠ 0
 ·
  rw [if_pos he, if_pos he]; rfl
 ·
  rw [if_neg he, if_neg he]; rfl
theorem rds (a : Rd3) (hf : a.fst = false) (rk rv : ByteArray) (h : ltS a.last rk = true) (hne : rk ≠ c1 97) (c : Nat) (hc : c = (rk.data.toList.headD 0).toNat) :
  rdStep (some a) (rk, rv) = if sizeK c = -2 then none else if 0 ≤ sizeK c ∧ ((rk.extract 1 rk.size).size : Int) ≠ sizeK c then none else
   if (stepOf c (rowKN c (rk.extract 1 rk.size)).1 (rowKN c (rk.extract 1 rk.size)).2 (rk.extract 1 rk.size) a.s ⟨rv, 0⟩).bad = true ∨ endR (stepOf c (rowKN c (rk.extract 1 rk.size)).1 (rowKN c (rk.extract 1 rk.size)).2 (rk.extract 1 rk.size) a.s ⟨rv, 0⟩).r ≠ 0 then none
   else some ⟨false, rk, (stepOf c (rowKN c (rk.extract 1 rk.size)).1 (rowKN c (rk.extract 1 rk.size)).2 (rk.extract 1 rk.size) a.s ⟨rv, 0⟩).s⟩ := by
 subst hc
 have h0 := ltS_emp h
 simp only [rdStep, hf, Option.bind_some]
 unfold rowStep
 dsimp only
 rw [if_neg (show ¬ rk.size = 0 by omega), if_neg (by rw [decide_eq_false hne]; decide), if_neg (by rw [h]; simp)]
 split
 ·
  rfl
 ·
  split
  ·
   rfl
  ·
   split <;> rfl
theorem ext0 {s : ByteArray} {n : Nat} (h : s.size = n) : s.extract 0 n = s := by subst h; exact ByteArray.extract_zero_size
theorem RnB.grow {w w' : World} {base xb rb : Nat} {s : StateV} {odd : Bool} (h : RnB w base xb rb s odd) (hb : Below w.heap.size w w') : RnB w' base xb rb s odd := by
 obtain ⟨vp, vi, vt, vj, vr, vs, vk, vl, vm, hx, hL⟩ := h
 exact ⟨vp, vi, vt, vj, vr, vs, vk, vl, vm, (hb.block _ (heap_lt hx)).trans hx, hL.keepC (ts := []) (fun b _ _ _ _ h => (hb.block b (heap_lt h)).trans h) (by simp) (by simp) (by simp)⟩
end Go.Proofs.YthikijlbclckdaaGreat
