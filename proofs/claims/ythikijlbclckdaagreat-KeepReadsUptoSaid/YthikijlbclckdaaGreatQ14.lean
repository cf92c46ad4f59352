/- KeepReads: contracts (Ln Lm Ki). -/
import Derived.Test.YthikijlbclckdaaGreatQ8
import Derived.Test.YthikijlbclckdaaGreatQ10
import Derived.Test.YthikijlbclckdaaGreatQ13
namespace Go.Proofs.YthikijlbclckdaaGreat
set_option maxRecDepth 100000
set_option maxHeartbeats 40000000
set_option linter.unusedSimpArgs false
set_option linter.unusedVariables false
open Go.RowKit
def numN (v : Nat) (b : UInt8) : Nat := v * 256 % 18446744073709551616 + b.toNat
def numK (s : ByteArray) : Nat := s.data.toList.foldl numN 0
theorem numN_lt (v : Nat) (b : UInt8) : numN v b < 18446744073709551616 := by
 have := b.toNat_lt
 unfold numN; omega
theorem numL_lt : ∀ (l : List UInt8) (v : Nat), v < 18446744073709551616 → l.foldl numN v < 18446744073709551616
 | [], v, h => h
 | b :: l, v, _ => numL_lt l _ (numN_lt v b)
theorem numK_lt (s : ByteArray) : numK s < 18446744073709551616 := numL_lt _ _ (by omega)
theorem num_take (s : ByteArray) (i : Nat) (h : i < s.size) : (s.data.toList.take (i + 1)).foldl numN 0 = numN ((s.data.toList.take i).foldl numN 0) s[i] := by
 have e : s.data.toList[i]? = some s[i] := by
  rw [List.getElem?_eq_getElem (by simpa using h)]; rfl
 rw [List.take_add_one, e]
 simp
theorem num_shl (v : Nat) (hv : v < 18446744073709551616) (b : Nat) (hb : b < 256) : bits .or .u64 (IntKind.u64.wrap ((v : Int) * 256)) (b : Int) = ((v * 256 % 18446744073709551616 + b : Nat) : Int) := by
 have e1 : IntKind.u64.wrap ((v : Int) * 256) = ((v * 256 % 18446744073709551616 : Nat) : Int) := by rw [IntKind.wrap_u64]; omega
 rw [e1, bits_or_u64_nat _ _ (by omega) (by omega)]
 congr 1
 have e2 : v * 256 % 18446744073709551616 = (v * 256 % 18446744073709551616 / 256) * 2 ^ 8 := by omega
 rw [e2, ← Nat.shiftLeft_eq, ← Nat.shiftLeft_add_eq_or_of_lt (by omega)]
theorem num_mul (v : Nat) (hv : v < 18446744073709551616) (b : Nat) (hb : b < 256) : IntKind.u64.wrap (IntKind.u64.wrap ((v : Int) * 256) + (b : Int)) = ((v * 256 % 18446744073709551616 + b : Nat) : Int) := by
 rw [IntKind.wrap_u64, IntKind.wrap_u64]; omega
theorem number14_any (s : ByteArray) (hs : s.size ≤ 140737488355328) (w : World) : Calls Tryz.prog 34 #[.string s] w fun e w' => e = .returned (.int .u64 (numK s)) ∧ w' = w := by
 go_enter Tryz.func34, Tryz.ntmps34
 go_wp2
 go_loop [3, 7] (fun v i => ∃ k n : Nat, k ≤ s.size ∧ i = .int .i64 k ∧ v = .int .u64 n ∧ n < 18446744073709551616 ∧ Hid (n = (s.data.toList.take k).foldl numN 0)) (fun _ i => s.size - (intOf i).toNat)
 case atStart => exact ⟨0, 0, Nat.zero_le _, rfl, rfl, by omega, rfl⟩
 case round =>
  obtain ⟨k, n, hk, rfl, rfl, hn, hR⟩ := hrel
  by_cases hlt : k < s.size
  ·
   have hby := s[k].toNat_lt
   have hor := hid (num_shl n hn s[k].toNat hby)
   have hst := hid (num_take s k hlt)
   go_wp2
   go_round
   case rel => exact ⟨k + 1, numN n s[k], by omega, by go_num, by rw [hor.out]; rfl, numN_lt _ _, show _ = _ by rw [hst.out, hR.out]⟩
   case measure => simp [intOf]; omega
  ·
   have hin : k = s.size := by omega
   subst hin
   have hE := hid (show numK s = n by rw [hR.out, List.take_of_length_le (by simp)]; rfl)
   go_wp2
   go_ret
   exact ⟨by rw [hE.out]; rfl, rfl⟩
theorem rnumber14_any (s : ByteArray) (hs : s.size ≤ 140737488355328) (w : World) : Calls Tryz.prog 41 #[.string s] w fun e w' => e = .returned (.int .u64 (numK s)) ∧ w' = w := by
 go_enter Tryz.func41, Tryz.ntmps41
 go_wp2
 go_loop [3, 4] (fun v i => ∃ k n : Nat, k ≤ s.size ∧ i = .int .i64 k ∧ v = .int .u64 n ∧ n < 18446744073709551616 ∧ Hid (n = (s.data.toList.take k).foldl numN 0)) (fun _ i => s.size - (intOf i).toNat)
 case atStart => exact ⟨0, 0, Nat.zero_le _, rfl, rfl, by omega, rfl⟩
 case round =>
  obtain ⟨k, n, hk, rfl, rfl, hn, hR⟩ := hrel
  by_cases hlt : k < s.size
  ·
   have hby := s[k].toNat_lt
   have hor := hid (num_mul n hn s[k].toNat hby)
   have hst := hid (num_take s k hlt)
   go_wp2
   go_round
   case rel => exact ⟨k + 1, numN n s[k], by omega, by go_num, by rw [hor.out]; rfl, numN_lt _ _, show _ = _ by rw [hst.out, hR.out]⟩
   case measure => simp [intOf]; omega
  ·
   have hin : k = s.size := by omega
   subst hin
   have hE := hid (show numK s = n by rw [hR.out, List.take_of_length_le (by simp)]; rfl)
   go_wp2
   go_ret
   exact ⟨by rw [hE.out]; rfl, rfl⟩
def sizeK (c : Nat) : Int := if c = 97 then 0 else if c = 103 ∨ c = 105 ∨ c = 106 ∨ c = 116 then 8 else if c = 107 ∨ c = 108 ∨ c = 114 ∨ c = 115 then 10 else if c = 112 then -1 else -2
theorem size14_any (c : Nat) (hc : c < 256) (w : World) : Calls Tryz.prog 37 #[.int .u8 c] w fun e w' => e = .returned (.int .i64 (sizeK c)) ∧ w' = w := by
 go_enter Tryz.func37, Tryz.ntmps37
 go_wp2
 all_goals
  go_ret
  first
   | (rw [show sizeK c = 0 from (by unfold sizeK; simp only [beq_iff_eq, beq_eq_false_iff_ne, ne_eq] at *; (repeat' split) <;> omega)]; exact ⟨rfl, rfl⟩)
   | (rw [show sizeK c = 8 from (by unfold sizeK; simp only [beq_iff_eq, beq_eq_false_iff_ne, ne_eq] at *; (repeat' split) <;> omega)]; exact ⟨rfl, rfl⟩)
   | (rw [show sizeK c = 10 from (by unfold sizeK; simp only [beq_iff_eq, beq_eq_false_iff_ne, ne_eq] at *; (repeat' split) <;> omega)]; exact ⟨rfl, rfl⟩)
   | (rw [show sizeK c = -1 from (by unfold sizeK; simp only [beq_iff_eq, beq_eq_false_iff_ne, ne_eq] at *; (repeat' split) <;> omega)]; exact ⟨rfl, rfl⟩)
   | (rw [show sizeK c = -2 from (by unfold sizeK; simp only [beq_iff_eq, beq_eq_false_iff_ne, ne_eq] at *; (repeat' split) <;> omega)]; exact ⟨rfl, rfl⟩)
end Go.Proofs.YthikijlbclckdaaGreat
namespace Go.Proofs.YthikijlbclckdaaGreat
set_option maxRecDepth 100000
set_option maxHeartbeats 40000000
set_option linter.unusedSimpArgs false
set_option linter.unusedVariables false
open Go.RowKit
abbrev L8 := List (Nat × Value × Nat)
def ents8 (l : L8) : Array MapEntry := (l.map fun p => (⟨.int .u8 (p.1 : Int), p.2.1, p.2.2⟩ : MapEntry)).toArray
def look8 : L8 → Nat → Option Value
 | [], _ => none
 | p :: l, k => if k = p.1 then some p.2.1 else look8 l k
def place8 : L8 → Nat → Nat
 | [], _ => 0
 | p :: l, k => if k = p.1 then 0 else place8 l k + 1
theorem findNow8 (k : Nat) (l : L8) (i : Nat) :
  Instr.findNow (.int .u8) (.int .u8 (k : Int)) (l.map fun p => (⟨.int .u8 (p.1 : Int), p.2.1, p.2.2⟩ : MapEntry)) i = some ((look8 l k).map fun x => (i + place8 l k, x)) := by
 induction l generalizing i with
 | nil => simp [Instr.findNow, look8]
 | cons p l ih =>
  by_cases h : k = p.1
  ·
   have hb : ((k : Int) == (p.1 : Int)) = true := by simp [h]
   simp only [List.map_cons, Instr.findNow, Instr.sameNow, hb, look8, place8, if_pos h]
   simp
  ·
   have hb : ((k : Int) == (p.1 : Int)) = false := by simp; omega
   simp only [List.map_cons, Instr.findNow, Instr.sameNow, hb, look8, place8, if_neg h, ih]
   cases look8 l k <;> simp
   omega
section
variable {P : Program} {w : World} {t K e : TypeId} {mb ck : Nat} {z : Value} {l : L8}
theorem run_findKey8 (hK : P.underlying K = some (.int .u8)) (k : Nat) : (Instr.findKey K (.int .u8 (k : Int)) (ents8 l).toList).run P w = .ok ((look8 l k).map fun x => (place8 l k, x)) w := by
 simp [Instr.findKey, run_underlying hK, ents8, findNow8]
theorem run_checkKey8 (hK : P.underlying K = some (.int .u8)) (b : Bool) (k : Nat) : (Instr.checkKey b 10000 K (.int .u8 (k : Int))).run P w = .ok () w :=
 MapKept.run_checkKey hK (k := .int .u8 (k : Int)) (by simp [MapKept.IsKey]) b 9999
theorem run_lookup8 (ht : P.underlying t = some (.map K e)) (hK : P.underlying K = some (.int .u8)) (hz : (zeroValue e).run P w = .ok z w)
  (hb : w.heap[mb]? = some (.map (ents8 l) ck)) (k : Nat) : (Instr.lookup t (.map (some mb)) (.int .u8 (k : Int)) true).run P w = .ok (.tuple #[(look8 l k).getD z, .bool (look8 l k).isSome]) w := by
 simp only [Instr.lookup]
 simp [run_underlying ht, run_getObj_map hb, run_checkKey8 hK, run_findKey8 hK]
 cases look8 l k <;> simp [hz]
theorem run_insert8 (ht : P.underlying t = some (.map K e)) (hK : P.underlying K = some (.int .u8)) (hb : w.heap[mb]? = some (.map (ents8 l) ck)) (k : Nat) (v : Value) (hn : look8 l k = none) :
  (Instr.mapUpdate t (.map (some mb)) (.int .u8 (k : Int)) v).run P w = .ok () (setB w mb (.map (ents8 (l ++ [(k, v, ck)])) (ck + 1))) := by
 unfold Instr.mapUpdate
 simp [run_underlying ht, run_getObj_map hb, run_checkKey8 hK, run_findKey8 hK, hn, run_setObj_map hb]
 simp [ents8]
end
def letV (n : Int) (f : Nat) : Value := .agg #[.int .i64 n, .func (.func f) #[] #[]]
def letTab : L8 := [(97, letV 0 86, 0), (103, letV 8 88, 1), (105, letV 8 93, 2), (106, letV 8 94, 3), (107, letV 10 95, 4),
 (108, letV 10 96, 5), (112, letV (-1) 97, 6), (114, letV 10 98, 7), (115, letV 10 99, 8), (116, letV 8 100, 9)]
def LetsAt (w : World) (mb : Nat) : Prop := w.heap[mb]? = some (.map (ents8 letTab) 10)
theorem letters_any (w : World) : Calls Tryz.prog 32 #[] w fun e w' => ∃ mb, e = .returned (.map (some mb)) ∧ LetsAt w' mb ∧ Below w.heap.size w w' := by
 have hmm := @run_makeMap Tryz.prog
 go_enter Tryz.func32, Tryz.ntmps32
 go_wp2_with fail
 have hb0 : (w.alloc (.map #[] 0)).heap[w.heap.size]? = some (.map (ents8 (letTab.take 0)) 0) := alloc_new w _
 have hB0 : Below w.heap.size w (w.alloc (.map #[] 0)) := (Below.refl _ w).alloc (Nat.le_refl _) _
 generalize w.alloc (.map #[] 0) = W0 at hb0 hB0 ⊢
 have Hb0 := hid hb0
 have HB0 := hid hB0
 clear hb0 hB0
 have hi0 : (Instr.mapUpdate 71 (.map (some w.heap.size)) (.int .u8 97) (.agg #[.int .i64 0, .func (.func 86) #[] #[]])).run Tryz.prog W0 = .ok () (setB W0 w.heap.size (.map (ents8 (letTab.take 1)) 1)) := run_insert8 Tryz.underlying71 Tryz.underlying5 Hb0.out 97 _ rfl
 rw [hi0]
 have Hb1 := hid (setB_at W0 (.map (ents8 (letTab.take 1)) 1) (heap_lt Hb0.out))
 have HB1 : Hid (Below w.heap.size w (setB W0 w.heap.size (.map (ents8 (letTab.take 1)) 1))) := ((But.of (w := w) HB0.out).setB (F := fun _ => False) (fun h => by omega) _).below (Nat.le_refl _) (fun _ h => h.elim)
 clear hi0 Hb0 HB0
 generalize setB W0 w.heap.size (.map (ents8 (letTab.take 1)) 1) = W1 at Hb1 HB1 ⊢
 simp only [Result.andThen_ok, Oper.upon_skip]
 go_wp2_with fail
 have hi1 : (Instr.mapUpdate 71 (.map (some w.heap.size)) (.int .u8 103) (.agg #[.int .i64 8, .func (.func 88) #[] #[]])).run Tryz.prog W1 = .ok () (setB W1 w.heap.size (.map (ents8 (letTab.take 2)) 2)) := run_insert8 Tryz.underlying71 Tryz.underlying5 Hb1.out 103 _ rfl
 rw [hi1]
 have Hb2 := hid (setB_at W1 (.map (ents8 (letTab.take 2)) 2) (heap_lt Hb1.out))
 have HB2 : Hid (Below w.heap.size w (setB W1 w.heap.size (.map (ents8 (letTab.take 2)) 2))) := ((But.of (w := w) HB1.out).setB (F := fun _ => False) (fun h => by omega) _).below (Nat.le_refl _) (fun _ h => h.elim)
 clear hi1 Hb1 HB1
 generalize setB W1 w.heap.size (.map (ents8 (letTab.take 2)) 2) = W2 at Hb2 HB2 ⊢
 simp only [Result.andThen_ok, Oper.upon_skip]
 go_wp2_with fail
 have hi2 : (Instr.mapUpdate 71 (.map (some w.heap.size)) (.int .u8 105) (.agg #[.int .i64 8, .func (.func 93) #[] #[]])).run Tryz.prog W2 = .ok () (setB W2 w.heap.size (.map (ents8 (letTab.take 3)) 3)) := run_insert8 Tryz.underlying71 Tryz.underlying5 Hb2.out 105 _ rfl
 rw [hi2]
 have Hb3 := hid (setB_at W2 (.map (ents8 (letTab.take 3)) 3) (heap_lt Hb2.out))
 have HB3 : Hid (Below w.heap.size w (setB W2 w.heap.size (.map (ents8 (letTab.take 3)) 3))) := ((But.of (w := w) HB2.out).setB (F := fun _ => False) (fun h => by omega) _).below (Nat.le_refl _) (fun _ h => h.elim)
 clear hi2 Hb2 HB2
 generalize setB W2 w.heap.size (.map (ents8 (letTab.take 3)) 3) = W3 at Hb3 HB3 ⊢
 simp only [Result.andThen_ok, Oper.upon_skip]
 go_wp2_with fail
 have hi3 : (Instr.mapUpdate 71 (.map (some w.heap.size)) (.int .u8 106) (.agg #[.int .i64 8, .func (.func 94) #[] #[]])).run Tryz.prog W3 = .ok () (setB W3 w.heap.size (.map (ents8 (letTab.take 4)) 4)) := run_insert8 Tryz.underlying71 Tryz.underlying5 Hb3.out 106 _ rfl
 rw [hi3]
 have Hb4 := hid (setB_at W3 (.map (ents8 (letTab.take 4)) 4) (heap_lt Hb3.out))
 have HB4 : Hid (Below w.heap.size w (setB W3 w.heap.size (.map (ents8 (letTab.take 4)) 4))) := ((But.of (w := w) HB3.out).setB (F := fun _ => False) (fun h => by omega) _).below (Nat.le_refl _) (fun _ h => h.elim)
 clear hi3 Hb3 HB3
 generalize setB W3 w.heap.size (.map (ents8 (letTab.take 4)) 4) = W4 at Hb4 HB4 ⊢
 simp only [Result.andThen_ok, Oper.upon_skip]
 go_wp2_with fail
 have hi4 : (Instr.mapUpdate 71 (.map (some w.heap.size)) (.int .u8 107) (.agg #[.int .i64 10, .func (.func 95) #[] #[]])).run Tryz.prog W4 = .ok () (setB W4 w.heap.size (.map (ents8 (letTab.take 5)) 5)) := run_insert8 Tryz.underlying71 Tryz.underlying5 Hb4.out 107 _ rfl
 rw [hi4]
 have Hb5 := hid (setB_at W4 (.map (ents8 (letTab.take 5)) 5) (heap_lt Hb4.out))
 have HB5 : Hid (Below w.heap.size w (setB W4 w.heap.size (.map (ents8 (letTab.take 5)) 5))) := ((But.of (w := w) HB4.out).setB (F := fun _ => False) (fun h => by omega) _).below (Nat.le_refl _) (fun _ h => h.elim)
 clear hi4 Hb4 HB4
 generalize setB W4 w.heap.size (.map (ents8 (letTab.take 5)) 5) = W5 at Hb5 HB5 ⊢
 simp only [Result.andThen_ok, Oper.upon_skip]
 go_wp2_with fail
 have hi5 : (Instr.mapUpdate 71 (.map (some w.heap.size)) (.int .u8 108) (.agg #[.int .i64 10, .func (.func 96) #[] #[]])).run Tryz.prog W5 = .ok () (setB W5 w.heap.size (.map (ents8 (letTab.take 6)) 6)) := run_insert8 Tryz.underlying71 Tryz.underlying5 Hb5.out 108 _ rfl
 rw [hi5]
 have Hb6 := hid (setB_at W5 (.map (ents8 (letTab.take 6)) 6) (heap_lt Hb5.out))
 have HB6 : Hid (Below w.heap.size w (setB W5 w.heap.size (.map (ents8 (letTab.take 6)) 6))) := ((But.of (w := w) HB5.out).setB (F := fun _ => False) (fun h => by omega) _).below (Nat.le_refl _) (fun _ h => h.elim)
 clear hi5 Hb5 HB5
 generalize setB W5 w.heap.size (.map (ents8 (letTab.take 6)) 6) = W6 at Hb6 HB6 ⊢
 simp only [Result.andThen_ok, Oper.upon_skip]
 go_wp2_with fail
 have hi6 : (Instr.mapUpdate 71 (.map (some w.heap.size)) (.int .u8 112) (.agg #[.int .i64 (-1), .func (.func 97) #[] #[]])).run Tryz.prog W6 = .ok () (setB W6 w.heap.size (.map (ents8 (letTab.take 7)) 7)) := run_insert8 Tryz.underlying71 Tryz.underlying5 Hb6.out 112 _ rfl
 rw [hi6]
 have Hb7 := hid (setB_at W6 (.map (ents8 (letTab.take 7)) 7) (heap_lt Hb6.out))
 have HB7 : Hid (Below w.heap.size w (setB W6 w.heap.size (.map (ents8 (letTab.take 7)) 7))) := ((But.of (w := w) HB6.out).setB (F := fun _ => False) (fun h => by omega) _).below (Nat.le_refl _) (fun _ h => h.elim)
 clear hi6 Hb6 HB6
 generalize setB W6 w.heap.size (.map (ents8 (letTab.take 7)) 7) = W7 at Hb7 HB7 ⊢
 simp only [Result.andThen_ok, Oper.upon_skip]
 go_wp2_with fail
 have hi7 : (Instr.mapUpdate 71 (.map (some w.heap.size)) (.int .u8 114) (.agg #[.int .i64 10, .func (.func 98) #[] #[]])).run Tryz.prog W7 = .ok () (setB W7 w.heap.size (.map (ents8 (letTab.take 8)) 8)) := run_insert8 Tryz.underlying71 Tryz.underlying5 Hb7.out 114 _ rfl
 rw [hi7]
 have Hb8 := hid (setB_at W7 (.map (ents8 (letTab.take 8)) 8) (heap_lt Hb7.out))
 have HB8 : Hid (Below w.heap.size w (setB W7 w.heap.size (.map (ents8 (letTab.take 8)) 8))) := ((But.of (w := w) HB7.out).setB (F := fun _ => False) (fun h => by omega) _).below (Nat.le_refl _) (fun _ h => h.elim)
 clear hi7 Hb7 HB7
 generalize setB W7 w.heap.size (.map (ents8 (letTab.take 8)) 8) = W8 at Hb8 HB8 ⊢
 simp only [Result.andThen_ok, Oper.upon_skip]
 go_wp2_with fail
 have hi8 : (Instr.mapUpdate 71 (.map (some w.heap.size)) (.int .u8 115) (.agg #[.int .i64 10, .func (.func 99) #[] #[]])).run Tryz.prog W8 = .ok () (setB W8 w.heap.size (.map (ents8 (letTab.take 9)) 9)) := run_insert8 Tryz.underlying71 Tryz.underlying5 Hb8.out 115 _ rfl
 rw [hi8]
 have Hb9 := hid (setB_at W8 (.map (ents8 (letTab.take 9)) 9) (heap_lt Hb8.out))
 have HB9 : Hid (Below w.heap.size w (setB W8 w.heap.size (.map (ents8 (letTab.take 9)) 9))) := ((But.of (w := w) HB8.out).setB (F := fun _ => False) (fun h => by omega) _).below (Nat.le_refl _) (fun _ h => h.elim)
 clear hi8 Hb8 HB8
 generalize setB W8 w.heap.size (.map (ents8 (letTab.take 9)) 9) = W9 at Hb9 HB9 ⊢
 simp only [Result.andThen_ok, Oper.upon_skip]
 go_wp2_with fail
 have hi9 : (Instr.mapUpdate 71 (.map (some w.heap.size)) (.int .u8 116) (.agg #[.int .i64 8, .func (.func 100) #[] #[]])).run Tryz.prog W9 = .ok () (setB W9 w.heap.size (.map (ents8 (letTab.take 10)) 10)) := run_insert8 Tryz.underlying71 Tryz.underlying5 Hb9.out 116 _ rfl
 rw [hi9]
 have Hb10 := hid (setB_at W9 (.map (ents8 (letTab.take 10)) 10) (heap_lt Hb9.out))
 have HB10 : Hid (Below w.heap.size w (setB W9 w.heap.size (.map (ents8 (letTab.take 10)) 10))) := ((But.of (w := w) HB9.out).setB (F := fun _ => False) (fun h => by omega) _).below (Nat.le_refl _) (fun _ h => h.elim)
 clear hi9 Hb9 HB9
 generalize setB W9 w.heap.size (.map (ents8 (letTab.take 10)) 10) = W10 at Hb10 HB10 ⊢
 simp only [Result.andThen_ok, Oper.upon_skip]
 go_wp2_with fail
 go_ret
 exact ⟨w.heap.size, rfl, Hb10.out, HB10.out⟩
end Go.Proofs.YthikijlbclckdaaGreat
namespace Go.Proofs.YthikijlbclckdaaGreat
set_option maxRecDepth 100000
set_option maxHeartbeats 40000000
set_option linter.unusedSimpArgs false
set_option linter.unusedVariables false
open Go.IntWalk Go.RowKit
abbrev RowV := ByteArray × ByteArray
def foldS {α : Type} (f : α → ByteArray) (s : ByteArray) (l : List α) : ByteArray := l.foldl (fun s x => s ++ f x) s
theorem cat_on {α : Type} (f : α → ByteArray) (l : List α) (s : ByteArray) : s ++ catS f l = foldS f s l := by
 unfold catS foldS
 have : ∀ (l : List α) (s t : ByteArray), s ++ l.foldl (fun s x => s ++ f x) t = l.foldl (fun s x => s ++ f x) (s ++ t) := by
  intro l
  induction l with
  | nil => intro s t; rfl
  | cons x l ih => intro s t; simp only [List.foldl_cons]; rw [ih, ByteArray.append_assoc]
 rw [this, show s ++ (⟨#[]⟩ : ByteArray) = s from ByteArray.append_empty]
theorem cat_one {α : Type} (f : α → ByteArray) (x : α) : catS f [x] = f x := ByteArray.empty_append
theorem cat_two {α : Type} (f : α → ByteArray) (x y : α) : catS f [x, y] = f x ++ f y := by
 show ((⟨#[]⟩ ++ f x) ++ f y) = _
 rw [show (⟨#[]⟩ : ByteArray) ++ f x = f x from ByteArray.empty_append]
theorem cat_three {α : Type} (f : α → ByteArray) (x y z : α) : catS f [x, y, z] = f x ++ f y ++ f z := by
 show (((⟨#[]⟩ ++ f x) ++ f y) ++ f z) = _
 rw [show (⟨#[]⟩ : ByteArray) ++ f x = f x from ByteArray.empty_append]
def c1 (n : UInt8) : ByteArray := ⟨#[n]⟩
def rowG (x : MsgV) : RowV := (keyS (c1 103) x.key [], foldS uvS (txS x.name ++ txS x.for_ ++ txS x.id ++ inS x.till ++ varsS x.vars ++ uvS x.insts.length) x.insts)
def rowI (x : InstV) : RowV := (keyS (c1 105) x.key [], txS x.id ++ varsS x.vars)
def rowJ (x : JobV) : RowV := (keyS (c1 106) x.key [], uvS x.token ++ txS x.type ++ inS x.retries ++ txS x.worker ++ inS x.till)
def rowK (x : KeptV) : RowV := (keyS (c1 107) x.token [x.node], uvS x.msg)
def rowL (x : LisV) : RowV := (keyS (c1 108) x.token [x.node], uvS x.inst ++ txS x.name ++ txS x.key ++ uvS x.msg ++ varsS x.vars)
def rowP (x : DepV) : RowV := (c1 112 ++ x.id, txS x.bytes)
def rowR (x : TimV) : RowV := (keyS (c1 114) x.token [x.node], inS x.when_)
def b01 (b : Bool) : Int := if b then 1 else 0
def rowS (x : SubV) : RowV := (keyS (c1 115) x.token [x.node], uvS x.inst ++ txS x.name ++ txS x.key ++ inS (b01 x.is))
def rowT (x : TokV) : RowV := (keyS (c1 116) x.key [], uvS x.inst ++ uvS x.scope ++ inS x.node ++ inS x.by_ ++ txS x.stuck)
def rowV (r : RowV) : Value := .agg #[.string r.1, .string r.2]
theorem txS_le {s : ByteArray} (h : Sz s) : (txS s).size ≤ 2097162 := by
 have h : s.size ≤ 2097152 := h
 have := txS_size h
 omega
theorem uvS_le {n : Nat} (h : U64 n) : (uvS n).size ≤ 10 := by rw [uvS_size]; exact Lib.uvarint_length64 h
theorem inS_le {n : Int} (h : I64 n) : (inS n).size ≤ 10 := inS_size h.1 h.2
theorem foldS_le {α : Type} (f : α → ByteArray) (m : Nat) (l : List α) (hf : ∀ x ∈ l, (f x).size ≤ m) (s : ByteArray) : (foldS f s l).size ≤ s.size + l.length * m := by
 induction l generalizing s with
 | nil => simp [foldS]
 | cons x l ih =>
  have h1 := ih (fun y hy => hf y (List.mem_cons_of_mem _ hy)) (s ++ f x)
  have h2 := hf x List.mem_cons_self
  have h3 : foldS f s (x :: l) = foldS f (s ++ f x) l := rfl
  rw [h3, List.length_cons, Nat.succ_mul]
  rw [ByteArray.size_append] at h1
  omega
theorem varsS_le {l : List VarV} (h : ∀ y ∈ l, VarOk y) : (varsS l).size ≤ 67109210 := by
 unfold varsS
 split
 ·
  rename_i hr
  have hl := right_le hr
  have h1 := foldS_le varS 4194325 l (fun y hy => varS_size (h y hy)) (uvS l.length)
  have h2 := uv_small l.length hl
  show (foldS varS (uvS l.length) l).size ≤ _
  omega
 ·
  show 0 ≤ _
  omega
theorem rows1_any (x : MsgV) (hx : MsgOk x) (cs : List Value) (w : World) (h : x.at_ w cs) : Calls Tryz.prog 51 #[.agg cs.toArray] w fun e w' => e = .returned (rowV (rowG x)) ∧ Below w.heap.size w w' := by
 obtain ⟨v, u, rfl, hv, hu⟩ := h
 obtain ⟨key, name, for_, id, till, vars, insts⟩ := x
 obtain ⟨hkey, hname, hfor, hid, htill, hvars, hinsts, hmany⟩ := hx
 dsimp only at hkey hname hfor hid htill hvars hinsts hmany hv hu
 have HV := Lib.hid hv
 have HU := Lib.hid hu
 obtain ⟨a2, cap2, hu, -, -, -⟩ := hu
 have hl2 : (natsV insts).length = insts.length := by simp [natsV]
 rw [hl2] at hu
 subst hu
 clear hl2
 have Hk := Lib.hid hkey
 have Ht := Lib.hid htill
 have Hvars := Lib.hid hvars
 have Hinsts := Lib.hid hinsts
 have z1 : (catS txS [name, for_, id]).size ≤ 6291486 := by
  rw [cat_three, ByteArray.size_append, ByteArray.size_append]
  have := txS_le hname; have := txS_le hfor; have := txS_le hid; omega
 have z2 : (catS inS [till]).size ≤ 10 := by rw [cat_one]; exact inS_le htill
 have z3 := varsS_le hvars
 have z4 : (catS uvS [insts.length]).size ≤ 10 := by rw [cat_one]; exact uvS_le (by unfold U64; omega)
 have z5 : (catS uvS insts).size ≤ 20971520 := by
  have := foldS_le uvS 10 insts (fun n hn => uvS_le (hinsts n hn)) ⟨#[]⟩
  have h0 : (⟨#[]⟩ : ByteArray).size = 0 := rfl
  rw [h0] at this
  show (foldS uvS ⟨#[]⟩ insts).size ≤ _
  omega
 have E : Hid (rowV (rowG ⟨key, name, for_, id, till, vars, insts⟩) = .agg #[.string (keyS (c1 103) key []), .string (catS txS [name, for_, id] ++ catS inS [till] ++ varsS vars ++ catS uvS [insts.length] ++ catS uvS insts)]) := by
  show _ = _
  unfold rowV rowG
  rw [cat_on, cat_three, cat_one, cat_one]
 have Hts : Hid (∀ x ∈ [name, for_, id], x.size ≤ 2097152) := by intro x hx; simp at hx; rcases hx with rfl | rfl | rfl <;> assumption
 clear hkey hname hfor hid htill hvars hinsts hv
 go_enter Tryz.func51, Tryz.ntmps51
 go_wp2_with fail
 have h1 := Lib.hid ((Below.refl _ w).alloc (Nat.le_refl _) (.cells #[U key, .string name, .string for_, .string id, I till, v, .slice a2 insts.length cap2] 118))
 have h2 := Lib.hid (h1.out.alloc h1.out.size (.cells #[.string ⟨#[]⟩, .string ⟨#[]⟩] 69))
 refine wp_par (fun _ => False) (fun _ => True) (List.replicate 32 false) _ (.fix ?_ :: .fix ?_ :: .fix ?_ :: .fix ?_ :: .fix ?_ :: .fix ?_ :: .fix ?_ :: .fix ?_ :: .fix ?_ :: .new (rowF 1 ?_ ?_) :: .fix ?_ :: .fix ?_ :: .fix ?_ :: .new (rowF 1 ?_ ?_) :: .fix ?_ :: .fix ?_ :: .fix ?_ :: .fix ?_ :: .fix ?_ :: .fix ?_ :: .fix ?_ :: .fix ?_ :: .fix ?_ :: .fix ?_ :: .new (rowF 1 ?_ ?_) :: .fix ?_ :: .fix ?_ :: .fix ?_ :: .fix ?_ :: .fix ?_ :: .fix ?_ :: .fix ?_ :: []) (by kernel_rfl) (by kernel_rfl) (by simp only [List.length_replicate, List.drop_succ_cons, List.drop_zero, List.drop_nil]; with_reducible rfl) rfl (fun _ _ _ _ _ => ⟨fun h => h, fun h => h⟩) (fun _ _ h _ => h) trivial ?_
 rotate_left 35
 iterate 2
  first
   | (refine par_skip (a' := ?_) (by rfl) (by rfl) ?_ ?_ ?_; rotate_left 1; with_reducible rfl; (simp only [lays]; with_reducible rfl))
   | (refine par_run (a' := ?_) (by rfl) (by rfl) (fun w' hb hn => ?_) ?_ ?_; rotate_left 1; (have hc := hb.cells; go_simp; (try simp (disch := omega) only [nrm, toNatUp, iteOmega]); first | with_reducible rfl | (go_simp; with_reducible rfl)); (simp only [lays]; with_reducible rfl))
 refine par_call (a' := ?_) (f := ?_) (args := ?_) (by rfl) (by rfl) (fun w' => ?_) (fun w' hb hn => ?_) ?_ ?_; rotate_left 3; (go_simp; constructor <;> with_reducible rfl); (exact key_any (c1 103) key _ [] w' (SlR.nil w') (by simp) (by decide) Hk.out); (simp only [lays]; with_reducible rfl)
 iterate 6
  first
   | (refine par_skip (a' := ?_) (by rfl) (by rfl) ?_ ?_ ?_; rotate_left 1; with_reducible rfl; (simp only [lays]; with_reducible rfl))
   | (refine par_run (a' := ?_) (by rfl) (by rfl) (fun w' hb hn => ?_) ?_ ?_; rotate_left 1; (have hc := hb.cells; go_simp; (try simp (disch := omega) only [nrm, toNatUp, iteOmega]); first | with_reducible rfl | (go_simp; with_reducible rfl)); (simp only [lays]; with_reducible rfl))
 refine par_row (a' := ?a112k9) (m := ?m112k9) (T := ?T112k9) (cs := ?c112k9) (r := ?r112k9) (by rfl) (by rfl) (fun w' hb hn => ?h112k9) (fun w' => ?e112k9) ?n112k9 ?v112k9 ?l112k9 ?x112k9 (fun u => ?p112k9) (fun u => ?g112k9)
 case h112k9 => (have hc := hb.cells; go_simp; (try simp (disch := omega) only [nrm, toNatUp, iteOmega]); with_reducible rfl)
 case e112k9 => with_reducible rfl
 case n112k9 => with_reducible rfl
 case v112k9 => with_reducible rfl
 case l112k9 => simp only [List.length_cons, List.length_nil]
 case x112k9 => (unfold maxLen; omega)
 case p112k9 => (simp only [lays]; with_reducible rfl)
 refine par_call (a' := ?_) (f := ?_) (args := ?_) (by rfl) (by rfl) (fun w' => ?_) (fun w' hb hn => ?_) ?_ ?_; rotate_left 3; (go_simp; constructor <;> with_reducible rfl); (exact t_any _ [name, for_, id] w' (FlatAt.slr (need_head hn (by kernel_rfl))) (by simp) Hts.out); (simp only [lays]; with_reducible rfl)
 iterate 2
  first
   | (refine par_skip (a' := ?_) (by rfl) (by rfl) ?_ ?_ ?_; rotate_left 1; with_reducible rfl; (simp only [lays]; with_reducible rfl))
   | (refine par_run (a' := ?_) (by rfl) (by rfl) (fun w' hb hn => ?_) ?_ ?_; rotate_left 1; (have hc := hb.cells; go_simp; (try simp (disch := omega) only [nrm, toNatUp, iteOmega]); first | with_reducible rfl | (go_simp; with_reducible rfl)); (simp only [lays]; with_reducible rfl))
 refine par_row (a' := ?a125k13) (m := ?m125k13) (T := ?T125k13) (cs := ?c125k13) (r := ?r125k13) (by rfl) (by rfl) (fun w' hb hn => ?h125k13) (fun w' => ?e125k13) ?n125k13 ?v125k13 ?l125k13 ?x125k13 (fun u => ?p125k13) (fun u => ?g125k13)
 case h125k13 => (have hc := hb.cells; go_simp; (try simp (disch := omega) only [nrm, toNatUp, iteOmega]); with_reducible rfl)
 case e125k13 => with_reducible rfl
 case n125k13 => with_reducible rfl
 case v125k13 => with_reducible rfl
 case l125k13 => simp only [List.length_cons, List.length_nil]
 case x125k13 => (unfold maxLen; omega)
 case p125k13 => (simp only [lays]; with_reducible rfl)
 refine par_call (a' := ?_) (f := ?_) (args := ?_) (by rfl) (by rfl) (fun w' => ?_) (fun w' hb hn => ?_) ?_ ?_; rotate_left 3; (go_simp; constructor <;> with_reducible rfl); (exact i_any _ [till] w' (FlatAt.slr (need_head hn (by kernel_rfl))) (by simp) (by intro x hx; simp at hx; subst hx; exact Ht.out)); (simp only [lays]; with_reducible rfl)
 iterate 3
  first
   | (refine par_skip (a' := ?_) (by rfl) (by rfl) ?_ ?_ ?_; rotate_left 1; with_reducible rfl; (simp only [lays]; with_reducible rfl))
   | (refine par_run (a' := ?_) (by rfl) (by rfl) (fun w' hb hn => ?_) ?_ ?_; rotate_left 1; (have hc := hb.cells; go_simp; (try simp (disch := omega) only [nrm, toNatUp, iteOmega]); first | with_reducible rfl | (go_simp; with_reducible rfl)); (simp only [lays]; with_reducible rfl))
 refine par_call (a' := ?_) (f := ?_) (args := ?_) (by rfl) (by rfl) (fun w' => ?_) (fun w' hb hn => ?_) ?_ ?_; rotate_left 3; (go_simp; constructor <;> with_reducible rfl); (exact varsBytes_any v vars w' Hvars.out (HV.out.below (h2.out.trans (hb.grow.mono h2.out.size)))); (simp only [lays]; with_reducible rfl)
 iterate 5
  first
   | (refine par_skip (a' := ?_) (by rfl) (by rfl) ?_ ?_ ?_; rotate_left 1; with_reducible rfl; (simp only [lays]; with_reducible rfl))
   | (refine par_run (a' := ?_) (by rfl) (by rfl) (fun w' hb hn => ?_) ?_ ?_; rotate_left 1; (have hc := hb.cells; go_simp; (try simp (disch := omega) only [nrm, toNatUp, iteOmega]); first | with_reducible rfl | (go_simp; with_reducible rfl)); (simp only [lays]; with_reducible rfl))
 refine par_row (a' := ?a143k24) (m := ?m143k24) (T := ?T143k24) (cs := ?c143k24) (r := ?r143k24) (by rfl) (by rfl) (fun w' hb hn => ?h143k24) (fun w' => ?e143k24) ?n143k24 ?v143k24 ?l143k24 ?x143k24 (fun u => ?p143k24) (fun u => ?g143k24)
 case h143k24 => (have hc := hb.cells; go_simp; (try simp (disch := omega) only [nrm, toNatUp, iteOmega]); with_reducible rfl)
 case e143k24 => with_reducible rfl
 case n143k24 => with_reducible rfl
 case v143k24 => with_reducible rfl
 case l143k24 => simp only [List.length_cons, List.length_nil]
 case x143k24 => (unfold maxLen; omega)
 case p143k24 => (simp only [lays]; with_reducible rfl)
 refine par_call (a' := ?_) (f := ?_) (args := ?_) (by rfl) (by rfl) (fun w' => ?_) (fun w' hb hn => ?_) ?_ ?_; rotate_left 3; (go_simp; constructor <;> with_reducible rfl); (exact u_any _ [insts.length] w' (FlatAt.slr (need_head hn (by kernel_rfl))) (by simp) (by intro x hx; simp at hx; subst hx; omega)); (simp only [lays]; with_reducible rfl)
 iterate 3
  first
   | (refine par_skip (a' := ?_) (by rfl) (by rfl) ?_ ?_ ?_; rotate_left 1; with_reducible rfl; (simp only [lays]; with_reducible rfl))
   | (refine par_run (a' := ?_) (by rfl) (by rfl) (fun w' hb hn => ?_) ?_ ?_; rotate_left 1; (have hc := hb.cells; go_simp; (try simp (disch := omega) only [nrm, toNatUp, iteOmega]); first | with_reducible rfl | (go_simp; with_reducible rfl)); (simp only [lays]; with_reducible rfl))
 refine par_call (a' := ?_) (f := ?_) (args := ?_) (by rfl) (by rfl) (fun w' => ?_) (fun w' hb hn => ?_) ?_ ?_; rotate_left 3; (go_simp; constructor <;> with_reducible rfl); (exact u_any _ insts w' (HU.out.below (h2.out.trans (hb.grow.mono h2.out.size))) hmany Hinsts.out); (simp only [lays]; with_reducible rfl)
 iterate 2
  first
   | (refine par_skip (a' := ?_) (by rfl) (by rfl) ?_ ?_ ?_; rotate_left 1; with_reducible rfl; (simp only [lays]; with_reducible rfl))
   | (refine par_run (a' := ?_) (by rfl) (by rfl) (fun w' hb hn => ?_) ?_ ?_; rotate_left 1; (have hc := hb.cells; go_simp; (try simp (disch := omega) only [nrm, toNatUp, iteOmega]); first | with_reducible rfl | (go_simp; with_reducible rfl)); (simp only [lays]; with_reducible rfl))
 refine par_end (fun w9 hb9 hf9 _ => ?_)
 replace hb9 := hb9.grow
 try refine wpList_none ?_
 have h9 := Lib.hid (h2.out.trans (hb9.mono h2.out.size))
 have hr := (hb9.block (w.heap.size + 1) (by simp)).trans (alloc_new2 w _ _)
 have k0 := cell_of hr 0
 have k1 := cell_of hr 1
 have f0 := free_of hr 0
 have f1 := free_of hr 1
 have hz9 : w.heap.size + 1 < w9.heap.size := heap_lt hr
 clear hb9 hf9 hr
 go_wp2
 exact bodyPost_ret (v := .agg #[.string (keyS (c1 103) key []), .string (catS txS [name, for_, id] ++ catS inS [till] ++ varsS vars ++ catS uvS [insts.length] ++ catS uvS insts)]) (by simp [results, Tryz.results51, go_sem, k0, k1, f0, f1]) rfl ⟨by rw [E.out], (h9.out.setCell (p := ⟨w.heap.size + 1, 0, none⟩) (by simp) _).setCell (p := ⟨w.heap.size + 1, 1, none⟩) (by simp) _⟩
end Go.Proofs.YthikijlbclckdaaGreat
