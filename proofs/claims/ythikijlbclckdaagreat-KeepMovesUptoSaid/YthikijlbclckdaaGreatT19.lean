/- Keep: contracts (I Sk Mi Ow Ck Kv). -/
import Derived.Test.YthikijlbclckdaaGreatT1
import Derived.Test.YthikijlbclckdaaGreatT14
import Derived.Test.YthikijlbclckdaaGreatT18
import Derived.Shelf.SlIter.Nil
import Derived.Shelf.SortM.Plain
import Derived.Shelf.SortM.SortNone
import Derived.Ground.GgzProg
import Derived.Ground.SlgmProg
import Derived.Test.YthikijlbclckdaaGreatProg
import Derived.Maps.RangeRun
namespace Go.Proofs
set_option maxRecDepth 100000
set_option maxHeartbeats 40000000
set_option linter.unusedSimpArgs false
set_option linter.unusedVariables false
open Go.Shelf
def Tryz.keys46_ren : Go.Shelf.Ren := ⟨fun | 7 => 46 | 10 => 110 | n => n, fun | 23 => 120 | 26 => 9 | 3 => 61 | 28 => 124 | 0 => 0 | 27 => 123 | 33 => 179 | 4 => 4 | n => n, fun | n => n⟩
theorem Tryz.keys46 : Go.Proofs.SlLaysZ.n7 Tryz.prog Tryz.keys46_ren := {
  mixed := by kernel_rfl
  f7 := ⟨Tryz.f46.name, by decide, Tryz.func46.trans (congrArg some (by kernel_rfl))⟩
  f10 := ⟨Tryz.f110.name, by decide, Tryz.func110.trans (congrArg some (by kernel_rfl))⟩
  t0 := Tryz.underlying0
  a0 := Tryz.isAgg0
  z0 := Tryz.sizeOf0
  v0 := Tryz.zeroValue0
  t4 := Tryz.underlying4
  a4 := Tryz.isAgg4
  z4 := Tryz.sizeOf4
  v4 := Tryz.zeroValue4
  t23 := Tryz.underlying120
  a23 := Tryz.isAgg120
  z23 := Tryz.sizeOf120
  v23 := Tryz.zeroValue120
  t26 := Tryz.underlying9
  a26 := Tryz.isAgg9
  z26 := Tryz.sizeOf9
  v26 := Tryz.zeroValue9
  t27 := Tryz.underlying123
  a27 := Tryz.isAgg123
  z27 := Tryz.sizeOf123
  v27 := Tryz.zeroValue123
  t28 := Tryz.underlying124
  a28 := Tryz.isAgg124
  z28 := Tryz.sizeOf124
  v28 := Tryz.zeroValue124
  t33 := Tryz.underlying179
  a33 := Tryz.isAgg179
  z33 := Tryz.sizeOf179
  v33 := Tryz.zeroValue179 }
def Tryz.sorted45_ren : Go.Shelf.Ren := ⟨fun | 6 => 45 | 8 => 108 | 9 => 109 | 11 => 134 | 13 => 136 | 12 => 135 | 23 => 152 | 24 => 153 | 14 => 143 | 15 => 144 | 16 => 145 | 17 => 146 | 18 => 147 | 19 => 148 | 20 => 149 | 21 => 150 | 22 => 151 | 25 => 158 | 26 => 159 | 27 => 160 | 28 => 161 | 29 => 162 | 30 => 163 | 31 => 166 | n => n, fun | 26 => 9 | 28 => 124 | 24 => 84 | 0 => 0 | 3 => 3 | 37 => 169 | 48 => 221 | 50 => 22 | 4 => 4 | 40 => 214 | 39 => 213 | 45 => 218 | 5 => 5 | 9 => 9 | 51 => 228 | 55 => 231 | 57 => 235 | 58 => 236 | 33 => 179 | n => n, fun | n => n⟩
theorem Tryz.sorted45 : Go.Proofs.SlLaysZ.n6 Tryz.prog Tryz.sorted45_ren := {
  mixed := by kernel_rfl
  f6 := ⟨Tryz.f45.name, by decide, Tryz.func45.trans (congrArg some (by kernel_rfl))⟩
  f8 := ⟨Tryz.f108.name, by decide, Tryz.func108.trans (congrArg some (by kernel_rfl))⟩
  f11 := ⟨Tryz.f134.name, by decide, Tryz.func134.trans (congrArg some (by kernel_rfl))⟩
  t0 := Tryz.underlying0
  a0 := Tryz.isAgg0
  z0 := Tryz.sizeOf0
  v0 := Tryz.zeroValue0
  t24 := Tryz.underlying84
  a24 := Tryz.isAgg84
  z24 := Tryz.sizeOf84
  v24 := Tryz.zeroValue84
  t26 := Tryz.underlying9
  a26 := Tryz.isAgg9
  z26 := Tryz.sizeOf9
  v26 := Tryz.zeroValue9
  t28 := Tryz.underlying124
  a28 := Tryz.isAgg124
  z28 := Tryz.sizeOf124
  v28 := Tryz.zeroValue124
  i26 := by kernel_rfl }
def Tryz.sort109_ren : Go.Shelf.Ren := ⟨fun | 6 => 109 | 8 => 136 | 9 => 135 | 19 => 152 | 20 => 153 | 21 => 143 | 22 => 144 | 23 => 145 | 24 => 146 | 25 => 147 | 26 => 148 | 27 => 149 | 28 => 150 | 29 => 151 | 36 => 158 | 31 => 159 | 32 => 160 | 37 => 161 | 38 => 162 | 39 => 163 | 41 => 166 | n => n, fun | 27 => 84 | 29 => 9 | 3 => 3 | 32 => 169 | 26 => 84 | 0 => 0 | 44 => 221 | 46 => 22 | 4 => 4 | 36 => 214 | 35 => 213 | 41 => 218 | 5 => 5 | 9 => 9 | 53 => 228 | 57 => 231 | 63 => 235 | 64 => 236 | n => n, fun | n => n⟩
theorem Tryz.sort109 : Go.Proofs.SlLaysM.n6 Tryz.prog Tryz.sort109_ren := {
  mixed := by kernel_rfl
  f6 := ⟨Tryz.f109.name, by decide, Tryz.func109.trans (congrArg some (by kernel_rfl))⟩
  f8 := Tryz.func136.trans (congrArg some (by kernel_rfl))
  f9 := ⟨Tryz.f135.name, by decide, Tryz.func135.trans (congrArg some (by kernel_rfl))⟩
  f19 := Tryz.func152.trans (congrArg some (by kernel_rfl))
  f20 := Tryz.func153.trans (congrArg some (by kernel_rfl))
  f21 := ⟨Tryz.f143.name, by decide, Tryz.func143.trans (congrArg some (by kernel_rfl))⟩
  f22 := ⟨Tryz.f144.name, by decide, Tryz.func144.trans (congrArg some (by kernel_rfl))⟩
  f23 := ⟨Tryz.f145.name, by decide, Tryz.func145.trans (congrArg some (by kernel_rfl))⟩
  f24 := ⟨Tryz.f146.name, by decide, Tryz.func146.trans (congrArg some (by kernel_rfl))⟩
  f25 := ⟨Tryz.f147.name, by decide, Tryz.func147.trans (congrArg some (by kernel_rfl))⟩
  f26 := ⟨Tryz.f148.name, by decide, Tryz.func148.trans (congrArg some (by kernel_rfl))⟩
  f27 := ⟨Tryz.f149.name, by decide, Tryz.func149.trans (congrArg some (by kernel_rfl))⟩
  f28 := ⟨Tryz.f150.name, by decide, Tryz.func150.trans (congrArg some (by kernel_rfl))⟩
  f29 := ⟨Tryz.f151.name, by decide, Tryz.func151.trans (congrArg some (by kernel_rfl))⟩
  f31 := Tryz.func159.trans (congrArg some (by kernel_rfl))
  f32 := Tryz.func160.trans (congrArg some (by kernel_rfl))
  f36 := ⟨Tryz.f158.name, by decide, Tryz.func158.trans (congrArg some (by kernel_rfl))⟩
  f37 := ⟨Tryz.f161.name, by decide, Tryz.func161.trans (congrArg some (by kernel_rfl))⟩
  f38 := ⟨Tryz.f162.name, by decide, Tryz.func162.trans (congrArg some (by kernel_rfl))⟩
  f39 := ⟨Tryz.f163.name, by decide, Tryz.func163.trans (congrArg some (by kernel_rfl))⟩
  f41 := ⟨Tryz.f166.name, by decide, Tryz.func166.trans (congrArg some (by kernel_rfl))⟩
  t0 := Tryz.underlying0
  a0 := Tryz.isAgg0
  z0 := Tryz.sizeOf0
  v0 := Tryz.zeroValue0
  t3 := Tryz.underlying3
  a3 := Tryz.isAgg3
  z3 := Tryz.sizeOf3
  v3 := Tryz.zeroValue3
  t4 := Tryz.underlying4
  a4 := Tryz.isAgg4
  z4 := Tryz.sizeOf4
  v4 := Tryz.zeroValue4
  t5 := Tryz.underlying5
  a5 := Tryz.isAgg5
  z5 := Tryz.sizeOf5
  v5 := Tryz.zeroValue5
  t9 := Tryz.underlying9
  a9 := Tryz.isAgg9
  z9 := Tryz.sizeOf9
  v9 := Tryz.zeroValue9
  t26 := Tryz.underlying84
  a26 := Tryz.isAgg84
  z26 := Tryz.sizeOf84
  v26 := Tryz.zeroValue84
  t27 := Tryz.underlying84
  a27 := Tryz.isAgg84
  z27 := Tryz.sizeOf84
  v27 := Tryz.zeroValue84
  t29 := Tryz.underlying9
  a29 := Tryz.isAgg9
  z29 := Tryz.sizeOf9
  v29 := Tryz.zeroValue9
  t32 := Tryz.underlying169
  a32 := Tryz.isAgg169
  z32 := Tryz.sizeOf169
  v32 := Tryz.zeroValue169
  t35 := Tryz.underlying213
  a35 := Tryz.isAgg213
  z35 := Tryz.sizeOf213
  v35 := Tryz.zeroValue213
  t36 := Tryz.underlying214
  a36 := Tryz.isAgg214
  z36 := Tryz.sizeOf214
  v36 := Tryz.zeroValue214
  t41 := Tryz.underlying218
  a41 := Tryz.isAgg218
  z41 := Tryz.sizeOf218
  v41 := Tryz.zeroValue218
  t44 := Tryz.underlying221
  a44 := Tryz.isAgg221
  z44 := Tryz.sizeOf221
  v44 := Tryz.zeroValue221
  t46 := Tryz.underlying22
  a46 := Tryz.isAgg22
  z46 := Tryz.sizeOf22
  v46 := Tryz.zeroValue22
  t53 := Tryz.underlying228
  a53 := Tryz.isAgg228
  z53 := Tryz.sizeOf228
  v53 := Tryz.zeroValue228
  t57 := Tryz.underlying231
  a57 := Tryz.isAgg231
  z57 := Tryz.sizeOf231
  v57 := Tryz.zeroValue231
  t63 := Tryz.underlying235
  a63 := Tryz.isAgg235
  z63 := Tryz.sizeOf235
  v63 := Tryz.zeroValue235
  t64 := Tryz.underlying236
  a64 := Tryz.isAgg236
  z64 := Tryz.sizeOf236
  v64 := Tryz.zeroValue236 }
open Go.RowKit Go.Maps Go.Sort Go.Shelf
theorem Tryz.sorts45 (m : Nat) : AnyZ.SortsIn Tryz.prog Tryz.sorted45_ren Fence.wide m :=
  ⟨fun blk off cap ss W hH hblk hsz => callsIn_wide.2 (AnyM.slices_Sort_string Tryz.sort109 blk off cap ss W hH hblk hsz),
   fun p cap W => callsIn_wide.2 (AnyM.slices_Sort_string_none Tryz.sort109 p cap W)⟩
theorem Tryz.maps_Keys_46 (mb : Option Nat) (W : World) : CallsIn Fence.wide 5 Tryz.prog 46 #[.map mb] W fun e w' => e = .returned (.func (.func 110) #[] #[.pointer (some ⟨W.heap.size, 0, none⟩)]) ∧ w' = W.alloc (.cells #[.map mb] 120) :=
  AnyZ.keys_in Tryz.keys46 Fence.wide 5 trivial rfl mb W
theorem Tryz.slices_Sorted_keys_45_46 {H : Type} (b nn : Nat) (D0 : DataW H) (R : Value → Option (DataW H × List MemPlace)) (w : World) (hown : w.ownsMap Tryz.prog 9 R b nn D0) (hmax : Maps.size D0 ≤ maxLen) (hbytes : Maps.size D0 * 16 ≤ 140737488355328) :
    CallsIn Fence.wide 5 Tryz.prog 45 #[.func (.func 110) #[] #[.pointer (some ⟨w.heap.size, 0, none⟩)]] (w.alloc (.cells #[.map (some b)] 120)) fun e w' => ∃ (v : Value) (ss : List (List UInt8)), e = .returned v ∧ ss.Perm (strKeys D0) ∧
      w'.ownsRow (w.alloc (.cells #[.map (some b)] 120)).heap.size 9 1 v ss.length ((ss.mergeSort (fun x y => decide (x ≤ y))).map encStr) ∧ (v = .slice none 0 0 ↔ ss = []) ∧ Below (w.alloc (.cells #[.map (some b)] 120)).heap.size (w.alloc (.cells #[.map (some b)] 120)) w' := by
  have hbl := hown.lt
  have hseq : SeqGives Fence.wide 2 Tryz.prog 110 #[.pointer (some ⟨w.heap.size, 0, none⟩)] encStr (fun ss => ss.Perm (strKeys D0)) (Maps.size D0) (w.alloc (.cells #[.map (some b)] 120)) :=
    AnyZ.keys_gives (ρ := Tryz.keys46_ren) { Tryz.keys46 with } Fence.wide _ trivial rfl (by omega) w.heap.size b nn D0 _ (by simp) (by simp) (by
      obtain ⟨es, clock, hb, Ft, hs, hD⟩ := hown
      exact ⟨es, clock, (Below.heap_alloc _ _ b hbl).trans hb, Ft, hs, hD⟩)
  exact AnyZ.sorted_in Tryz.sorted45 Fence.wide 5 trivial trivial trivial trivial rfl (by omega) (Tryz.sorts45 _) (enters_of Tryz.func109 (by kernel_rfl) rfl) 110 #[.pointer (some ⟨w.heap.size, 0, none⟩)] trivial (enters_of Tryz.func110 (by kernel_rfl) rfl) _ _ hmax hbytes _ hseq
theorem Tryz.slices_Sorted_keys_nil_45_46 (w : World) :
    CallsIn Fence.wide 5 Tryz.prog 45 #[.func (.func 110) #[] #[.pointer (some ⟨w.heap.size, 0, none⟩)]] (w.alloc (.cells #[.map none] 120)) fun e w' => ∃ (v : Value) (ss : List (List UInt8)), e = .returned v ∧ ss = [] ∧
      w'.ownsRow (w.alloc (.cells #[.map none] 120)).heap.size 9 1 v ss.length ((ss.mergeSort (fun x y => decide (x ≤ y))).map encStr) ∧ (v = .slice none 0 0 ↔ ss = []) ∧ Below (w.alloc (.cells #[.map none] 120)).heap.size (w.alloc (.cells #[.map none] 120)) w' := by
  have hseq : SeqGives Fence.wide 2 Tryz.prog 110 #[.pointer (some ⟨w.heap.size, 0, none⟩)] encStr (fun ss : List (List UInt8) => ss = []) 0 (w.alloc (.cells #[.map none] 120)) :=
    AnyZ.keys_gives_nil (ρ := Tryz.keys46_ren) { Tryz.keys46 with } Fence.wide _ trivial rfl w.heap.size _ (by simp) (by simp)
  exact AnyZ.sorted_in Tryz.sorted45 Fence.wide 5 trivial trivial trivial trivial rfl (by omega) (Tryz.sorts45 _) (enters_of Tryz.func109 (by kernel_rfl) rfl) 110 #[.pointer (some ⟨w.heap.size, 0, none⟩)] trivial (enters_of Tryz.func110 (by kernel_rfl) rfl) _ 0 (Nat.zero_le _) (by omega) _ hseq
end Go.Proofs
namespace Go.Proofs.YthikijlbclckdaaGreat
set_option maxRecDepth 100000
set_option maxHeartbeats 40000000
set_option linter.unusedSimpArgs false
set_option linter.unusedVariables false
open Go.RowKit Go.WideShapes Go.WideMaps
def skeys {α : Type} (l : Fm α) : List ByteArray := ((l.map fun p => p.1.data.toList).mergeSort leB).map fun b => ⟨b.toArray⟩
section
variable {α : Type} {P : Program} {w : World} {enc : α → Value} {mb K : Nat} {m : Fm α}
def anyR (_ : Value) : Option (DataW Unit × List MemPlace) := some (.nil, [])
theorem MapAt.owns (h : MapAt w mb enc m) (hK : P.underlying K = some .string) (hm : m.length ≤ maxLen) (hk : ∀ p ∈ m, p.1.size ≤ maxLen) :
  ∃ D, w.ownsMap P K anyR mb m.length D ∧ (strKeys D).Perm (m.map fun p => p.1.data.toList) ∧ Maps.size D = m.length := by
 obtain ⟨l, ck, hb, rfl, hst⟩ := h
 have hsz : (ents enc l).size = (strip l).length := by simp [ents, strip]
 have hown : w.ownsMap P K anyR mb (strip l).length (.map (((ents enc l).toList.map (WideElems.rg P K anyR)).foldr DataW.insert [])) := by
  refine ⟨_, _, hb, ⟨by omega, hst, ?_⟩, by omega, rfl⟩
  intro x hx
  simp only [ents, List.mem_map] at hx
  obtain ⟨p, hp, rfl⟩ := hx
  exact ⟨_, WideElems.rd_mk (keyOf_string_mk hK (hk (p.1, p.2.1) (by simp only [strip, List.mem_map]; exact ⟨p, hp, rfl⟩))) (show anyR _ = some (.nil, []) from rfl)⟩
 refine ⟨_, hown, ?_, ?_⟩
 ·
  show (((ents enc l).toList.map (WideElems.rg P K anyR)).foldr DataW.insert []).map (fun p => strOf p.1) |>.Perm _
  refine ((sorted_perm _).map _).trans ?_
  rw [List.map_map]
  refine List.Perm.of_eq ?_
  simp only [ents, strip, List.map_map]
  refine List.map_congr_left fun p hp => ?_
  have := WideElems.rg_of (WideElems.rd_mk (P := P) (k := K) (R := anyR) (born := p.2.2) (keyOf_string_mk hK (hk (p.1, p.2.1) (by simp only [strip, List.mem_map]; exact ⟨p, hp, rfl⟩))) (show anyR (enc p.2.1) = some (.nil, []) from rfl))
  simp [Function.comp_def, this, strOf]
 ·
  show Maps.size (.map _) = _
  simp [Maps.size, length_sorted, ents, strip]
end
theorem skeys_of {cm : Fm CellV} {m : List ChgV} (hp : (cm.map toChg).Perm m) (hu : UpC m) : skeys cm = m.map ChgV.key := by
 have h1 : (cm.map fun p => p.1.data.toList).Perm (m.map fun c => c.key.data.toList) := by
  have := hp.map (fun c : ChgV => c.key.data.toList)
  rw [List.map_map] at this
  exact this
 have h2 : (m.map fun c => c.key.data.toList).mergeSort leB = m.map fun c => c.key.data.toList := by
  refine List.mergeSort_of_pairwise (List.pairwise_map.2 (hu.imp fun {a b} hab => ?_))
  rw [clt_eq, decide_eq_true_eq] at hab
  simp only [leB, decide_eq_true_eq]
  exact List.not_lt.1 (List.lt_asymm hab)
 rw [skeys, mergeSort_of_perm h1, h2, List.map_map]
 exact List.map_congr_left (fun b _ => rfl)
theorem look_of {cm : Fm CellV} {m : List ChgV} (hp : (cm.map toChg).Perm m) (hu : UpC m) {c : ChgV} (hc : c ∈ m) : mlook cm c.key = some (c.s, c.gone) := by
 have ho : Once cm := by
  have h1 : m.Pairwise (fun x y => x.key ≠ y.key) := hu.imp fun {a b} h => clt_ne h
  have h2 := (hp.symm.pairwise_iff (R := fun x y : ChgV => x.key ≠ y.key) (fun {x y} h => Ne.symm h)).1 h1
  exact (List.pairwise_map (f := toChg) (R := fun x y : ChgV => x.key ≠ y.key)).1 h2
 rw [mlook_iff ho]
 obtain ⟨p, hp', rfl⟩ := List.mem_map.1 (hp.mem_iff.2 hc)
 exact hp'
end Go.Proofs.YthikijlbclckdaaGreat
namespace Go.Proofs.YthikijlbclckdaaGreat
set_option maxRecDepth 100000
set_option maxHeartbeats 40000000
set_option linter.unusedSimpArgs false
set_option linter.unusedVariables false
open Go.RowKit
open Go.MapKept (Stamped)
open Go.ChangeMaps (setBlock)
def IterAt {α : Type} (w : World) (r mb : Nat) (enc : α → Value) (m todo : Fm α) : Prop :=
 ∃ (l : KL α) (ck since : Nat) (seen : Array Nat) (c0 : Nat), w.heap[mb]? = some (.map (ents enc l) ck) ∧ strip l = m ∧ Stamped (ents enc l) ck ∧ w.heap[r]? = some (.mapIter (some mb) since seen c0) ∧ (∀ x ∈ l, x.2.2 < since) ∧ since ≤ c0 ∧ since ≤ ck ∧ todo = strip (l.filter fun x => !seen.contains x.2.2)
section
variable {α : Type} {P : Program} {w : World} {enc : α → Value} {t K e : TypeId} {mb r : Nat} {m todo : Fm α}
theorem left_ents (enc : α → Value) (l : KL α) (seen : Array Nat) : leftOf (ents enc l) seen = ents enc (l.filter fun x => !seen.contains x.2.2) := by
 unfold leftOf ents
 rw [List.filter_toArray, List.filter_map]
 rfl
theorem IterAt.map (h : IterAt w r mb enc m todo) : MapAt w mb enc m := by
 obtain ⟨l, ck, _, _, _, hb, hm, hs, _⟩ := h
 exact ⟨l, ck, hb, hm, hs⟩
theorem IterAt.lt (h : IterAt w r mb enc m todo) : r < w.heap.size := by
 obtain ⟨l, ck, _, _, _, hb, hm, hs, hr, _⟩ := h
 exact heap_lt hr
theorem IterAt.same {w' : World} (h : IterAt w r mb enc m todo) (h1 : w'.heap[mb]? = w.heap[mb]?) (h2 : w'.heap[r]? = w.heap[r]?) : IterAt w' r mb enc m todo := by
 obtain ⟨l, ck, since, seen, c0, hb, hm, hs, hr, rest⟩ := h
 exact ⟨l, ck, since, seen, c0, h1.trans hb, hm, hs, h2.trans hr, rest⟩
theorem IterAt.ne (h : IterAt w r mb enc m todo) : r ≠ mb := by
 obtain ⟨l, ck, since, seen, c0, hb, hm, hs, hr, rest⟩ := h
 intro e
 rw [e, hb] at hr
 cases hr
theorem IterAt.start (h : MapAt w mb enc m) (ht : P.underlying t = some (.map K e)) :
  ∃ o, (Instr.range t (.map (some mb))).run P w = .ok (.pointer (some ⟨w.heap.size, 0, none⟩)) (w.alloc o) ∧ IterAt (w.alloc o) w.heap.size mb enc m m := by
 have hlt := h.lt
 obtain ⟨l, ck, hb, rfl, hst⟩ := h
 refine ⟨_, run_range_map w t K e mb _ ck ht hb, l, ck, ck, #[], ck, (alloc_old _ hlt).trans hb, rfl, hst, alloc_new _ _, ((stamped_ents _ _).1 hst).1, Nat.le_refl _, Nat.le_refl _, ?_⟩
 rw [List.filter_eq_self.2 (by simp)]
theorem IterAt.next (h : IterAt w r mb enc m todo) (ty : TypeId) :
  (todo = [] ∧ (Instr.next (.pointer (some ⟨r, 0, none⟩)) false ty).run P w = .ok (.tuple #[.bool false]) w) ∨
  ∃ (a : Fm α) (k : ByteArray) (x : α) (b : Fm α) (w' : World), todo = a ++ (k, x) :: b ∧ (Instr.next (.pointer (some ⟨r, 0, none⟩)) false ty).run P w = .ok (.tuple #[.bool true, .string k, enc x]) w' ∧ IterAt w' r mb enc m (a ++ b) ∧ But (fun i => i = r) w w' ∧ (Instr.entry (.pointer (some ⟨r, 0, none⟩))).run P w' = .ok (.tuple #[.string k, enc x]) w' := by
 have hne := h.ne
 obtain ⟨l, ck, since, seen, c0, hb, hm, hs, hr, hold, h1, h2, rfl⟩ := h
 have hst := (stamped_ents _ _).1 hs
 rcases run_next_at (P := P) w ty r mb since c0 seen (ents enc l) ck hr hb (fun x hx => by
  simp only [ents, List.mem_map] at hx
  obtain ⟨p, hp, rfl⟩ := hx
  exact hold p hp) h1 with ⟨h0, hrun⟩ | ⟨en, he, w1, hal, hrun⟩
 ·
  left
  rw [left_ents, ents_size] at h0
  exact ⟨by rw [List.eq_nil_of_length_eq_zero h0]; rfl, hrun⟩
 ·
  right
  rw [left_ents] at he
  simp only [ents, List.mem_map] at he
  obtain ⟨p, hp, rfl⟩ := he
  obtain ⟨a, b, hab⟩ := List.append_of_mem hp
  have hpl : p ∈ l := (List.mem_filter.1 hp).1
  have hnd : ((l.filter fun x => !seen.contains x.2.2).map (·.2.2)).Nodup := (List.filter_sublist.map _).nodup hst.2.1
  have hf : (l.filter fun x => !(seen.push p.2.2).contains x.2.2) = a ++ b := by
   have e1 : (l.filter fun x => !(seen.push p.2.2).contains x.2.2) = (l.filter fun x => !seen.contains x.2.2).filter (fun x => !(x.2.2 == p.2.2)) := by
    rw [List.filter_filter]
    congr 1
    funext x
    by_cases hq : x.2.2 = p.2.2 <;> simp [hq]
   rw [e1, hab]
   rw [hab, List.map_append, List.map_cons, List.nodup_append, List.nodup_cons] at hnd
   obtain ⟨n1, ⟨n2, n3⟩, n4⟩ := hnd
   rw [List.filter_append, List.filter_cons_of_neg (by simp)]
   rw [List.filter_eq_self.2, List.filter_eq_self.2]
   ·
    intro x hx
    simp only [Bool.not_eq_true', beq_eq_false_iff_ne]
    exact fun e => n2 (List.mem_map.2 ⟨x, hx, e⟩)
   ·
    intro x hx
    simp only [Bool.not_eq_true', beq_eq_false_iff_ne]
    exact n4 _ (List.mem_map.2 ⟨x, hx, rfl⟩) _ (by simp)
  have hr1 : w1.heap[r]? = some (.mapIter (some mb) since seen c0) := by rcases hal with rfl | rfl <;> exact hr
  have hb1 : w1.heap[mb]? = some (.map (ents enc l) ck) := by rcases hal with rfl | rfl <;> exact hb
  have g1 : (setBlock w1 r (.mapIter (some mb) since (seen.push p.2.2) ck)).heap[r]? = some (.mapIter (some mb) since (seen.push p.2.2) ck) := by
   have := heap_lt hr1
   simp [setBlock, this]
  have g2 : (setBlock w1 r (.mapIter (some mb) since (seen.push p.2.2) ck)).heap[mb]? = some (.map (ents enc l) ck) := by
   simp [setBlock, hne, hb1]
  refine ⟨strip a, p.1, p.2.1, strip b, _, ?_, hrun, ⟨l, ck, since, _, ck, g2, hm, hs, g1, hold, h2, h2, ?_⟩, ?_, ?_⟩
  ·
   rw [hab]; simp [strip]
  ·
   rw [hf]; simp [strip]
  ·
   rcases hal with rfl | rfl
   ·
    exact ⟨rfl, rfl, rfl, by simp [setBlock], fun i _ hi => by simp [setBlock, Ne.symm hi]⟩
   ·
    exact ⟨rfl, rfl, rfl, by show w.heap.size ≤ (w.drew.heap.setIfInBounds _ _).size; rw [Array.size_setIfInBounds]; exact Nat.le_refl _, fun i _ hi => by show (w.drew.heap.setIfInBounds _ _)[i]? = _; rw [Array.getElem?_setIfInBounds_ne (Ne.symm hi)]; rfl⟩
  ·
   exact run_entry_at _ r mb since seen (ents enc l) ck ⟨.string p.1, enc p.2.1, p.2.2⟩ g1 g2 (by simp only [ents, List.mem_map]; exact ⟨p, hpl, rfl⟩) (by simpa [ents, Function.comp_def] using hst.2.1)
end
end Go.Proofs.YthikijlbclckdaaGreat
namespace Go.Proofs.YthikijlbclckdaaGreat
set_option maxRecDepth 100000
set_option maxHeartbeats 40000000
set_option linter.unusedSimpArgs false
set_option linter.unusedVariables false
open Go.RowKit
theorem flat_get {n : Nat} {w : World} {v : Value} {cs : List Value} (h : FlatAt 1 w v n cs) {i : Nat} {u : Value} (hu : cs[i]? = some u) : ∃ b off cap, v = .slice (some ⟨b, off, none⟩) n cap ∧ w.cell? ⟨b, off + i, none⟩ = some u := by
 obtain ⟨a, cap, rfl, -, -, -, hcs⟩ := h
 obtain ⟨b, off, rfl, hc⟩ := hcs i u hu
 exact ⟨b, off, cap, rfl, hc⟩
theorem overIt_in (n : Nat) (hn : 1 ≤ n) (l kb vb : Nat) (w0 : World) (rs : List RowV) (ho : OverAt w0 kb vb rs) (hmax : rs.length ≤ 4194304) (J Jx : List RowV → World → Prop) (W : World) (hW : Below w0.heap.size w0 W) (hJ : AbidesFrom W.heap.size J)
  (hY : ∀ pre x W1, J pre W1 → pre.length < rs.length → rs[pre.length]? = some x → YieldAt Fence.wide (n - 1) Tryz.prog l #[.string x.1, .string x.2] W1 fun e W' =>
   (e = .returned (.bool true) ∧ J (pre ++ [x]) W' ∧ Below w0.heap.size W1 W') ∨ (e = .returned (.bool false) ∧ Jx (pre ++ [x]) W'))
  (h0 : J [] W) :
  CallsIn Fence.wide n Tryz.prog 103 #[.func (.yield l) #[] #[], .pointer (some ⟨kb, 0, none⟩), .pointer (some ⟨vb, 0, none⟩)] W fun e W' => (∃ v, e = .returned v) ∧
   ((∃ ys, ys = rs ∧ J ys W') ∨ (∃ pre, pre <+: rs ∧ Jx pre W')) := by
 have HO := hid ho
 have HW := hid hW
 obtain ⟨ku, vu, hku, hvu, hkf, hvf⟩ := ho
 have HK := hid hkf
 have HV := hid hvf
 have Hkb := hid hku
 have Hvb := hid hvu
 obtain ⟨ka, kc, rfl, hkc1, hkm, -⟩ := hkf
 obtain ⟨va, vc, rfl, hvc1, hvm, -⟩ := hvf
 unfold maxLen at hkm hvm
 have hBs : W.cell? ⟨kb, 0, none⟩ = some (.slice ka rs.length kc) := cell_of ((hW.block kb (heap_lt hku)).trans hku) 0
 clear hW hku hvu
 refine callsIn_of_wp Tryz.func103 rfl trivial ?_ rfl
 simp only [Tryz.ntmps103, List.size_toArray, List.length_cons, List.length_nil, Nat.reduceAdd, Nat.reduceSub, Array.replicate_succ, Array.replicate_zero, List.push_toArray, List.append_toArray, List.nil_append, List.cons_append]
 gi_wp2
 gi_loopw [8] (fun i wr => ∃ k : Nat, k ≤ rs.length ∧ i = .int .i64 k ∧ J (rs.take k) wr ∧ Hid (Below w0.heap.size w0 wr))
  (fun i _ => rs.length - (intOf i).toNat)
 case atStart => exact ⟨0, Nat.zero_le _, rfl, h0, HW⟩
 case round =>
  obtain ⟨k, hk, rfl, hJs, hR⟩ := hrel
  by_cases hlt : k < rs.length
  ·
   obtain ⟨⟨rk, rv⟩, hx⟩ : ∃ x, rs[k]? = some x := ⟨_, List.getElem?_eq_getElem hlt⟩
   obtain ⟨b, off, cap', he, c0⟩ := flat_get (HK.out.grow hR.out) (i := k) (u := .string rk) (by simp [keysC, hx])
   cases he
   obtain ⟨b2, off2, cap2, he, c1⟩ := flat_get (HV.out.grow hR.out) (i := k) (u := .string rv) (by simp [valsC, hx])
   cases he
   have q := cell_of ((hR.out.block vb (heap_lt Hvb.out)).trans Hvb.out) 0
   obtain ⟨fn, tmps, assign, body, hy, hR3⟩ := hY _ (rk, rv) _ hJs (by rw [List.length_take]; omega) (by rw [List.length_take, Nat.min_eq_left hk]; exact hx)
   dsimp only at hy
   have Hx := hid hx
   clear hx
   gi_wp2
   refine hR3.mono ?_
   rintro e W3 (⟨rfl, hJ3, hk3⟩ | ⟨rfl, hJx3⟩)
   ·
    gi_wp2
    go_roundw
    case rel => exact ⟨k + 1, by omega, by simp, by rw [take_snoc Hx.out]; exact hJ3, hid (hR.out.trans hk3)⟩
    case measure => simp [intOf]; omega
   ·
    gi_wp2
    refine bodyPost_ret (results_none rfl _ _ _) rfl ?_
    exact ⟨⟨_, rfl⟩, .inr ⟨rs.take (k + 1), List.take_prefix _ _, by rw [take_snoc Hx.out]; exact hJx3⟩⟩
  ·
   obtain rfl : k = rs.length := by omega
   gi_wp2
   go_end0
   exact ⟨⟨_, rfl⟩, .inl ⟨_, rfl, by rw [List.take_length] at hJs; exact hJs⟩⟩
theorem over_stops (n : Nat) (hn : 1 ≤ n) (kb vb : Nat) (w : World) (rs : List RowV) (n₀ : Nat) (w0 : World) (hn₀ : n₀ = w0.heap.size) (hw : Below w0.heap.size w0 w) (ho : OverAt w0 kb vb rs) (hmax : rs.length ≤ 4194304) :
  SeqStopsK Fence.wide n Tryz.prog 103 #[.pointer (some ⟨kb, 0, none⟩), .pointer (some ⟨vb, 0, none⟩)] (fun x : RowV => #[.string x.1, .string x.2]) (Below n₀) (fun ys => ys = rs) (fun pre => pre <+: rs) rs.length w := fun l J Jx W hW hJ _ hY h0 => by
 subst hn₀
 exact overIt_in n hn l kb vb w0 rs ho hmax J Jx W (hw.trans (hW.mono hw.size)) hJ (fun pre x W1 h1 h2 _ => hY pre x W1 h1 h2) h0
theorem map_val_inj {α : Type} {p : α → Prop} : ∀ a b : List {x : α // p x}, a.map Subtype.val = b.map Subtype.val → a = b
 | [], [], _ => rfl
 | [], _ :: _, h => by simp at h
 | _ :: _, [], h => by simp at h
 | x :: a, y :: b, h => by
  simp only [List.map_cons, List.cons.injEq] at h
  rw [Subtype.ext h.1, map_val_inj a b h.2]
theorem over_stopsP {p : RowV → Prop} (n : Nat) (hn : 1 ≤ n) (kb vb : Nat) (w : World) (rs : List {x : RowV // p x}) (n₀ : Nat) (w0 : World) (hn₀ : n₀ = w0.heap.size) (hw : Below w0.heap.size w0 w) (ho : OverAt w0 kb vb (rs.map Subtype.val)) (hmax : rs.length ≤ 4194304) :
  SeqStopsK Fence.wide n Tryz.prog 103 #[.pointer (some ⟨kb, 0, none⟩), .pointer (some ⟨vb, 0, none⟩)] (fun x : {x : RowV // p x} => #[.string x.1.1, .string x.1.2]) (Below n₀) (fun ys => ys = rs) (fun pre => pre <+: rs) rs.length w := fun l J Jx W hW hJ hJx hY h0 => by
 subst hn₀
 have inj := @map_val_inj RowV p
 refine (overIt_in n hn l kb vb w0 (rs.map Subtype.val) ho (by rw [List.length_map]; exact hmax) (fun pre W => ∃ q : List {x : RowV // p x}, pre = q.map Subtype.val ∧ J q W) (fun pre W => ∃ q : List {x : RowV // p x}, pre = q.map Subtype.val ∧ Jx q W) W (hw.trans (hW.mono hw.size))
  (fun s A B row hs hg hr => by obtain ⟨q, e, h⟩ := hs; exact ⟨q, e, hJ q A B row h hg hr⟩) (fun pre x W1 h1 h2 h3 => ?_) ⟨[], rfl, h0⟩).mono ?_
 ·
  obtain ⟨q, rfl, h⟩ := h1
  rw [List.length_map] at h2 h3
  rw [List.length_map] at h2
  rw [List.getElem?_map] at h3
  obtain ⟨y, hy, rfl⟩ := Option.map_eq_some_iff.1 h3
  obtain ⟨fn, tmps, assign, body, e, hR⟩ := hY q y W1 h h2
  refine ⟨fn, tmps, assign, body, e, hR.mono ?_⟩
  rintro e W3 (⟨rfl, a, b⟩ | ⟨rfl, a⟩)
  ·
   exact .inl ⟨rfl, ⟨q ++ [y], by simp, a⟩, b⟩
  ·
   exact .inr ⟨rfl, q ++ [y], by simp, a⟩
 ·
  rintro e W3 ⟨hv, (⟨ys, hys, q, rfl, h⟩ | ⟨pre, hpre, q, rfl, h⟩)⟩
  ·
   exact ⟨hv, .inl ⟨q, inj _ _ hys, h⟩⟩
  ·
   refine ⟨hv, .inr ⟨q, ?_, h⟩⟩
   obtain ⟨t, ht⟩ := hpre
   refine ⟨rs.drop q.length, ?_⟩
   apply inj
   have e1 : (rs.map Subtype.val).drop q.length = t := by rw [← ht, List.drop_left' (by simp)]
   rw [List.map_append, List.map_drop, e1, ht]
end Go.Proofs.YthikijlbclckdaaGreat
namespace Go.Proofs.YthikijlbclckdaaGreat
set_option maxRecDepth 100000
set_option maxHeartbeats 40000000
set_option linter.unusedSimpArgs false
set_option linter.unusedVariables false
open Go.RowKit Go.Shelf
attribute [local go_sem] Oper.semAt_some
structure CK (A B : World) : Prop where
 size : A.heap.size ≤ B.heap.size
 cells : ∀ (b : Nat) (cs : Array Value) (t : TypeId) (fr : Nat × Nat), A.heap[b]? = some (.cells cs t fr) → B.heap[b]? = some (.cells cs t fr)
theorem CK.refl (A : World) : CK A A := ⟨Nat.le_refl _, fun _ _ _ _ h => h⟩
theorem CK.trans {A B C : World} (h : CK A B) (k : CK B C) : CK A C := ⟨Nat.le_trans h.size k.size, fun b cs t fr hb => k.cells b cs t fr (h.cells b cs t fr hb)⟩
theorem CK.of {A B : World} (h : Below A.heap.size A B) : CK A B := ⟨h.size, fun b _ _ _ hb => (h.block b (heap_lt hb)).trans hb⟩
theorem CK.of_but {F : Nat → Prop} {A B : World} (h : But F A B) (hF : ∀ k, F k → ∀ cs t fr, A.heap[k]? ≠ some (.cells cs t fr)) : CK A B := ⟨h.size, fun b cs t fr hb => (h.block b (heap_lt hb) (fun hf => hF b hf cs t fr hb)).trans hb⟩
theorem CK.cell {A B : World} (h : CK A B) {a : Addr} {v : Value} (hc : A.cell? a = some v) : B.cell? a = some v := by
 have hh : ∃ cs t fr, A.heap[a.block]? = some (.cells cs t fr) := by
  unfold World.cell? at hc
  split at hc
  ·
   rename_i c t fr hb
   exact ⟨c, t, fr, hb⟩
  ·
   cases hc
 obtain ⟨cs, t, fr, hb⟩ := hh
 rw [World.cell?_of_block (w := A) ((h.cells _ _ _ _ hb).trans hb.symm)]
 exact hc
theorem FlatAt.ck {size n : Nat} {w w' : World} {v : Value} {cs : List Value} (h : FlatAt size w v n cs) (hb : CK w w') : FlatAt size w' v n cs := by
 obtain ⟨a, cap, hv, h1, h2, h3, h4⟩ := h
 refine ⟨a, cap, hv, h1, h2, h3, fun j u hu => ?_⟩
 obtain ⟨b, off, ha, hc⟩ := h4 j u hu
 exact ⟨b, off, ha, hb.cell hc⟩
theorem ck_t {A B C : World} (h : CK A B) (k : CK B C) : CK A C := h.trans k
theorem ck_b {w : World} (W : World) (l : Nat) (o o' : Obj) (_ : w.heap.size ≤ l) (h : W.heap[l]? = some o) (hc : o.isCells = false) (_ : o.isWalk = false) : CK W (W.putObj l o') :=
 ⟨by simp [World.putObj], fun b cs t fr hb => by
  have hne : b ≠ l := fun e => by subst e; rw [h] at hb; cases hb; cases hc
  exact (World.putObj_heap_other hne).trans hb⟩
theorem rowsIt_ck (n : Nat) (hn : 1 ≤ n) (l lc : Nat) (w0 : World) (v : Value) (rs : List RowV) (hlc : w0.cell? ⟨lc, 0, none⟩ = some v) (hv : rowsF rs v w0) (hmax : rs.length ≤ 4194304) (J Jx : List RowV → World → Prop) (W : World) (hW : CK w0 W) (hJ : AbidesFrom W.heap.size J)
  (hY : ∀ pre x W1, J pre W1 → pre.length < rs.length → rs[pre.length]? = some x → YieldAt Fence.wide (n - 1) Tryz.prog l #[.string x.1, .string x.2] W1 fun e W' =>
   (e = .returned (.bool true) ∧ J (pre ++ [x]) W' ∧ CK W1 W') ∨ (e = .returned (.bool false) ∧ Jx (pre ++ [x]) W'))
  (h0 : J [] W) :
  CallsIn Fence.wide n Tryz.prog 27 #[.func (.yield l) #[] #[], .pointer (some ⟨lc, 0, none⟩)] W fun e W' => (∃ v, e = .returned v) ∧
   ((∃ ys, ys = rs ∧ J ys W') ∨ (∃ pre, pre <+: rs ∧ Jx pre W')) := by
 have HV := hid hv
 have HW := hid hW
 have hBs : W.cell? ⟨lc, 0, none⟩ = some v := hW.cell hlc
 obtain ⟨a, cap, rfl, hlc1, hlm, -⟩ := hv
 unfold maxLen at hlm
 clear hW
 refine callsIn_of_wp Tryz.func27 rfl trivial ?_ rfl
 simp only [Tryz.ntmps27, List.size_toArray, List.length_cons, List.length_nil, Nat.reduceAdd, Nat.reduceSub, Array.replicate_succ, Array.replicate_zero, List.push_toArray, List.append_toArray, List.nil_append, List.cons_append]
 gi_wp2
 gi_loopw [7] (fun i wr => ∃ k : Nat, k ≤ rs.length ∧ i = .int .i64 k ∧ J (rs.take k) wr ∧ Hid (CK w0 wr ∧ W.heap.size ≤ wr.heap.size))
  (fun i _ => rs.length - (intOf i).toNat)
 case atStart => exact ⟨0, Nat.zero_le _, rfl, h0, ⟨HW.out, Nat.le_refl _⟩⟩
 case round =>
  obtain ⟨k, hk, rfl, hJs, hR⟩ := hrel
  by_cases hlt : k < rs.length
  ·
   obtain ⟨⟨rk, rv⟩, hx⟩ : ∃ x, rs[k]? = some x := ⟨_, List.getElem?_eq_getElem hlt⟩
   obtain ⟨b, off, cap', he, c0, c1⟩ := rows_at (FlatAt.ck HV.out hR.out.1) hx
   cases he
   dsimp only at c0 c1
   have hJ' : J (rs.take k) (wr.alloc (.cells #[.string rk, .string rv] 69)) := hJ _ _ _ none hJs (grown_new _ _) (fun r e => by cases e)
   have hR' : Hid (CK w0 (wr.alloc (.cells #[.string rk, .string rv] 69)) ∧ W.heap.size ≤ (wr.alloc (.cells #[.string rk, .string rv] 69)).heap.size) := ⟨hR.out.1.trans (.of ((Below.refl _ _).alloc (Nat.le_refl _) _)), by rw [World.size_alloc]; have := hR.out.2; omega⟩
   obtain ⟨fn, tmps, assign, body, hy, hR3⟩ := hY _ (rk, rv) _ hJ' (by rw [List.length_take]; omega) (by rw [List.length_take, Nat.min_eq_left hk]; exact hx)
   dsimp only at hy
   have Hx := hid hx
   clear hx
   gi_wp2
   refine hR3.mono ?_
   rintro e W3 (⟨rfl, hJ3, hk3⟩ | ⟨rfl, hJx3⟩)
   ·
    gi_wp2
    go_roundw
    case rel => exact ⟨k + 1, by omega, by simp, by rw [take_snoc Hx.out]; exact hJ3, ⟨hR'.out.1.trans hk3, Nat.le_trans hR'.out.2 hk3.size⟩⟩
    case measure => simp [intOf]; omega
   ·
    gi_wp2
    refine bodyPost_ret (results_none rfl _ _ _) rfl ?_
    exact ⟨⟨_, rfl⟩, .inr ⟨rs.take (k + 1), List.take_prefix _ _, by rw [take_snoc Hx.out]; exact hJx3⟩⟩
  ·
   obtain rfl : k = rs.length := by omega
   gi_wp2
   go_end0
   exact ⟨⟨_, rfl⟩, .inl ⟨_, rfl, by rw [List.take_length] at hJs; exact hJs⟩⟩
theorem rows_ck (n : Nat) (hn : 1 ≤ n) (lc : Nat) (w : World) (v : Value) (rs : List RowV) (hlc : w.cell? ⟨lc, 0, none⟩ = some v) (hv : rowsF rs v w) (hmax : rs.length ≤ 4194304) :
  SeqStopsK Fence.wide n Tryz.prog 27 #[.pointer (some ⟨lc, 0, none⟩)] (fun x : RowV => #[.string x.1, .string x.2]) CK (fun ys => ys = rs) (fun pre => pre <+: rs) rs.length w := fun l J Jx W hW hJ _ hY h0 =>
 rowsIt_ck n hn l lc w v rs hlc hv hmax J Jx W (.of hW) hJ (fun pre x W1 h1 h2 _ => hY pre x W1 h1 h2) h0
end Go.Proofs.YthikijlbclckdaaGreat
namespace Go.Proofs.YthikijlbclckdaaGreat
set_option maxRecDepth 100000
set_option maxHeartbeats 40000000
set_option linter.unusedSimpArgs false
set_option linter.unusedVariables false
open Go.RowKit
theorem rows_rise {s : StateV} (h : mayB s = true) {i : Nat} {r q : RowV} (hr : (rows s)[i + 1]? = some r) (hq : (rows s)[i]? = some q) : ltS q.1 r.1 = true := by
 have h2 : rowsB (rows s) = true := by
  unfold mayB at h
  exact (Bool.and_eq_true _ _ ▸ h).2
 unfold rowsB at h2
 rw [List.all_eq_true] at h2
 have hlt : i + 1 < (rows s).length := by
  rcases Nat.lt_or_ge (i + 1) (rows s).length with h | h
  ·
   exact h
  ·
   rw [List.getElem?_eq_none h] at hr; cases hr
 have h3 := h2 (i + 1) (List.mem_range.2 hlt)
 simp only [rOk, hr, hq, Bool.and_eq_true] at h3
 exact h3.2
theorem rows_count (s : StateV) : (rows s).length = 1 + s.procs.length + s.insts.length + s.tokens.length + s.jobs.length + s.timers.length + s.subs.length + s.kept.length + s.listed.length + s.msgs.length := by
 unfold rows lists
 simp only [List.flatten_cons, List.flatten_nil, List.length_append, List.length_map, List.length_cons, List.length_nil]
 omega
end Go.Proofs.YthikijlbclckdaaGreat
