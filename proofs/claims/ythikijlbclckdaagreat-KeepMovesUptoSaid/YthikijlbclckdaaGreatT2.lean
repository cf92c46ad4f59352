/- Keep: contracts (B Wi Kb J). -/
import Derived.Test.YthikijlbclckdaaGreatT1
import Derived.Deep.AppendLies
import Derived.Test.YthikijlbclckdaaGreatProg
import Derived.KernelRfl
import Derived.WalkLawsBesides
import Derived.Lib.Hide
import Derived.Lib.Varint
import Derived.Laws.Bits64
import Derived.Lib.UnsafeStr
import Derived.Laws.IdiomStrings
import Derived.Laws.MakeOwn
namespace Go.Proofs.YthikijlbclckdaaGreat
set_option maxRecDepth 100000
set_option maxHeartbeats 40000000
set_option linter.unusedSimpArgs false
set_option linter.unusedVariables false
open Go.RowKit
theorem app1 {P : Program} {ops : Array Oper} {rest : List Oper} {o : Oper} {a : Act} {Q : Exit → Act → World → Prop} {W : World} (t e : TypeId) {z : Value} {size bytes : Nat} (ht : P.underlying t = some (.slice e))
  (hinfo : (P.info? e).map (fun i => (i.zero, i.size, i.bytes)) = some (some z, size, bytes)) (hzs : z.cells.size = size) (hsz : 0 < size)
  {base n : Nat} {v : Value} {xs : List Value} (hown : W.ownsRow base e size v n xs) (hbase : base ≤ W.heap.size) (hn : n + 1 ≤ maxLen) (hby : (n + 1) * bytes ≤ 140737488355328)
  {s x : Operand} {cs : Array Value} (hgd : o.guard = none) (ho : o.op = .call { callee := .builtin .append, args := #[s, x], argTypes := #[t, t] }) (hs : a.eval s = v)
  (hx : a.eval x = .slice (some ⟨W.heap.size, 0, none⟩) 1 1) (hcs : cs.size = size) (h1 : ∀ u ∈ cs.toList, u.oneCell' = true)
  (h : ∀ v' w', w'.ownsRow base e size v' (n + 1) (xs ++ cs.toList) → Below base W w' → wpList P ops Q rest (a.put o.dst v') w') :
  wpList P ops Q (o :: rest) a (W.alloc (.cells cs e)) := by
 obtain ⟨i0, hi, hzz⟩ := Option.map_eq_some_iff.1 hinfo
 simp only [Prod.mk.injEq] at hzz
 obtain ⟨hz0, hz1, hz2⟩ := hzz
 refine wpList_append_own (W.alloc (.cells cs e)) hgd s x t ho base e i0 z size bytes ht hi hz0 hz1 hz2 hzs hsz v n xs hs (hown.alloc _) ⟨W.heap.size, 0, none⟩ 1 1 cs.toList hx (by simpa using hcs)
  (World.news_of_block (cs := cs) (t := e) (fr := (0, 0)) (heap_alloc_new W _)) h1 hn hby (by simp; omega) ?_
 intro v' w' hown' hg _
 exact h v' w' hown' (((Below.refl base W).alloc hbase _).grown hg (by simp; omega) (fun k hk => (hown.lt k hk).1))
theorem own_slice {w : World} {base e size n : Nat} {v : Value} {xs : List Value} (h : w.ownsRow base e size v n xs) : ∃ a c, v = .slice a n c := by
 rcases h.2 with ⟨rfl, rfl⟩ | ⟨g, cap, cur, rfl, _⟩
 ·
  exact ⟨none, 0, rfl⟩
 ·
  exact ⟨_, cap, rfl⟩
end Go.Proofs.YthikijlbclckdaaGreat
namespace Go.Proofs.YthikijlbclckdaaGreat
set_option maxRecDepth 100000
set_option maxHeartbeats 40000000
set_option linter.unusedSimpArgs false
set_option linter.unusedVariables false
open Go.RowKit
def uvS (x : Nat) : ByteArray := ⟨(Lib.uvarint x).toArray⟩
theorem uvS_size (x : Nat) : (uvS x).size = (Lib.uvarint x).length := by simp [uvS, ByteArray.size]
theorem info_u8 : (Tryz.prog.info? 5).map (fun i => (i.zero, i.size, i.bytes)) = some (some (.int .u8 0), 1, 1) := by kernel_rfl
theorem bytes_row {w : World} {base e n : Nat} {v : Value} {l : List UInt8} (h : w.ownsRow base e 1 v n (Lib.byteCells l)) (hl : 0 < l.length) :
  ∃ g cap, v = .slice (some ⟨g, 0, none⟩) l.length cap ∧ ∀ j (hj : j < l.length), w.cell? ((⟨g, 0, none⟩ : Addr).add j) = some (.int .u8 (l[j].toNat : Int)) := by
 have hn : l.length = n := by have := h.1; rw [Lib.byteCells_length] at this; omega
 rcases h.2 with ⟨rfl, rfl⟩ | ⟨g, cap, cur, rfl, _, hh, hnc, hcm, hsz, htk⟩
 ·
  omega
 ·
  refine ⟨g, cap, by rw [hn], fun j hj => ?_⟩
  have e : (⟨g, 0, none⟩ : Addr).add j = ⟨g, j, none⟩ := by
   by_cases hj0 : j = 0 <;> simp [Addr.add, hj0]
  rw [e, cell_of hh]
  have h1 : (Lib.byteCells l)[j]? = some (.int .u8 (l[j].toNat : Int)) := by simp [Lib.byteCells, hj]
  rw [← htk, List.getElem?_take] at h1
  split at h1
  ·
   simpa using h1
  ·
   cases h1
theorem byteCells_snoc (pre : List UInt8) {n : Nat} (hn : n < 256) : Lib.byteCells (pre ++ [n.toUInt8]) = Lib.byteCells pre ++ [.int .u8 (n : Int)] := by
 have h : n.toUInt8.toNat = n := by simp [Nat.toUInt8, UInt8.toNat_ofNat']; omega
 simp [Lib.byteCells, h]
theorem wuint_any (x : Nat) (hx : x < 18446744073709551616) (w : World) :
  Calls Tryz.prog 111 #[.int .u64 x] w fun e w' => e = .returned (.string (uvS x)) ∧ Below w.heap.size w w' := by
 have hlen := Lib.uvarint_length64 hx
 go_enter Tryz.func111, Tryz.ntmps111
 go_wp2
 go_loopw [0, 3] (fun vx vb wr => ∃ (y : Nat) (pre : List UInt8), vx = .int .u64 y ∧ Hid (y ≤ x ∧ Lib.uvarint x = pre ++ Lib.uvarint y ∧ wr.ownsRow w.heap.size 5 1 vb pre.length (Lib.byteCells pre) ∧ Below w.heap.size w wr))
  (fun vx _ _ => (intOf vx).toNat)
 case atStart => exact ⟨x, [], rfl, Nat.le_refl _, rfl, World.ownsRow_nil _ _ _ _, Below.refl _ _⟩
 case round =>
  obtain ⟨y, pre, rfl, hR⟩ := hrel
  have hy := hR.out.1
  have hws := hR.out.2.2.2.size
  have hpl : pre.length + (Lib.uvarint y).length ≤ 10 := by
   have h2 := congrArg List.length hR.out.2.1
   rw [List.length_append] at h2
   omega
  have hyp := Lib.uvarint_pos y
  by_cases h128 : 128 ≤ y
  ·
   have hor : bits .or .u8 ((y : Int) % 256) 128 = ((y % 128 + 128 : Nat) : Int) := by
    rw [Lib.u8_or128_any _ (by omega) (by omega)]
    omega
   go_wp2_with (at_builtin; refine app1 184 5 Tryz.underlying184 info_u8 rfl (by decide) hR.out.2.2.1 hws (by unfold maxLen; omega) (by omega) rfl rfl rfl rfl rfl (by simp [Value.oneCell']) ?_; intro v' w4 hown4 hb4)
   refine ⟨⟨y / 128, pre ++ [(y % 128 + 128).toUInt8], by go_num, by omega, by rw [hR.out.2.1, Lib.uvarint_big h128]; simp, ?_, hR.out.2.2.2.trans hb4⟩, by simp [intOf]; omega⟩
   rw [byteCells_snoc pre (by omega), List.length_append, List.length_singleton]
   exact hown4
  ·
   have hsm : Lib.uvarint y = [y.toUInt8] := Lib.uvarint_small (by omega)
   go_wp2_with (at_builtin; refine app1 184 5 Tryz.underlying184 info_u8 rfl (by decide) hR.out.2.2.1 hws (by unfold maxLen; omega) (by omega) rfl rfl rfl rfl rfl (by simp [Value.oneCell']) ?_; intro v' w4 hown4 hb4)
   have hfin : w4.ownsRow w.heap.size 5 1 v' (pre.length + 1) (Lib.byteCells (Lib.uvarint x)) := by
    rw [hR.out.2.1, hsm, byteCells_snoc pre (by omega)]
    exact hown4
   obtain ⟨g, cap, rfl, hc⟩ := bytes_row hfin (by have := Lib.uvarint_pos x; omega)
   rw [run_convert_bytes_back w4 _ _ 5 ⟨g, 0, none⟩ cap (Lib.uvarint x) Tryz.underlying184 Tryz.underlying5 Tryz.underlying9 hc]
   simp only [Result.andThen]
   rw [Oper.upon_value]
   go_wp2
   go_ret
   exact ⟨rfl, hR.out.2.2.2.trans hb4⟩
def zig (x : Int) : Nat := if 0 ≤ x then (2 * x).toNat else (-2 * x - 1).toNat
theorem xor_ones (a : Nat) (ha : a < 18446744073709551616) : a ^^^ 18446744073709551615 = 18446744073709551615 - a := by
 have h := congrArg BitVec.toNat (BitVec.xor_allOnes (x := BitVec.ofNat 64 a))
 simp only [BitVec.toNat_xor, BitVec.toNat_ofNat, BitVec.toNat_allOnes, BitVec.toNat_not, Nat.reducePow, Nat.reduceSub, Nat.mod_eq_of_lt ha] at h
 exact h
theorem zig_pos (n : Nat) (hn : n ≤ 9223372036854775807) : bits .xor .u64 ((n : Int) * 2) ((n : Int) / 9223372036854775808) = ((zig n : Nat) : Int) := by
 have e1 : ((n : Int) * 2) = ((n * 2 : Nat) : Int) := by omega
 have e2 : ((n : Int) / 9223372036854775808) = ((0 : Nat) : Int) := by omega
 rw [e1, e2, bits_xor_u64_nat _ _ (by omega) (by omega), Nat.xor_zero]
 unfold zig
 rw [if_pos (by omega)]
 omega
theorem zig_neg (x : Int) (h0 : x < 0) (h1 : -9223372036854775808 ≤ x) : bits .xor .u64 (IntKind.u64.wrap (IntKind.u64.wrap x * 2)) (IntKind.u64.wrap (x / 9223372036854775808)) = ((zig x : Nat) : Int) := by
 rw [IntKind.wrap_u64, IntKind.wrap_u64, IntKind.wrap_u64]
 have e1 : (x % 18446744073709551616 * 2 % 18446744073709551616) = ((18446744073709551616 + 2 * x).toNat : Int) := by omega
 have e2 : (x / 9223372036854775808 % 18446744073709551616) = ((18446744073709551615 : Nat) : Int) := by omega
 rw [e1, e2, bits_xor_u64_nat _ _ (by omega) (by omega), xor_ones _ (by omega)]
 unfold zig
 rw [if_neg (by omega)]
 omega
theorem zig_lt (x : Int) (h1 : -9223372036854775808 ≤ x) (h2 : x ≤ 9223372036854775807) : zig x < 18446744073709551616 := by
 unfold zig
 split <;> omega
theorem wint_any (x : Int) (h1 : -9223372036854775808 ≤ x) (h2 : x ≤ 9223372036854775807) (w : World) :
  Calls Tryz.prog 115 #[.int .i64 x] w fun e w' => e = .returned (.string (uvS (zig x))) ∧ Below w.heap.size w w' := by
 have hz := zig_lt x h1 h2
 by_cases h0 : 0 ≤ x
 ·
  obtain ⟨n, rfl⟩ := Int.eq_ofNat_of_zero_le h0
  have hq := hid (zig_pos n (by omega))
  go_enter Tryz.func115, Tryz.ntmps115
  go_wp2_with fail
  rw [hq.out]
  refine (wuint_any (zig n) hz w).mono ?_
  rintro e w1 ⟨rfl, b1⟩
  go_wp2
  go_ret
  exact ⟨rfl, b1⟩
 ·
  have hq := hid (zig_neg x (by omega) h1)
  go_enter Tryz.func115, Tryz.ntmps115
  go_wp2_with fail
  rw [hq.out]
  refine (wuint_any (zig x) hz w).mono ?_
  rintro e w1 ⟨rfl, b1⟩
  go_wp2
  go_ret
  exact ⟨rfl, b1⟩
def txS (s : ByteArray) : ByteArray := uvS s.size ++ s
theorem wtext_any (s : ByteArray) (hs : s.size ≤ 140737488355328) (w : World) :
  Calls Tryz.prog 114 #[.string s] w fun e w' => e = .returned (.string (txS s)) ∧ Below w.heap.size w w' := by
 have hz := uvS_size s.size
 have hl := Lib.uvarint_length64 (show s.size < 18446744073709551616 by omega)
 go_enter Tryz.func114, Tryz.ntmps114
 go_wp2_with fail
 refine (wuint_any s.size (by omega) w).mono ?_
 rintro e w1 ⟨rfl, b1⟩
 go_wp2
 go_ret
 exact ⟨rfl, b1⟩
theorem uv_step (y : Nat) (h : 128 ≤ y) : (⟨#[(y % 128 + 128).toUInt8]⟩ : ByteArray) ++ uvS (y / 128) = uvS y := by
 unfold uvS
 rw [Lib.uvarint_big h]
 apply ByteArray.ext
 simp
theorem one_byte (w : World) (n : Nat) (z : Int) (c : ByteArray) (hn : n < 256) (hz : z = n) (hc : c = ⟨#[n.toUInt8]⟩) : (convert 184 9 (.slice (some ⟨w.heap.size, 0, none⟩) 1 1)).run Tryz.prog (w.alloc (.cells #[.int .u8 z] 5)) = .ok (.string c) (w.alloc (.cells #[.int .u8 z] 5)) := by
 subst hc
 have h : n.toUInt8.toNat = n := by simp [Nat.toUInt8, UInt8.toNat_ofNat']; omega
 subst hz
 refine run_convert_bytes_back _ _ _ 5 ⟨w.heap.size, 0, none⟩ 1 [n.toUInt8] Tryz.underlying184 Tryz.underlying5 Tryz.underlying9 ?_
 intro j hj
 have : j = 0 := by simp at hj; exact hj
 subst this
 simp [h, Addr.add]
theorem ruint_any (x : Nat) (hx : x < 18446744073709551616) (w : World) :
  Calls Tryz.prog 119 #[.int .u64 x] w fun e w' => e = .returned (.string (uvS x)) ∧ Below w.heap.size w w' := by
 go_enter Tryz.func119, Tryz.ntmps119
 go_wp2
 go_loopw [0, 3] (fun vx vs wr => ∃ (y : Nat) (pre : ByteArray), vx = .int .u64 y ∧ vs = .string pre ∧ Hid (y ≤ x ∧ pre ++ uvS y = uvS x ∧ Below w.heap.size w wr))
  (fun vx _ _ => (intOf vx).toNat)
 case atStart => exact ⟨x, ⟨#[]⟩, rfl, rfl, Nat.le_refl _, ByteArray.empty_append, Below.refl _ _⟩
 case round =>
  obtain ⟨y, pre, rfl, rfl, hR⟩ := hrel
  have hy := hR.out.1
  have hws := hR.out.2.2.size
  have hlx := uvS_size x
  have hly := uvS_size y
  have hl2 := Lib.uvarint_length64 hx
  have hsz := congrArg ByteArray.size hR.out.2.1
  rw [ByteArray.size_append] at hsz
  by_cases h128 : 128 ≤ y
  ·
   have hst := hid (uv_step y h128)
   obtain ⟨c, hc⟩ : ∃ c : ByteArray, c = ⟨#[(y % 128 + 128).toUInt8]⟩ := ⟨_, rfl⟩
   have Hc := hid hc
   have hcs : c.size = 1 := by rw [hc]; rfl
   clear hc
   go_wp2_with fail
   rw [one_byte wr (y % 128 + 128) _ c (by omega) (by omega) Hc.out]
   simp only [Result.andThen]
   rw [Oper.upon_value]
   go_wp2
   refine ⟨⟨y / 128, pre ++ c, by go_num, rfl, by omega, ?_, hR.out.2.2.alloc hws _⟩, by simp [intOf]; omega⟩
   rw [ByteArray.append_assoc, Hc.out, hst.out]
   exact hR.out.2.1
  ·
   obtain ⟨c, hc⟩ : ∃ c : ByteArray, c = ⟨#[y.toUInt8]⟩ := ⟨_, rfl⟩
   have Hc := hid hc
   have hcs : c.size = 1 := by rw [hc]; rfl
   clear hc
   have hfin : Hid (pre ++ c = uvS x) := by
    have e : uvS y = c := by unfold uvS; rw [Lib.uvarint_small (by omega), Hc.out]
    show _ = _
    rw [← hR.out.2.1, e]
   go_wp2_with fail
   rw [one_byte wr y _ c (by omega) rfl Hc.out]
   simp only [Result.andThen]
   rw [Oper.upon_value]
   go_wp2
   go_ret
   rw [hfin.out]
   exact ⟨rfl, hR.out.2.2.alloc hws _⟩
theorem rint_any (x : Int) (h1 : -9223372036854775808 ≤ x) (h2 : x ≤ 9223372036854775807) (w : World) :
  Calls Tryz.prog 121 #[.int .i64 x] w fun e w' => e = .returned (.string (uvS (zig x))) ∧ Below w.heap.size w w' := by
 have hz := zig_lt x h1 h2
 by_cases h0 : 0 ≤ x
 ·
  obtain ⟨n, rfl⟩ := Int.eq_ofNat_of_zero_le h0
  have hq : Hid ((2 * (n : Int)) = ((zig n : Nat) : Int)) := by show _ = _; unfold zig; rw [if_pos (by omega)]; omega
  go_enter Tryz.func121, Tryz.ntmps121
  go_wp2_with fail
  rw [hq.out]
  refine (ruint_any (zig n) hz w).mono ?_
  rintro e w1 ⟨rfl, b1⟩
  go_wp2
  go_ret
  exact ⟨rfl, b1⟩
 ·
  have hq : Hid ((2 * -(x + 1) + 1) = ((zig x : Nat) : Int)) := by show _ = _; unfold zig; rw [if_neg (by omega)]; omega
  go_enter Tryz.func121, Tryz.ntmps121
  go_wp2_with fail
  rw [hq.out]
  refine (ruint_any (zig x) hz w).mono ?_
  rintro e w1 ⟨rfl, b1⟩
  go_wp2
  go_ret
  exact ⟨rfl, b1⟩
theorem r14n_any (x : Int) (h1 : -9223372036854775808 ≤ x) (h2 : x ≤ 9223372036854775807) (w : World) :
  Calls Tryz.prog 75 #[.int .i64 x] w fun e w' => e = .returned (.string (uvS (zig x))) ∧ Below w.heap.size w w' := by
 go_enter Tryz.func75, Tryz.ntmps75
 go_wp2_with fail
 refine (rint_any x h1 h2 w).mono ?_
 rintro e w1 ⟨rfl, b1⟩
 go_wp2
 go_ret
 exact ⟨rfl, b1⟩
theorem rtext_any (s : ByteArray) (hs : s.size ≤ 140737488355328) (w : World) :
  Calls Tryz.prog 120 #[.string s] w fun e w' => e = .returned (.string (txS s)) ∧ Below w.heap.size w w' := by
 have hz := uvS_size s.size
 have hl := Lib.uvarint_length64 (show s.size < 18446744073709551616 by omega)
 go_enter Tryz.func120, Tryz.ntmps120
 go_wp2_with fail
 refine (ruint_any s.size (by omega) w).mono ?_
 rintro e w1 ⟨rfl, b1⟩
 go_wp2
 go_ret
 exact ⟨rfl, b1⟩
theorem r14u_any (x : Nat) (hx : x < 18446744073709551616) (w : World) :
  Calls Tryz.prog 73 #[.int .u64 x] w fun e w' => e = .returned (.string (uvS x)) ∧ Below w.heap.size w w' := by
 go_enter Tryz.func73, Tryz.ntmps73
 go_wp2_with fail
 refine (ruint_any x hx w).mono ?_
 rintro e w1 ⟨rfl, b1⟩
 go_wp2
 go_ret
 exact ⟨rfl, b1⟩
theorem r14t_any (s : ByteArray) (hs : s.size ≤ 140737488355328) (w : World) :
  Calls Tryz.prog 74 #[.string s] w fun e w' => e = .returned (.string (txS s)) ∧ Below w.heap.size w w' := by
 go_enter Tryz.func74, Tryz.ntmps74
 go_wp2_with fail
 refine (rtext_any s hs w).mono ?_
 rintro e w1 ⟨rfl, b1⟩
 go_wp2
 go_ret
 exact ⟨rfl, b1⟩
end Go.Proofs.YthikijlbclckdaaGreat
namespace Go.Proofs.YthikijlbclckdaaGreat
set_option maxRecDepth 100000
set_option maxHeartbeats 40000000
set_option linter.unusedSimpArgs false
set_option linter.unusedVariables false
open Go.RowKit
def bigF (v : Nat) : Nat → List UInt8
 | 0 => []
 | m + 1 => bigF (v / 256) m ++ [(v % 256).toUInt8]
def bigS (v m : Nat) : ByteArray := ⟨(bigF v m).toArray⟩
theorem bigF_length (v m : Nat) : (bigF v m).length = m := by
 induction m generalizing v with
 | zero => rfl
 | succ m ih => simp [bigF, ih]
theorem bigS_size (v m : Nat) : (bigS v m).size = m := by simp [bigS, ByteArray.size, bigF_length]
theorem bigF_at (v m j : Nat) (hj : j < m) : (bigF v m)[j]? = some ((v / 256 ^ (m - 1 - j)) % 256).toUInt8 := by
 induction m generalizing v j with
 | zero => omega
 | succ m ih =>
  rw [bigF]
  by_cases h : j < m
  ·
   rw [List.getElem?_append_left (by rw [bigF_length]; exact h), ih _ _ h, Nat.div_div_eq_div_mul, ← Nat.pow_succ', Nat.succ_eq_add_one, show m - 1 - j + 1 = m + 1 - 1 - j by omega]
  ·
   have : j = m := by omega
   subst this
   rw [List.getElem?_append_right (by rw [bigF_length]; exact Nat.le_refl _), bigF_length]
   simp
theorem big_step (y m : Nat) (s : ByteArray) : bigS (y / 256) m ++ ((⟨#[(y % 256).toUInt8]⟩ : ByteArray) ++ s) = bigS y (m + 1) ++ s := by
 rw [← ByteArray.append_assoc]
 have e : bigS (y / 256) m ++ (⟨#[(y % 256).toUInt8]⟩ : ByteArray) = bigS y (m + 1) := by
  apply ByteArray.ext
  simp [bigS, bigF]
 rw [e]
theorem rbig_any (v m : Nat) (hv : v < 18446744073709551616) (hm : m ≤ 1000) (w : World) :
  Calls Tryz.prog 77 #[.int .u64 v, .int .i64 m] w fun e w' => e = .returned (.string (bigS v m)) ∧ Below w.heap.size w w' := by
 go_enter Tryz.func77, Tryz.ntmps77
 go_wp2
 go_loopw [0, 5, 6] (fun vx vs vi wr => ∃ (y i : Nat) (s : ByteArray), i ≤ m ∧ y ≤ v ∧ vx = .int .u64 y ∧ vs = .string s ∧ vi = .int .i64 i ∧ s.size = i ∧ Hid (bigS y (m - i) ++ s = bigS v m ∧ Below w.heap.size w wr))
  (fun _ _ vi _ => m - (intOf vi).toNat)
 case atStart => exact ⟨v, 0, ⟨#[]⟩, Nat.zero_le _, Nat.le_refl _, rfl, rfl, rfl, rfl, by rw [Nat.sub_zero]; exact ByteArray.append_empty, Below.refl _ _⟩
 case round =>
  obtain ⟨y, i, s, hi, hy, rfl, rfl, rfl, hs, hR⟩ := hrel
  by_cases hlt : i < m
  ·
   obtain ⟨c, hc⟩ : ∃ c : ByteArray, c = ⟨#[(y % 256).toUInt8]⟩ := ⟨_, rfl⟩
   have hcs : c.size = 1 := by rw [hc]; rfl
   have Hc := hid hc
   clear hc
   have hst : Hid (bigS (y / 256) (m - (i + 1)) ++ (c ++ s) = bigS v m) := by
    show _ = _
    rw [Hc.out, big_step, show m - (i + 1) + 1 = m - i by omega]
    exact hR.out.1
   have hsc : (c ++ s).size = i + 1 := by rw [ByteArray.size_append]; omega
   go_wp2_with fail
   rw [one_byte wr (y % 256) _ c (by omega) (by omega) Hc.out]
   simp only [Result.andThen]
   rw [Oper.upon_value]
   go_wp2
   exact ⟨⟨y / 256, i + 1, c ++ s, by omega, by omega, by go_num, rfl, by go_num, hsc, hst.out, hR.out.2.alloc hR.out.2.size _⟩, by simp [intOf]; omega⟩
  ·
   have : i = m := by omega
   subst this
   have hfin : Hid (s = bigS v i) := by
    show _ = _
    rw [← hR.out.1, Nat.sub_self]
    exact ByteArray.empty_append.symm
   go_wp2
   go_ret
   rw [hfin.out]
   exact ⟨rfl, hR.out.2⟩
def bigL (v m i : Nat) : List Nat := (List.range m).map fun j => if m - 1 - j < i then (v / 256 ^ (m - 1 - j)) % 256 else 0
theorem bigL_set (v m i : Nat) (hi : i < m) : (bigL v m i).set (m - 1 - i) ((v / 256 ^ i) % 256) = bigL v m (i + 1) := by
 apply List.ext_getElem?
 intro j
 by_cases hj : j < m
 ·
  by_cases he : m - 1 - i = j
  ·
   subst he
   rw [List.getElem?_set_self (by simp [bigL]; omega)]
   simp only [bigL, List.getElem?_map, List.getElem?_range hj, Option.map_some]
   rw [if_pos (by omega), show m - 1 - (m - 1 - i) = i by omega]
  ·
   rw [List.getElem?_set_ne he]
   simp only [bigL, List.getElem?_map, List.getElem?_range hj, Option.map_some]
   by_cases h1 : m - 1 - j < i
   ·
    rw [if_pos h1, if_pos (by omega)]
   ·
    rw [if_neg h1, if_neg (by omega)]
 ·
  rw [List.getElem?_eq_none (by simp [bigL]; omega), List.getElem?_eq_none (by simp [bigL]; omega)]
theorem bigL_all (v m : Nat) : (bigL v m m).map (fun n : Nat => Value.int .u8 (n : Int)) = Lib.byteCells (bigF v m) := by
 apply List.ext_getElem?
 intro j
 by_cases hj : j < m
 ·
  simp only [Lib.byteCells, bigL, List.getElem?_map, List.getElem?_range hj, Option.map_some, bigF_at v m j hj]
  rw [if_pos (by omega)]
  have hb : (v / 256 ^ (m - 1 - j)) % 256 < 256 := Nat.mod_lt _ (by omega)
  generalize (v / 256 ^ (m - 1 - j)) % 256 = n at hb
  have : n.toUInt8.toNat = n := by simp [Nat.toUInt8, UInt8.toNat_ofNat']; omega
  rw [this]
 ·
  rw [List.getElem?_eq_none (by simp [bigL]; omega), List.getElem?_eq_none (by simp [Lib.byteCells, bigF_length]; omega)]
def bigC (v m i : Nat) : Array Value := ((bigL v m i).map (fun n : Nat => Value.int .u8 (n : Int))).toArray
theorem bigC_made (v m : Nat) : madeCells (Value.int IntKind.u8 0).cells (m * 1) = bigC v m 0 := by
 apply Array.ext'
 apply List.ext_getElem?
 intro j
 by_cases hj : j < m
 ·
  simp [madeCells, bigC, bigL, hj, Value.cells, Nat.mod_one]
 ·
  simp [madeCells, bigC, bigL, hj]
theorem bigC_set (v m i : Nat) (hi : i < m) : (bigC v m i).setIfInBounds (m - 1 - i) (.int .u8 (((v / 256 ^ i) % 256 : Nat) : Int)) = bigC v m (i + 1) := by
 apply Array.ext'
 rw [Array.toList_setIfInBounds]
 simp only [bigC]
 rw [← bigL_set v m i hi, List.map_set]
theorem bigC_at (v m i j : Nat) (hj : j < m) : ∃ u, (bigC v m i)[j]? = some u := by
 rw [Array.getElem?_eq_getElem (by simp [bigC, bigL]; exact hj)]
 exact ⟨_, rfl⟩
theorem big_any (v m : Nat) (_hv : v < 18446744073709551616) (hm0 : 0 < m) (hm : m ≤ 8) (w : World) :
  Calls Tryz.prog 113 #[.int .u64 v, .int .i64 m] w fun e w' => e = .returned (.string (bigS v m)) ∧ Below w.heap.size w w' := by
 obtain ⟨i0, hi, hz0, hz1, hz2⟩ := info_parts info_u8
 go_enter Tryz.func113, Tryz.ntmps113
 go_wp2_with fail
 rw [run_makeSlice w _ 5 i0 _ Tryz.underlying184 hi hz0 _ _ (m : Int) (m : Int) (by omega) (by omega) (by rw [hz1]; omega) (by rw [hz2]; omega) (by omega)]
 simp only [Result.andThen]
 rw [Oper.upon_value, Int.toNat_natCast, hz1, bigC_made v m]
 go_wp2
 go_loopw [11] (fun vi wr => ∃ i : Nat, i ≤ m ∧ vi = .int .i64 i ∧ Hid (wr.heap[w.heap.size]? = some (.cells (bigC v m i) 5 (0, 0)) ∧ Below w.heap.size w wr))
  (fun vi _ => m - (intOf vi).toNat)
 case atStart => exact ⟨0, Nat.zero_le _, rfl, alloc_new _ _, (Below.refl _ _).alloc (Nat.le_refl _) _⟩
 case round =>
  obtain ⟨i, hi', rfl, hR⟩ := hrel
  by_cases hlt : i < m
  ·
   obtain ⟨u, hu⟩ := bigC_at v m i (m - 1 - i) (by omega)
   have hc := cell_of hR.out.1 (m - 1 - i)
   rw [hu] at hc
   have hf := free_of hR.out.1 (m - 1 - i)
   have hval : Hid ((v : Int) / 2 ^ (8 * i) % 256 = (((v / 256 ^ i) % 256 : Nat) : Int)) := by
    have e : (2 : Int) ^ (8 * i) = ((256 ^ i : Nat) : Int) := by rw [Int.pow_mul]; simp
    show _ = _
    rw [e]
    omega
   go_wp2
   refine ⟨⟨i + 1, by omega, rfl, ?_, hR.out.2.setCell (Nat.le_refl _) _⟩, by simp [intOf]; omega⟩
   rw [setCell_at hR.out.1, hval.out, bigC_set v m i hlt]
  ·
   have : i = m := by omega
   subst this
   have hconv : (convert 184 9 (.slice (some ⟨w.heap.size, 0, none⟩) i i)).run Tryz.prog wr = .ok (.string (bigS v i)) wr := by
    have h := run_convert_bytes_back (P := Tryz.prog) wr 184 9 5 ⟨w.heap.size, 0, none⟩ i (bigF v i) Tryz.underlying184 Tryz.underlying5 Tryz.underlying9 ?_
    ·
     rw [bigF_length] at h
     exact h
    ·
     intro j hj
     have e : (⟨w.heap.size, 0, none⟩ : Addr).add j = ⟨w.heap.size, j, none⟩ := by
      by_cases hj0 : j = 0 <;> simp [Addr.add, hj0]
     rw [e, cell_of hR.out.1, bigC, bigL_all]
     simp [Lib.byteCells, hj]
   go_wp2
   go_ret
   exact ⟨rfl, hR.out.2⟩
theorem SlR.below {w W : World} {v : Value} {vs : List Value} (h : SlR w v vs) (hb : Below w.heap.size w W) : SlR W v vs := by
 obtain ⟨a, cap, hv, h1, h2, h3⟩ := h
 refine ⟨a, cap, hv, h1, h2, fun i u hu => ?_⟩
 obtain ⟨b, off, ha, hc⟩ := h3 i u hu
 exact ⟨b, off, ha, (hb.cell (p := ⟨b, off + i, none⟩) (World.block_lt_of_cell? w _ hc)).trans hc⟩
theorem app_snoc {α : Type} (f : α → ByteArray) (l : List α) (i : Nat) (x : α) (h : l[i]? = some x) (s : ByteArray) : (l.take (i + 1)).foldl (fun s x => s ++ f x) s = (l.take i).foldl (fun s x => s ++ f x) s ++ f x := by
 rw [show l.take (i + 1) = l.take i ++ [x] by simp [List.take_add_one, h], List.foldl_append]
 rfl
def catS {α : Type} (f : α → ByteArray) (l : List α) : ByteArray := l.foldl (fun s x => s ++ f x) ⟨#[]⟩
def u64 (n : Int) : Nat := (n % 18446744073709551616).toNat
theorem u64_lt (n : Int) : u64 n < 18446744073709551616 := by unfold u64; omega
theorem u64_wrap (n : Int) : IntKind.u64.wrap n = ((u64 n : Nat) : Int) := by rw [IntKind.wrap_u64]; unfold u64; omega
def inS (x : Int) : ByteArray := uvS (zig x)
theorem wint_in (x : Int) (h1 : -9223372036854775808 ≤ x) (h2 : x ≤ 9223372036854775807) (w : World) :
  Calls Tryz.prog 115 #[.int .i64 x] w fun e w' => e = .returned (.string (inS x)) ∧ Below w.heap.size w w' := wint_any x h1 h2 w
theorem rn_in (x : Int) (h1 : -9223372036854775808 ≤ x) (h2 : x ≤ 9223372036854775807) (w : World) :
  Calls Tryz.prog 75 #[.int .i64 x] w fun e w' => e = .returned (.string (inS x)) ∧ Below w.heap.size w w' := r14n_any x h1 h2 w
theorem rint_in (x : Int) (h1 : -9223372036854775808 ≤ x) (h2 : x ≤ 9223372036854775807) (w : World) :
  Calls Tryz.prog 121 #[.int .i64 x] w fun e w' => e = .returned (.string (inS x)) ∧ Below w.heap.size w w' := rint_any x h1 h2 w
theorem u_any (v : Value) (xs : List Nat) (w : World) (h : SlR w v (xs.map (fun n : Nat => Value.int .u64 (n : Int)))) (hl : xs.length ≤ 2097152) (hx : ∀ x ∈ xs, x < 18446744073709551616) :
  Calls Tryz.prog 48 #[v] w fun e w' => e = .returned (.string (catS uvS xs)) ∧ Below w.heap.size w w' := by
 have hxl : (xs.map (fun n : Nat => Value.int .u64 (n : Int))).length = xs.length := by simp
 have H := hid h
 have HX := hid hx
 obtain ⟨a, cap, rfl, h1, h2, -⟩ := h
 rw [hxl] at h1 h2
 clear hx
 unfold maxLen at h1
 rw [hxl]
 go_enter Tryz.func48, Tryz.ntmps48
 go_wp2
 go_loopw [3, 8] (fun vs vi wr => ∃ (i : Nat) (s : ByteArray), i ≤ xs.length ∧ vs = .string s ∧ vi = .int .i64 i ∧ s.size ≤ i * 10 ∧ Hid (s = catS uvS (xs.take i) ∧ Below w.heap.size w wr))
  (fun _ vi _ => xs.length - (intOf vi).toNat)
 case atStart => exact ⟨0, ⟨#[]⟩, Nat.zero_le _, rfl, rfl, Nat.zero_le _, rfl, Below.refl _ _⟩
 case round =>
  obtain ⟨i, s, hi, rfl, rfl, hsz, hR⟩ := hrel
  by_cases hlt : i < xs.length
  ·
   have hxi : xs[i]? = some xs[i] := List.getElem?_eq_getElem hlt
   have hm := HX.out _ (List.getElem_mem hlt)
   generalize xs[i] = x at hxi hm
   obtain ⟨a', cap', hv, -, -, hcell⟩ := H.out.below hR.out.2
   cases hv
   obtain ⟨b, off, rfl, hc⟩ := hcell i ((fun n : Nat => Value.int .u64 (n : Int)) x) (by simp [hxi])
   try dsimp only at hc
   have hst : Hid (catS uvS (xs.take (i + 1)) = catS uvS (xs.take i) ++ uvS x) := app_snoc _ xs i x hxi _
   clear hcell hxi
   have hxs := uvS_size x; have hxl10 := Lib.uvarint_length64 hm
   go_wp2_with fail
   refine (wuint_any x hm wr).mono ?_
   rintro e w1 ⟨rfl, b1⟩
   have hss : (s ++ uvS x).size ≤ (i + 1) * 10 := by rw [ByteArray.size_append, Nat.succ_mul]; omega
   try dsimp only at hss
   go_wp2
   refine ⟨⟨i + 1, s ++ uvS x, by omega, rfl, by go_num, hss, ?_, hR.out.2.trans (b1.mono hR.out.2.size)⟩, by simp [intOf]; omega⟩
   rw [hst.out, hR.out.1]
  ·
   have : i = xs.length := by omega
   subst this
   have hfin : Hid (s = catS uvS xs) := by have := hR.out.1; rw [List.take_length] at this; exact this
   go_wp2
   go_ret
   rw [hfin.out]
   exact ⟨rfl, hR.out.2⟩
theorem i_any (v : Value) (xs : List Int) (w : World) (h : SlR w v (xs.map (Value.int .i64))) (hl : xs.length ≤ 2097152) (hx : ∀ x ∈ xs, -9223372036854775808 ≤ x ∧ x ≤ 9223372036854775807) :
  Calls Tryz.prog 54 #[v] w fun e w' => e = .returned (.string (catS inS xs)) ∧ Below w.heap.size w w' := by
 have hxl : (xs.map (Value.int .i64)).length = xs.length := by simp
 have H := hid h
 have HX := hid hx
 obtain ⟨a, cap, rfl, h1, h2, -⟩ := h
 rw [hxl] at h1 h2
 clear hx
 unfold maxLen at h1
 rw [hxl]
 go_enter Tryz.func54, Tryz.ntmps54
 go_wp2
 go_loopw [3, 8] (fun vs vi wr => ∃ (i : Nat) (s : ByteArray), i ≤ xs.length ∧ vs = .string s ∧ vi = .int .i64 i ∧ s.size ≤ i * 10 ∧ Hid (s = catS inS (xs.take i) ∧ Below w.heap.size w wr))
  (fun _ vi _ => xs.length - (intOf vi).toNat)
 case atStart => exact ⟨0, ⟨#[]⟩, Nat.zero_le _, rfl, rfl, Nat.zero_le _, rfl, Below.refl _ _⟩
 case round =>
  obtain ⟨i, s, hi, rfl, rfl, hsz, hR⟩ := hrel
  by_cases hlt : i < xs.length
  ·
   have hxi : xs[i]? = some xs[i] := List.getElem?_eq_getElem hlt
   have hm := HX.out _ (List.getElem_mem hlt)
   generalize xs[i] = x at hxi hm
   obtain ⟨a', cap', hv, -, -, hcell⟩ := H.out.below hR.out.2
   cases hv
   obtain ⟨b, off, rfl, hc⟩ := hcell i ((Value.int .i64) x) (by simp [hxi])
   try dsimp only at hc
   have hst : Hid (catS inS (xs.take (i + 1)) = catS inS (xs.take i) ++ inS x) := app_snoc _ xs i x hxi _
   clear hcell hxi
   have hxs : (inS x).size ≤ 10 := by have h1 := uvS_size (zig x); have h2 := Lib.uvarint_length64 (zig_lt x hm.1 hm.2); show (uvS (zig x)).size ≤ 10; omega
   go_wp2_with fail
   refine (wint_in x hm.1 hm.2 wr).mono ?_
   rintro e w1 ⟨rfl, b1⟩
   have hss : (s ++ inS x).size ≤ (i + 1) * 10 := by rw [ByteArray.size_append, Nat.succ_mul]; omega
   try dsimp only at hss
   go_wp2
   refine ⟨⟨i + 1, s ++ inS x, by omega, rfl, by go_num, hss, ?_, hR.out.2.trans (b1.mono hR.out.2.size)⟩, by simp [intOf]; omega⟩
   rw [hst.out, hR.out.1]
  ·
   have : i = xs.length := by omega
   subst this
   have hfin : Hid (s = catS inS xs) := by have := hR.out.1; rw [List.take_length] at this; exact this
   go_wp2
   go_ret
   rw [hfin.out]
   exact ⟨rfl, hR.out.2⟩
theorem t_any (v : Value) (xs : List ByteArray) (w : World) (h : SlR w v (xs.map Value.string)) (hl : xs.length ≤ 2097152) (hx : ∀ x ∈ xs, x.size ≤ 2097152) :
  Calls Tryz.prog 53 #[v] w fun e w' => e = .returned (.string (catS txS xs)) ∧ Below w.heap.size w w' := by
 have hxl : (xs.map Value.string).length = xs.length := by simp
 have H := hid h
 have HX := hid hx
 obtain ⟨a, cap, rfl, h1, h2, -⟩ := h
 rw [hxl] at h1 h2
 clear hx
 unfold maxLen at h1
 rw [hxl]
 go_enter Tryz.func53, Tryz.ntmps53
 go_wp2
 go_loopw [3, 8] (fun vs vi wr => ∃ (i : Nat) (s : ByteArray), i ≤ xs.length ∧ vs = .string s ∧ vi = .int .i64 i ∧ s.size ≤ i * 2097162 ∧ Hid (s = catS txS (xs.take i) ∧ Below w.heap.size w wr))
  (fun _ vi _ => xs.length - (intOf vi).toNat)
 case atStart => exact ⟨0, ⟨#[]⟩, Nat.zero_le _, rfl, rfl, Nat.zero_le _, rfl, Below.refl _ _⟩
 case round =>
  obtain ⟨i, s, hi, rfl, rfl, hsz, hR⟩ := hrel
  by_cases hlt : i < xs.length
  ·
   have hxi : xs[i]? = some xs[i] := List.getElem?_eq_getElem hlt
   have hm := HX.out _ (List.getElem_mem hlt)
   generalize xs[i] = x at hxi hm
   obtain ⟨a', cap', hv, -, -, hcell⟩ := H.out.below hR.out.2
   cases hv
   obtain ⟨b, off, rfl, hc⟩ := hcell i (Value.string x) (by simp [hxi])
   try dsimp only at hc
   have hst : Hid (catS txS (xs.take (i + 1)) = catS txS (xs.take i) ++ txS x) := app_snoc _ xs i x hxi _
   clear hcell hxi
   have hxs : (txS x).size ≤ 2097162 := by unfold txS; rw [ByteArray.size_append]; have := uvS_size x.size; have := Lib.uvarint_length64 (show x.size < 18446744073709551616 by omega); omega
   go_wp2_with fail
   refine (wtext_any x (by omega) wr).mono ?_
   rintro e w1 ⟨rfl, b1⟩
   have hss : (s ++ txS x).size ≤ (i + 1) * 2097162 := by rw [ByteArray.size_append, Nat.succ_mul]; omega
   try dsimp only at hss
   go_wp2
   refine ⟨⟨i + 1, s ++ txS x, by omega, rfl, by go_num, hss, ?_, hR.out.2.trans (b1.mono hR.out.2.size)⟩, by simp [intOf]; omega⟩
   rw [hst.out, hR.out.1]
  ·
   have : i = xs.length := by omega
   subst this
   have hfin : Hid (s = catS txS xs) := by have := hR.out.1; rw [List.take_length] at this; exact this
   go_wp2
   go_ret
   rw [hfin.out]
   exact ⟨rfl, hR.out.2⟩
def keyS (c : ByteArray) (k : Nat) (ns : List Int) : ByteArray := ns.foldl (fun s n => s ++ bigS (u64 n) 2) (c ++ bigS k 8)
theorem key_any (c : ByteArray) (k : Nat) (v : Value) (xs : List Int) (w : World) (h : SlR w v (xs.map (Value.int .i64))) (hl : xs.length ≤ 1000) (hc : c.size ≤ 1000) (hk : k < 18446744073709551616) :
  Calls Tryz.prog 52 #[.string c, .int .u64 k, v] w fun e w' => e = .returned (.string (keyS c k xs)) ∧ Below w.heap.size w w' := by
 have hxl : (xs.map (Value.int .i64)).length = xs.length := by simp
 have H := hid h
 obtain ⟨a, cap, rfl, h1, h2, -⟩ := h
 rw [hxl] at h1 h2
 unfold maxLen at h1
 rw [hxl]
 have hb8 := bigS_size k 8
 go_enter Tryz.func52, Tryz.ntmps52
 go_wp2_with fail
 refine (big_any k 8 hk (by omega) (by omega) w).mono ?_
 rintro e w0 ⟨rfl, b0⟩
 have B0 := hid b0
 clear b0
 go_wp2
 go_loopw [7, 16] (fun vs vi wr => ∃ (i : Nat) (s : ByteArray), i ≤ xs.length ∧ vs = .string s ∧ vi = .int .i64 i ∧ s.size = c.size + 8 + i * 2 ∧ Hid (s = keyS c k (xs.take i) ∧ Below w.heap.size w wr))
  (fun _ vi _ => xs.length - (intOf vi).toNat)
 case atStart => exact ⟨0, _, Nat.zero_le _, rfl, rfl, by rw [ByteArray.size_append]; omega, rfl, B0.out⟩
 case round =>
  obtain ⟨i, s, hi, rfl, rfl, hsz, hR⟩ := hrel
  by_cases hlt : i < xs.length
  ·
   have hxi : xs[i]? = some xs[i] := List.getElem?_eq_getElem hlt
   generalize xs[i] = x at hxi
   obtain ⟨a', cap', hv, -, -, hcell⟩ := H.out.below hR.out.2
   cases hv
   obtain ⟨b, off, rfl, hc⟩ := hcell i (.int .i64 x) (by simp [hxi])
   have hst : Hid (keyS c k (xs.take (i + 1)) = keyS c k (xs.take i) ++ bigS (u64 x) 2) := app_snoc _ xs i x hxi _
   have hu := hid (u64_wrap x)
   have hxs := bigS_size (u64 x) 2
   clear hcell hxi
   go_wp2_with fail
   rw [hu.out]
   refine (big_any (u64 x) 2 (u64_lt x) (by omega) (by omega) wr).mono ?_
   rintro e w1 ⟨rfl, b1⟩
   have hss : (s ++ bigS (u64 x) 2).size = c.size + 8 + (i + 1) * 2 := by rw [ByteArray.size_append]; omega
   go_wp2
   refine ⟨⟨i + 1, s ++ bigS (u64 x) 2, by omega, rfl, by go_num, hss, ?_, hR.out.2.trans (b1.mono hR.out.2.size)⟩, by simp [intOf]; omega⟩
   rw [hst.out, hR.out.1]
  ·
   have : i = xs.length := by omega
   subst this
   have hfin : Hid (s = keyS c k xs) := by have := hR.out.1; rw [List.take_length] at this; exact this
   go_wp2
   go_ret
   rw [hfin.out]
   exact ⟨rfl, hR.out.2⟩
end Go.Proofs.YthikijlbclckdaaGreat
namespace Go.Proofs.YthikijlbclckdaaGreat
set_option maxRecDepth 100000
set_option maxHeartbeats 40000000
set_option linter.unusedSimpArgs false
set_option linter.unusedVariables false
open Go.RowKit
def ltS (a b : ByteArray) : Bool := Op.bytesLess a.data.toList b.data.toList
def LF (a b : ByteArray) (i : Nat) : Prop := ltS a b = Op.bytesLess (a.data.toList.drop i) (b.data.toList.drop i)
theorem drop_at (a : ByteArray) (i : Nat) (h : i < a.size) : a.data.toList.drop i = a[i] :: a.data.toList.drop (i + 1) := by
 rw [List.drop_eq_getElem_cons (by simpa using h)]; rfl
theorem less_step {a b : ByteArray} {i : Nat} (h1 : i < a.size) (h2 : i < b.size) (hq : LF a b i) (he : a[i] = b[i]) : LF a b (i + 1) := by
 unfold LF at hq ⊢
 rw [hq, drop_at a i h1, drop_at b i h2, he]
 simp [Op.bytesLess]
theorem less_found {a b : ByteArray} {i : Nat} (h1 : i < a.size) (h2 : i < b.size) (hq : LF a b i) (he : a[i] ≠ b[i]) : ltS a b = decide ((a[i].toNat : Int) < (b[i].toNat : Int)) := by
 unfold LF at hq
 rw [hq, drop_at a i h1, drop_at b i h2]
 have hb : (a[i] == b[i]) = false := beq_eq_false_iff_ne.2 he
 simp only [Op.bytesLess, hb, Bool.false_and, Bool.or_false]
 rw [Bool.eq_iff_iff]
 simp [UInt8.lt_iff_toNat_lt]
theorem less_end {a b : ByteArray} {i : Nat} (h1 : i ≤ a.size) (h2 : i ≤ b.size) (he : i = a.size ∨ i = b.size) (hq : LF a b i) : ltS a b = decide (a.size < b.size) := by
 unfold LF at hq
 rw [hq]
 have ha : a.data.toList.length = a.size := Array.length_toList
 have hb : b.data.toList.length = b.size := Array.length_toList
 by_cases h : i = b.size
 ·
  rw [List.drop_of_length_le (l := b.data.toList) (by omega), decide_eq_false (by omega)]
  cases a.data.toList.drop i <;> rfl
 ·
  rw [List.drop_of_length_le (l := a.data.toList) (by omega), decide_eq_true (by omega), drop_at b i (by omega)]
  rfl
theorem less_any (a b : ByteArray) (w : World) (ha : a.size ≤ 4611686018427387904) :
  Calls Tryz.prog 17 #[.string a, .string b] w fun e w' => e = .returned (.bool (ltS a b)) ∧ ∃ n, w' = w.drewN n := by
 go_enter Tryz.func17, Tryz.ntmps17
 go_wp2
 go_loopw [5] (fun v wr => ∃ i n : Nat, i ≤ a.size ∧ i ≤ b.size ∧ v = .int .i64 i ∧ wr = w.drewN n ∧ Hid (LF a b i)) (fun v _ => a.size - (intOf v).toNat)
 case atStart => exact ⟨0, 0, Nat.zero_le _, Nat.zero_le _, rfl, rfl, rfl⟩
 case round =>
  obtain ⟨i, n, hi1, hi2, rfl, rfl, hq⟩ := hrel
  by_cases h1 : i < a.size
  ·
   by_cases h2 : i < b.size
   ·
    by_cases he : a[i] = b[i]
    ·
     have HE := hid he
     have hq2 : ((a[i].toNat : Int) != (b[i].toNat : Int)) = false := by rw [he]; simp
     clear he
     go_wp2
     go_region
     go_wp2
     exact ⟨⟨i + 1, n + 1, by omega, by omega, by go_num, rfl, less_step h1 h2 hq.out HE.out⟩, by simp [intOf]; omega⟩
    ·
     have HE := hid he
     have hq2 : ((a[i].toNat : Int) != (b[i].toNat : Int)) = true := by
      rw [bne_iff_ne]
      intro hc
      exact he (UInt8.toNat_inj.1 (by omega))
     clear he
     go_wp2
     go_region
     go_wp2
     go_region
     go_wp2
     go_ret
     rw [less_found h1 h2 hq.out HE.out]
     exact ⟨by simp, n + 2, rfl⟩
   ·
    go_wp2
    go_ret
    rw [less_end hi1 hi2 (by omega) hq.out]
    exact ⟨rfl, n, rfl⟩
  ·
   go_wp2
   go_ret
   rw [less_end hi1 hi2 (by omega) hq.out]
   exact ⟨rfl, n, rfl⟩
end Go.Proofs.YthikijlbclckdaaGreat
