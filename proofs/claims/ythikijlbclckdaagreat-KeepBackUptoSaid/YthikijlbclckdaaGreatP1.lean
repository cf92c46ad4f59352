/- Rkback: contracts (A Ks Kt Ba Rz Bb Bc). -/
import Derived.Test.YthikijlbclckdaaGreatQ1
import Derived.Test.YthikijlbclckdaaGreatQ20
import Derived.Test.YthikijlbclckdaaGreatQ21
import Derived.Test.YthikijlbclckdaaGreatQ22
import Derived.Test.YthikijlbclckdaaGreatQ23
import Derived.Test.YthikijlbclckdaaGreatQ10
import Derived.Test.YthikijlbclckdaaGreatQ11
import Derived.Test.YthikijlbclckdaaGreatQ24
import Derived.WalkKit
import Derived.MapKept
import Derived.Lib.Hide
import Derived.Lib.SmallJoins
import Derived.Laws.EntriesVeiled
namespace Go.Proofs.YthikijlbclckdaaGreat
set_option maxRecDepth 100000
set_option maxHeartbeats 40000000
set_option linter.unusedSimpArgs false
set_option linter.unusedVariables false
open Go.RowKit
open Go.MapKept (Stamped)
def place {α : Type} (l : KL α) (k : ByteArray) : Nat :=
 match l with
 | [] => 0
 | p :: l => if k = p.1 then 0 else place l k + 1
section
variable {α : Type} {P : Program} {w : World} {enc : α → Value} {l : KL α} {t K e : TypeId} {mb ck : Nat} {z : Value}
end
end Go.Proofs.YthikijlbclckdaaGreat
namespace Go.Proofs.YthikijlbclckdaaGreat
set_option maxRecDepth 100000
set_option maxHeartbeats 40000000
set_option linter.unusedSimpArgs false
set_option linter.unusedVariables false
open Go.RowKit
theorem rows_len {s : StateV} (h : StateOk s) : (rows s).length ≤ 4194304 := by
 have h1 := rows_many h
 have h2 : totL (lists s) (lists s).length = (rows s).length := by unfold totL rows; rw [List.take_length]
 rw [← h2]; exact h1
end Go.Proofs.YthikijlbclckdaaGreat
namespace Go.Proofs.YthikijlbclckdaaGreat
set_option maxRecDepth 100000
set_option maxHeartbeats 40000000
set_option linter.unusedSimpArgs false
set_option linter.unusedVariables false
open Go.RowKit
theorem told_len {s : StateV} (h : StateOk s) : (toldS s).length ≤ 4194304 := by
 unfold toldS
 split
 ·
  exact rows_len h
 ·
  simp
end Go.Proofs.YthikijlbclckdaaGreat
namespace Go.Proofs.YthikijlbclckdaaGreat
set_option maxRecDepth 100000
set_option maxHeartbeats 40000000
set_option linter.unusedSimpArgs false
set_option linter.unusedVariables false
open Go.RowKit
theorem app_data (a b : ByteArray) : (a ++ b).data.toList = a.data.toList ++ b.data.toList := by
 rw [ByteArray.data_append, Array.toList_append]
theorem bytes_ext {a b : ByteArray} (h : a.data.toList = b.data.toList) : a = b := ByteArray.ext (Array.toList_inj.1 h)
theorem app_size (a b : ByteArray) : (a ++ b).size = a.size + b.size := ByteArray.size_append
theorem ext_data (s : ByteArray) (i j : Nat) : (s.extract i j).data.toList = (s.data.toList.take j).drop i := by
 rw [ByteArray.data_extract, Array.toList_extract, List.extract_eq_take_drop, List.drop_take]
theorem app_drop (a b : ByteArray) : (a ++ b).extract a.size (a ++ b).size = b := by
 refine bytes_ext ?_
 rw [ext_data, app_data]
 have h1 : (a ++ b).size = (a.data.toList ++ b.data.toList).length := by rw [← app_data]; rfl
 rw [h1, List.take_length]
 have h2 : a.size = a.data.toList.length := rfl
 rw [h2, List.drop_left]
theorem app_take (a b : ByteArray) : (a ++ b).extract 0 a.size = a := by
 refine bytes_ext ?_
 rw [ext_data, app_data, List.drop_zero]
 have h2 : a.size = a.data.toList.length := rfl
 rw [h2, List.take_left]
theorem app_mid (a b c : ByteArray) : (a ++ b ++ c).extract a.size (a.size + b.size) = b := by
 refine bytes_ext ?_
 have ha : a.size = a.data.toList.length := rfl
 have hb : b.size = b.data.toList.length := rfl
 rw [ext_data, app_data, app_data, ha, hb, ← List.length_append, List.take_left, List.drop_left]
theorem app_emp (a : ByteArray) : a ++ ⟨#[]⟩ = a := bytes_ext (by rw [app_data]; exact List.append_nil _)
theorem emp_app (a : ByteArray) : (⟨#[]⟩ : ByteArray) ++ a = a := bytes_ext (by rw [app_data]; rfl)
theorem app_assoc (a b c : ByteArray) : a ++ b ++ c = a ++ (b ++ c) := bytes_ext (by simp only [app_data, List.append_assoc])
theorem u8_of {n : Nat} (h : n < 256) : n.toUInt8.toNat = n := by
 show n % 256 = n
 omega
theorem numL_uv : ∀ (x i v : Nat) (rest : List UInt8), i ≤ 9 → x * 128 ^ i < 18446744073709551616 → (0 < i → 0 < x) → numL (Lib.uvarint x ++ rest) i v = (v + x * 128 ^ i, i + (Lib.uvarint x).length, 0) := by
 intro x
 induction x using Nat.strongRecOn with
 | _ x ih =>
  intro i v rest hi hx hp
  have h9 : i = 9 → x < 2 := fun h => by subst h; omega
  by_cases h : x < 128
  ·
   rw [Lib.uvarint_small h]
   simp only [List.cons_append, List.nil_append, numL]
   rw [u8_of (by omega), if_neg (by omega), if_pos h]
   simp
  ·
   rw [Lib.uvarint_big (by omega)]
   simp only [List.cons_append, numL]
   rw [u8_of (by omega)]
   have hne : i ≠ 9 := fun h => by have := h9 h; omega
   rw [if_neg (by omega), if_neg (by omega)]
   have hx2 : x * 128 ^ i = x / 128 * 128 ^ (i + 1) + x % 128 * 128 ^ i := by
    rw [Nat.pow_succ, ← Nat.mul_assoc, Nat.mul_right_comm, ← Nat.add_mul]
    congr 1
    omega
   rw [ih (x / 128) (by omega) (i + 1) _ rest (by omega) (by omega) (by omega)]
   rw [show (x % 128 + 128) % 128 = x % 128 by omega]
   simp only [List.length_cons]
   refine Prod.ext ?_ (Prod.ext ?_ rfl)
   ·
    show _ = _; rw [hx2]; omega
   ·
    show i + 1 + (Lib.uvarint (x / 128)).length = i + ((Lib.uvarint (x / 128)).length + 1); omega
theorem uv_data (n : Nat) : (uvS n).data.toList = Lib.uvarint n := rfl
theorem numS_uv (n : Nat) (hn : n < 18446744073709551616) (rest : ByteArray) : numS (uvS n ++ rest) = (n, (uvS n).size, 0) := by
 unfold numS
 rw [app_data, uv_data, numL_uv n 0 0 _ (by omega) (by omega) (by omega)]
 refine Prod.ext ?_ (Prod.ext ?_ rfl)
 ·
  show _ = _; omega
 ·
  show 0 + (Lib.uvarint n).length = (uvS n).size; rw [Nat.zero_add]; rfl
theorem uintR_uv (n : Nat) (hn : U64 n) (rest : ByteArray) : uintR ⟨uvS n ++ rest, 0⟩ = (n, ⟨rest, 0⟩) := by
 unfold uintR takeR
 dsimp only
 rw [numS_uv n hn rest]
 simp only [if_true, app_drop]
theorem intR_inS (x : Int) (hx : I64 x) (rest : ByteArray) : intR ⟨inS x ++ rest, 0⟩ = (x, ⟨rest, 0⟩) := by
 obtain ⟨h1, h2⟩ := hx
 have hz : U64 (zig x) := by unfold U64 zig; split <;> omega
 unfold intR inS
 rw [uintR_uv _ hz]
 dsimp only
 congr 1
 unfold sgn zig
 split <;> split <;> omega
theorem textR_tx (m : Int) (s : ByteArray) (hs : (s.size : Int) ≤ m) (hz : s.size < 18446744073709551616) (rest : ByteArray) : textR m ⟨txS s ++ rest, 0⟩ = (s, ⟨rest, 0⟩) := by
 have h : textF m (txS s ++ rest) = (s, (txS s).size, 0) := by
  have hn : numS (txS s ++ rest) = (s.size, (uvS s.size).size, 0) := by unfold txS; rw [app_assoc]; exact numS_uv _ hz _
  unfold textF
  rw [hn]
  dsimp only
  rw [if_neg (by simp), if_neg (by omega), if_neg (by unfold txS; rw [app_size, app_size]; omega)]
  refine Prod.ext ?_ (Prod.ext ?_ rfl)
  ·
   exact app_mid _ _ _
  ·
   show _ = _; unfold txS; rw [app_size]
 unfold textR takeR
 dsimp only
 rw [h]
 simp only [if_true, app_drop]
theorem byteR_k (k : Int) (h0 : 0 ≤ k) (h1 : k < 256) (rest : ByteArray) : byteR ⟨kS k ++ rest, 0⟩ = (k.toNat, ⟨rest, 0⟩) := by
 have hk : (kS k).size = 1 := rfl
 have h : byteF (kS k ++ rest) = (k.toNat, (kS k).size, 0) := by
  unfold byteF
  rw [if_neg (by rw [app_size, hk]; omega), app_data]
  refine Prod.ext ?_ rfl
  show ((k % 256).toNat.toUInt8).toNat = k.toNat
  rw [u8_of (by omega)]
  omega
 unfold byteR takeR
 dsimp only
 rw [h]
 simp only [if_true, app_drop]
theorem eS_is {s : ByteArray} (h : eS s = true) : s = ⟨#[]⟩ := by
 unfold eS at h
 have h2 : s.toList = [] := by simpa using h
 rw [Lib.toList_data] at h2
 exact bytes_ext h2
theorem takeV_val (v : ValV) (hv : mayV v = true) (hn : I64 v.n) (hz : v.s.size ≤ 2097152) (rest : ByteArray) : takeV ⟨valS v ++ rest, 0⟩ = ((v, true), ⟨rest, 0⟩) := by
 obtain ⟨k, n, s⟩ := v
 have hm := hv
 unfold mayV at hv
 dsimp only at hv hn hz
 have hP : takeP ⟨valS ⟨k, n, s⟩ ++ rest, 0⟩ = (⟨k, n, s⟩, ⟨rest, 0⟩) := by
  unfold valS
  rw [if_pos hm]
  dsimp only
  by_cases h3 : k = 3
  ·
   subst h3
   rw [if_pos rfl] at hv
   simp only [Bool.and_eq_true, beq_iff_eq, decide_eq_true_eq] at hv
   rw [if_pos rfl, app_assoc]
   unfold takeP
   rw [byteR_k 3 (by omega) (by omega)]
   dsimp only
   rw [if_pos (by decide), textR_tx 1024 s (by omega) (by omega)]
   obtain ⟨rfl, -⟩ := hv
   rfl
  ·
   rw [if_neg h3] at hv ⊢
   have hk : (k = 1 ∨ k = 2) ∧ s = ⟨#[]⟩ := by
    by_cases h1 : k = 1
    ·
     rw [if_pos h1] at hv; exact ⟨.inl h1, eS_is hv⟩
    ·
     rw [if_neg h1] at hv
     by_cases h2 : k = 2
     ·
      rw [if_pos h2] at hv; exact ⟨.inr h2, eS_is (by simp only [Bool.and_eq_true] at hv; exact hv.2)⟩
     ·
      rw [if_neg h2] at hv; cases hv
   obtain ⟨hk, rfl⟩ := hk
   rw [app_assoc]
   unfold takeP
   rw [byteR_k k (by omega) (by omega)]
   dsimp only
   have hne : ¬ ((k.toNat : Nat) : Int) = 3 := by omega
   have hke : ((k.toNat : Nat) : Int) = k := by omega
   first
    | rw [if_neg hne, intR_inS n hn, hke]
    | (rw [if_neg (show ¬ k.toNat = 3 by omega), intR_inS n hn, hke])
 unfold takeV
 rw [hP]
 dsimp only
 rw [if_pos ⟨rfl, hm⟩]
theorem fold_cat {α : Type} (f : α → ByteArray) : ∀ (l : List α) (s : ByteArray), l.foldl (fun s x => s ++ f x) s = s ++ l.foldl (fun s x => s ++ f x) ⟨#[]⟩
 | [], s => (app_emp s).symm
 | x :: l, s => by
  rw [List.foldl_cons, List.foldl_cons, fold_cat f l (s ++ f x), fold_cat f l (⟨#[]⟩ ++ f x), emp_app, app_assoc]
theorem cat_cons {α : Type} (f : α → ByteArray) (x : α) (l : List α) : catS f (x :: l) = f x ++ catS f l := by
 unfold catS
 rw [List.foldl_cons, fold_cat f l, emp_app]
theorem varsL_cat : ∀ (l : List VarV) (acc : List VarV) (rest : ByteArray), (∀ x ∈ l, named x.name = true ∧ mayV x.v = true ∧ VarOk x) → varsL l.length ⟨catS varS l ++ rest, 0⟩ acc = (some (acc ++ l), ⟨rest, 0⟩)
 | [], acc, rest, _ => by
  show (some acc, _) = _
  rw [List.append_nil]
  show (some acc, (⟨⟨#[]⟩ ++ rest, 0⟩ : RdV)) = _
  rw [emp_app]
 | x :: l, acc, rest, h => by
  obtain ⟨h1, h2, h3⟩ := h x (List.mem_cons_self ..)
  have hn : x.name.size ≤ 32 := by
   unfold named at h1
   simp only [Bool.and_eq_true, decide_eq_true_eq] at h1
   exact h1.1.1.1.2
  have e : catS varS (x :: l) ++ rest = txS x.name ++ (valS x.v ++ (catS varS l ++ rest)) := by
   rw [cat_cons]
   unfold varS
   simp only [app_assoc]
  simp only [List.length_cons, varsL]
  rw [e, textR_tx 32 x.name (by omega) (by omega)]
  dsimp only
  rw [takeV_val x.v h2 ⟨h3.v.n0, h3.v.n1⟩ h3.v.s]
  dsimp only
  rw [if_pos rfl, varsL_cat l _ rest (fun y hy => h y (List.mem_cons_of_mem _ hy))]
  simp
theorem right_each {l : List VarV} (h : rightV l = true) : l.length ≤ 16 ∧ ∀ x ∈ l, named x.name = true ∧ mayV x.v = true := by
 unfold rightV at h
 simp only [Bool.and_eq_true, decide_eq_true_eq, List.all_eq_true] at h
 refine ⟨h.1, fun x hx => ?_⟩
 obtain ⟨i, hi⟩ := List.mem_iff_getElem?.1 hx
 have hlt : i < l.length := by
  rcases Nat.lt_or_ge i l.length with h | h
  ·
   exact h
  ·
   rw [List.getElem?_eq_none h] at hi; cases hi
 have h2 := h.2 i (List.mem_range.2 hlt)
 unfold okAt at h2
 rw [hi] at h2
 simp only [Bool.and_eq_true] at h2
 exact h2.1
theorem takeVars_vs (l : List VarV) (hr : rightV l = true) (hok : ∀ y ∈ l, VarOk y) (rest : ByteArray) : takeVars ⟨varsS l ++ rest, 0⟩ = (some l, ⟨rest, 0⟩) := by
 obtain ⟨h16, hev⟩ := right_each hr
 unfold varsS
 rw [if_pos hr, fold_cat, app_assoc]
 unfold takeVars
 rw [uintR_uv l.length (by unfold U64; omega)]
 dsimp only
 rw [if_neg (by omega)]
 have h := varsL_cat l [] rest (fun x hx => ⟨(hev x hx).1, (hev x hx).2, hok x hx⟩)
 rw [show catS varS l = l.foldl (fun s x => s ++ varS x) ⟨#[]⟩ from rfl] at h
 rw [h]
 dsimp only
 rw [List.nil_append, if_pos ⟨rfl, hr⟩]
theorem instsL_cat : ∀ (l acc : List Nat) (rest : ByteArray), (∀ x ∈ l, U64 x) → instsL l.length ⟨catS uvS l ++ rest, 0⟩ acc = (acc ++ l, ⟨rest, 0⟩)
 | [], acc, rest, _ => by
  show (acc, (⟨⟨#[]⟩ ++ rest, 0⟩ : RdV)) = _
  rw [emp_app, List.append_nil]
 | x :: l, acc, rest, h => by
  simp only [List.length_cons, instsL]
  rw [cat_cons, app_assoc]
  rw [if_pos (by trivial), uintR_uv x (h x (List.mem_cons_self ..))]
  dsimp only
  rw [instsL_cat l _ rest (fun y hy => h y (List.mem_cons_of_mem _ hy))]
  simp
theorem takeInsts_is (l : List Nat) (hl : U64 l.length) (h : ∀ x ∈ l, U64 x) (rest : ByteArray) : takeInsts ⟨uvS l.length ++ (catS uvS l ++ rest), 0⟩ = (l, ⟨rest, 0⟩) := by
 unfold takeInsts
 rw [uintR_uv _ hl]
 dsimp only
 rw [instsL_cat l [] rest h, List.nil_append]
end Go.Proofs.YthikijlbclckdaaGreat
namespace Go.Proofs.YthikijlbclckdaaGreat
set_option maxRecDepth 100000
set_option maxHeartbeats 40000000
set_option linter.unusedSimpArgs false
set_option linter.unusedVariables false
open Go.RowKit Go.Shelf
theorem ltS_eq (a b : ByteArray) : ltS a b = decide (a.data.toList < b.data.toList) := bytesLess_eq _ _
theorem ltS_irr (a : ByteArray) : ltS a a = false := by rw [ltS_eq]; exact decide_eq_false (List.lt_irrefl _)
theorem ltS_trans {a b c : ByteArray} (h1 : ltS a b = true) (h2 : ltS b c = true) : ltS a c = true := by
 rw [ltS_eq, decide_eq_true_eq] at *
 exact List.lt_trans h1 h2
theorem ltS_emp {a k : ByteArray} (h : ltS a k = true) : 0 < k.size := by
 rcases Nat.eq_zero_or_pos k.size with h0 | h0
 ·
  have : k = ⟨#[]⟩ := by
   obtain ⟨d⟩ := k
   have h1 : d.size = 0 := h0
   rw [Array.eq_empty_of_size_eq_zero h1]
  subst this
  rw [ltS_eq, decide_eq_true_eq] at h
  exact absurd h (List.not_lt_nil _)
 ·
  exact h0
theorem key_a {k : ByteArray} (h0 : 0 < k.size) (hc : (k.data.toList.headD 0).toNat = 97) (hs : k.size = 1) : k = c1 97 := by
 obtain ⟨⟨l⟩⟩ := k
 cases l with
 | nil => cases h0
 | cons b l =>
  have hl : l = [] := List.length_eq_zero_iff.1 (by have : (b :: l).length = 1 := hs; simpa using this)
  subst hl
  have hb : b.toNat = 97 := hc
  have : b = 97 := UInt8.toNat_inj.1 (by rw [hb]; rfl)
  subst this
  rfl
theorem rdz (a : Rd3) (hf : a.fst = true) (rv : ByteArray) : rdStep (some a) (c1 97, rv) = if endR (stepA a.s ⟨rv, 0⟩).r ≠ 0 then none else some ⟨false, c1 97, (stepA a.s ⟨rv, 0⟩).s⟩ := by
 have hb : (stepA a.s ⟨rv, 0⟩).bad = false := rfl
 have h1 : rowStep true a.last a.s (c1 97, rv) = if endR (stepA a.s ⟨rv, 0⟩).r ≠ 0 then none else some (stepA a.s ⟨rv, 0⟩).s := by
  unfold rowStep
  rw [if_neg (show ¬ (c1 97).size = 0 by decide), if_neg (by rw [decide_eq_true rfl]; decide), if_neg (by simp)]
  rw [show ((c1 97).data.toList.headD 0).toNat = 97 from rfl, show sizeK 97 = 0 from rfl, if_neg (by decide), if_neg (by rintro ⟨-, h⟩; exact h rfl)]
  rw [show ∀ k n i s r, stepOf 97 k n i s r = stepA s r from fun _ _ _ _ _ => rfl, hb]
  simp
 simp only [rdStep, hf, h1, Option.bind_some]
 by_cases he : endR (stepA a.s ⟨rv, 0⟩).r ≠ 0
 ·
  rw [if_pos he, if_pos he]; rfl
 ·
  rw [if_neg he, if_neg he]; rfl
theorem rds_lt (a : Rd3) (hf : a.fst = false) (rk rv : ByteArray) (h : ltS a.last rk = false) : rdStep (some a) (rk, rv) = none := by
 have h1 : rowStep false a.last a.s (rk, rv) = none := by
  unfold rowStep
  by_cases h0 : rk.size = 0
  ·
   rw [if_pos h0]
  ·
   rw [if_neg h0]
   split
   ·
    rfl
   ·
    rw [if_pos ⟨rfl, h⟩]
 simp only [rdStep, hf, h1, Option.bind_some, Option.map_none]
theorem rds (a : Rd3) (hf : a.fst = false) (rk rv : ByteArray) (h : ltS a.last rk = true) (hne : rk ≠ c1 97) (c : Nat) (hc : c = (rk.data.toList.headD 0).toNat) :
  rdStep (some a) (rk, rv) = if sizeK c = -2 then none else if 0 ≤ sizeK c ∧ ((rk.extract 1 rk.size).size : Int) ≠ sizeK c then none else
   if (stepOf c (rowKN c (rk.extract 1 rk.size)).1 (rowKN c (rk.extract 1 rk.size)).2 (rk.extract 1 rk.size) a.s ⟨rv, 0⟩).bad = true ∨ endR (stepOf c (rowKN c (rk.extract 1 rk.size)).1 (rowKN c (rk.extract 1 rk.size)).2 (rk.extract 1 rk.size) a.s ⟨rv, 0⟩).r ≠ 0 then none
   else some ⟨false, rk, (stepOf c (rowKN c (rk.extract 1 rk.size)).1 (rowKN c (rk.extract 1 rk.size)).2 (rk.extract 1 rk.size) a.s ⟨rv, 0⟩).s⟩ := by
 subst hc
 have h0 := ltS_emp h
 simp only [rdStep, hf, Option.bind_some]
 unfold rowStep
 dsimp only
 rw [if_neg (show ¬ rk.size = 0 by omega), if_neg (by rw [decide_eq_false hne]; decide), if_neg (by rw [h]; simp)]
 split
 ·
  rfl
 ·
  split
  ·
   rfl
  ·
   split <;> rfl
theorem ext0 {s : ByteArray} {n : Nat} (h : s.size = n) : s.extract 0 n = s := by subst h; exact ByteArray.extract_zero_size
theorem RnB.grow {w w' : World} {base xb rb : Nat} {s : StateV} {odd : Bool} (h : RnB w base xb rb s odd) (hb : Below w.heap.size w w') : RnB w' base xb rb s odd := by
 obtain ⟨vp, vi, vt, vj, vr, vs, vk, vl, vm, hx, hL⟩ := h
 exact ⟨vp, vi, vt, vj, vr, vs, vk, vl, vm, (hb.block _ (heap_lt hx)).trans hx, hL.keepC (ts := []) (fun b _ _ _ _ h => (hb.block b (heap_lt h)).trans h) (by simp) (by simp) (by simp)⟩
end Go.Proofs.YthikijlbclckdaaGreat
namespace Go.Proofs.YthikijlbclckdaaGreat
set_option maxRecDepth 100000
set_option maxHeartbeats 40000000
set_option linter.unusedSimpArgs false
set_option linter.unusedVariables false
open Go.RowKit
theorem bigF_num : ∀ (m v : Nat), m ≤ 8 → v < 256 ^ m → (bigF v m).foldl numN 0 = v
 | 0, v, _, h => by
  have : v = 0 := by simp at h; omega
  subst this
  rfl
 | m + 1, v, hm, h => by
  have hp : 256 ^ (m + 1) ≤ 256 ^ 8 := Nat.pow_le_pow_right (by omega) hm
  have h8 : (256 : Nat) ^ 8 = 18446744073709551616 := by decide
  have hd : v / 256 < 256 ^ m := by rw [Nat.pow_succ] at h; exact Nat.div_lt_of_lt_mul (by rw [Nat.mul_comm]; exact h)
  simp only [bigF, List.foldl_append, List.foldl_cons, List.foldl_nil]
  rw [bigF_num m (v / 256) (by omega) hd]
  unfold numN
  rw [u8_of (by omega)]
  omega
theorem numK_big (v m : Nat) (hm : m ≤ 8) (h : v < 256 ^ m) : numK (bigS v m) = v := bigF_num m v hm h
def finS (st : Stp) : Option StateV := if st.bad = true ∨ endR st.r ≠ 0 then none else some st.s
def coreS (s : StateV) (x : RowV) : Option StateV :=
 if sizeK (x.1.data.toList.headD 0).toNat = -2 then none
 else if 0 ≤ sizeK (x.1.data.toList.headD 0).toNat ∧ ((x.1.extract 1 x.1.size).size : Int) ≠ sizeK (x.1.data.toList.headD 0).toNat then none
 else finS (stepOf (x.1.data.toList.headD 0).toNat (rowKN (x.1.data.toList.headD 0).toNat (x.1.extract 1 x.1.size)).1 (rowKN (x.1.data.toList.headD 0).toNat (x.1.extract 1 x.1.size)).2 (x.1.extract 1 x.1.size) s ⟨x.2, 0⟩)
theorem rd_core (a : Rd3) (hf : a.fst = false) (x : RowV) (h : ltS a.last x.1 = true) (hne : x.1 ≠ c1 97) : rdStep (some a) x = (coreS a.s x).map fun s => ⟨false, x.1, s⟩ := by
 obtain ⟨rk, rv⟩ := x
 rw [rds a hf rk rv h hne _ rfl]
 unfold coreS finS
 dsimp only
 split
 ·
  rfl
 ·
  split
  ·
   rfl
  ·
   split <;> rfl
theorem head_key (c : UInt8) (t : ByteArray) : (c1 c ++ t).data.toList.headD 0 = c := by rw [app_data]; rfl
theorem rest_key (c : UInt8) (t : ByteArray) : (c1 c ++ t).extract 1 (c1 c ++ t).size = t := app_drop (c1 c) t
theorem core_key (c : UInt8) (t V : ByteArray) (s : StateV) (h1 : sizeK c.toNat ≠ -2) (h2 : 0 ≤ sizeK c.toNat → (t.size : Int) = sizeK c.toNat) :
  coreS s (c1 c ++ t, V) = finS (stepOf c.toNat (rowKN c.toNat t).1 (rowKN c.toNat t).2 t s ⟨V, 0⟩) := by
 unfold coreS
 dsimp only
 rw [head_key, rest_key, if_neg h1, if_neg (fun h => h.2 (h2 h.1))]
theorem core1 (c : UInt8) (hc : sizeK c.toNat = 8) (k : Nat) (hk : U64 k) (V : ByteArray) (s : StateV) : coreS s (keyS (c1 c) k [], V) = finS (stepOf c.toNat k 0 (bigS k 8) s ⟨V, 0⟩) := by
 show coreS s (c1 c ++ bigS k 8, V) = _
 rw [core_key c _ V s (by omega) (fun _ => by rw [bigS_size, hc]; rfl)]
 have h : rowKN c.toNat (bigS k 8) = (k, 0) := by
  unfold rowKN
  rw [if_pos (by omega), ext0 (bigS_size k 8), numK_big k 8 (by omega) (by unfold U64 at hk; exact hk), bigS_size]
  have : ((bigS k 8).extract 8 8) = ⟨#[]⟩ := bytes_ext (by rw [ext_data]; simp)
  rw [this]
  rfl
 rw [h]
theorem core2 (c : UInt8) (hc : sizeK c.toNat = 10) (k : Nat) (hk : U64 k) (n : Int) (h0 : 0 ≤ n) (h1 : n ≤ 30000) (V : ByteArray) (s : StateV) : coreS s (keyS (c1 c) k [n], V) = finS (stepOf c.toNat k n (bigS k 8 ++ bigS (u64 n) 2) s ⟨V, 0⟩) := by
 show coreS s (c1 c ++ bigS k 8 ++ bigS (u64 n) 2, V) = _
 rw [app_assoc]
 have hz : (bigS k 8 ++ bigS (u64 n) 2).size = 10 := by rw [app_size, bigS_size, bigS_size]
 rw [core_key c _ V s (by omega) (fun _ => by rw [hz, hc]; rfl)]
 have h : rowKN c.toNat (bigS k 8 ++ bigS (u64 n) 2) = (k, n) := by
  unfold rowKN
  have e1 : (bigS k 8 ++ bigS (u64 n) 2).extract 0 8 = bigS k 8 := by have := app_take (bigS k 8) (bigS (u64 n) 2); rwa [bigS_size] at this
  have e2 : (bigS k 8 ++ bigS (u64 n) 2).extract 8 (bigS k 8 ++ bigS (u64 n) 2).size = bigS (u64 n) 2 := by have := app_drop (bigS k 8) (bigS (u64 n) 2); rwa [bigS_size] at this
  rw [if_pos (by omega), e1, e2, numK_big k 8 (by omega) (by unfold U64 at hk; exact hk), numK_big (u64 n) 2 (by omega) (by unfold u64; omega)]
  refine Prod.ext rfl ?_
  show ((u64 n : Nat) : Int) = n
  unfold u64
  omega
 rw [h]
theorem tx0 (m : Int) (s : ByteArray) (hs : (s.size : Int) ≤ m) (hz : s.size < 18446744073709551616) : textR m ⟨txS s, 0⟩ = (s, ⟨⟨#[]⟩, 0⟩) := by have := textR_tx m s hs hz ⟨#[]⟩; rwa [app_emp] at this
theorem uv0' (n : Nat) (hn : U64 n) : uintR ⟨uvS n, 0⟩ = (n, ⟨⟨#[]⟩, 0⟩) := by have := uintR_uv n hn ⟨#[]⟩; rwa [app_emp] at this
theorem in0 (x : Int) (hx : I64 x) : intR ⟨inS x, 0⟩ = (x, ⟨⟨#[]⟩, 0⟩) := by have := intR_inS x hx ⟨#[]⟩; rwa [app_emp] at this
theorem vs0 (l : List VarV) (hr : rightV l = true) (hok : ∀ y ∈ l, VarOk y) : takeVars ⟨varsS l, 0⟩ = (some l, ⟨⟨#[]⟩, 0⟩) := by have := takeVars_vs l hr hok ⟨#[]⟩; rwa [app_emp] at this
theorem fin_ok (s : StateV) : finS ⟨s, ⟨⟨#[]⟩, 0⟩, false⟩ = some s := rfl
theorem core_P (x : DepV) (hok : DepOk x) (hb : x.bytes.size ≤ 16384) (s : StateV) : coreS s (rowP x) = some { s with procs := s.procs ++ [x] } := by
 have hz := hok.bytes
 unfold Sz at hz
 unfold rowP
 rw [core_key 112 _ _ s (by decide) (fun h => absurd h (by decide))]
 rw [show ∀ k n i s r, stepOf (112 : UInt8).toNat k n i s r = stepP i s r from fun _ _ _ _ _ => rfl]
 unfold stepP
 dsimp only
 rw [tx0 16384 x.bytes (by omega) (by omega)]
 exact fin_ok _
theorem core_I (x : InstV) (hok : InstOk x) (hb : bInst x = true) (s : StateV) : coreS s (rowI x) = some { s with insts := s.insts ++ [x] } := by
 have hz := hok.id
 unfold Sz at hz
 unfold bInst textB at hb
 simp only [List.all_cons, List.all_nil, Bool.and_true, Bool.and_eq_true, decide_eq_true_eq] at hb
 unfold rowI
 rw [core1 105 (by decide) _ hok.key]
 rw [show ∀ k n i s r, stepOf (105 : UInt8).toNat k n i s r = stepI k s r from fun _ _ _ _ _ => rfl]
 unfold stepI varsOf varsBad
 dsimp only
 rw [textR_tx 16384 x.id (by omega) (by omega)]
 dsimp only
 rw [vs0 x.vars hb.2 hok.vars]
 exact fin_ok _
theorem core_J (x : JobV) (hok : JobOk x) (hb : bJob x = true) (s : StateV) : coreS s (rowJ x) = some { s with jobs := s.jobs ++ [x] } := by
 unfold bJob textB at hb
 simp only [List.all_cons, List.all_nil, Bool.and_true, Bool.and_eq_true, decide_eq_true_eq] at hb
 unfold rowJ
 rw [core1 106 (by decide) _ hok.key]
 rw [show ∀ k n i s r, stepOf (106 : UInt8).toNat k n i s r = stepJ k s r from fun _ _ _ _ _ => rfl]
 unfold stepJ
 dsimp only
 simp only [app_assoc]
 rw [uintR_uv x.token hok.token]
 dsimp only
 rw [textR_tx 16384 x.type (by omega) (by omega)]
 dsimp only
 rw [intR_inS x.retries hok.retries]
 dsimp only
 rw [textR_tx 16384 x.worker (by omega) (by omega)]
 dsimp only
 rw [in0 x.till hok.till]
 exact fin_ok _
theorem core_K (x : KeptV) (hok : KeptOk x) (hb : bKept x = true) (s : StateV) : coreS s (rowK x) = some { s with kept := s.kept ++ [x] } := by
 unfold bKept smallB at hb
 simp only [List.all_cons, List.all_nil, Bool.and_true, Bool.and_eq_true, decide_eq_true_eq] at hb
 unfold rowK
 rw [core2 107 (by decide) _ hok.token _ (by omega) (by omega)]
 rw [show ∀ k n i s r, stepOf (107 : UInt8).toNat k n i s r = stepK k n s r from fun _ _ _ _ _ => rfl]
 unfold stepK
 dsimp only
 rw [uv0' x.msg hok.msg]
 exact fin_ok _
theorem core_L (x : LisV) (hok : LisOk x) (hb : bLis x = true) (s : StateV) : coreS s (rowL x) = some { s with listed := s.listed ++ [x] } := by
 unfold bLis textB smallB at hb
 simp only [List.all_cons, List.all_nil, Bool.and_true, Bool.and_eq_true, decide_eq_true_eq] at hb
 unfold rowL
 rw [core2 108 (by decide) _ hok.token _ (by omega) (by omega)]
 rw [show ∀ k n i s r, stepOf (108 : UInt8).toNat k n i s r = stepL k n s r from fun _ _ _ _ _ => rfl]
 unfold stepL varsOf varsBad
 dsimp only
 simp only [app_assoc]
 rw [uintR_uv x.inst hok.inst]
 dsimp only
 rw [textR_tx 16384 x.name (by omega) (by omega)]
 dsimp only
 rw [textR_tx 16384 x.key (by omega) (by omega)]
 dsimp only
 rw [uintR_uv x.msg hok.msg]
 dsimp only
 rw [vs0 x.vars hb.2 hok.vars]
 exact fin_ok _
theorem core_R (x : TimV) (hok : TimOk x) (hb : bTim x = true) (s : StateV) : coreS s (rowR x) = some { s with timers := s.timers ++ [x] } := by
 unfold bTim smallB at hb
 simp only [List.all_cons, List.all_nil, Bool.and_true, Bool.and_eq_true, decide_eq_true_eq] at hb
 unfold rowR
 rw [core2 114 (by decide) _ hok.token _ (by omega) (by omega)]
 rw [show ∀ k n i s r, stepOf (114 : UInt8).toNat k n i s r = stepR k n s r from fun _ _ _ _ _ => rfl]
 unfold stepR
 dsimp only
 rw [in0 x.when_ hok.when_]
 exact fin_ok _
theorem core_S (x : SubV) (hok : SubOk x) (hb : bSub x = true) (s : StateV) : coreS s (rowS x) = some { s with subs := s.subs ++ [x] } := by
 unfold bSub textB smallB at hb
 simp only [List.all_cons, List.all_nil, Bool.and_true, Bool.and_eq_true, decide_eq_true_eq] at hb
 unfold rowS
 rw [core2 115 (by decide) _ hok.token _ (by omega) (by omega)]
 rw [show ∀ k n i s r, stepOf (115 : UInt8).toNat k n i s r = stepS k n s r from fun _ _ _ _ _ => rfl]
 unfold stepS
 dsimp only
 simp only [app_assoc]
 rw [uintR_uv x.inst hok.inst]
 dsimp only
 rw [textR_tx 16384 x.name (by omega) (by omega)]
 dsimp only
 rw [textR_tx 16384 x.key (by omega) (by omega)]
 dsimp only
 rw [in0 (b01 x.is) (by unfold b01 I64; split <;> omega)]
 obtain ⟨a, b, c, d, e, f⟩ := x
 cases f
 ·
  exact fin_ok _
 ·
  exact fin_ok _
theorem core_T (x : TokV) (hok : TokOk x) (hb : bTok x = true) (s : StateV) : coreS s (rowT x) = some { s with tokens := s.tokens ++ [x] } := by
 unfold bTok textB smallB at hb
 simp only [List.all_cons, List.all_nil, Bool.and_true, Bool.and_eq_true, decide_eq_true_eq] at hb
 unfold rowT
 rw [core1 116 (by decide) _ hok.key]
 rw [show ∀ k n i s r, stepOf (116 : UInt8).toNat k n i s r = stepT k s r from fun _ _ _ _ _ => rfl]
 unfold stepT
 dsimp only
 simp only [app_assoc]
 rw [uintR_uv x.inst hok.inst]
 dsimp only
 rw [uintR_uv x.scope hok.scope]
 dsimp only
 rw [intR_inS x.node hok.node]
 dsimp only
 rw [intR_inS x.by_ hok.by_]
 dsimp only
 rw [tx0 16384 x.stuck (by omega) (by omega)]
 exact fin_ok _
theorem core_G (x : MsgV) (hok : MsgOk x) (hb : bMsg x = true) (s : StateV) : coreS s (rowG x) = some { s with msgs := s.msgs ++ [x] } := by
 unfold bMsg textB at hb
 simp only [List.all_cons, List.all_nil, Bool.and_true, Bool.and_eq_true, decide_eq_true_eq] at hb
 have hm := hok.many
 unfold rowG
 rw [core1 103 (by decide) _ hok.key]
 rw [show ∀ k n i s r, stepOf (103 : UInt8).toNat k n i s r = stepG k s r from fun _ _ _ _ _ => rfl]
 have hf : ∀ t, foldS uvS t x.insts = t ++ (catS uvS x.insts ++ ⟨#[]⟩) := fun t => by
  unfold foldS
  rw [fold_cat, app_emp]
  rfl
 rw [hf]
 unfold stepG varsOf varsBad
 dsimp only
 simp only [app_assoc]
 rw [textR_tx 16384 x.name (by omega) (by omega)]
 dsimp only
 rw [textR_tx 16384 x.for_ (by omega) (by omega)]
 dsimp only
 rw [textR_tx 16384 x.id (by omega) (by omega)]
 dsimp only
 rw [intR_inS x.till hok.till]
 dsimp only
 rw [takeVars_vs x.vars hb.2 hok.vars]
 dsimp only
 rw [takeInsts_is x.insts (by unfold U64; omega) hok.insts]
 exact fin_ok _
end Go.Proofs.YthikijlbclckdaaGreat
namespace Go.Proofs.YthikijlbclckdaaGreat
set_option maxRecDepth 100000
set_option maxHeartbeats 40000000
set_option linter.unusedSimpArgs false
set_option linter.unusedVariables false
open Go.RowKit
def coreF (o : Option StateV) (x : RowV) : Option StateV := o.bind fun s => coreS s x
def ChainK : ByteArray → List RowV → Prop
 | _, [] => True
 | last, x :: l => ltS last x.1 = true ∧ ChainK x.1 l
theorem coreF_none : ∀ l : List RowV, l.foldl coreF none = none
 | [] => rfl
 | _ :: l => coreF_none l
theorem chain_ne : ∀ (l : List RowV) (last : ByteArray), ChainK last l → (last = c1 97 ∨ ltS (c1 97) last = true) → ∀ x ∈ l, x.1 ≠ c1 97
 | [], _, _, _, x, hx => by cases hx
 | y :: l, last, h, hl, x, hx => by
  obtain ⟨h1, h2⟩ := h
  have hy : ltS (c1 97) y.1 = true := by
   rcases hl with rfl | hl
   ·
    exact h1
   ·
    exact ltS_trans hl h1
  rcases List.mem_cons.1 hx with rfl | hx
  ·
   intro e; rw [e, ltS_irr] at hy; cases hy
  ·
   exact chain_ne l y.1 h2 (.inr hy) x hx
theorem fold_core : ∀ (l : List RowV) (last : ByteArray) (s s' : StateV), ChainK last l → (∀ x ∈ l, x.1 ≠ c1 97) → l.foldl coreF (some s) = some s' → ∃ k, l.foldl rdStep (some ⟨false, last, s⟩) = some ⟨false, k, s'⟩
 | [], last, s, s', _, _, h => by
  cases h
  exact ⟨last, rfl⟩
 | x :: l, last, s, s', hc, hn, h => by
  obtain ⟨h1, h2⟩ := hc
  rw [List.foldl_cons] at h ⊢
  have h3 : coreF (some s) x = coreS s x := rfl
  rw [h3] at h
  cases hx : coreS s x with
  | none => rw [hx, coreF_none] at h; cases h
  | some s1 =>
   rw [hx] at h
   rw [rd_core ⟨false, last, s⟩ rfl x h1 (hn x (List.mem_cons_self ..)), hx]
   exact fold_core l x.1 s1 s' h2 (fun y hy => hn y (List.mem_cons_of_mem _ hy)) h
theorem seg {α : Type} (f : α → RowV) (g : List α → StateV) : ∀ (L l0 : List α), (∀ l x, x ∈ L → coreS (g l) (f x) = some (g (l ++ [x]))) → (L.map f).foldl coreF (some (g l0)) = some (g (l0 ++ L))
 | [], l0, _ => by rw [List.append_nil]; rfl
 | x :: L, l0, h => by
  rw [List.map_cons, List.foldl_cons]
  have h3 : coreF (some (g l0)) (f x) = some (g (l0 ++ [x])) := h l0 x (List.mem_cons_self ..)
  rw [h3, seg f g L (l0 ++ [x]) (fun l y hy => h l y (List.mem_cons_of_mem _ hy)), List.append_assoc]
  rfl
theorem chain_of : ∀ (l : List RowV) (r0 : RowV), (∀ (i : Nat) (q r : RowV), (r0 :: l)[i]? = some q → (r0 :: l)[i + 1]? = some r → ltS q.1 r.1 = true) → ChainK r0.1 l
 | [], _, _ => trivial
 | x :: l, r0, h => ⟨h 0 r0 x rfl rfl, chain_of l x (fun i q r hq hr => h (i + 1) q r hq hr)⟩
theorem may_rows {s : StateV} (h : mayB s = true) : boundsB s = true ∧ (∀ (i : Nat) (r : RowV), (rows s)[i]? = some r → r.2.size ≤ 16384) ∧ ∀ (i : Nat) (q r : RowV), (rows s)[i]? = some q → (rows s)[i + 1]? = some r → ltS q.1 r.1 = true := by
 unfold mayB at h
 rw [Bool.and_eq_true] at h
 obtain ⟨h1, h2⟩ := h
 unfold rowsB at h2
 rw [List.all_eq_true] at h2
 have hl : ∀ {i : Nat} {r : RowV}, (rows s)[i]? = some r → i < (rows s).length := fun {i r} h => by
  rcases Nat.lt_or_ge i (rows s).length with h3 | h3
  ·
   exact h3
  ·
   rw [List.getElem?_eq_none h3] at h; cases h
 refine ⟨h1, fun i r hr => ?_, fun i q r hq hr => ?_⟩
 ·
  have h3 := h2 i (List.mem_range.2 (hl hr))
  simp only [rOk, hr, Bool.and_eq_true, decide_eq_true_eq] at h3
  exact h3.1
 ·
  have h3 := h2 (i + 1) (List.mem_range.2 (hl hr))
  simp only [rOk, hr, hq, Bool.and_eq_true] at h3
  exact h3.2
def restL (s : StateV) : List RowV := s.msgs.map rowG ++ (s.insts.map rowI ++ (s.jobs.map rowJ ++ (s.kept.map rowK ++ (s.listed.map rowL ++ (s.procs.map rowP ++ (s.timers.map rowR ++ (s.subs.map rowS ++ s.tokens.map rowT)))))))
theorem rows_eq (s : StateV) : rows s = rowA s :: restL s := by simp [rows, lists, restL]
theorem rows_core (s : StateV) (hok : StateOk s) (hb : boundsB s = true) (hv : ∀ x ∈ s.procs, x.bytes.size ≤ 16384) : (restL s).foldl coreF (some { state0 with pos := s.pos, done := s.done, made := s.made }) = some s := by
 unfold boundsB at hb
 simp only [Bool.and_eq_true, List.all_eq_true] at hb
 obtain ⟨⟨⟨⟨⟨⟨⟨⟨bp, bi⟩, bt⟩, bj⟩, br⟩, bs⟩, bk⟩, bl⟩, bm⟩ := hb
 have h0 : (s.msgs.map rowG).foldl coreF (some { state0 with pos := s.pos, done := s.done, made := s.made }) = some { state0 with pos := s.pos, done := s.done, made := s.made, msgs := s.msgs } := seg rowG (fun l => { state0 with pos := s.pos, done := s.done, made := s.made, msgs := l }) s.msgs [] (fun l x hx => core_G x (hok.msgs x hx) (bm x hx) _)
 have h1 : (s.insts.map rowI).foldl coreF (some { state0 with pos := s.pos, done := s.done, made := s.made, msgs := s.msgs }) = some { state0 with pos := s.pos, done := s.done, made := s.made, msgs := s.msgs, insts := s.insts } := seg rowI (fun l => { state0 with pos := s.pos, done := s.done, made := s.made, msgs := s.msgs, insts := l }) s.insts [] (fun l x hx => core_I x (hok.insts x hx) (bi x hx) _)
 have h2 : (s.jobs.map rowJ).foldl coreF (some { state0 with pos := s.pos, done := s.done, made := s.made, msgs := s.msgs, insts := s.insts }) = some { state0 with pos := s.pos, done := s.done, made := s.made, msgs := s.msgs, insts := s.insts, jobs := s.jobs } := seg rowJ (fun l => { state0 with pos := s.pos, done := s.done, made := s.made, msgs := s.msgs, insts := s.insts, jobs := l }) s.jobs [] (fun l x hx => core_J x (hok.jobs x hx) (bj x hx) _)
 have h3 : (s.kept.map rowK).foldl coreF (some { state0 with pos := s.pos, done := s.done, made := s.made, msgs := s.msgs, insts := s.insts, jobs := s.jobs }) = some { state0 with pos := s.pos, done := s.done, made := s.made, msgs := s.msgs, insts := s.insts, jobs := s.jobs, kept := s.kept } := seg rowK (fun l => { state0 with pos := s.pos, done := s.done, made := s.made, msgs := s.msgs, insts := s.insts, jobs := s.jobs, kept := l }) s.kept [] (fun l x hx => core_K x (hok.kept x hx) (bk x hx) _)
 have h4 : (s.listed.map rowL).foldl coreF (some { state0 with pos := s.pos, done := s.done, made := s.made, msgs := s.msgs, insts := s.insts, jobs := s.jobs, kept := s.kept }) = some { state0 with pos := s.pos, done := s.done, made := s.made, msgs := s.msgs, insts := s.insts, jobs := s.jobs, kept := s.kept, listed := s.listed } := seg rowL (fun l => { state0 with pos := s.pos, done := s.done, made := s.made, msgs := s.msgs, insts := s.insts, jobs := s.jobs, kept := s.kept, listed := l }) s.listed [] (fun l x hx => core_L x (hok.listed x hx) (bl x hx) _)
 have h5 : (s.procs.map rowP).foldl coreF (some { state0 with pos := s.pos, done := s.done, made := s.made, msgs := s.msgs, insts := s.insts, jobs := s.jobs, kept := s.kept, listed := s.listed }) = some { state0 with pos := s.pos, done := s.done, made := s.made, msgs := s.msgs, insts := s.insts, jobs := s.jobs, kept := s.kept, listed := s.listed, procs := s.procs } := seg rowP (fun l => { state0 with pos := s.pos, done := s.done, made := s.made, msgs := s.msgs, insts := s.insts, jobs := s.jobs, kept := s.kept, listed := s.listed, procs := l }) s.procs [] (fun l x hx => core_P x (hok.procs x hx) (hv x hx) _)
 have h6 : (s.timers.map rowR).foldl coreF (some { state0 with pos := s.pos, done := s.done, made := s.made, msgs := s.msgs, insts := s.insts, jobs := s.jobs, kept := s.kept, listed := s.listed, procs := s.procs }) = some { state0 with pos := s.pos, done := s.done, made := s.made, msgs := s.msgs, insts := s.insts, jobs := s.jobs, kept := s.kept, listed := s.listed, procs := s.procs, timers := s.timers } := seg rowR (fun l => { state0 with pos := s.pos, done := s.done, made := s.made, msgs := s.msgs, insts := s.insts, jobs := s.jobs, kept := s.kept, listed := s.listed, procs := s.procs, timers := l }) s.timers [] (fun l x hx => core_R x (hok.timers x hx) (br x hx) _)
 have h7 : (s.subs.map rowS).foldl coreF (some { state0 with pos := s.pos, done := s.done, made := s.made, msgs := s.msgs, insts := s.insts, jobs := s.jobs, kept := s.kept, listed := s.listed, procs := s.procs, timers := s.timers }) = some { state0 with pos := s.pos, done := s.done, made := s.made, msgs := s.msgs, insts := s.insts, jobs := s.jobs, kept := s.kept, listed := s.listed, procs := s.procs, timers := s.timers, subs := s.subs } := seg rowS (fun l => { state0 with pos := s.pos, done := s.done, made := s.made, msgs := s.msgs, insts := s.insts, jobs := s.jobs, kept := s.kept, listed := s.listed, procs := s.procs, timers := s.timers, subs := l }) s.subs [] (fun l x hx => core_S x (hok.subs x hx) (bs x hx) _)
 have h8 : (s.tokens.map rowT).foldl coreF (some { state0 with pos := s.pos, done := s.done, made := s.made, msgs := s.msgs, insts := s.insts, jobs := s.jobs, kept := s.kept, listed := s.listed, procs := s.procs, timers := s.timers, subs := s.subs }) = some { state0 with pos := s.pos, done := s.done, made := s.made, msgs := s.msgs, insts := s.insts, jobs := s.jobs, kept := s.kept, listed := s.listed, procs := s.procs, timers := s.timers, subs := s.subs, tokens := s.tokens } := seg rowT (fun l => { state0 with pos := s.pos, done := s.done, made := s.made, msgs := s.msgs, insts := s.insts, jobs := s.jobs, kept := s.kept, listed := s.listed, procs := s.procs, timers := s.timers, subs := s.subs, tokens := l }) s.tokens [] (fun l x hx => core_T x (hok.tokens x hx) (bt x hx) _)
 unfold restL
 simp only [List.foldl_append]
 rw [h0, h1, h2, h3, h4, h5, h6, h7, h8]
theorem read_rowA (s : StateV) (hok : StateOk s) : rdStep (some rd0) (rowA s) = some ⟨false, c1 97, { state0 with pos := s.pos, done := s.done, made := s.made }⟩ := by
 have hst : stepA state0 ⟨uvS s.pos ++ uvS s.done ++ uvS s.made, 0⟩ = ⟨{ state0 with pos := s.pos, done := s.done, made := s.made }, ⟨⟨#[]⟩, 0⟩, false⟩ := by
  unfold stepA
  rw [app_assoc, uintR_uv s.pos hok.pos]
  dsimp only
  rw [uintR_uv s.done hok.done]
  dsimp only
  rw [uv0' s.made hok.made]
 unfold rowA
 rw [rdz rd0 rfl]
 have h2 : rd0.s = state0 := rfl
 rw [h2, hst]
 rfl
theorem read_back (s : StateV) (hok : StateOk s) (hm : mayB s = true) : readS (rows s) = some s := by
 obtain ⟨hb, hv, hr⟩ := may_rows hm
 have hp : ∀ x ∈ s.procs, x.bytes.size ≤ 16384 := fun x hx => by
  have hmem : rowP x ∈ rows s := by
   rw [rows_eq]
   unfold restL
   simp only [List.mem_cons, List.mem_append, List.mem_map]
   exact .inr (.inr (.inr (.inr (.inr (.inr (.inl ⟨x, hx, rfl⟩))))))
  obtain ⟨i, hi⟩ := List.mem_iff_getElem?.1 hmem
  have := hv i _ hi
  have h2 : (rowP x).2 = txS x.bytes := rfl
  rw [h2] at this
  unfold txS at this
  rw [app_size] at this
  omega
 have hc := rows_core s hok hb hp
 rw [rows_eq] at hr
 have hch := chain_of (restL s) (rowA s) hr
 have hka : (rowA s).1 = c1 97 := rfl
 rw [hka] at hch
 obtain ⟨k, hk⟩ := fold_core (restL s) (c1 97) _ s hch (chain_ne _ _ hch (.inl rfl)) hc
 have hf : readF (rows s) = some ⟨false, k, s⟩ := by
  rw [rows_eq]
  unfold readF
  rw [List.foldl_cons, read_rowA s hok]
  exact hk
 unfold readS
 rw [hf]
 simp [hm]
def tot (s : StateV) : Nat := s.procs.length + s.insts.length + s.tokens.length + s.jobs.length + s.timers.length + s.subs.length + s.kept.length + s.listed.length + s.msgs.length
theorem fin_some {st : Stp} {s' : StateV} (h : finS st = some s') : s' = st.s := by
 unfold finS at h
 split at h
 ·
  cases h
 ·
  cases h; rfl
theorem core_tot {s s' : StateV} {x : RowV} (h : coreS s x = some s') (hne : x.1 ≠ c1 97) : tot s' = tot s + 1 := by
 unfold coreS at h
 split at h
 ·
  cases h
 ·
  rename_i h2
  split at h
  ·
   cases h
  ·
   rename_i h3
   have hs := fin_some h
   subst hs
   clear h
   generalize hc : (x.1.data.toList.headD 0).toNat = c at h2 h3 ⊢
   rcases sizeK_cases h2 with rfl | rfl | rfl | rfl | rfl | rfl | rfl | rfl | rfl | rfl
   ·
    exfalso
    have hz : (x.1.extract 1 x.1.size).size = 0 := by
     have h5 : sizeK 97 = 0 := rfl
     rw [h5] at h3
     rcases Nat.eq_zero_or_pos (x.1.extract 1 x.1.size).size with h6 | h6
     ·
      exact h6
     ·
      exact absurd ⟨by omega, by omega⟩ h3
    rw [extract_size] at hz
    have h0 : 0 < x.1.size := by
     rcases Nat.eq_zero_or_pos x.1.size with h6 | h6
     ·
      have : x.1.data.toList = [] := by
       have h7 : x.1.data.toList.length = 0 := h6
       exact List.length_eq_zero_iff.1 h7
      rw [this] at hc
      cases hc
     ·
      exact h6
    exact hne (key_a h0 hc (by omega))
   all_goals
    simp only [stepOf, stepG, stepI, stepJ, stepK, stepL, stepP, stepR, stepS, stepT, tot]
    simp (config := { decide := true }) only [if_true, if_false, List.length_append, List.length_cons, List.length_nil]
    omega
theorem rd_none' (a : Rd3) (hf : a.fst = false) (x : RowV) (h : x.1 = c1 97) : rdStep (some a) x = none := by
 have h1 : rowStep false a.last a.s x = none := by
  unfold rowStep
  split
  ·
   rfl
  ·
   rw [if_pos (by rw [decide_eq_true h]; rfl)]
 simp only [rdStep, hf, h1, Option.bind_some, Option.map_none]
theorem fold_tot : ∀ (l : List RowV) (a b : Rd3), a.fst = false → l.foldl rdStep (some a) = some b → tot b.s = tot a.s + l.length
 | [], a, b, _, h => by cases h; rfl
 | x :: l, a, b, hf, h => by
  rw [List.foldl_cons] at h
  cases hx : rdStep (some a) x with
  | none => rw [hx, rd_none] at h; cases h
  | some a1 =>
   rw [hx] at h
   have hlt : ltS a.last x.1 = true := by
    cases hl : ltS a.last x.1 with
    | true => rfl
    | false => have := rds_lt a hf x.1 x.2 hl; rw [show (x.1, x.2) = x from rfl, hx] at this; cases this
   have hne : x.1 ≠ c1 97 := fun e => by have := rd_none' a hf x e; rw [hx] at this; cases this
   rw [rd_core a hf x hlt hne] at hx
   cases hc : coreS a.s x with
   | none => rw [hc] at hx; cases hx
   | some s1 =>
    rw [hc] at hx
    cases hx
    have h2 := fold_tot l _ b rfl h
    rw [h2]
    dsimp only
    rw [core_tot hc hne, List.length_cons]
    omega
theorem read_tot {l : List RowV} {t : StateV} (h : readS l = some t) : tot t + 1 = l.length := by
 unfold readS at h
 cases hf : readF l with
 | none => rw [hf] at h; cases h
 | some a =>
  rw [hf] at h
  simp only [Option.bind_some] at h
  split at h
  ·
   cases h
  ·
   cases h
   cases l with
   | nil => rename_i hh; exact absurd (.inl (by cases hf; rfl)) hh
   | cons x l =>
    unfold readF at hf
    rw [List.foldl_cons] at hf
    by_cases hk : x.1 = c1 97
    ·
     obtain ⟨k, v⟩ := x
     dsimp only at hk
     subst hk
     rw [rdz rd0 rfl] at hf
     split at hf
     ·
      rw [rd_none] at hf; cases hf
     ·
      have h2 := fold_tot l _ a rfl hf
      rw [h2]
      have h3 : tot (stepA rd0.s ⟨v, 0⟩).s = 0 := rfl
      dsimp only
      rw [h3, List.length_cons]
      omega
    ·
     have h1 : rdStep (some rd0) x = none := by
      simp only [rdStep, rd0, Option.bind_some]
      unfold rowStep
      by_cases h0 : x.1.size = 0
      ·
       rw [if_pos h0]; rfl
      ·
       rw [if_neg h0, if_pos (by rw [decide_eq_false hk]; rfl)]; rfl
     rw [h1, rd_none] at hf
     cases hf
theorem tot_ne {s t : StateV} (h : tot s ≠ tot t) : s.pos ≠ t.pos ∨ s.done ≠ t.done ∨ s.made ≠ t.made ∨ s.procs.length ≠ t.procs.length ∨ s.insts.length ≠ t.insts.length ∨ s.tokens.length ≠ t.tokens.length ∨ s.jobs.length ≠ t.jobs.length ∨ s.timers.length ≠ t.timers.length ∨ s.subs.length ≠ t.subs.length ∨ s.kept.length ≠ t.kept.length ∨ s.listed.length ≠ t.listed.length ∨ s.msgs.length ≠ t.msgs.length := by
 unfold tot at h
 omega
end Go.Proofs.YthikijlbclckdaaGreat
