/- KeepReads: contracts (Kh St). -/
import Derived.Test.YthikijlbclckdaaGreatQ5
import Derived.Test.YthikijlbclckdaaGreatQ7
namespace Go.Proofs.YthikijlbclckdaaGreat
set_option maxRecDepth 100000
set_option maxHeartbeats 40000000
set_option linter.unusedSimpArgs false
set_option linter.unusedVariables false
open Go.IntWalk Go.RowKit
def varS (x : VarV) : ByteArray := txS x.name ++ valS x.v
def varsS (l : List VarV) : ByteArray := if rightV l then l.foldl (fun s x => s ++ varS x) (uvS l.length) else ⟨#[]⟩
theorem valS_size {v : ValV} (h : VOk v) : (valS v).size ≤ v.s.size + 11 := by
 unfold valS
 have h1 := txS_size h.s
 have h2 := inS_size h.n0 h.n1
 split
 ·
  split
  ·
   rw [ByteArray.size_append, kS_size]; omega
  ·
   rw [ByteArray.size_append, kS_size]; omega
 ·
  show 0 ≤ _
  omega
theorem varS_size {x : VarV} (h : VarOk x) : (varS x).size ≤ 4194325 := by
 unfold varS
 rw [ByteArray.size_append]
 have h1 := txS_size h.name
 have h2 := valS_size h.v
 have h3 := h.name
 have h4 := h.v.s
 omega
theorem right_le {l : List VarV} (h : rightV l = true) : l.length ≤ 16 := by
 rcases Nat.lt_or_ge 16 l.length with h' | h'
 ·
  rw [right_long h'] at h; cases h
 ·
  exact h'
theorem uv_small (n : Nat) (h : n ≤ 16) : (uvS n).size ≤ 10 := by
 rw [uvS_size]
 exact Lib.uvarint_length64 (by omega)
theorem builder_made (w : World) : IsB w.heap.size w.heap.size ⟨#[]⟩ (w.alloc (.cells #[.pointer none, .slice none 0 0] 186)) := by
 refine .inl ⟨Nat.le_refl _, .slice none 0 0, alloc_new _ _, ⟨rfl, .inl ⟨rfl, rfl⟩⟩, by simp [Value.ownBlock]⟩
theorem varsBytes_any (v : Value) (l : List VarV) (w : World) (hok : ∀ x ∈ l, VarOk x) (h : VarsAt w v l) : Calls Tryz.prog 55 #[v] w fun e w' => e = .returned (.string (varsS l)) ∧ Below w.heap.size w w' := by
 have H := hid h
 obtain ⟨a, cap, rfl, h1, h2, -⟩ := h
 have Hok := hid hok
 clear hok
 go_enter Tryz.func55, Tryz.ntmps55
 go_wp2_with fail
 refine (right_any _ l w H.out).mono ?_
 rintro e w1 ⟨rfl, b1⟩
 cases hr : rightV l with
 | false =>
  have E : Hid (varsS l = ⟨#[]⟩) := by show _ = _; unfold varsS; rw [hr]; rfl
  clear hr
  go_wp2
  go_ret
  rw [E.out]
  exact ⟨rfl, b1⟩
 | true =>
  have hl16 := right_le hr
  have E : Hid (varsS l = l.foldl (fun s x => s ++ varS x) (uvS l.length)) := by show _ = _; unfold varsS; rw [hr]; rfl
  have hu := uv_small l.length hl16
  have B1 := hid b1
  clear hr
  go_wp2_with fail
  have hm := hid (builder_made w1)
  have hz := b1.size
  clear b1
  have hbb := hid ((B1.out.alloc hz (.cells #[.pointer none, .slice none 0 0] 186)))
  have hsz : (w1.alloc (.cells #[.pointer none, .slice none 0 0] 186)).heap.size = w1.heap.size + 1 := by simp
  generalize hW : w1.alloc (.cells #[.pointer none, .slice none 0 0] 186) = W at hm hbb hsz ⊢
  clear hW
  have hbw : w1.heap.size ≤ W.heap.size := by omega
  clear hsz
  generalize hB : w1.heap.size = B at hm hz hbw ⊢
  clear hB
  refine (wuint_any l.length (by omega) _).mono ?_
  rintro e w2 ⟨rfl, b2⟩
  have hb2 := hid (hm.out.grow b2)
  have hz2 := b2.size
  have hbb2 := hid (hbb.out.trans (b2.mono hbb.out.size))
  clear b2
  go_wp2_with fail
  refine (wstr_any B B ⟨#[]⟩ (uvS l.length) w2 hb2.out (by rw [show (⟨#[]⟩ : ByteArray).size = 0 from rfl]; omega) (by omega)).mono ?_
  rintro e w3 ⟨rfl, m3, b3⟩
  have hz3 := b3.size
  have hbb3 := hid (hbb2.out.trans (b3.mono hz))
  have m3 := hid m3
  clear b3
  go_wp2
  go_loopw [16] (fun vi wr => ∃ (i : Nat) (s : ByteArray), i ≤ l.length ∧ vi = .int .i64 i ∧ s.size ≤ 10 + i * 4194325 ∧ Hid (s = (l.take i).foldl (fun s x => s ++ varS x) (uvS l.length) ∧ IsB B B s wr ∧ Below w.heap.size w wr ∧ B ≤ wr.heap.size)) (fun vi _ => l.length - (intOf vi).toNat)
  case atStart => exact ⟨0, uvS l.length, Nat.zero_le _, rfl, by omega, by simp, by have := m3.out; rwa [show (⟨#[]⟩ : ByteArray) ++ uvS l.length = uvS l.length from ByteArray.empty_append] at this, hbb3.out, by omega⟩
  case round =>
   obtain ⟨i, s, hi, rfl, hs, hR⟩ := hrel
   by_cases hlt : i < l.length
   ·
    obtain ⟨x, hx⟩ : ∃ x, l[i]? = some x := ⟨_, List.getElem?_eq_getElem hlt⟩
    obtain ⟨a', cap', hv, -, -, hcell⟩ := H.out.below hR.out.2.2.1
    cases hv
    obtain ⟨b, off, rfl, c0, c1, c2, c3⟩ := hcell i x hx
    have hvo := hid (Hok.out x (List.mem_of_getElem? hx))
    have hvs := varS_size hvo.out
    have hst := hid (app_snoc varS l i x hx (uvS l.length))
    obtain ⟨nm, k, n, t⟩ := x
    dsimp only at c0 c1 c2 c3
    clear hcell hx
    go_wp2_with fail
    have hst0 := alloc_new wr (.cells #[.string nm, .int .i64 k, .int .i64 n, .string t] 177)
    have hW := hid (hR.out.2.2.1.alloc hR.out.2.2.1.size (.cells #[.string nm, .int .i64 k, .int .i64 n, .string t] 177))
    have hM := hid (hR.out.2.1.grow ((Below.refl _ wr).alloc (Nat.le_refl _) (.cells #[.string nm, .int .i64 k, .int .i64 n, .string t] 177)))
    have hsz := hR.out.2.2.2
    have hn := hvo.out.name
    dsimp only at hn
    have hvs' : (txS nm ++ valS ⟨k, n, t⟩).size ≤ 4194325 := hvs
    have hsum := hvs'
    rw [ByteArray.size_append] at hsum
    refine wp_par (fun _ => False) (fun _ => True) (List.replicate 7 false) _ [.fix ?_, .fix ?_, .fix ?_, .fix ?_, .fix ?_, .fix ?_, .fix ?_] (by kernel_rfl) (by kernel_rfl) (by simp only [List.length_replicate, List.drop_succ_cons, List.drop_zero, List.drop_nil]; with_reducible rfl) rfl (fun _ _ _ _ _ => ⟨fun h => h, fun h => h⟩) (fun _ _ h _ => h) trivial ?_
    rotate_left 7
    iterate 7
     first
      | (refine par_skip (a' := ?_) (by rfl) (by rfl) ?_ ?_ ?_; rotate_left 1; with_reducible rfl; (simp only [lays]; with_reducible rfl))
      | (refine par_run (a' := ?_) (by rfl) (by rfl) (fun w' hb hn => ?_) ?_ ?_; rotate_left 1; (have hc := hb.cells; go_simp; (try simp (disch := omega) only [nrm, toNatUp, iteOmega]); first | with_reducible rfl | (go_simp; with_reducible rfl)); (simp only [lays]; with_reducible rfl))
      | (refine par_call (a' := ?_) (f := ?_) (args := ?_) (by rfl) (by rfl) (fun w' => ?_) (fun w' hb hn => ?_) ?_ ?_; rotate_left 3; (go_simp; constructor <;> with_reducible rfl); (exact wtext_any nm (by omega) w'); (simp only [lays]; with_reducible rfl))
      | (refine par_call (a' := ?_) (f := ?_) (args := ?_) (by rfl) (by rfl) (fun w' => ?_) (fun w' hb hn => ?_) ?_ ?_; rotate_left 3; (go_simp; constructor <;> with_reducible rfl); (exact vbytes_any ⟨k, n, t⟩ hvo.out.v w'); (simp only [lays]; with_reducible rfl))
    refine par_end (fun w9 hb9 hf9 _ => ?_)
    replace hb9 := hb9.grow
    try refine wpList_none ?_
    have hM9 := hid (hM.out.grow hb9)
    have hW9 := hid (hW.out.trans (hb9.mono hW.out.size))
    have hz9 := hb9.size
    simp only [World.size_alloc] at hz9
    clear hb9
    go_wp2_with fail
    refine (wstr_any B B s (txS nm ++ valS ⟨k, n, t⟩) w9 hM9.out (by omega) (by omega)).mono ?_
    rintro e w10 ⟨rfl, m10, b10⟩
    have hz10 := b10.size
    have hb10 := hid (hW9.out.trans (b10.mono hz))
    have hm10 := hid m10
    have hvs2 : (s ++ (txS nm ++ valS ⟨k, n, t⟩)).size ≤ 10 + (i + 1) * 4194325 := by rw [ByteArray.size_append]; omega
    clear m10 b10 hst0
    go_wp2
    go_roundw
    case rel => exact ⟨i + 1, s ++ (txS nm ++ valS ⟨k, n, t⟩), by omega, by go_num, hvs2, by rw [hst.out, hR.out.1]; rfl, hm10.out, hb10.out, by omega⟩
    case measure => simp [intOf]; omega
   ·
    have hin : i = l.length := by omega
    subst hin
    have hfin : Hid (s = varsS l) := by
     have := hR.out.1
     rw [List.take_length] at this
     exact this.trans E.out.symm
    go_wp2_with fail
    refine (Tryz.Builder_String_any_k B B s.data.toList wr hR.out.2.1 hR.out.2.2.2).mono ?_
    rintro e w10 ⟨rfl, -, b10, -⟩
    have hb10 := hid (hR.out.2.2.1.trans (b10.mono hz))
    clear b10
    go_wp2
    go_ret
    rw [← hfin.out]
    exact ⟨by simp, hb10.out⟩
theorem rvarsBytes_any (v : Value) (l : List VarV) (w : World) (hok : ∀ x ∈ l, VarOk x) (h : VarsAt w v l) : Calls Tryz.prog 76 #[v] w fun e w' => e = .returned (.string (varsS l)) ∧ Below w.heap.size w w' := by
 have H := hid h
 obtain ⟨a, cap, rfl, h1, h2, -⟩ := h
 have Hok := hid hok
 clear hok
 go_enter Tryz.func76, Tryz.ntmps76
 go_wp2_with fail
 refine (rright_any _ l w Hok.out H.out).mono ?_
 rintro e w1 ⟨rfl, b1⟩
 cases hr : rightV l with
 | false =>
  have E : Hid (varsS l = ⟨#[]⟩) := by show _ = _; unfold varsS; rw [hr]; rfl
  clear hr
  go_wp2
  go_ret
  rw [E.out]
  exact ⟨rfl, b1⟩
 | true =>
  have hl16 := right_le hr
  have E : Hid (varsS l = l.foldl (fun s x => s ++ varS x) (uvS l.length)) := by show _ = _; unfold varsS; rw [hr]; rfl
  have hu := uv_small l.length hl16
  have B1 := hid b1
  clear hr b1
  go_wp2_with fail
  refine (ruint_any l.length (by omega) _).mono ?_
  rintro e w2 ⟨rfl, b2⟩
  have B2 := hid (B1.out.trans (b2.mono B1.out.size))
  clear b2
  go_wp2
  go_loopw [4, 5] (fun vs vi wr => ∃ (i : Nat) (s : ByteArray), i ≤ l.length ∧ vi = .int .i64 i ∧ vs = .string s ∧ s.size ≤ 10 + i * 4194325 ∧ Hid (s = (l.take i).foldl (fun s x => s ++ varS x) (uvS l.length) ∧ Below w.heap.size w wr)) (fun _ vi _ => l.length - (intOf vi).toNat)
  case atStart => exact ⟨0, uvS l.length, Nat.zero_le _, rfl, rfl, by omega, by simp, B2.out⟩
  case round =>
   obtain ⟨i, s, hi, rfl, rfl, hs, hR⟩ := hrel
   by_cases hlt : i < l.length
   ·
    obtain ⟨x, hx⟩ : ∃ x, l[i]? = some x := ⟨_, List.getElem?_eq_getElem hlt⟩
    obtain ⟨a', cap', hv, -, -, hcell⟩ := H.out.below hR.out.2
    cases hv
    obtain ⟨b, off, rfl, c0, c1, c2, c3⟩ := hcell i x hx
    have hvo := hid (Hok.out x (List.mem_of_getElem? hx))
    have hvs := varS_size hvo.out
    have hst := hid (app_snoc varS l i x hx (uvS l.length))
    obtain ⟨nm, k, n, t⟩ := x
    dsimp only at c0 c1 c2 c3
    have hbl := World.block_lt_of_cell? wr _ c0
    dsimp only at hbl
    clear hcell hx
    go_wp2_with fail
    have hn := hvo.out.name
    dsimp only at hn
    have hvs' : (txS nm ++ valS ⟨k, n, t⟩).size ≤ 4194325 := hvs
    have hsum := hvs'
    rw [ByteArray.size_append] at hsum
    refine wp_par (fun _ => False) (fun _ => True) (List.replicate 16 false) _ [.fix ?_, .fix ?_, .fix ?_, .fix ?_, .fix ?_, .fix ?_, .fix ?_, .fix ?_, .fix ?_, .fix ?_, .fix ?_, .fix ?_, .fix ?_, .fix ?_, .fix ?_, .fix ?_] (by kernel_rfl) (by kernel_rfl) (by simp only [List.length_replicate, List.drop_succ_cons, List.drop_zero, List.drop_nil]; with_reducible rfl) rfl (fun _ _ _ _ _ => ⟨fun h => h, fun h => h⟩) (fun _ _ h _ => h) trivial ?_
    rotate_left 16
    iterate 16
     first
      | (refine par_skip (a' := ?_) (by rfl) (by rfl) ?_ ?_ ?_; rotate_left 1; with_reducible rfl; (simp only [lays]; with_reducible rfl))
      | (refine par_run (a' := ?_) (by rfl) (by rfl) (fun w' hb hn => ?_) ?_ ?_; rotate_left 1; (have hc := hb.cells; go_simp; (try simp (disch := omega) only [nrm, toNatUp, iteOmega]); first | with_reducible rfl | (go_simp; with_reducible rfl)); (simp only [lays]; with_reducible rfl))
      | (refine par_call (a' := ?_) (f := ?_) (args := ?_) (by rfl) (by rfl) (fun w' => ?_) (fun w' hb hn => ?_) ?_ ?_; rotate_left 3; (go_simp; constructor <;> with_reducible rfl); (exact rtext_any nm (by omega) w'); (simp only [lays]; with_reducible rfl))
      | (refine par_call (a' := ?_) (f := ?_) (args := ?_) (by rfl) (by rfl) (fun w' => ?_) (fun w' hb hn => ?_) ?_ ?_; rotate_left 3; (go_simp; constructor <;> with_reducible rfl); (exact rbytes_any ⟨k, n, t⟩ hvo.out.v w'); (simp only [lays]; with_reducible rfl))
    refine par_end (fun w9 hb9 hf9 _ => ?_)
    replace hb9 := hb9.grow
    try refine wpList_none ?_
    have hW9 := hid (hR.out.2.trans (hb9.mono hR.out.2.size))
    have hvs2 : (s ++ txS nm ++ valS ⟨k, n, t⟩).size ≤ 10 + (i + 1) * 4194325 := by rw [ByteArray.append_assoc, ByteArray.size_append]; omega
    clear hb9
    go_wp2
    go_roundw
    case rel => exact ⟨i + 1, s ++ txS nm ++ valS ⟨k, n, t⟩, by omega, by go_num, rfl, hvs2, by rw [hst.out, hR.out.1, ByteArray.append_assoc]; rfl, hW9.out⟩
    case measure => simp [intOf]; omega
   ·
    have hin : i = l.length := by omega
    subst hin
    have hfin : Hid (s = varsS l) := by
     have := hR.out.1
     rw [List.take_length] at this
     exact this.trans E.out.symm
    go_wp2
    go_ret
    rw [← hfin.out]
    exact ⟨rfl, hR.out.2⟩
end Go.Proofs.YthikijlbclckdaaGreat
namespace Go.Proofs.YthikijlbclckdaaGreat
set_option maxRecDepth 100000
set_option maxHeartbeats 40000000
set_option linter.unusedSimpArgs false
set_option linter.unusedVariables false
open Go.RowKit
structure DepV where
 id : ByteArray
 bytes : ByteArray
structure InstV where
 key : Nat
 id : ByteArray
 vars : List VarV
structure TokV where
 key : Nat
 inst : Nat
 scope : Nat
 node : Int
 by_ : Int
 stuck : ByteArray
structure JobV where
 key : Nat
 token : Nat
 type : ByteArray
 retries : Int
 worker : ByteArray
 till : Int
structure TimV where
 token : Nat
 node : Int
 when_ : Int
structure SubV where
 token : Nat
 inst : Nat
 node : Int
 name : ByteArray
 key : ByteArray
 is : Bool
structure KeptV where
 token : Nat
 msg : Nat
 node : Int
structure LisV where
 token : Nat
 inst : Nat
 node : Int
 name : ByteArray
 key : ByteArray
 msg : Nat
 vars : List VarV
structure MsgV where
 key : Nat
 name : ByteArray
 for_ : ByteArray
 id : ByteArray
 till : Int
 vars : List VarV
 insts : List Nat
structure StateV where
 pos : Nat
 done : Nat
 made : Nat
 procs : List DepV
 insts : List InstV
 tokens : List TokV
 jobs : List JobV
 timers : List TimV
 subs : List SubV
 kept : List KeptV
 listed : List LisV
 msgs : List MsgV
abbrev U (n : Nat) : Value := .int .u64 (n : Int)
abbrev I (n : Int) : Value := .int .i64 n
def natsV (l : List Nat) : List Value := l.map fun n : Nat => Value.int .u64 (n : Int)
def DepV.at_ (_ : World) (cs : List Value) (x : DepV) : Prop := cs = [.string x.id, .string x.bytes]
def InstV.at_ (w : World) (cs : List Value) (x : InstV) : Prop := ∃ v, cs = [U x.key, .string x.id, v] ∧ VarsAt w v x.vars
def TokV.at_ (_ : World) (cs : List Value) (x : TokV) : Prop := cs = [U x.key, U x.inst, U x.scope, I x.node, I x.by_, .string x.stuck]
def JobV.at_ (_ : World) (cs : List Value) (x : JobV) : Prop := cs = [U x.key, U x.token, .string x.type, I x.retries, .string x.worker, I x.till]
def TimV.at_ (_ : World) (cs : List Value) (x : TimV) : Prop := cs = [U x.token, I x.node, I x.when_]
def SubV.at_ (_ : World) (cs : List Value) (x : SubV) : Prop := cs = [U x.token, U x.inst, I x.node, .string x.name, .string x.key, .bool x.is]
def KeptV.at_ (_ : World) (cs : List Value) (x : KeptV) : Prop := cs = [U x.token, U x.msg, I x.node]
def LisV.at_ (w : World) (cs : List Value) (x : LisV) : Prop := ∃ v, cs = [U x.token, U x.inst, I x.node, .string x.name, .string x.key, U x.msg, v] ∧ VarsAt w v x.vars
def MsgV.at_ (w : World) (cs : List Value) (x : MsgV) : Prop := ∃ v u, cs = [U x.key, .string x.name, .string x.for_, .string x.id, I x.till, v, u] ∧ VarsAt w v x.vars ∧ SlR w u (natsV x.insts)
def ListAt {α : Type} (R : World → List Value → α → Prop) (size : Nat) (w : World) (v : Value) (l : List α) : Prop :=
 ∃ a cap, v = .slice a l.length cap ∧ l.length ≤ cap ∧ l.length ≤ maxLen ∧ ∀ (i : Nat) (x : α), l[i]? = some x → ∃ b off cs, a = some ⟨b, off, none⟩ ∧ cs.length = size ∧ R w cs x ∧ ∀ j u, cs[j]? = some u → w.cell? ⟨b, off + i * size + j, none⟩ = some u
def Stable {α : Type} (R : World → List Value → α → Prop) : Prop := ∀ w w' cs x, R w cs x → Below w.heap.size w w' → R w' cs x
theorem ListAt.grow {α : Type} {R : World → List Value → α → Prop} {size : Nat} {w w' : World} {v : Value} {l : List α} (hs : Stable R) (h : ListAt R size w v l) (hb : Below w.heap.size w w') : ListAt R size w' v l := by
 obtain ⟨a, cap, hv, h1, h2, h3⟩ := h
 refine ⟨a, cap, hv, h1, h2, fun i x hx => ?_⟩
 obtain ⟨b, off, cs, ha, hl, hr, hc⟩ := h3 i x hx
 exact ⟨b, off, cs, ha, hl, hs _ _ _ _ hr hb, fun j u hu => (hb.cell (p := ⟨b, off + i * size + j, none⟩) (World.block_lt_of_cell? w _ (hc j u hu))).trans (hc j u hu)⟩
theorem DepV.st : Stable DepV.at_ := fun _ _ _ _ h _ => h
theorem InstV.st : Stable InstV.at_ := fun _ _ _ _ h hb => by obtain ⟨v, h1, h2⟩ := h; exact ⟨v, h1, h2.below hb⟩
theorem TokV.st : Stable TokV.at_ := fun _ _ _ _ h _ => h
theorem JobV.st : Stable JobV.at_ := fun _ _ _ _ h _ => h
theorem TimV.st : Stable TimV.at_ := fun _ _ _ _ h _ => h
theorem SubV.st : Stable SubV.at_ := fun _ _ _ _ h _ => h
theorem KeptV.st : Stable KeptV.at_ := fun _ _ _ _ h _ => h
theorem LisV.st : Stable LisV.at_ := fun _ _ _ _ h hb => by obtain ⟨v, h1, h2⟩ := h; exact ⟨v, h1, h2.below hb⟩
theorem MsgV.st : Stable MsgV.at_ := fun _ _ _ _ h hb => by obtain ⟨v, u, h1, h2, h3⟩ := h; exact ⟨v, u, h1, h2.below hb, h3.below hb⟩
structure StateAt (w : World) (cs : List Value) (s : StateV) (vp vi vt vj vr vs vk vl vm : Value) : Prop where
 cells : cs = [U s.pos, U s.done, U s.made, vp, vi, vt, vj, vr, vs, vk, vl, vm]
 procs : ListAt DepV.at_ 2 w vp s.procs
 insts : ListAt InstV.at_ 3 w vi s.insts
 tokens : ListAt TokV.at_ 6 w vt s.tokens
 jobs : ListAt JobV.at_ 6 w vj s.jobs
 timers : ListAt TimV.at_ 3 w vr s.timers
 subs : ListAt SubV.at_ 6 w vs s.subs
 kept : ListAt KeptV.at_ 3 w vk s.kept
 listed : ListAt LisV.at_ 7 w vl s.listed
 msgs : ListAt MsgV.at_ 7 w vm s.msgs
theorem StateAt.grow {w w' : World} {cs : List Value} {s : StateV} {vp vi vt vj vr vs vk vl vm : Value} (h : StateAt w cs s vp vi vt vj vr vs vk vl vm) (hb : Below w.heap.size w w') : StateAt w' cs s vp vi vt vj vr vs vk vl vm :=
 ⟨h.cells, h.procs.grow DepV.st hb, h.insts.grow InstV.st hb, h.tokens.grow TokV.st hb, h.jobs.grow JobV.st hb, h.timers.grow TimV.st hb, h.subs.grow SubV.st hb, h.kept.grow KeptV.st hb, h.listed.grow LisV.st hb, h.msgs.grow MsgV.st hb⟩
def U64 (n : Nat) : Prop := n < 18446744073709551616
def I64 (n : Int) : Prop := -9223372036854775808 ≤ n ∧ n ≤ 9223372036854775807
def Sz (s : ByteArray) : Prop := s.size ≤ 2097152
structure DepOk (x : DepV) : Prop where
 id : Sz x.id
 bytes : Sz x.bytes
structure InstOk (x : InstV) : Prop where
 key : U64 x.key
 id : Sz x.id
 vars : ∀ y ∈ x.vars, VarOk y
structure TokOk (x : TokV) : Prop where
 key : U64 x.key
 inst : U64 x.inst
 scope : U64 x.scope
 node : I64 x.node
 by_ : I64 x.by_
 stuck : Sz x.stuck
structure JobOk (x : JobV) : Prop where
 key : U64 x.key
 token : U64 x.token
 type : Sz x.type
 retries : I64 x.retries
 worker : Sz x.worker
 till : I64 x.till
structure TimOk (x : TimV) : Prop where
 token : U64 x.token
 node : I64 x.node
 when_ : I64 x.when_
structure SubOk (x : SubV) : Prop where
 token : U64 x.token
 inst : U64 x.inst
 node : I64 x.node
 name : Sz x.name
 key : Sz x.key
structure KeptOk (x : KeptV) : Prop where
 token : U64 x.token
 msg : U64 x.msg
 node : I64 x.node
structure LisOk (x : LisV) : Prop where
 token : U64 x.token
 inst : U64 x.inst
 node : I64 x.node
 name : Sz x.name
 key : Sz x.key
 msg : U64 x.msg
 vars : ∀ y ∈ x.vars, VarOk y
structure MsgOk (x : MsgV) : Prop where
 key : U64 x.key
 name : Sz x.name
 for_ : Sz x.for_
 id : Sz x.id
 till : I64 x.till
 vars : ∀ y ∈ x.vars, VarOk y
 insts : ∀ n ∈ x.insts, U64 n
 many : x.insts.length ≤ 2097152
structure StateOk (s : StateV) : Prop where
 pos : U64 s.pos
 done : U64 s.done
 made : U64 s.made
 procs : ∀ x ∈ s.procs, DepOk x
 insts : ∀ x ∈ s.insts, InstOk x
 tokens : ∀ x ∈ s.tokens, TokOk x
 jobs : ∀ x ∈ s.jobs, JobOk x
 timers : ∀ x ∈ s.timers, TimOk x
 subs : ∀ x ∈ s.subs, SubOk x
 kept : ∀ x ∈ s.kept, KeptOk x
 listed : ∀ x ∈ s.listed, LisOk x
 msgs : ∀ x ∈ s.msgs, MsgOk x
 many : s.procs.length + s.insts.length + s.tokens.length + s.jobs.length + s.timers.length + s.subs.length + s.kept.length + s.listed.length + s.msgs.length ≤ 2097152
end Go.Proofs.YthikijlbclckdaaGreat
