/- Keep: contracts (Gt Gu Gv Gw). -/
import Derived.Test.YtjkbfoeakeoeiaaGreatV16
import Derived.Laws.Bits64b
namespace Go.Proofs.YtjkbfoeakeoeiaaGreat
set_option maxRecDepth 100000
set_option maxHeartbeats 40000000
set_option linter.unusedSimpArgs false
set_option linter.unusedVariables false
open Go.RowKit
def atR (s : StateV) (pos : Nat) (r : RecV) : StateV := { s with pos := pos, done := max s.done r.from_ }
theorem ap18 (s : StateV) (pos : Nat) (r : RecV) (hc : r.cls = 2) (hk : r.kind = 18) (hdo : s.done < 18446744073709551616 ∧ r.from_ < 18446744073709551616) (hl0 : s.listed = []) : ApplyC s pos r (applyV s pos r) := by
  intro S w cs rc hS hs hrec
  have e : applyV s pos r = evListed (atR s pos r) r := by
    unfold applyV eventV
    rw [if_pos hc]
    simp only [hk]
    rfl
  rw [e]
  exact applyDo_any S w s r cs rc pos 18 102 _ hS hs hrec hc hk (by kernel_rfl) (fun _ _ => by kernel_rfl) hdo (fun T W cs' hT h1 h2 => evListed_any T W _ r cs' rc hT h1 h2 hl0)
theorem ap19 (s : StateV) (pos : Nat) (r : RecV) (hc : r.cls = 2) (hk : r.kind = 19) (hdo : s.done < 18446744073709551616 ∧ r.from_ < 18446744073709551616) (hm0 : s.msgs = []) (hmd : s.made < 1000000) (hlen : r.vars.length ≤ 1048576) : ApplyC s pos r (applyV s pos r) := by
  intro S w cs rc hS hs hrec
  have e : applyV s pos r = evPublished (atR s pos r) r := by
    unfold applyV eventV
    rw [if_pos hc]
    simp only [hk]
    rfl
  rw [e]
  exact applyDo_any S w s r cs rc pos 19 103 _ hS hs hrec hc hk (by kernel_rfl) (fun _ _ => by kernel_rfl) hdo (fun T W cs' hT h1 h2 => evPublished_any T W _ r cs' rc hT h1 h2 hm0 hmd hlen)
theorem ap20 (s : StateV) (pos : Nat) (r : RecV) (hc : r.cls = 2) (hk : r.kind = 20) (hdo : s.done < 18446744073709551616 ∧ r.from_ < 18446744073709551616) (hm1 : s.msgs.length ≤ 1) : ApplyC s pos r (applyV s pos r) := by
  intro S w cs rc hS hs hrec
  have e : applyV s pos r = evExpired (atR s pos r) r := by
    unfold applyV eventV
    rw [if_pos hc]
    simp only [hk]
    rfl
  rw [e]
  exact applyDo_any S w s r cs rc pos 20 104 _ hS hs hrec hc hk (by kernel_rfl) (fun _ _ => by kernel_rfl) hdo (fun T W cs' hT h1 h2 => evExpired_any T W _ r cs' rc hT h1 h2 hm1)
theorem ap22 (s : StateV) (pos : Nat) (r : RecV) (hc : r.cls = 2) (hk : r.kind = 22) (hdo : s.done < 18446744073709551616 ∧ r.from_ < 18446744073709551616) (hl1 : s.listed.length ≤ 1) : ApplyC s pos r (applyV s pos r) := by
  intro S w cs rc hS hs hrec
  have e : applyV s pos r = evMatched (atR s pos r) r := by
    unfold applyV eventV
    rw [if_pos hc]
    simp only [hk]
    rfl
  rw [e]
  exact applyDo_any S w s r cs rc pos 22 106 _ hS hs hrec hc hk (by kernel_rfl) (fun _ _ => by kernel_rfl) hdo (fun T W cs' hT h1 h2 => evMatched_any T W _ r cs' rc hT h1 h2 hl1)
theorem evSending_all (S : Nat → Prop) (w : World) (s : StateV) (r : RecV) (cs rc : List Value) (hS : ∀ b, S b → b < w.heap.size) (hs : StAt S w cs s) (hrec : RecAt S w rc r) (hl1 : s.listed.length ≤ 1) (hm1 : s.msgs.length ≤ 1) (hmv : ∀ x ∈ s.msgs, x.vars.length ≤ 1048576 ∧ x.insts.length ≤ 1000) :
    Calls Tryz.prog 105 #[.agg cs.toArray, .agg rc.toArray] w fun e w' => ∃ cs', e = .returned (.agg cs'.toArray) ∧ StAt S w' cs' (evSending s r) ∧ Below w.heap.size w w' := by
  cases hx : s.listed.find? (ofLis r) with
  | none => exact evSending_not_any S w s r cs rc hS hs hrec hl1 hm1 (.inl hx)
  | some x =>
    cases hm : s.msgs.find? (ofMsg r) with
    | none => exact evSending_not_any S w s r cs rc hS hs hrec hl1 hm1 (.inr hm)
    | some m =>
      have hin := List.mem_of_find?_eq_some hm
      exact evSending_do_any S w s r cs rc hS hs hrec hl1 hm1 x m hx hm (hmv m hin).1 (hmv m hin).2
theorem ap21 (s : StateV) (pos : Nat) (r : RecV) (hc : r.cls = 2) (hk : r.kind = 21) (hdo : s.done < 18446744073709551616 ∧ r.from_ < 18446744073709551616) (hl1 : s.listed.length ≤ 1) (hm1 : s.msgs.length ≤ 1) (hmv : ∀ x ∈ s.msgs, x.vars.length ≤ 1048576 ∧ x.insts.length ≤ 1000) : ApplyC s pos r (applyV s pos r) := by
  intro S w cs rc hS hs hrec
  have e : applyV s pos r = evSending (atR s pos r) r := by
    unfold applyV eventV
    rw [if_pos hc]
    simp only [hk]
    rfl
  rw [e]
  exact applyDo_any S w s r cs rc pos 21 105 _ hS hs hrec hc hk (by kernel_rfl) (fun _ _ => by kernel_rfl) hdo (fun T W cs' hT h1 h2 => evSending_all T W (atR s pos r) r cs' rc hT h1 h2 hl1 hm1 hmv)
theorem evMissed_all (S : Nat → Prop) (w : World) (s : StateV) (r : RecV) (cs rc : List Value) (hS : ∀ b, S b → b < w.heap.size) (hs : StAt S w cs s) (hrec : RecAt S w rc r) (hl1 : s.listed.length ≤ 1) (hm1 : s.msgs.length ≤ 1) (hmi : ∀ x ∈ s.msgs, x.insts.length ≤ 1) :
    Calls Tryz.prog 107 #[.agg cs.toArray, .agg rc.toArray] w fun e w' => ∃ cs', e = .returned (.agg cs'.toArray) ∧ StAt S w' cs' (evMissed s r) ∧ Below w.heap.size w w' := by
  cases hx : s.listed.find? (ofLis r) with
  | none => exact evMissed_not_any S w s r cs rc hS hs hrec hx
  | some x => exact evMissed_do_any S w s r cs rc hS hs hrec hl1 hm1 x hx hmi
theorem ap23 (s : StateV) (pos : Nat) (r : RecV) (hc : r.cls = 2) (hk : r.kind = 23) (hdo : s.done < 18446744073709551616 ∧ r.from_ < 18446744073709551616) (hl1 : s.listed.length ≤ 1) (hm1 : s.msgs.length ≤ 1) (hmi : ∀ x ∈ s.msgs, x.insts.length ≤ 1) : ApplyC s pos r (applyV s pos r) := by
  intro S w cs rc hS hs hrec
  have e : applyV s pos r = evMissed (atR s pos r) r := by
    unfold applyV eventV
    rw [if_pos hc]
    simp only [hk]
    rfl
  rw [e]
  exact applyDo_any S w s r cs rc pos 23 107 _ hS hs hrec hc hk (by kernel_rfl) (fun _ _ => by kernel_rfl) hdo (fun T W cs' hT h1 h2 => evMissed_all T W (atR s pos r) r cs' rc hT h1 h2 hl1 hm1 hmi)
structure SmW (b : Nat) (k : WorkV) : Prop where
  sm : SmS k.s
  part : k.part = 0
  pos : 1 ≤ k.pos ∧ k.pos ≤ 1000000
  now : 0 ≤ k.now ∧ k.now ≤ 1000000
  spos : k.s.pos ≤ b
  made : k.s.made ≤ b
  done : k.s.done ≤ 1000000
  ev : k.ev.length ≤ b
  evv : ∀ r ∈ k.ev, r.vars.length ≤ 1048576
  ins : ∀ m ∈ k.s.msgs, m.insts.length ≤ b
theorem list_le1 {α : Type} {l : List α} (h : l.length ≤ 1) : l = [] ∨ ∃ x, l = [x] := by
  match l, h with
  | [], _ => exact .inl rfl
  | [x], _ => exact .inr ⟨x, rfl⟩
theorem change_one {α : Type} (p : α → Bool) (f : α → α) (x : α) : changeBy p f [x] = if p x then [f x] else [x] := by
  unfold changeBy
  cases h : p x <;> simp [h]
theorem ev_sm (s : StateV) (r : RecV) (b : Nat) (hs : SmS s) (hi : ∀ m ∈ s.msgs, m.insts.length ≤ b) (hb : b < 1000) (h18 : r.kind = 18 → s.listed = []) (h19 : r.kind = 19 → s.msgs = [] ∧ r.vars.length ≤ 1048576) :
    SmS (eventV s r) ∧ (∀ m ∈ (eventV s r).msgs, m.insts.length ≤ b + 1) ∧ (eventV s r).pos = s.pos ∧ (eventV s r).done = s.done ∧ (eventV s r).made ≤ s.made + 1 := by
  obtain ⟨hz, hin, hl, hm, hlv, hmv⟩ := hs
  have triv : SmS s ∧ (∀ m ∈ s.msgs, m.insts.length ≤ b + 1) ∧ s.pos = s.pos ∧ s.done = s.done ∧ s.made ≤ s.made + 1 := ⟨⟨hz, hin, hl, hm, hlv, hmv⟩, fun m h => Nat.le_succ_of_le (hi m h), rfl, rfl, Nat.le_succ _⟩
  unfold eventV
  split
  · rename_i hk
    have h0 := h18 hk
    unfold evListed
    rw [h0, put_one]
    exact ⟨⟨hz, hin, by simp, hm, by simp, hmv⟩, fun m h => Nat.le_succ_of_le (hi m h), rfl, rfl, Nat.le_succ _⟩
  · split
    · rename_i hk
      obtain ⟨h0, h1⟩ := h19 hk
      unfold evPublished
      rw [h0, put_one]
      exact ⟨⟨hz, hin, hl, by simp, hlv, by simp [h1]⟩, by simp, rfl, rfl, Nat.mod_le _ _⟩
    · split
      · have hsub : ∀ m ∈ withoutBy (fun m : MsgV => decide (m.key = r.key)) s.msgs, m ∈ s.msgs := fun m h => (List.mem_filter.1 h).1
        exact ⟨⟨hz, hin, hl, Nat.le_trans (List.length_filter_le _ _) hm, hlv, fun x h => hmv x (hsub x h)⟩, fun m h => Nat.le_succ_of_le (hi m (hsub m h)), rfl, rfl, Nat.le_succ _⟩
      · split
        · unfold evSending
          split
          · rename_i x m hx hm'
            have hmem := List.mem_of_find?_eq_some hm'
            obtain hl0 | ⟨y, hy⟩ := list_le1 hl
            · rw [hl0] at hx; cases hx
            obtain hm0 | ⟨z, hz'⟩ := list_le1 hm
            · rw [hm0] at hm'; cases hm'
            have hzm : z ∈ s.msgs := by rw [hz']; simp
            have e1 : ofLis r y = true ∧ y = x := by
              rw [hy] at hx
              cases h : ofLis r y <;> simp [List.find?_cons, h] at hx
              exact ⟨rfl, hx⟩
            have e2 : ofMsg r z = true ∧ z = m := by
              rw [hz'] at hm'
              cases h : ofMsg r z <;> simp [List.find?_cons, h] at hm'
              exact ⟨rfl, hm'⟩
            rw [hy, hz', change_one, change_one, if_pos e1.1, if_pos e2.1]
            refine ⟨⟨hz, hin, by simp, by simp, ?_, ?_⟩, ?_, rfl, rfl, Nat.le_succ _⟩
            · simp
              exact (hmv m hmem).1
            · simp
              exact ⟨(hmv z hzm).1, by have := hi z hzm; omega⟩
            · simp
              exact hi z hzm
          · exact triv
        · split
          · have hsub : ∀ m ∈ withoutBy (ofLis r) s.listed, m ∈ s.listed := fun m h => (List.mem_filter.1 h).1
            exact ⟨⟨hz, hin, Nat.le_trans (List.length_filter_le _ _) hl, hm, fun x h => hlv x (hsub x h), hmv⟩, fun m h => Nat.le_succ_of_le (hi m h), rfl, rfl, Nat.le_succ _⟩
          · split
            · unfold evMissed
              split
              · have hsub : ∀ m ∈ withoutBy (ofLis r) s.listed, m ∈ s.listed := fun m h => (List.mem_filter.1 h).1
                rename_i x hx
                obtain hm0 | ⟨z, hz'⟩ := list_le1 hm
                · rw [hm0]
                  exact ⟨⟨hz, hin, Nat.le_trans (List.length_filter_le _ _) hl, by simp [changeBy], fun x h => hlv x (hsub x h), by simp [changeBy]⟩, by simp [changeBy], rfl, rfl, Nat.le_succ _⟩
                · have hzm : z ∈ s.msgs := by rw [hz']; simp
                  have h1 := hmv z hzm
                  have h2 := hi z hzm
                  have h3 : (withoutBy (fun k => decide (k = x.inst)) z.insts).length ≤ z.insts.length := List.length_filter_le _ _
                  rw [hz', change_one]
                  split
                  · exact ⟨⟨hz, hin, Nat.le_trans (List.length_filter_le _ _) hl, by simp, fun x h => hlv x (hsub x h), by simp only [List.mem_singleton, forall_eq]; exact ⟨h1.1, by omega⟩⟩, by simp only [List.mem_singleton, forall_eq]; omega, rfl, rfl, Nat.le_succ _⟩
                  · exact ⟨⟨hz, hin, Nat.le_trans (List.length_filter_le _ _) hl, by simp, fun x h => hlv x (hsub x h), by simp only [List.mem_singleton, forall_eq]; exact h1⟩, by simp only [List.mem_singleton, forall_eq]; omega, rfl, rfl, Nat.le_succ _⟩
              · exact triv
            · exact triv
theorem emit_sm (k : WorkV) (r : RecV) (b : Nat) (h : SmW b k) (hb : b < 1000) (h18 : r.kind = 18 → k.s.listed = []) (h19 : r.kind = 19 → k.s.msgs = []) (hv : r.vars.length ≤ 1048576) : SmW (b + 1) (emitV k r) := by
  have e : w64 (k.s.pos + 1) = k.s.pos + 1 := Nat.mod_eq_of_lt (by have := h.spos; omega)
  have hsm : SmS (atR k.s (w64 (k.s.pos + 1)) (toldR k r)) := ⟨h.sm.z, h.sm.ins, h.sm.l1, h.sm.m1, h.sm.lv, h.sm.mv⟩
  have hev := ev_sm (atR k.s (w64 (k.s.pos + 1)) (toldR k r)) (toldR k r) b hsm h.ins hb h18 (fun hk => ⟨h19 hk, hv⟩)
  have es : (emitV k r).s = eventV (atR k.s (w64 (k.s.pos + 1)) (toldR k r)) (toldR k r) := rfl
  refine ⟨by rw [es]; exact hev.1, h.part, h.pos, h.now, ?_, ?_, ?_, ?_, ?_, by rw [es]; exact hev.2.1⟩
  · rw [es, hev.2.2.1]
    show w64 (k.s.pos + 1) ≤ b + 1
    have := h.spos
    omega
  · rw [es]
    have h1 := hev.2.2.2.2
    have h2 : (atR k.s (w64 (k.s.pos + 1)) (toldR k r)).made = k.s.made := rfl
    have := h.made
    omega
  · rw [es, hev.2.2.2.1]
    show max k.s.done k.pos ≤ 1000000
    have := h.done
    have := h.pos
    omega
  · show (k.ev ++ [_]).length ≤ b + 1
    have := h.ev
    simp
    omega
  · intro x hx
    rcases List.mem_append.1 hx with hx | hx
    · exact h.evv x hx
    · simp at hx
      subst hx
      exact hv
def EmitOk (k : WorkV) (r : RecV) : Prop := (r.kind = 18 ∧ k.s.listed = []) ∨ (r.kind = 19 ∧ k.s.msgs = []) ∨ r.kind = 20 ∨ r.kind = 21 ∨ r.kind = 22 ∨ (r.kind = 23 ∧ ∀ m ∈ k.s.msgs, m.insts.length ≤ 1)
theorem emitV_any (w : World) (wb : Nat) (S : Nat → Prop) (ve : Value) (k : WorkV) (r : RecV) (rc : List Value) (b : Nat) (hW : WorkAt w wb S ve k) (hb : SmW b k) (hb9 : b < 1000) (hok : EmitOk k r) (hrec : RecAt S w rc r) (hlen : r.vars.length ≤ 1048576) :
    Calls Tryz.prog 35 #[.pointer (some ⟨wb, 0, none⟩), .agg rc.toArray] w fun e w' => e = .returned (.tuple #[]) ∧ ∃ S' ve', WorkAt w' wb S' ve' (emitV k r) ∧ Goes S w S' w' := by
  have e : w64 (k.s.pos + 1) = k.s.pos + 1 := Nat.mod_eq_of_lt (by have := hb.spos; omega)
  have hdo : k.s.done < 18446744073709551616 ∧ (toldR k r).from_ < 18446744073709551616 := ⟨by have := hb.done; omega, by have := hb.pos; show k.pos < _; omega⟩
  have hap : ApplyC k.s (k.s.pos + 1) (toldR k r) (applyV k.s (k.s.pos + 1) (toldR k r)) := by
    rcases hok with ⟨h, h0⟩ | ⟨h, h0⟩ | h | h | h | ⟨h, h0⟩
    · exact ap18 _ _ _ rfl h hdo h0
    · exact ap19 _ _ _ rfl h hdo h0 (by have := hb.made; omega) hlen
    · exact ap20 _ _ _ rfl h hdo hb.sm.m1
    · exact ap21 _ _ _ rfl h hdo hb.sm.l1 hb.sm.m1 hb.sm.mv
    · exact ap22 _ _ _ rfl h hdo hb.sm.l1
    · exact ap23 _ _ _ rfl h hdo hb.sm.l1 hb.sm.m1 h0
  have hE : emitV k r = { k with ev := k.ev ++ [toldR k r], s := applyV k.s (k.s.pos + 1) (toldR k r) } := by
    show ({ k with ev := k.ev ++ [toldR k r], s := applyV k.s (w64 (k.s.pos + 1)) (toldR k r) } : WorkV) = _
    rw [e]
  rw [hE]
  exact emit_any w wb S ve k r rc _ hW hrec hlen (by have := hb.ev; omega) (by have := hb.spos; omega) hap
end Go.Proofs.YtjkbfoeakeoeiaaGreat
namespace Go.Proofs.YtjkbfoeakeoeiaaGreat
set_option maxRecDepth 100000
set_option maxHeartbeats 40000000
set_option linter.unusedSimpArgs false
set_option linter.unusedVariables false
open Go.IntWalk Go.RowKit
theorem home_bits (key : Nat) (h : key < 18446744073709551616) : bits .and .u64 ((key : Int) / 1099511627776) 2147483647 = ((key / 1099511627776 % 2147483648 : Nat) : Int) := by
  have e1 : ((key : Int) / 1099511627776) = ((key / 1099511627776 : Nat) : Int) := by omega
  have e2 : (2147483647 : Int) = ((2147483647 : Nat) : Int) := rfl
  rw [e1, e2, bits_and_u64_nat _ _ (by omega) (by omega)]
  have := Nat.and_two_pow_sub_one_eq_mod (key / 1099511627776) 31
  simp only [Nat.reducePow, Nat.reduceSub] at this
  rw [this]
theorem mhome_any (key : Nat) (h : key < 18446744073709551616) (w : World) : Calls Tryz.prog 9 #[U key] w fun e w' => e = .returned (I (homeV key)) ∧ w' = w := by
  have hb := home_bits key h
  unfold homeV
  obtain ⟨k, hk⟩ : ∃ k, k = key / 1099511627776 % 2147483648 := ⟨_, rfl⟩
  have hk2 : k < 2147483648 := by omega
  rw [← hk] at hb ⊢
  clear hk
  go_enter Tryz.func9, Tryz.ntmps9
  go_wp2
  go_ret
  exact ⟨rfl, rfl⟩
def hashB (s : ByteArray) (i : Nat) : Nat := (s.data.toList.take i).foldl (fun h b => (31 * h + b.toNat) % 4294967296) 0
theorem hash_step (s : ByteArray) (i : Nat) (h : i < s.size) : hashB s (i + 1) = (31 * hashB s i + (s[i]'h).toNat) % 4294967296 := by
  unfold hashB
  rw [List.take_succ_eq_append_getElem (show i < s.data.toList.length by rw [Array.length_toList]; exact h), List.foldl_append]
  rfl
theorem mshard_any (key : ByteArray) (parts : Int) (h1 : -9223372036854775808 ≤ parts) (h2 : parts ≤ 9223372036854775807) (hk : key.size ≤ 140737488355328) (w : World) : Calls Tryz.prog 7 #[.string key, I parts] w fun e w' => e = .returned (I (shardV key parts)) ∧ w' = w := by
  by_cases hp : parts < 1
  · unfold shardV
    rw [if_pos hp]
    go_enter Tryz.func7, Tryz.ntmps7
    go_wp2
    go_ret
    exact ⟨rfl, rfl⟩
  · obtain ⟨p, rfl⟩ := Int.eq_ofNat_of_zero_le (show 0 ≤ parts by omega)
    have E : shardV key p = ((hashB key key.size % p : Nat) : Int) := by
      unfold shardV hashB
      rw [if_neg hp, List.take_of_length_le (show key.data.toList.length ≤ key.size by rw [Array.length_toList]; exact Nat.le_refl _)]
      omega
    rw [E]
    clear E
    go_enter Tryz.func7, Tryz.ntmps7
    go_wp2
    go_loopw [5, 11] (fun vh vi wr => ∃ (i n : Nat), i ≤ key.size ∧ vi = .int .i64 i ∧ vh = .int .u32 (n : Int) ∧ n < 4294967296 ∧ Hid (n = hashB key i) ∧ wr = w) (fun _ vi _ => key.size - (intOf vi).toNat)
    case atStart => exact ⟨0, 0, by omega, rfl, rfl, by omega, rfl, rfl⟩
    case round =>
      obtain ⟨i, n, hi, rfl, rfl, hn, hN, rfl⟩ := hrel
      by_cases hlt : i < key.size
      · have hst := hid (hash_step key i hlt)
        go_wp2_with fail
        have hN' : n = hashB key i := hN.out
        have hr := hst.out
        rw [← hN'] at hr
        exact ⟨⟨i + 1, (31 * n + (key[i]'hlt).toNat) % 4294967296, by omega, by go_num, (by congr 1; omega), Nat.mod_lt _ (by omega), hr.symm, trivial⟩, by simp [intOf]; omega⟩
      · obtain rfl : i = key.size := by omega
        have hN' : n = hashB key key.size := hN.out
        have hnm : n % p ≤ n := Nat.mod_le _ _
        go_wp2
        go_ret
        rw [← hN']
        have hcast : ((n : Int) % (p : Int)) = ((n % p : Nat) : Int) := (Int.natCast_emod n p).symm
        refine ⟨?_, rfl⟩
        show Ending.returned (Value.int .i64 (wrap64 ((n : Int) % (p : Int)))) = _
        rw [hcast]
        generalize n % p = q at hnm ⊢
        rw [IntWalk.wrap64_in _ (by omega)]
theorem mindex_any (v : Value) (l : List Nat) (key : Nat) (w : World) (hl : l.length ≤ 1000000) (h : SlR w v (natsV l)) : Calls Tryz.prog 80 #[v, U key] w fun e w' => ∃ n : Int, e = .returned (I n) ∧ ((key ∈ l ↔ 0 ≤ n) ∧ -1 ≤ n ∧ n ≤ 1000000) ∧ w' = w := by
  obtain ⟨a, cap, rfl, h1, h2, h3⟩ := h
  have hnl : (natsV l).length = l.length := by simp [natsV]
  rw [hnl] at h1 h2 ⊢
  have H := hid h3
  clear h3 h1
  go_enter Tryz.func80, Tryz.ntmps80
  go_wp2
  go_loopw [8] (fun vi wr => ∃ i : Nat, i ≤ l.length ∧ vi = .int .i64 i ∧ Hid (∀ j x, j < i → l[j]? = some x → x ≠ key) ∧ wr = w) (fun vi _ => l.length - (intOf vi).toNat)
  case atStart => exact ⟨0, by omega, rfl, (fun j x h => by omega), rfl⟩
  case round =>
    obtain ⟨i, hi, rfl, hR, rfl⟩ := hrel
    by_cases hlt : i < l.length
    · obtain ⟨x, hx⟩ : ∃ x, l[i]? = some x := ⟨_, List.getElem?_eq_getElem hlt⟩
      obtain ⟨b, off, rfl, hc⟩ := H.out i (U x) (by simp [natsV, hx])
      have Hx := hid hx
      by_cases hk : x = key
      · subst hk
        have hmem := hid (List.mem_of_getElem? hx)
        clear hx
        go_wp2
        go_ret
        exact ⟨i, rfl, ⟨⟨fun _ => by omega, fun _ => hmem.out⟩, by omega, by omega⟩, rfl⟩
      · have hne : ((key : Int) = (x : Int)) = False := by simp; omega
        clear hx
        go_wp2_with fail
        refine ⟨⟨i + 1, by omega, by go_num, (fun j y hj hy => ?_), trivial⟩, by simp [intOf]; omega⟩
        rcases Nat.lt_or_ge j i with h | h
        · exact hR.out j y h hy
        · obtain rfl : j = i := by omega
          rw [Hx.out] at hy
          injection hy with hy
          subst hy
          exact hk
    · obtain rfl : i = l.length := by omega
      go_wp2
      go_ret
      exact ⟨-1, rfl, ⟨⟨fun hm => by
        obtain ⟨j, hj⟩ := List.mem_iff_getElem?.1 hm
        exact absurd rfl (hR.out j key (List.getElem?_eq_some_iff.1 hj).1 hj), fun h => by omega⟩, by omega, by omega⟩, rfl⟩
theorem mcontains_any (v : Value) (l : List Nat) (key : Nat) (w : World) (hl : l.length ≤ 1000000) (h : SlR w v (natsV l)) : Calls Tryz.prog 70 #[v, U key] w fun e w' => e = .returned (.bool (decide (key ∈ l))) ∧ w' = w := by
  go_enter Tryz.func70, Tryz.ntmps70
  go_wp2_with fail
  refine (mindex_any v l key w hl h).mono ?_
  rintro e w1 ⟨n, rfl, hn, rfl⟩
  have Hd : Hid (decide (key ∈ l) = decide (0 ≤ n)) := (decide_eq_decide.2 hn.1)
  have hr := hn.2.1
  have hr2 := hn.2.2
  clear hn
  go_wp2
  go_ret
  exact ⟨by rw [Hd.out]; rfl, rfl⟩
theorem lives_any (w : World) (wb : Nat) (S : Nat → Prop) (ve : Value) (k : WorkV) (m : MsgV) (mv mu : Value) (hW : WorkAt w wb S ve k) :
    Calls Tryz.prog 29 #[.pointer (some ⟨wb, 0, none⟩), .agg #[U m.key, .string m.name, .string m.for_, .string m.id, I m.till, mv, mu]] w fun e w' => e = .returned (.bool (livesV k m)) ∧ Below w.heap.size w w' := by
  have HW := hid hW
  clear hW
  go_enter Tryz.func29, Tryz.ntmps29
  go_wp2_with fail
  refine wp_box1 ?_
  intro W0 h0 B0 hz
  have c4 := cell_of h0.out 4
  have hl := heap_lt h0.out
  refine wp_par (fun _ => False) (fun _ => True) (List.replicate 6 false) _ [.fix ?_, .fix ?_, .fix ?_, .fix ?_, .fix ?_, .fix ?_] (by kernel_rfl) (by kernel_rfl) (by simp only [List.length_replicate, List.drop_succ_cons, List.drop_zero, List.drop_nil]; with_reducible rfl) rfl (fun _ _ _ _ _ => ⟨fun h => h, fun h => h⟩) (fun _ _ h _ => h) trivial ?_
  rotate_left 6
  iterate 3
    first
      | (refine par_skip (a' := ?_) (by rfl) (by rfl) ?_ ?_ ?_; rotate_left 1; with_reducible rfl; (simp only [Act.put, List.setIfInBounds_toArray, List.set_cons_zero, List.set_cons_succ]; with_reducible rfl))
      | (refine par_run (a' := ?_) (by rfl) (by rfl) (fun w' hb hn => ?_) ?_ ?_; rotate_left 1; (have hc := hb.cells; first | (go_simp; (try simp (disch := omega) only [IntWalk.i64_in, IntWalk.i32_in, IntWalk.u64_in, IntWalk.u8_in, IntWalk.u32_in, toNatUp, iteOmega]); with_reducible rfl) | (go_simp; (try simp (disch := omega) only [IntWalk.i64_in, IntWalk.i32_in, IntWalk.u64_in, IntWalk.u8_in, IntWalk.u32_in, toNatUp, iteOmega]); go_simp; with_reducible rfl)); (simp only [Act.put, List.setIfInBounds_toArray, List.set_cons_zero, List.set_cons_succ]; with_reducible rfl))
  refine par_call (a' := ?_) (f := ?_) (args := ?_) (by rfl) (by rfl) (fun w' => ?_) (fun w' hb hn => ?_) ?_ ?_; rotate_left 3; (go_simp; constructor <;> with_reducible rfl); (exact wnow_any w' wb S ve k (HW.out.grow (B0.out.trans (hb.grow.mono B0.out.size)))); (simp only [Act.put, List.setIfInBounds_toArray, List.set_cons_zero, List.set_cons_succ]; with_reducible rfl)
  iterate 2
    first
      | (refine par_skip (a' := ?_) (by rfl) (by rfl) ?_ ?_ ?_; rotate_left 1; with_reducible rfl; (simp only [Act.put, List.setIfInBounds_toArray, List.set_cons_zero, List.set_cons_succ]; with_reducible rfl))
      | (refine par_run (a' := ?_) (by rfl) (by rfl) (fun w' hb hn => ?_) ?_ ?_; rotate_left 1; (have hc := hb.cells; first | (go_simp; (try simp (disch := omega) only [IntWalk.i64_in, IntWalk.i32_in, IntWalk.u64_in, IntWalk.u8_in, IntWalk.u32_in, toNatUp, iteOmega]); with_reducible rfl) | (go_simp; (try simp (disch := omega) only [IntWalk.i64_in, IntWalk.i32_in, IntWalk.u64_in, IntWalk.u8_in, IntWalk.u32_in, toNatUp, iteOmega]); go_simp; with_reducible rfl)); (simp only [Act.put, List.setIfInBounds_toArray, List.set_cons_zero, List.set_cons_succ]; with_reducible rfl))
  refine par_end (fun w9 hb9 hf9 _ => ?_)
  replace hb9 := hb9.grow
  try refine wpList_none ?_
  have hb := hid (B0.out.trans (hb9.mono B0.out.size))
  clear hb9
  go_wp2
  go_ret
  exact ⟨by unfold livesV; rfl, hb.out⟩
theorem bl_eq (a b : ByteArray) : a.toList = b.toList ↔ a = b := ⟨fun h => by rw [Lib.toList_data, Lib.toList_data] at h; exact ByteArray.ext (Array.toList_inj.1 h), fun h => by rw [h]⟩
theorem suitsV_eq (m : MsgV) (x : LisV) : suitsV m x = (decide (m.name.toList = x.name.toList) && decide (m.for_.toList = x.key.toList) && decide (x.msg = 0) && decide (m.insts.length < 500) && !decide (x.inst ∈ m.insts)) := by
  unfold suitsV
  simp only [bl_eq]
theorem suits_any (w : World) (m : MsgV) (x : LisV) (mv mu lv : Value) (hmu : SlR w mu (natsV m.insts)) (hl : m.insts.length ≤ 1000000) :
    Calls Tryz.prog 37 #[.agg #[U m.key, .string m.name, .string m.for_, .string m.id, I m.till, mv, mu], .agg #[U x.token, U x.inst, I x.node, .string x.name, .string x.key, U x.msg, lv]] w fun e w' => e = .returned (.bool (suitsV m x)) ∧ Below w.heap.size w w' := by
  have hnl : (natsV m.insts).length = m.insts.length := by simp [natsV]
  have HM := hid hmu
  obtain ⟨ma, mc, rfl, -⟩ := hmu
  rw [hnl] at HM ⊢
  go_enter Tryz.func37, Tryz.ntmps37
  go_wp2_with fail
  all_goals first
    | (go_ret; refine ⟨?_, box2_b⟩; rw [suitsV_eq]; by_cases h5 : m.insts.length < 500 <;> first | omega | (simp [*]; done))
    | skip
  have HE : Hid (suitsV m x = !decide (x.inst ∈ m.insts)) := by
    show _ = _
    have h5 : m.insts.length < 500 := by omega
    rw [suitsV_eq]
    simp [*]
  refine calls_box2 ?_
  intro W0 h0 h1 B0 hz
  refine (mcontains_any _ m.insts x.inst W0 hl (by have := HM.out.below B0.out; exact this)).mono ?_
  rintro e w1 ⟨rfl, rfl⟩
  go_wp2
  go_ret
  exact ⟨by rw [HE.out]; rfl, B0.out⟩
end Go.Proofs.YtjkbfoeakeoeiaaGreat
namespace Go.Proofs.YtjkbfoeakeoeiaaGreat
set_option maxRecDepth 100000
set_option maxHeartbeats 40000000
set_option linter.unusedSimpArgs false
set_option linter.unusedVariables false
open Go.RowKit
theorem setall7 {W : World} {b : Nat} {v0 v1 v2 v3 v4 v5 v6 z0 z1 z2 z3 z4 z5 z6 : Value} {T : TypeId} (h : W.heap[b]? = some (.cells #[z0, z1, z2, z3, z4, z5, z6] T (0, 0))) :
    (((((((W.setCell ⟨b, 0, none⟩ v0).setCell ⟨b, 1, none⟩ v1).setCell ⟨b, 2, none⟩ v2).setCell ⟨b, 3, none⟩ v3).setCell ⟨b, 4, none⟩ v4).setCell ⟨b, 5, none⟩ v5).setCell ⟨b, 6, none⟩ v6).heap[b]? = some (.cells #[v0, v1, v2, v3, v4, v5, v6] T (0, 0)) ∧ But (fun i => i = b) W (((((((W.setCell ⟨b, 0, none⟩ v0).setCell ⟨b, 1, none⟩ v1).setCell ⟨b, 2, none⟩ v2).setCell ⟨b, 3, none⟩ v3).setCell ⟨b, 4, none⟩ v4).setCell ⟨b, 5, none⟩ v5).setCell ⟨b, 6, none⟩ v6) := by
  have e0 := setCell_at h 0 v0
  have e1 := setCell_at e0 1 v1
  have e2 := setCell_at e1 2 v2
  have e3 := setCell_at e2 3 v3
  have e4 := setCell_at e3 4 v4
  have e5 := setCell_at e4 5 v5
  have e6 := setCell_at e5 6 v6
  simp only [List.setIfInBounds_toArray, List.set_cons_zero, List.set_cons_succ] at e6
  exact ⟨e6, (((((((set_but _ b 0 _).trans (set_but _ b 1 _)).trans (set_but _ b 2 _)).trans (set_but _ b 3 _)).trans (set_but _ b 4 _)).trans (set_but _ b 5 _)).trans (set_but _ b 6 _))⟩
theorem post_all7 {P : Program} {f : Func} {R : Ending → World → Prop} {e : Exit} {a : Act} {W : World} {b : Nat} {v0 v1 v2 v3 v4 v5 v6 z0 z1 z2 z3 z4 z5 z6 : Value} {T : TypeId} (h : W.heap[b]? = some (.cells #[z0, z1, z2, z3, z4, z5, z6] T (0, 0)))
    (k : ∀ W', Hid (W'.heap[b]? = some (.cells #[v0, v1, v2, v3, v4, v5, v6] T (0, 0))) → Hid (But (fun i => i = b) W W') → bodyPost P f R e a W') : bodyPost P f R e a (((((((W.setCell ⟨b, 0, none⟩ v0).setCell ⟨b, 1, none⟩ v1).setCell ⟨b, 2, none⟩ v2).setCell ⟨b, 3, none⟩ v3).setCell ⟨b, 4, none⟩ v4).setCell ⟨b, 5, none⟩ v5).setCell ⟨b, 6, none⟩ v6) := k _ (setall7 h).1 (setall7 h).2
theorem setall13 {W : World} {b : Nat} {v0 v1 v2 v3 v4 v5 v6 v7 v8 v9 v10 v11 v12 z0 z1 z2 z3 z4 z5 z6 z7 z8 z9 z10 z11 z12 : Value} {T : TypeId} (h : W.heap[b]? = some (.cells #[z0, z1, z2, z3, z4, z5, z6, z7, z8, z9, z10, z11, z12] T (0, 0))) :
    (((((((((((((W.setCell ⟨b, 0, none⟩ v0).setCell ⟨b, 1, none⟩ v1).setCell ⟨b, 2, none⟩ v2).setCell ⟨b, 3, none⟩ v3).setCell ⟨b, 4, none⟩ v4).setCell ⟨b, 5, none⟩ v5).setCell ⟨b, 6, none⟩ v6).setCell ⟨b, 7, none⟩ v7).setCell ⟨b, 8, none⟩ v8).setCell ⟨b, 9, none⟩ v9).setCell ⟨b, 10, none⟩ v10).setCell ⟨b, 11, none⟩ v11).setCell ⟨b, 12, none⟩ v12).heap[b]? = some (.cells #[v0, v1, v2, v3, v4, v5, v6, v7, v8, v9, v10, v11, v12] T (0, 0)) ∧ But (fun i => i = b) W (((((((((((((W.setCell ⟨b, 0, none⟩ v0).setCell ⟨b, 1, none⟩ v1).setCell ⟨b, 2, none⟩ v2).setCell ⟨b, 3, none⟩ v3).setCell ⟨b, 4, none⟩ v4).setCell ⟨b, 5, none⟩ v5).setCell ⟨b, 6, none⟩ v6).setCell ⟨b, 7, none⟩ v7).setCell ⟨b, 8, none⟩ v8).setCell ⟨b, 9, none⟩ v9).setCell ⟨b, 10, none⟩ v10).setCell ⟨b, 11, none⟩ v11).setCell ⟨b, 12, none⟩ v12) := by
  have e0 := setCell_at h 0 v0
  have e1 := setCell_at e0 1 v1
  have e2 := setCell_at e1 2 v2
  have e3 := setCell_at e2 3 v3
  have e4 := setCell_at e3 4 v4
  have e5 := setCell_at e4 5 v5
  have e6 := setCell_at e5 6 v6
  have e7 := setCell_at e6 7 v7
  have e8 := setCell_at e7 8 v8
  have e9 := setCell_at e8 9 v9
  have e10 := setCell_at e9 10 v10
  have e11 := setCell_at e10 11 v11
  have e12 := setCell_at e11 12 v12
  simp only [List.setIfInBounds_toArray, List.set_cons_zero, List.set_cons_succ] at e12
  exact ⟨e12, (((((((((((((set_but _ b 0 _).trans (set_but _ b 1 _)).trans (set_but _ b 2 _)).trans (set_but _ b 3 _)).trans (set_but _ b 4 _)).trans (set_but _ b 5 _)).trans (set_but _ b 6 _)).trans (set_but _ b 7 _)).trans (set_but _ b 8 _)).trans (set_but _ b 9 _)).trans (set_but _ b 10 _)).trans (set_but _ b 11 _)).trans (set_but _ b 12 _))⟩
theorem calls_all13 {P : Program} {f : FuncId} {args : Array Value} {R : Ending → World → Prop} {W : World} {b : Nat} {v0 v1 v2 v3 v4 v5 v6 v7 v8 v9 v10 v11 v12 z0 z1 z2 z3 z4 z5 z6 z7 z8 z9 z10 z11 z12 : Value} {T : TypeId} (h : W.heap[b]? = some (.cells #[z0, z1, z2, z3, z4, z5, z6, z7, z8, z9, z10, z11, z12] T (0, 0)))
    (k : ∀ W', Hid (W'.heap[b]? = some (.cells #[v0, v1, v2, v3, v4, v5, v6, v7, v8, v9, v10, v11, v12] T (0, 0))) → Hid (But (fun i => i = b) W W') → Calls P f args W' R) : Calls P f args (((((((((((((W.setCell ⟨b, 0, none⟩ v0).setCell ⟨b, 1, none⟩ v1).setCell ⟨b, 2, none⟩ v2).setCell ⟨b, 3, none⟩ v3).setCell ⟨b, 4, none⟩ v4).setCell ⟨b, 5, none⟩ v5).setCell ⟨b, 6, none⟩ v6).setCell ⟨b, 7, none⟩ v7).setCell ⟨b, 8, none⟩ v8).setCell ⟨b, 9, none⟩ v9).setCell ⟨b, 10, none⟩ v10).setCell ⟨b, 11, none⟩ v11).setCell ⟨b, 12, none⟩ v12) R := k _ (setall13 h).1 (setall13 h).2
theorem cells7 {w : World} {b : Nat} {v0 v1 v2 v3 v4 v5 v6 : Value} {T : TypeId} {fr : Nat × Nat} (h : w.heap[b]? = some (.cells #[v0, v1, v2, v3, v4, v5, v6] T fr)) : w.cell? ⟨b, 0, none⟩ = some v0 ∧ w.cell? ⟨b, 1, none⟩ = some v1 ∧ w.cell? ⟨b, 2, none⟩ = some v2 ∧ w.cell? ⟨b, 3, none⟩ = some v3 ∧ w.cell? ⟨b, 4, none⟩ = some v4 ∧ w.cell? ⟨b, 5, none⟩ = some v5 ∧ w.cell? ⟨b, 6, none⟩ = some v6 := ⟨cell_of h 0, cell_of h 1, cell_of h 2, cell_of h 3, cell_of h 4, cell_of h 5, cell_of h 6⟩
theorem post_box2 {P : Program} {f : Func} {R : Ending → World → Prop} {e : Exit} {a : Act} {w : World} {A B : Obj} (h : ∀ W, Hid (W.heap[w.heap.size]? = some A) → Hid (W.heap[w.heap.size + 1]? = some B) → Hid (Below w.heap.size w W) → bodyPost P f R e a W) : bodyPost P f R e a ((w.alloc A).alloc B) := h _ box2_a box2_at box2_b
theorem key_cl (W : World) (m : MsgV) (mv mu : Value) (key pb : Nat) (h : W.heap[pb]? = some (.cells #[U key] 22 (0, 0))) :
    Calls Tryz.prog 69 #[.agg #[U m.key, .string m.name, .string m.for_, .string m.id, I m.till, mv, mu], .pointer (some ⟨pb, 0, none⟩)] W fun e w' => e = .returned (.bool (decide (m.key = key))) ∧ Below W.heap.size W w' := by
  have hlt := heap_lt h
  have g := (cell_of ((alloc_old (.cells #[U m.key, .string m.name, .string m.for_, .string m.id, I m.till, mv, mu] 66) hlt).trans h) 0)
  clear h
  rw [← beq_nat]
  cases h1 : ((m.key : Int) == (key : Int)) <;>
  · go_enter Tryz.func69, Tryz.ntmps69
    go_wp2
    go_ret
    exact ⟨rfl, box1_b⟩
def zeroM : MsgV := ⟨0, ⟨#[]⟩, ⟨#[]⟩, ⟨#[]⟩, 0, [], []⟩
theorem zeroM_at (w : World) : MsgV.at_ w [U 0, .string ⟨#[]⟩, .string ⟨#[]⟩, .string ⟨#[]⟩, I 0, .slice none 0 0, .slice none 0 0] zeroM := ⟨_, _, rfl, ⟨none, 0, rfl, by simp [zeroM], by simp [zeroM], by simp [zeroM]⟩, SlR.nil w⟩
theorem message_any (S : Nat → Prop) (w : World) (s : StateV) (cs : List Value) (key : Nat) (hS : ∀ b, S b → b < w.heap.size) (hs : StAt S w cs s) (hm1 : s.msgs.length ≤ 1) :
    Calls Tryz.prog 36 #[.agg cs.toArray, U key] w fun e w' => ∃ c m, e = .returned (.tuple #[.agg c.toArray, .bool (s.msgs.find? (fun m => decide (m.key = key))).isSome]) ∧ MsgV.at_ (sans S w') c m ∧ (∀ x, s.msgs.find? (fun m => decide (m.key = key)) = some x → m = x) ∧ Below w.heap.size w w' := by
  obtain ⟨vp, vi, vt, vj, vr, vs, vk, vl, vm, hs⟩ := hs
  have Hs := hid hs
  obtain ⟨hcs, hp, hi, ht, hj, hr, hs, hk, hl, hm⟩ := hs
  obtain ⟨xap, xcp, rfl, -⟩ := hp
  obtain ⟨xai, xci, rfl, -⟩ := hi
  obtain ⟨xat, xct, rfl, -⟩ := ht
  obtain ⟨xaj, xcj, rfl, -⟩ := hj
  obtain ⟨xar, xcr, rfl, -⟩ := hr
  obtain ⟨xas, xcs, rfl, -⟩ := hs
  obtain ⟨xak, xck, rfl, -⟩ := hk
  obtain ⟨xal, xcl, rfl, -⟩ := hl
  obtain ⟨xam, xcm, rfl, -⟩ := hm
  subst hcs
  cases hf : s.msgs.find? (fun m => decide (m.key = key)) with
  | none =>
    have EM := hid (idxOf_none hf)
    clear hf hm1
    go_enter Tryz.func36, Tryz.ntmps36
    go_wp2_with fail
    refine calls_box3 ?_
    intro W0 h0 h1 h2 B0 hz
    have h := idxMsg_list (S := S) W0 (Hs.out.msgs.grow MsgV.st (sans_grow B0.out)) sees_refl _ #[.pointer (some ⟨w.heap.size + 1, 0, none⟩)] (enters_of Tryz.func69 (by kernel_rfl) rfl) (fun m => decide (m.key = key)) (fun W x cs _ hx hb => by obtain ⟨v, u, rfl, -⟩ := hx; exact key_cl W x v u key _ (keep_at hb h1.out))
    rw [EM.out] at h
    refine h.mono ?_
    rintro e w1 ⟨rfl, b1⟩
    have B1 := hid (B0.out.trans (b1.mono B0.out.size))
    have g2 := hid (keep_at b1 h2.out)
    have f2 := free_of g2.out
    obtain ⟨y0, y1, y2, y3, y4, y5, y6⟩ := cells7 g2.out
    have f0 := f2 0
    have f1 := f2 1
    have f3 := f2 3
    have f4 := f2 4
    have f5 := f2 5
    have f6 := f2 6
    replace f2 := f2 2
    clear h h0 h1 h2 b1
    go_wp2
    refine post_all7 g2.out ?_
    intro W9 h9 b9
    have B9 := hid (B1.out.trans (b9.out.below B1.out.size (fun k h => by omega)))
    obtain ⟨d0, d1, d2, d3, d4, d5, d6⟩ := cells7 h9.out
    exact bodyPost_ret (v := .tuple #[.agg #[U 0, .string ⟨#[]⟩, .string ⟨#[]⟩, .string ⟨#[]⟩, I 0, .slice none 0 0, .slice none 0 0], .bool false]) (by simp [results, Tryz.results36, go_sem, d0, d1, d2, d3, d4, d5, d6]) rfl ⟨_, zeroM, rfl, zeroM_at _, (fun x h => by cases h), B9.out⟩
  | some m =>
    have hiM := idxOf_one hm1 hf
    have EM := hid hiM.1
    have hM0 : s.msgs[0]? = some m := by rw [hiM.2.1]; rfl
    have hMl : 0 < s.msgs.length := by rw [hiM.2.1]; simp
    obtain ⟨bm, ofm, csm, rfl, -, ⟨mv, mu, rfl, hmv, hmu⟩, hcm⟩ := elem0 Hs.out.msgs hM0
    have hb0 : ∀ j u, ([U m.key, .string m.name, .string m.for_, .string m.id, I m.till, mv, mu] : List Value)[j]? = some u → w.cell? ⟨bm, ofm + j, none⟩ = some u := fun j u hu => (sans_cell (hcm j u hu)).1
    have HC := hid hb0
    have HV := hid hmv
    have HU := hid hmu
    obtain ⟨ma, mc, rfl, -⟩ := hmv
    obtain ⟨na, nc, rfl, -⟩ := hmu
    clear hf hm1 hiM hM0 hcm hb0
    go_enter Tryz.func36, Tryz.ntmps36
    go_wp2_with fail
    refine calls_box3 ?_
    intro W0 h0 h1 h2 B0 hz
    have h := idxMsg_list (S := S) W0 (Hs.out.msgs.grow MsgV.st (sans_grow B0.out)) sees_refl _ #[.pointer (some ⟨w.heap.size + 1, 0, none⟩)] (enters_of Tryz.func69 (by kernel_rfl) rfl) (fun m => decide (m.key = key)) (fun W x cs _ hx hb => by obtain ⟨v, u, rfl, -⟩ := hx; exact key_cl W x v u key _ (keep_at hb h1.out))
    rw [EM.out] at h
    refine h.mono ?_
    rintro e w1 ⟨rfl, b1⟩
    have B1 := hid (B0.out.trans (b1.mono B0.out.size))
    have g2 := hid (keep_at b1 h2.out)
    have f2 := free_of g2.out
    have hq : ∀ j u, ([U m.key, .string m.name, .string m.for_, .string m.id, I m.till, .slice ma m.vars.length mc, .slice na (natsV m.insts).length nc] : List Value)[j]? = some u → w1.cell? ⟨bm, ofm + j, none⟩ = some u := fun j u hu => (B1.out.cell (p := ⟨bm, ofm + j, none⟩) (World.block_lt_of_cell? w _ (HC.out j u hu))).trans (HC.out j u hu)
    have q0 := hq 0 _ rfl
    have q1 := hq 1 _ rfl
    have q2 := hq 2 _ rfl
    have q3 := hq 3 _ rfl
    have q4 := hq 4 _ rfl
    have q5 := hq 5 _ rfl
    have q6 := hq 6 _ rfl
    rw [Nat.add_zero] at q0
    have g0 := hid (keep_at b1 h0.out)
    have k11 := cell_of g0.out 11
    obtain ⟨y0, y1, y2, y3, y4, y5, y6⟩ := cells7 g2.out
    have f0 := f2 0
    have f1 := f2 1
    have f3 := f2 3
    have f4 := f2 4
    have f5 := f2 5
    have f6 := f2 6
    replace f2 := f2 2
    clear h h0 h1 h2 b1 hq
    go_wp2
    refine post_all7 g2.out ?_
    intro W9 h9 b9
    have B9 := hid (B1.out.trans (b9.out.below B1.out.size (fun k h => by omega)))
    obtain ⟨d0, d1, d2, d3, d4, d5, d6⟩ := cells7 h9.out
    exact bodyPost_ret (v := .tuple #[.agg #[U m.key, .string m.name, .string m.for_, .string m.id, I m.till, .slice ma m.vars.length mc, .slice na (natsV m.insts).length nc], .bool true]) (by simp [results, Tryz.results36, go_sem, d0, d1, d2, d3, d4, d5, d6]) rfl ⟨_, m, rfl, ⟨_, _, rfl, HV.out.below (sans_grow B9.out), HU.out.below (sans_grow B9.out)⟩, (fun x h => by injection h), B9.out⟩
end Go.Proofs.YtjkbfoeakeoeiaaGreat
namespace Go.Proofs.YtjkbfoeakeoeiaaGreat
set_option maxRecDepth 100000
set_option maxHeartbeats 40000000
set_option linter.unusedSimpArgs false
set_option linter.unusedVariables false
open Go.RowKit
theorem vnil (w : World) : VarsAt w (.slice none 0 0) [] := ⟨none, 0, rfl, Nat.le_refl _, by simp, by simp⟩
theorem send_any (w : World) (wb : Nat) (S : Nat → Prop) (ve : Value) (k : WorkV) (x : LisV) (lv : Value) (key b : Nat) (hW : WorkAt w wb S ve k) (hb : SmW b k) (hb9 : b < 1000) :
    Calls Tryz.prog 38 #[.pointer (some ⟨wb, 0, none⟩), .agg #[U x.token, U x.inst, I x.node, .string x.name, .string x.key, U x.msg, lv], U key] w fun e w' => e = .returned (.tuple #[]) ∧ ∃ S' ve', WorkAt w' wb S' ve' (emitV k (sendR x key)) ∧ Goes S w S' w' := by
  have HW := hid hW
  have Hb := hid hb
  clear hW hb
  go_enter Tryz.func38, Tryz.ntmps38
  go_wp2_with fail
  refine calls_box1 ?_
  intro W0 h0 B0 hz
  refine (emitV_any W0 wb S ve k (sendR x key) [I 0, I 21, U 0, I 0, U x.token, U key, U 0, I x.node, I 0, .string ⟨#[]⟩, .string ⟨#[]⟩, .string ⟨#[]⟩, .slice none 0 0] b (HW.out.grow B0.out) Hb.out hb9 (.inr (.inr (.inr (.inl rfl)))) ⟨_, rfl, vnil _⟩ (by simp [sendR, rec0])).mono ?_
  rintro e w1 ⟨rfl, S', ve', h1, h2⟩
  have H1 := hid (And.intro h1 h2)
  clear h1 h2
  go_wp2
  go_end0
  exact ⟨rfl, S', ve', H1.out.1, (Goes.of B0.out).trans H1.out.2⟩
theorem fits_any (w : World) (wb : Nat) (S : Nat → Prop) (ve : Value) (k : WorkV) (r : RecV) (rv : Value) (hW : WorkAt w wb S ve k) (hok : RecOk (toldR k r)) (hk : r.kind = 19) (hf : 1 ≤ k.pos) (ht : 0 ≤ k.now ∧ k.now ≤ 1099511627776) (ha : r.a.size ≤ 32) (hb : r.b.size ≤ 1024) (hcz : r.c.size ≤ 32) (hr : rightV r.vars = true) (hv : VarsAt w rv r.vars) :
    Calls Tryz.prog 34 #[.pointer (some ⟨wb, 0, none⟩), .agg #[I r.cls, I 19, U r.from_, I r.time, U r.key, U r.key2, U r.key3, I r.n, I r.m, .string r.a, .string r.b, .string r.c, rv]] w fun e w' => e = .returned (.bool (mayR (toldR k r))) ∧ Below w.heap.size w w' := by
  have HW := hid hW
  have HM := hid (fun W (h : VarsAt W rv r.vars) => recmay_any W (toldR k r) rv hok rfl hk hf ht ha hb hcz hr h)
  have HV := hid hv
  obtain ⟨ra, rk, rfl, -⟩ := hv
  clear hW hok hk hf ht ha hb hcz hr
  go_enter Tryz.func34, Tryz.ntmps34
  go_wp2_with fail
  refine calls_box1 ?_
  intro W0 h0 B0 hz
  refine (wpos_any W0 wb S ve k (HW.out.grow B0.out)).mono ?_
  rintro e w1 ⟨rfl, b1⟩
  have B1 := hid (B0.out.trans (b1.mono B0.out.size))
  have H1 := hid (keep_at b1 h0.out)
  clear b1 h0
  go_wp2_with fail
  refine (wnow_any w1 wb S ve k (HW.out.grow B1.out)).mono ?_
  rintro e w2 ⟨rfl, b2⟩
  have B2 := hid (B1.out.trans (b2.mono B1.out.size))
  have H2 := hid (keep_at b2 H1.out)
  clear b2
  obtain ⟨r0, r1, r2, r3, r4, r5, r6, r7, r8, r9, r10, r11, r12⟩ := cells13 H2.out
  have f0 := free_of H2.out 0
  have f2 := free_of H2.out 2
  have f3 := free_of H2.out 3
  go_wp2_with fail
  have B3 := hid (((B2.out.setCell (p := ⟨w.heap.size, 0, none⟩) (Nat.le_refl _) (I 2)).setCell (p := ⟨w.heap.size, 2, none⟩) (Nat.le_refl _) (U k.pos)).setCell (p := ⟨w.heap.size, 3, none⟩) (Nat.le_refl _) (I k.now))
  refine (HM.out _ (HV.out.below B3.out)).mono ?_
  rintro e w3 ⟨rfl, b3⟩
  have B4 := hid (B3.out.trans (b3.mono B3.out.size))
  clear b3
  go_wp2
  go_ret
  exact ⟨rfl, B4.out⟩
end Go.Proofs.YtjkbfoeakeoeiaaGreat
