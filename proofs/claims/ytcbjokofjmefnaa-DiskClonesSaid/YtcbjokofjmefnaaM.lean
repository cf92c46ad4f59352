/- The reference's disk: Append. -/
import Derived.Test.YtcbjokofjmefnaaH
import Derived.Test.YtcbjokofjmefnaaJ
import Derived.Test.YtcbjokofjmefnaaB
import Derived.Test.YtcbjokofjmefnaaI
import Derived.Deep.QuietTactic
import Derived.BigQuiet
namespace Go.Proofs.Ytcbjokofjmefnaa
open Go.RowKit

/-- A file put in, by rising names. -/
def ins (F : List FileR) (f : FileR) : List FileR :=
  match F with
  | [] => [f]
  | g :: F => if ltS f.n g.n then f :: g :: F else g :: ins F f
def anyLt (F : List FileR) (k : ByteArray) : Bool := F.any fun g => ltS k g.n
theorem anyLt_cons (h : FileR) (F : List FileR) (k : ByteArray) : anyLt (h :: F) k = (ltS k h.n || anyLt F k) := rfl
theorem ins_snoc (F : List FileR) (g f : FileR) : ins (F ++ [g]) f = if anyLt F f.n then ins F f ++ [g] else if ltS f.n g.n then F ++ [f, g] else F ++ [g, f] := by
  induction F with
  | nil => simp only [List.nil_append, ins, anyLt, List.any_nil]; split <;> rfl
  | cons h F ih =>
    simp only [List.cons_append, ins, ih, anyLt_cons]
    cases h1 : ltS f.n h.n <;> cases h2 : anyLt F f.n <;> cases h3 : ltS f.n g.n <;> simp
theorem ins_none (F : List FileR) (f : FileR) (h : anyLt F f.n = false) : ins F f = F ++ [f] := by
  induction F with
  | nil => rfl
  | cons g F ih =>
    simp only [anyLt, List.any_cons, Bool.or_eq_false_iff] at h
    simp only [ins, h.1, Bool.false_eq_true, if_false, List.cons_append]
    rw [ih h.2]
/-- What the loop has after so many. -/
def insTo (F : List FileR) (f : FileR) (i : Nat) : List FileR := if anyLt (F.take i) f.n then ins (F.take i) f else F.take i
theorem anyLt_step {F : List FileR} {i : Nat} {g : FileR} (h : F[i]? = some g) (k : ByteArray) : anyLt (F.take (i + 1)) k = (anyLt (F.take i) k || ltS k g.n) := by
  simp [List.take_add_one, h, anyLt]
theorem insTo_step {F : List FileR} {i : Nat} {g : FileR} (h : F[i]? = some g) (f : FileR) :
    insTo F f (i + 1) = if ltS f.n g.n && !anyLt (F.take i) f.n then insTo F f i ++ [f, g] else insTo F f i ++ [g] := by
  unfold insTo
  rw [anyLt_step h, show F.take (i + 1) = F.take i ++ [g] by simp [List.take_add_one, h], ins_snoc]
  cases anyLt (F.take i) f.n <;> cases ltS f.n g.n <;> simp
theorem insTo_end (F : List FileR) (f : FileR) : ins F f = if anyLt F f.n then insTo F f F.length else insTo F f F.length ++ [f] := by
  unfold insTo
  rw [List.take_length]
  cases h : anyLt F f.n with
  | true => simp
  | false => simp [ins_none F f h]
theorem insTo_len (F : List FileR) (f : FileR) (i : Nat) (hi : i ≤ F.length) : (insTo F f i).length ≤ i + 1 := by
  have hl : ∀ G : List FileR, (ins G f).length = G.length + 1 := by
    intro G
    induction G with
    | nil => rfl
    | cons g G ih => simp only [ins]; split <;> simp [ih]
  unfold insTo
  split
  · rw [hl, List.length_take]; omega
  · rw [List.length_take]; omega
theorem ins_len (G : List FileR) (f : FileR) : (ins G f).length = G.length + 1 := by
  induction G with
  | nil => rfl
  | cons g G ih => simp only [ins]; split <;> simp [ih]

def rapBad (r : RefV) (k s : ByteArray) : Int :=
  if r.off then 7 else if k.size < 1 ∨ 32 < k.size then 1
  else if rfind r.F k < 0 then (if r.F.length = 256 ∨ 1048576 < s.size then 4 else 0)
  else if 1048576 < (r.F.getD (rfind r.F k).toNat noF).s.size + (r.F.getD (rfind r.F k).toNat noF).t.size + s.size then 4 else 0
def rapE (r : RefV) (k s : ByteArray) : Int := if rapBad r k s = 0 then (if ract r then 0 else 7) else rapBad r k s
def appF (s : ByteArray) (f : FileR) : FileR := ⟨f.n, f.s, f.t ++ s⟩
def rapF (r : RefV) (k s : ByteArray) : List FileR :=
  if rfind r.F k < 0 then ins r.F ⟨k, ⟨#[]⟩, s⟩ else r.F.set (rfind r.F k).toNat (appF s (r.F.getD (rfind r.F k).toNat noF))
def rapD (r : RefV) (k s : ByteArray) : RefV := if rapBad r k s = 0 then (if ract r then { ractD r with F := rapF r k s } else ractD r) else r
theorem info_file : (Try.prog.info? 53).map (fun i => (i.zero, i.size, i.bytes)) = some (some (.agg #[.string ⟨#[]⟩, .string ⟨#[]⟩, .string ⟨#[]⟩]), 3, 48) := by kernel_rfl
theorem own_snoc {w : World} {B e : Nat} {v : Value} {L : List FileR} {f : FileR} (h : w.ownsRow B e 3 v (L.length + 1) (flatR L ++ [.string f.n, .string f.s, .string f.t])) : w.ownsRow B e 3 v (L ++ [f]).length (flatR (L ++ [f])) := by
  rw [flatR_append, List.length_append]
  exact h
theorem But.grown {F : Nat → Prop} {a w w' : World} {row : Option Nat} (h : But F a w) (hg : w.grownBy w' row) (hr : ∀ k, row = some k → k < a.heap.size → F k) : But F a w' :=
  h.trans' (G := fun k => row = some k) ⟨hg.os, hg.tape, hg.output, hg.size, fun k hk hn => hg.block k hk (fun e => hn e.symm)⟩ (fun k hk he => hr k he hk)

/-- The new list is the old one's block, or new. -/
def NewV (w : World) (v v' : Value) : Prop := ∀ k, v'.ownBlock = some k → v.ownBlock = some k ∨ w.heap.size ≤ k
set_option maxRecDepth 100000 in
set_option maxHeartbeats 4000000 in
theorem rappend_new (rb : Nat) (v : Value) (r : RefV) (k s : ByteArray) (w : World) (h : IsRef w rb v r) (hF : r.F.length < 256) (hk1 : ¬ k.size < 1) (hk2 : ¬ 32 < k.size) (hs : ¬ 1048576 < s.size) (hoff : r.off = false) (hfi : rfind r.F k < 0) (hact : ract r = true) (hnm : ∀ f ∈ r.F, f.n.size ≤ 32) :
    Calls Try.prog 32 #[.pointer (some ⟨rb, 0, none⟩), .string k, .string s] w fun e w' => e = .returned (.int .i64 0) ∧ ∃ v', IsRef w' rb v' { ractD r with F := ins r.F ⟨k, ⟨#[]⟩, s⟩ } ∧ But (OwnR rb v) w w' ∧ NewV w v v' := by
  obtain ⟨i0, hi, hz0, hz1, hz2⟩ := info_parts info_file
  have c0 := h.c0
  have c2 := h.c2
  rw [hoff] at c2
  obtain ⟨a, cap, rfl⟩ : ∃ a cap, v = .slice a r.F.length cap := by
    rcases h.row.2 with ⟨rfl, hn⟩ | ⟨g, cap, cur, rfl, _⟩
    · exact ⟨none, 0, by rw [hn]⟩
    · exact ⟨_, cap, rfl⟩
  have H := Lib.hid h
  have hm1 : rfind r.F k = -1 := by have := rfind_ge r.F k; omega
  have hq : ((r.F.length : Int) == 256) = false := by rw [beq_eq_false_iff_ne]; omega
  have hs1 : decide ((1048576 : Int) < (s.size : Int)) = false := decide_eq_false (by omega)
  have hs2 : decide (1048576 < s.size) = false := decide_eq_false hs
  clear h hfi hoff
  go_enter Try.func32, Try.ntmps32
  go_wp2_with fail
  refine (rfind_any rb _ r k w H.out (by omega)).mono ?_
  rintro e w1 ⟨rfl, rfl⟩
  rw [hm1]
  clear hm1
  go_wp2_with fail
  go_quiet (fail)
  go_wp2_with fail
  refine (ract_any rb _ r _ (by exact H.out.drewN _)).mono ?_
  rintro e w2 ⟨rfl, h2, b2⟩
  rw [hact]
  have H2 := Lib.hid h2
  have B2 := Lib.hid (show But (OwnR rb (.slice a r.F.length cap)) w w2 from ⟨b2.os, b2.tape, b2.output, b2.size, b2.block⟩)
  have hsz2 : w.heap.size ≤ w2.heap.size := b2.size
  clear h2 b2 hact c0 c2 hq hs1 hs2
  go_wp2_with fail
  go_loopw [9, 10, 11] (fun v9 v10 v11 wr => ∃ i : Nat, i ≤ r.F.length ∧ v10 = .bool (anyLt (r.F.take i) k) ∧ v11 = .int .i64 i ∧
      Hid (wr.ownsRow w2.heap.size 53 3 v9 (insTo r.F ⟨k, ⟨#[]⟩, s⟩ i).length (flatR (insTo r.F ⟨k, ⟨#[]⟩, s⟩ i)) ∧ Below w2.heap.size w2 wr))
    (fun _ _ v11 _ => r.F.length - (intOf v11).toNat)
  case atStart => exact ⟨0, Nat.zero_le _, rfl, rfl, World.ownsRow_nil _ _ _ _, Below.refl _ _⟩
  case round =>
    obtain ⟨i, hi', rfl, rfl, hR⟩ := hrel
    have hdr := H2.out.below hR.out.2
    have c0 := hdr.c0
    by_cases hlt : i < r.F.length
    · have hfe : r.F[i]? = some r.F[i] := List.getElem?_eq_getElem hlt
      have hnm' := hnm _ (List.getElem_mem hlt)
      generalize r.F[i] = f at hfe hnm'
      have hfl := flatR_at (ractD r).F i f (by rw [ractD_F]; exact hfe)
      obtain ⟨g, cap', hv, -, -, -, -, hcell⟩ := own_at hdr.row hfl.1
      rw [ractD_F] at hv
      cases hv
      have hc0 := hcell _ _ hfl.1
      have hc1 := hcell _ _ hfl.2.1
      have hc2 := hcell _ _ hfl.2.2
      have hstep := insTo_step hfe ⟨k, ⟨#[]⟩, s⟩
      have hany := anyLt_step hfe k
      have HS := Lib.hid (And.intro hstep hany)
      have hlen := insTo_len r.F ⟨k, ⟨#[]⟩, s⟩ i hi'
      clear hcell hfl hdr hstep hany
      go_wp2_with fail
      refine (less_any k f.n wr (by omega)).mono ?_
      rintro e w3 ⟨rfl, nd, rfl⟩
      have hz3 : (wr.drewN nd).heap.size = wr.heap.size := rfl
      have hrow : (wr.drewN nd).ownsRow w2.heap.size 53 3 _ (insTo r.F ⟨k, ⟨#[]⟩, s⟩ i).length (flatR (insTo r.F ⟨k, ⟨#[]⟩, s⟩ i)) := hR.out.1
      have hbw : Below w2.heap.size w2 (wr.drewN nd) := ⟨hR.out.2.os, hR.out.2.tape, hR.out.2.output, hR.out.2.size, hR.out.2.block⟩
      have hws : w2.heap.size ≤ (wr.drewN nd).heap.size := hR.out.2.size
      have kc0 : (wr.drewN nd).cell? ⟨rb, 0, none⟩ = some (.slice (some ⟨g, 0, none⟩) r.F.length cap) := c0
      have kc1 : (wr.drewN nd).cell? ⟨g, i * 3, none⟩ = some (.string f.n) := hc0
      have kc2 : (wr.drewN nd).cell? ⟨g, i * 3 + 1, none⟩ = some (.string f.s) := hc1
      have kc3 : (wr.drewN nd).cell? ⟨g, i * 3 + 2, none⟩ = some (.string f.t) := hc2
      generalize wr.drewN nd = W at hrow hbw hws kc0 kc1 kc2 kc3
      have HRow := Lib.hid hrow
      have HBw := Lib.hid hbw
      clear hrow hbw hR c0 hc0 hc1 hc2 hz3
      cases hd : anyLt (r.F.take i) k with
      | true =>
        have hs2 : insTo r.F ⟨k, ⟨#[]⟩, s⟩ (i + 1) = insTo r.F ⟨k, ⟨#[]⟩, s⟩ i ++ [f] := by
          have := HS.out.1
          simp only [hd, Bool.not_true, Bool.and_false, Bool.false_eq_true, if_false] at this
          exact this
        have ha2 : anyLt (r.F.take (i + 1)) k = true := by rw [HS.out.2, hd]; rfl
        have HD := Lib.hid (And.intro hs2 ha2)
        clear hd hs2 ha2
        go_wp2_with (at_builtin; refine app1 48 53 Try.underlying48 info_file rfl (by decide) HRow.out hws (by unfold maxLen; omega) (by omega) rfl rfl rfl rfl rfl (by simp [Value.oneCell']) ?_; intro v' w4 hown4 hb4)
        all_goals
          refine ⟨⟨i + 1, by omega, by rw [HD.out.2], by go_num, ?_, HBw.out.trans hb4⟩, by simp [intOf]; omega⟩
          rw [HD.out.1]
          exact own_snoc hown4
      | false =>
        cases hlk : ltS k f.n with
        | false =>
          have hs2 : insTo r.F ⟨k, ⟨#[]⟩, s⟩ (i + 1) = insTo r.F ⟨k, ⟨#[]⟩, s⟩ i ++ [f] := by
            have := HS.out.1
            simp only [hlk, Bool.false_and, Bool.false_eq_true, if_false] at this
            exact this
          have ha2 : anyLt (r.F.take (i + 1)) k = false := by rw [HS.out.2, hd, hlk]; rfl
          have HD := Lib.hid (And.intro hs2 ha2)
          clear hd hs2 ha2 hlk
          go_wp2_with (at_builtin; refine app1 48 53 Try.underlying48 info_file rfl (by decide) HRow.out hws (by unfold maxLen; omega) (by omega) rfl rfl rfl rfl rfl (by simp [Value.oneCell']) ?_; intro v' w4 hown4 hb4)
          refine ⟨⟨i + 1, by omega, by rw [HD.out.2], by go_num, ?_, HBw.out.trans hb4⟩, by simp [intOf]; omega⟩
          rw [HD.out.1]
          exact own_snoc hown4
        | true =>
          have hs2 : insTo r.F ⟨k, ⟨#[]⟩, s⟩ (i + 1) = insTo r.F ⟨k, ⟨#[]⟩, s⟩ i ++ [⟨k, ⟨#[]⟩, s⟩, f] := by
            have := HS.out.1
            simp only [hlk, hd, Bool.not_false, Bool.and_self, if_true] at this
            exact this
          have ha2 : anyLt (r.F.take (i + 1)) k = true := by rw [HS.out.2, hlk, Bool.or_true]
          have HD := Lib.hid (And.intro hs2 ha2)
          have hrl := H2.out.lt
          have hgl := H2.out.ltv g rfl
          have tok : True := trivial
          clear hd hs2 ha2 hlk
          go_wp2_with (first
            | (at_builtin; have _t := tok; refine app1 48 53 Try.underlying48 info_file rfl (by decide) HRow.out hws (by unfold maxLen; omega) (by omega) rfl rfl rfl rfl rfl (by simp [Value.oneCell']) ?_; intro v' w4 hown4 hb4; have HOwn4 := Lib.hid hown4; have kd0 := (hb4.cell (p := ⟨rb, 0, none⟩) hrl).trans kc0; have kd1 := (hb4.cell (p := ⟨g, i * 3, none⟩) hgl).trans kc1; have kd2 := (hb4.cell (p := ⟨g, i * 3 + 1, none⟩) hgl).trans kc2; have kd3 := (hb4.cell (p := ⟨g, i * 3 + 2, none⟩) hgl).trans kc3; have hw4 := Nat.le_trans hws hb4.size; have HB4 := Lib.hid hb4; clear tok hown4 hb4 kc0 kc1 kc2 kc3)
            | (at_builtin; refine app1 48 53 Try.underlying48 info_file rfl (by decide) HOwn4.out hw4 (by unfold maxLen; omega) (by omega) rfl rfl rfl rfl rfl (by simp [Value.oneCell']) ?_; intro v'' w5 hown5 hb5))
          refine ⟨⟨i + 1, by omega, by rw [HD.out.2], by go_num, ?_, (HBw.out.trans HB4.out).trans hb5⟩, by simp [intOf]; omega⟩
          rw [HD.out.1]
          have h4 := own_snoc (L := insTo r.F ⟨k, ⟨#[]⟩, s⟩ i) (f := ⟨k, ⟨#[]⟩, s⟩) HOwn4.out
          have h5 := own_snoc (L := insTo r.F ⟨k, ⟨#[]⟩, s⟩ i ++ [⟨k, ⟨#[]⟩, s⟩]) (f := f) (w := w5) (v := v'') (B := w2.heap.size) (e := 53) (by rw [flatR_append, List.length_append]; exact hown5)
          rw [List.append_assoc] at h5
          exact h5
    · have hin : i = r.F.length := by omega
      subst hin
      have hend := insTo_end r.F ⟨k, ⟨#[]⟩, s⟩
      have hlen := insTo_len r.F ⟨k, ⟨#[]⟩, s⟩ r.F.length (Nat.le_refl _)
      rw [List.take_length]
      have f0 := hdr.fr 0
      have hrl := H2.out.lt
      have HE := Lib.hid hend
      obtain ⟨a9, c9, rfl⟩ := own_slice hR.out.1
      have HRow := Lib.hid hR.out.1
      have hws := hR.out.2.size
      have HDr := Lib.hid hdr
      clear hend hdr
      cases hd : anyLt r.F k with
      | true =>
        have hv2 : ins r.F ⟨k, ⟨#[]⟩, s⟩ = insTo r.F ⟨k, ⟨#[]⟩, s⟩ r.F.length := by have := HE.out; simp only [hd, if_true] at this; exact this
        have HV := Lib.hid hv2
        clear hv2 hd
        go_wp2
        go_ret
        refine ⟨rfl, .slice a9 (insTo r.F ⟨k, ⟨#[]⟩, s⟩ r.F.length).length c9, ?_, ((B2.out.trans (But.of hR.out.2))).setCell (p := ⟨rb, 0, none⟩) (fun _ => .inl rfl) _, ?_⟩
        · rw [HV.out]
          exact HDr.out.setF _ _ (ownsRow_base_a HRow.out (Nat.zero_le _))
        · intro b hb
          right
          have := (HRow.out.lt b hb).1
          omega
      | false =>
        have hv2 : ins r.F ⟨k, ⟨#[]⟩, s⟩ = insTo r.F ⟨k, ⟨#[]⟩, s⟩ r.F.length ++ [⟨k, ⟨#[]⟩, s⟩] := by have := HE.out; simp only [hd, Bool.false_eq_true, if_false] at this; exact this
        have HV := Lib.hid hv2
        clear hv2 hd
        go_wp2_with (at_builtin; refine app1 48 53 Try.underlying48 info_file rfl (by decide) HRow.out hws (by unfold maxLen; omega) (by omega) rfl rfl rfl rfl rfl (by simp [Value.oneCell']) ?_; intro v' w4 hown4 hb4; obtain ⟨a10, c10, rfl⟩ := own_slice hown4; have HOwn4 := Lib.hid hown4; have hd4 := H2.out.below (hR.out.2.trans hb4); have kd0 := hd4.c0; have kf0 := hd4.fr 0; have HD4 := Lib.hid hd4; have HB4 := Lib.hid hb4; clear hown4 hb4 hd4)
        go_ret
        refine ⟨rfl, .slice a10 ((insTo r.F ⟨k, ⟨#[]⟩, s⟩ r.F.length).length + 1) c10, ?_, ((B2.out.trans (But.of (hR.out.2.trans HB4.out)))).setCell (p := ⟨rb, 0, none⟩) (fun _ => .inl rfl) _, ?_⟩
        · rw [HV.out]
          exact HD4.out.setF _ _ (ownsRow_base_a (own_snoc HOwn4.out) (Nat.zero_le _))
        · intro b hb
          right
          have := (HOwn4.out.lt b hb).1
          omega
end Go.Proofs.Ytcbjokofjmefnaa
