/- Keep: contracts (Ca Cb). -/
import Derived.Test.YthikijlbclckdaaGreatR17
namespace Go.Proofs.YthikijlbclckdaaGreat
set_option maxRecDepth 100000
set_option maxHeartbeats 40000000
set_option linter.unusedSimpArgs false
set_option linter.unusedVariables false
open Go.IntWalk Go.RowKit
def risF (acc : List RowV) (x : RowV) : List RowV := match acc.getLast? with
  | none => acc ++ [x]
  | some q => if ltS q.1 x.1 = true then acc ++ [x] else acc
def risL (l : List RowV) : List RowV := l.foldl risF []
theorem risL_snoc (l : List RowV) (x : RowV) : risL (l ++ [x]) = risF (risL l) x := by unfold risL; rw [List.foldl_append]; rfl
theorem risF_len (acc : List RowV) (x : RowV) : (risF acc x).length ≤ acc.length + 1 := by
  unfold risF
  split
  · simp
  · split <;> simp
theorem risL_len : ∀ (l acc : List RowV), (l.foldl risF acc).length ≤ acc.length + l.length
  | [], acc => Nat.le_refl _
  | x :: l, acc => by
    rw [List.foldl_cons, List.length_cons]
    have h1 := risL_len l (risF acc x)
    have h2 := risF_len acc x
    omega
theorem risF_mem {acc : List RowV} {x y : RowV} (h : y ∈ risF acc x) : y ∈ acc ∨ y = x := by
  unfold risF at h
  split at h
  · simpa using h
  · split at h
    · simpa using h
    · exact .inl h
theorem risL_mem : ∀ (l acc : List RowV) (y : RowV), y ∈ l.foldl risF acc → y ∈ acc ∨ y ∈ l
  | [], _, _, h => .inl h
  | x :: l, acc, y, h => by
    rw [List.foldl_cons] at h
    rcases risL_mem l _ y h with h | h
    · rcases risF_mem h with h | rfl
      · exact .inl h
      · exact .inr (List.mem_cons_self ..)
    · exact .inr (List.mem_cons_of_mem _ h)
theorem rising_any (l : List RowV) (hl : l.length ≤ 4194304) (hsz : RowsSz l) (v : Value) (w : World) (h : rowsF l v w) :
    Calls Tryz.prog 47 #[v] w fun e w' => ∃ u, e = .returned u ∧ rowsF (risL l) u w' ∧ Below w.heap.size w w' := by
  have H := hid h
  have Hsz := hid hsz
  obtain ⟨a, c', rfl, hc1, hcm, -⟩ := h
  unfold maxLen at hcm
  clear hsz
  go_enter Tryz.func47, Tryz.ntmps47
  go_wp2
  go_loopw [3, 4] (fun vk vi wr => ∃ i : Nat, i ≤ l.length ∧ vi = .int .i64 i ∧ w.heap.size ≤ wr.heap.size ∧ Hid (wr.ownsRow w.heap.size 70 2 vk (risL (l.take i)).length (rowsC (risL (l.take i))) ∧ Below w.heap.size w wr)) (fun _ vi _ => l.length - (intOf vi).toNat)
  case atStart => exact ⟨0, Nat.zero_le _, rfl, Nat.le_refl _, ⟨⟨rfl, .inl ⟨rfl, rfl⟩⟩, Below.refl _ _⟩⟩
  case round =>
    obtain ⟨i, hi, rfl, hws, hR⟩ := hrel
    obtain ⟨ak, ck, rfl⟩ := own_slice hR.out.1
    by_cases hlt : i < l.length
    · obtain ⟨⟨rk, rv⟩, hx⟩ : ∃ x, l[i]? = some x := ⟨_, List.getElem?_eq_getElem hlt⟩
      obtain ⟨b, off, cap', he, d0, d1⟩ := rows_at H.out hx
      cases he
      dsimp only at d0 d1
      have hb0 := World.block_lt_of_cell? w _ d0
      dsimp only at hb0
      have D0 := (hR.out.2.cell (p := ⟨b, off + i * 2, none⟩) hb0).trans d0
      have D1 := (hR.out.2.cell (p := ⟨b, off + i * 2 + 1, none⟩) hb0).trans d1
      have hbw := Nat.lt_of_lt_of_le hb0 hws
      have ht : Hid (risL (l.take (i + 1)) = risF (risL (l.take i)) (rk, rv)) := by show _ = _; rw [take_snoc hx, risL_snoc]
      have hml : (risL (l.take i)).length ≤ i := by have := risL_len (l.take i) []; unfold risL; rw [List.length_take] at this; simp at this; omega
      have hmem : Hid (∀ y ∈ risL (l.take i), y.1.size ≤ 4611686018427387904) := fun y hy => by
        rcases risL_mem (l.take i) [] y hy with h | h
        · cases h
        · exact (Hsz.out y (List.mem_of_mem_take h)).1
      have KO := hid hR.out.1
      have BB := hid hR.out.2
      clear hx d0 d1 hR
      generalize risL (l.take i) = acc at ht hml hmem KO ⊢
      cases hq : acc.getLast? with
      | none =>
        obtain rfl : acc = [] := List.getLast?_eq_none_iff.1 hq
        have hn : Hid (risF [] (rk, rv) = [] ++ [(rk, rv)]) := rfl
        clear hmem hq hml
        dsimp only [List.length_nil] at KO ⊢
        go_wp2_with fail
        refine wp_par (fun _ => False) (fun _ => True) (List.replicate 18 false) _ [.fix ?_, .fix ?_, .fix ?_, .fix ?_, .fix ?_, .fix ?_, .fix ?_, .fix ?_, .fix ?_, .fix ?_, .fix ?_, .fix ?_, .fix ?_, .fix ?_, .fix ?_, .fix ?_, .fix ?_, .fix ?_] (by kernel_rfl) (by kernel_rfl) (by simp only [List.length_replicate, List.drop_succ_cons, List.drop_zero, List.drop_nil]; with_reducible rfl) rfl (fun _ _ _ _ _ => ⟨fun h => h, fun h => h⟩) (fun _ _ h _ => h) trivial ?_
        rotate_left 18
        iterate 18
          first
            | (refine par_skip (a' := ?_) (by rfl) (by rfl) ?_ ?_ ?_; rotate_left 1; with_reducible rfl; (simp only [Act.put, List.setIfInBounds_toArray, List.set_cons_zero, List.set_cons_succ]; with_reducible rfl))
            | (refine par_run (a' := ?_) (by rfl) (by rfl) (fun w' hb hn => ?_) ?_ ?_; rotate_left 1; (have hc := hb.cells; first | (go_simp; (try simp (disch := omega) only [IntWalk.i64_in, IntWalk.i32_in, IntWalk.u64_in, IntWalk.u8_in, IntWalk.u32_in, toNatUp, iteOmega]); with_reducible rfl) | (go_simp; (try simp (disch := omega) only [IntWalk.i64_in, IntWalk.i32_in, IntWalk.u64_in, IntWalk.u8_in, IntWalk.u32_in, toNatUp, iteOmega]); go_simp; with_reducible rfl)); (simp only [Act.put, List.setIfInBounds_toArray, List.set_cons_zero, List.set_cons_succ]; with_reducible rfl))
        refine par_end (fun w9 hb9 hf9 _ => ?_)
        replace hb9 := hb9.grow
        try refine wpList_none ?_
        have O9 := hid (own_below KO.out hb9)
        have B9 := hid (BB.out.trans (hb9.mono BB.out.size))
        have B9w := hb9.size
        replace D0 := (hb9.cell (p := ⟨b, off + i * 2, none⟩) hbw).trans D0
        replace D1 := (hb9.cell (p := ⟨b, off + i * 2 + 1, none⟩) hbw).trans D1
        clear hb9 KO BB
        go_wp2_with (at_builtin; refine app1k 41 70 Tryz.underlying41 info_rrow2 rfl (by decide) O9.out (Nat.le_trans hws B9w) (by unfold maxLen; omega) (by omega) rfl rfl rfl rfl rfl rfl (by simp [Value.oneCell']) ?_; intro v1 w8 hown8 hb8 hg8)
        have O8 := hid hown8
        have B8 : Hid (Below w.heap.size w w8) := ((But.of (w := w) B9.out).trans' hb8 (F := fun _ => False) (fun k hk ho => by have := (O9.out.lt k ho).1; omega)).grow
        clear hown8 hb8 hg8
        obtain ⟨ak', ck', rfl⟩ := own_slice O8.out
        go_wp2
        go_roundw
        case rel => exact ⟨i + 1, by omega, by go_num, B8.out.size, by rw [ht.out, hn.out, rowsC_snoc]; exact O8.out, B8.out⟩
        case measure => simp [intOf]; omega
      | some q =>
        have hne : acc ≠ [] := fun e => by subst e; cases hq
        have hpos : 0 < acc.length := List.length_pos_iff.2 hne
        have hlast : acc[acc.length - 1]? = some q := by rw [← List.getLast?_eq_getElem?]; exact hq
        have hqs := hmem.out q (List.mem_of_getElem? hlast)
        have hrf : risF acc (rk, rv) = if ltS q.1 rk = true then acc ++ [(rk, rv)] else acc := by unfold risF; rw [hq]
        obtain ⟨b2, off2, cap2, he2, c0, -⟩ := rows_at (FlatAt.of_own KO.out) hlast
        cases he2
        have hb2 := World.block_lt_of_cell? wr _ c0
        dsimp only at hb2
        obtain ⟨qk, qv⟩ := q
        dsimp only at c0 hqs hrf
        have q0 : ((acc.length : Int) == 0) = false := by simp; omega
        have wj : wrap64 ((acc.length : Int) - 1) = ((acc.length - 1 : Nat) : Int) := by unfold wrap64; omega
        have hless : ∀ W, Calls Tryz.prog 17 #[.string qk, .string rk] W fun e w' => e = .returned (.bool (ltS qk rk)) ∧ Below W.heap.size W w' := fun W => (less_any qk rk W hqs).mono (fun e w2 h => by obtain ⟨he, n, hn⟩ := h; subst hn; exact ⟨he, below_drewN (Below.refl _ _) n⟩)
        have Hless := hid hless
        have Hrf := hid hrf
        clear hless hmem hq hlast hrf hne
        go_wp2_with fail
        refine wp_par (fun _ => False) (fun _ => True) (List.replicate 18 false) _ [.fix ?_, .fix ?_, .fix ?_, .fix ?_, .fix ?_, .fix ?_, .fix ?_, .fix ?_, .fix ?_, .fix ?_, .fix ?_, .fix ?_, .fix ?_, .fix ?_, .fix ?_, .fix ?_, .fix ?_, .fix ?_] (by kernel_rfl) (by kernel_rfl) (by simp only [List.length_replicate, List.drop_succ_cons, List.drop_zero, List.drop_nil]; with_reducible rfl) rfl (fun _ _ _ _ _ => ⟨fun h => h, fun h => h⟩) (fun _ _ h _ => h) trivial ?_
        rotate_left 18
        iterate 16
          first
            | (refine par_skip (a' := ?_) (by rfl) (by rfl) ?_ ?_ ?_; rotate_left 1; with_reducible rfl; (simp only [Act.put, List.setIfInBounds_toArray, List.set_cons_zero, List.set_cons_succ]; with_reducible rfl))
            | (refine par_run (a' := ?_) (by rfl) (by rfl) (fun w' hb hn => ?_) ?_ ?_; rotate_left 1; (have hc := hb.cells; first | (go_simp; (try simp (disch := omega) only [IntWalk.i64_in, IntWalk.i32_in, IntWalk.u64_in, IntWalk.u8_in, IntWalk.u32_in, toNatUp, iteOmega]); with_reducible rfl) | (go_simp; (try simp (disch := omega) only [IntWalk.i64_in, IntWalk.i32_in, IntWalk.u64_in, IntWalk.u8_in, IntWalk.u32_in, toNatUp, iteOmega]); go_simp; with_reducible rfl)); (simp only [Act.put, List.setIfInBounds_toArray, List.set_cons_zero, List.set_cons_succ]; with_reducible rfl))
        refine par_call (a' := ?_) (f := ?_) (args := ?_) (by rfl) (by rfl) (fun w' => ?_) (fun w' hb hn => ?_) ?_ ?_; rotate_left 3; (go_simp; constructor <;> with_reducible rfl); (exact Hless.out w'); (simp only [Act.put, List.setIfInBounds_toArray, List.set_cons_zero, List.set_cons_succ]; with_reducible rfl)
        iterate 1
          first
            | (refine par_skip (a' := ?_) (by rfl) (by rfl) ?_ ?_ ?_; rotate_left 1; with_reducible rfl; (simp only [Act.put, List.setIfInBounds_toArray, List.set_cons_zero, List.set_cons_succ]; with_reducible rfl))
            | (refine par_run (a' := ?_) (by rfl) (by rfl) (fun w' hb hn => ?_) ?_ ?_; rotate_left 1; (have hc := hb.cells; first | (go_simp; (try simp (disch := omega) only [IntWalk.i64_in, IntWalk.i32_in, IntWalk.u64_in, IntWalk.u8_in, IntWalk.u32_in, toNatUp, iteOmega]); with_reducible rfl) | (go_simp; (try simp (disch := omega) only [IntWalk.i64_in, IntWalk.i32_in, IntWalk.u64_in, IntWalk.u8_in, IntWalk.u32_in, toNatUp, iteOmega]); go_simp; with_reducible rfl)); (simp only [Act.put, List.setIfInBounds_toArray, List.set_cons_zero, List.set_cons_succ]; with_reducible rfl))
        refine par_end (fun w9 hb9 hf9 _ => ?_)
        replace hb9 := hb9.grow
        try refine wpList_none ?_
        cases hlts : ltS qk rk with
        | true =>
          have hn : Hid (risF acc (rk, rv) = acc ++ [(rk, rv)]) := by have := Hrf.out; rw [hlts, if_pos rfl] at this; exact this
          have O9 := hid (own_below KO.out hb9)
          have B9 := hid (BB.out.trans (hb9.mono BB.out.size))
          have B9w := hb9.size
          replace D0 := (hb9.cell (p := ⟨b, off + i * 2, none⟩) hbw).trans D0
          replace D1 := (hb9.cell (p := ⟨b, off + i * 2 + 1, none⟩) hbw).trans D1
          clear hb9 KO BB
          go_wp2_with (at_builtin; refine app1k 41 70 Tryz.underlying41 info_rrow2 rfl (by decide) O9.out (Nat.le_trans hws B9w) (by unfold maxLen; omega) (by omega) rfl rfl rfl rfl rfl rfl (by simp [Value.oneCell']) ?_; intro v1 w8 hown8 hb8 hg8)
          have O8 := hid hown8
          have B8 : Hid (Below w.heap.size w w8) := ((But.of (w := w) B9.out).trans' hb8 (F := fun _ => False) (fun k hk ho => by have := (O9.out.lt k ho).1; omega)).grow
          clear hown8 hb8 hg8
          obtain ⟨ak', ck', rfl⟩ := own_slice O8.out
          go_wp2
          go_roundw
          case rel => exact ⟨i + 1, by omega, by go_num, B8.out.size, by rw [ht.out, hn.out, rowsC_snoc, List.length_append]; exact O8.out, B8.out⟩
          case measure => simp [intOf]; omega
        | false =>
          have hn : Hid (risF acc (rk, rv) = acc) := by have := Hrf.out; rw [hlts, if_neg (by decide)] at this; exact this
          have O9 := hid (own_below KO.out hb9)
          have B9 := hid (BB.out.trans (hb9.mono BB.out.size))
          clear hb9 KO BB
          go_wp2
          go_roundw
          case rel => exact ⟨i + 1, by omega, by go_num, B9.out.size, by rw [ht.out, hn.out]; exact O9.out, B9.out⟩
          case measure => simp [intOf]; omega
    · have hin : i = l.length := by omega
      subst hin
      have F1 := hid (FlatAt.of_own hR.out.1)
      go_wp2
      go_ret
      exact ⟨_, rfl, by have := F1.out; rw [List.take_length] at this; show rowsF (risL l) (.slice ak (risL (l.take l.length)).length ck) wr; rw [List.take_length]; exact this, hR.out.2⟩
end Go.Proofs.YthikijlbclckdaaGreat
namespace Go.Proofs.YthikijlbclckdaaGreat
set_option maxRecDepth 100000
set_option maxHeartbeats 40000000
set_option linter.unusedSimpArgs false
set_option linter.unusedVariables false
open Go.RowKit
structure ChgV where
  key : ByteArray
  s : ByteArray
  gone : Bool
def chgC (x : ChgV) : List Value := [.string x.key, .string x.s, .bool x.gone]
def chgsC (l : List ChgV) : List Value := l.flatMap chgC
theorem chgsC_snoc (l : List ChgV) (x : ChgV) : chgsC (l ++ [x]) = chgsC l ++ chgC x := by simp [chgsC]
theorem chgsC_length (l : List ChgV) : (chgsC l).length = l.length * 3 := by
  induction l with
  | nil => rfl
  | cons r l ih => simp only [chgsC, List.flatMap_cons, List.length_append, List.length_cons] at *; rw [ih]; simp [chgC]; omega
def goneC (x : RowV) : ChgV := ⟨x.1, ⟨#[]⟩, true⟩
def newC (x : RowV) : ChgV := ⟨x.1, x.2, false⟩
def mergeC : List RowV → List RowV → List ChgV
  | [], [] => []
  | x :: a, [] => goneC x :: mergeC a []
  | [], y :: b => newC y :: mergeC [] b
  | x :: a, y :: b =>
    if ltS x.1 y.1 = true then goneC x :: mergeC a (y :: b)
    else if x.1 = y.1 then (if x.2 = y.2 then mergeC a b else newC y :: mergeC a b)
    else newC y :: mergeC (x :: a) b
termination_by a b => a.length + b.length
theorem merge_old {a b : List RowV} {i k : Nat} {x : RowV} (hx : a[i]? = some x) (hb : b.length ≤ k) : mergeC (a.drop i) (b.drop k) = goneC x :: mergeC (a.drop (i + 1)) (b.drop k) := by
  rw [List.drop_eq_nil_of_le hb]
  obtain ⟨h, rfl⟩ := List.getElem?_eq_some_iff.1 hx
  rw [List.drop_eq_getElem_cons h, mergeC]
theorem merge_new {a b : List RowV} {i k : Nat} {y : RowV} (hy : b[k]? = some y) (ha : a.length ≤ i) : mergeC (a.drop i) (b.drop k) = newC y :: mergeC (a.drop i) (b.drop (k + 1)) := by
  rw [List.drop_eq_nil_of_le ha]
  obtain ⟨h, rfl⟩ := List.getElem?_eq_some_iff.1 hy
  rw [List.drop_eq_getElem_cons h, mergeC]
theorem merge_both {a b : List RowV} {i k : Nat} {x y : RowV} (hx : a[i]? = some x) (hy : b[k]? = some y) : mergeC (a.drop i) (b.drop k) =
    if ltS x.1 y.1 = true then goneC x :: mergeC (a.drop (i + 1)) (b.drop k)
    else if x.1 = y.1 then (if x.2 = y.2 then mergeC (a.drop (i + 1)) (b.drop (k + 1)) else newC y :: mergeC (a.drop (i + 1)) (b.drop (k + 1)))
    else newC y :: mergeC (a.drop i) (b.drop (k + 1)) := by
  obtain ⟨h1, rfl⟩ := List.getElem?_eq_some_iff.1 hx
  obtain ⟨h2, rfl⟩ := List.getElem?_eq_some_iff.1 hy
  rw [List.drop_eq_getElem_cons h1, List.drop_eq_getElem_cons h2, mergeC]
theorem merge_end {a b : List RowV} {i k : Nat} (ha : a.length ≤ i) (hb : b.length ≤ k) : mergeC (a.drop i) (b.drop k) = [] := by
  rw [List.drop_eq_nil_of_le ha, List.drop_eq_nil_of_le hb, mergeC]
theorem merge_len : ∀ (a b : List RowV), (mergeC a b).length ≤ a.length + b.length := by
  intro a b
  induction a, b using mergeC.induct with
  | case1 => rw [mergeC]; simp
  | case2 x a ih => rw [mergeC]; simp only [List.length_cons] at *; omega
  | case3 y b ih => rw [mergeC]; simp only [List.length_cons] at *; omega
  | case4 x a y b h ih => rw [mergeC, if_pos h]; simp only [List.length_cons] at *; omega
  | case5 x a y b h h2 h3 ih => rw [mergeC, if_neg h, if_pos h2, if_pos h3]; simp only [List.length_cons] at *; omega
  | case6 x a y b h h2 h3 ih => rw [mergeC, if_neg h, if_pos h2, if_neg h3]; simp only [List.length_cons] at *; omega
  | case7 x a y b h h2 ih => rw [mergeC, if_neg h, if_neg h2]; simp only [List.length_cons] at *; omega
theorem info_chg : (Tryz.prog.info? 63).map (fun i => (i.zero, i.size, i.bytes)) = some (some (.agg #[.string ⟨#[]⟩, .string ⟨#[]⟩, .bool false]), 3, 40) := by kernel_rfl
def chgF (l : List ChgV) : Value → World → Prop := fun u w => FlatAt 3 w u l.length (chgsC l)
def chgS (l : List RowV) (s : StateV) : List ChgV := if mayB s = true then mergeC (risL l) (rows s) else []
end Go.Proofs.YthikijlbclckdaaGreat
