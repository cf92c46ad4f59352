/- Keep: contracts (Ov Rp Ku Ca Cb Ch). -/
import Derived.Test.YthikijlbclckdaaGreatT1
import Derived.Test.YthikijlbclckdaaGreatT14
import Derived.Test.YthikijlbclckdaaGreatT16
import Derived.Test.YthikijlbclckdaaGreatT17
import Derived.WalkSpells
import Derived.WalkLawsBesides
import Derived.Laws.EntriesVeiled
namespace Go.Proofs.YthikijlbclckdaaGreat
set_option maxRecDepth 100000
set_option maxHeartbeats 40000000
set_option linter.unusedSimpArgs false
set_option linter.unusedVariables false
open Go.IntWalk Go.RowKit
theorem info_str : (Tryz.prog.info? 9).map (fun i => (i.zero, i.size, i.bytes)) = some (some (.string ⟨#[]⟩), 1, 16) := by kernel_rfl
theorem own_empty (w : World) (e : TypeId) (size : Nat) : (w.alloc (.cells #[] e)).ownsRow w.heap.size e size (.slice (some ⟨w.heap.size, 0, none⟩) 0 0) 0 [] :=
 ⟨by simp, .inr ⟨w.heap.size, 0, #[], rfl, Nat.le_refl _, alloc_new w _, Nat.le_refl _, by simp [maxLen], by simp, by simp⟩⟩
theorem clone_any (v : Value) (n : Nat) (cs : List Value) (w : World) (h : FlatAt 1 w v n cs) (h1 : ∀ u ∈ cs, u.oneCell' = true) (hn : n * 16 ≤ 140737488355328) :
  Calls Tryz.prog 102 #[v] w fun e w' => ∃ u, e = .returned u ∧ FlatAt 1 w' u n cs ∧ (∀ a m c, u = .slice (some a) m c → w.heap.size ≤ a.block) ∧ Below w.heap.size w w' := by
 have H := hid h
 obtain ⟨a, cap, rfl, hc1, hc2, hl, hcs⟩ := h
 have Hl := hid hl
 have Hcs := hid hcs
 have H1 := hid h1
 clear hl hcs h1
 cases a with
 | none =>
  have h0 : n = 0 := by
   cases cs with
   | nil => have := Hl.out; simp at this; omega
   | cons u l => obtain ⟨b, off, he, -⟩ := Hcs.out 0 u rfl; cases he
  subst h0
  have he := fun w => Lib.run_eql_slice_nil (P := Tryz.prog) w 84 9 none 0 cap 0 0 Tryz.underlying84
  go_enter Tryz.func102, Tryz.ntmps102
  go_wp2
  go_ret
  have hnil : cs = [] := List.eq_nil_of_length_eq_zero (by simpa using Hl.out)
  exact ⟨_, rfl, by rw [hnil]; exact FlatAt.nil 1 _, (fun a m c he => by cases he), Below.refl _ _⟩
 | some a =>
  have he := fun w => Lib.run_eql_slice_nil (P := Tryz.prog) w 84 9 (some a) n cap 0 0 Tryz.underlying84
  go_enter Tryz.func102, Tryz.ntmps102
  go_wp2_with (at_builtin; refine appk 84 9 Tryz.underlying84 info_str rfl (by decide) (own_empty w 9 1) (by simp) (H.out.grow ((Below.refl _ w).alloc (Nat.le_refl _) _)) (by unfold maxLen; omega) (by omega) H1.out rfl rfl rfl rfl ?_; intro v' w5 hown5 hb5 hg5)
  go_wp2
  go_ret
  exact ⟨_, rfl, by simpa using FlatAt.of_own hown5, (fun a m c he => by subst he; exact (hown5.lt _ rfl).1), ((But.alloc (F := fun _ => False) (But.refl _ w) _).trans' hb5 (fun i hi ho => by simp only [ownB, Value.ownBlock, Option.some.injEq] at ho; omega)).grow⟩
def keysC (l : List RowV) : List Value := l.map fun r => .string r.1
def valsC (l : List RowV) : List Value := l.map fun r => .string r.2
theorem keys_one (l : List RowV) : ∀ u ∈ keysC l, u.oneCell' = true := by
 intro u hu
 obtain ⟨x, -, rfl⟩ := List.mem_map.1 hu
 rfl
theorem vals_one (l : List RowV) : ∀ u ∈ valsC l, u.oneCell' = true := by
 intro u hu
 obtain ⟨x, -, rfl⟩ := List.mem_map.1 hu
 rfl
def OverAt (w : World) (kb vb : Nat) (l : List RowV) : Prop :=
 ∃ ku vu, w.heap[kb]? = some (.cells #[ku] 84 (0, 0)) ∧ w.heap[vb]? = some (.cells #[vu] 84 (0, 0)) ∧ FlatAt 1 w ku l.length (keysC l) ∧ FlatAt 1 w vu l.length (valsC l)
theorem OverAt.grow {w w' : World} {kb vb : Nat} {l : List RowV} (h : OverAt w kb vb l) (hb : Below w.heap.size w w') : OverAt w' kb vb l := by
 obtain ⟨ku, vu, h1, h2, h3, h4⟩ := h
 exact ⟨ku, vu, (hb.block kb (heap_lt h1)).trans h1, (hb.block vb (heap_lt h2)).trans h2, h3.grow hb, h4.grow hb⟩
def overV (kb vb : Nat) : Value := .func (.func 103) #[] #[.pointer (some ⟨kb, 0, none⟩), .pointer (some ⟨vb, 0, none⟩)]
theorem mOver_any (l : List RowV) (hl : l.length ≤ 4194304) (v1 v2 : Value) (w : World) (h1 : FlatAt 1 w v1 l.length (keysC l)) (h2 : FlatAt 1 w v2 l.length (valsC l)) :
  Calls Tryz.prog 36 #[v1, v2] w fun e w' => ∃ kb vb, e = .returned (overV kb vb) ∧ OverAt w' kb vb l ∧ Below w.heap.size w w' := by
 have H1 := hid h1
 have H2 := hid h2
 obtain ⟨a1, c1', rfl, hc1, hc1m, -⟩ := h1
 obtain ⟨a2, c2', rfl, hc2, hc2m, -⟩ := h2
 go_enter Tryz.func36, Tryz.ntmps36
 go_wp2_with fail
 have hk := alloc_new w (.cells #[.slice a1 l.length c1'] 84)
 have hk2 := (alloc_old (.cells #[.slice a2 l.length c2'] 84) (heap_lt hk)).trans hk
 have hv2 := alloc_new2 w (.cells #[.slice a1 l.length c1'] 84) (.cells #[.slice a2 l.length c2'] 84)
 have hB := ((Below.refl _ w).alloc (Nat.le_refl _) (.cells #[.slice a1 l.length c1'] 84)).alloc (by simp) (.cells #[.slice a2 l.length c2'] 84)
 have hz : w.heap.size + 2 = ((w.alloc (.cells #[.slice a1 l.length c1'] 84)).alloc (.cells #[.slice a2 l.length c2'] 84)).heap.size := by simp
 generalize (w.alloc (.cells #[.slice a1 l.length c1'] 84)).alloc (.cells #[.slice a2 l.length c2'] 84) = w1 at hk2 hv2 hB hz ⊢
 have Hk := hid hk2
 have Hv := hid hv2
 have HB := hid hB
 have Hz := hid hz
 have l1 := heap_lt hk2
 have l2 := heap_lt hv2
 clear hk hk2 hv2 hB hz
 unfold maxLen at hc1m hc2m
 refine Ps.wp_par (Ps.relC (fun _ => False) (fun b _ => b < w1.heap.size)) (fun _ => True) (false :: false :: false :: true :: false :: false :: false :: true :: []) _ (.fix ?_ :: .fix ?_ :: .fix ?_ :: .st (none) (fun u W => FlatAt 1 W u l.length (keysC l) ∧ ∀ a m c, u = .slice (some a) m c → w1.heap.size ≤ a.block) (fun _ _ => True) :: .fix ?_ :: .fix ?_ :: .fix ?_ :: .st (none) (fun u W => FlatAt 1 W u l.length (valsC l) ∧ ∀ a m c, u = .slice (some a) m c → w1.heap.size ≤ a.block) (fun _ _ => True) :: []) (by kernel_rfl) (by kernel_rfl) (by simp only [List.length_cons, List.length_nil, List.drop_succ_cons, List.drop_zero, List.drop_nil]; with_reducible rfl) rfl (fun _ _ _ _ _ => ⟨fun h => h, fun h => h⟩) (fun _ _ h _ => h) (trivial) ?_
 rotate_left 6
 iterate 3
  first
   | (refine Ps.par_skip (a' := ?_) (by rfl) (by rfl) ?_ ?_ ?_; rotate_left 1; with_reducible rfl; (simp only [lays]; with_reducible rfl))
   | (refine Ps.par_run (a' := ?_) (by rfl) (by rfl) (fun w' hb hn => ?_) ?_ ?_; rotate_left 1; (have q0 := hb.2 w.heap.size 0 _ l1 (cell_of Hk.out 0); have q1 := hb.2 (w.heap.size + 1) 0 _ l2 (cell_of Hv.out 0); go_simp; (try simp (disch := omega) only [nrm, toNatUp, iteOmega]); first | with_reducible rfl | (go_simp; with_reducible rfl)); (simp only [lays]; with_reducible rfl))
 refine Ps.par_stc (a' := ?ap1k3) (f := ?fp1k3) (args := ?rp1k3) (by rfl) (by rfl) (fun w' => ?ep1k3) (fun _ _ _ h hb => ⟨h.1.grow hb.1.grow, h.2⟩) (fun _ _ _ h _ => h) (fun w' hb hn hr => ?hp1k3) (fun u => ?pp1k3) (fun u3 hu3 => ?gp1k3)
 case ep1k3 => (go_simp; constructor <;> with_reducible rfl)
 case hp1k3 => (exact (clone_any _ l.length (keysC l) w' (H1.out.grow (HB.out.trans (hb.1.grow.mono HB.out.size))) (keys_one l) (by omega)).mono (fun e w2 ⟨u, he, hf, hfr, hb2⟩ => ⟨u, he, trivial, ⟨hf, fun a m c he => Nat.le_trans hb.1.size (hfr a m c he)⟩, ⟨But.of hb2, fun b i v hs hc => (hb2.cell (p := ⟨b, i, none⟩) (World.block_lt_of_cell? _ _ hc)).trans hc⟩, trivial⟩))
 case pp1k3 => (simp only [lays]; with_reducible rfl)
 iterate 3
  first
   | (refine Ps.par_skip (a' := ?_) (by rfl) (by rfl) ?_ ?_ ?_; rotate_left 1; with_reducible rfl; (simp only [lays]; with_reducible rfl))
   | (refine Ps.par_run (a' := ?_) (by rfl) (by rfl) (fun w' hb hn => ?_) ?_ ?_; rotate_left 1; (have q0 := hb.2 w.heap.size 0 _ l1 (cell_of Hk.out 0); have q1 := hb.2 (w.heap.size + 1) 0 _ l2 (cell_of Hv.out 0); go_simp; (try simp (disch := omega) only [nrm, toNatUp, iteOmega]); first | with_reducible rfl | (go_simp; with_reducible rfl)); (simp only [lays]; with_reducible rfl))
 refine Ps.par_stc (a' := ?ap2k7) (f := ?fp2k7) (args := ?rp2k7) (by rfl) (by rfl) (fun w' => ?ep2k7) (fun _ _ _ h hb => ⟨h.1.grow hb.1.grow, h.2⟩) (fun _ _ _ h _ => h) (fun w' hb hn hr => ?hp2k7) (fun u => ?pp2k7) (fun u7 hu7 => ?gp2k7)
 case ep2k7 => (go_simp; constructor <;> with_reducible rfl)
 case hp2k7 => (exact (clone_any _ l.length (valsC l) w' (H2.out.grow (HB.out.trans (hb.1.grow.mono HB.out.size))) (vals_one l) (by omega)).mono (fun e w2 ⟨u, he, hf, hfr, hb2⟩ => ⟨u, he, trivial, ⟨hf, fun a m c he => Nat.le_trans hb.1.size (hfr a m c he)⟩, ⟨But.of hb2, fun b i v hs hc => (hb2.cell (p := ⟨b, i, none⟩) (World.block_lt_of_cell? _ _ hc)).trans hc⟩, trivial⟩))
 case pp2k7 => (simp only [lays]; with_reducible rfl)
 refine Ps.par_end (fun w9 hb9 hf9 hr9 => ?_)
 try refine Ps.wpList_none ?_
 have e7 := hf9 _ List.mem_cons_self
 have e3 := hf9 _ (List.mem_cons_of_mem _ List.mem_cons_self)
 try dsimp only at e7 e3
 have b9 := hb9.1.grow
 have hk9 := (b9.block _ l1).trans Hk.out
 have hv9 := (b9.block _ l2).trans Hv.out
 have HB9 := hid (HB.out.trans (b9.mono HB.out.size))
 have E7 := hid e7
 have E3 := hid e3
 obtain ⟨⟨a3, c3, rfl, -⟩, -⟩ := e3
 obtain ⟨⟨a7, c7, rfl, -⟩, -⟩ := e7
 have k0 := cell_of hk9 0
 have f0 := free_of hk9 0
 have k1 := cell_of hv9 0
 have f1 := free_of hv9 0
 clear hb9 hf9 hr9 b9
 go_wp2
 have s1 := setCell_at hk9 0 (.slice a3 l.length c3)
 have r1 := Rb.set (w := w9) w.heap.size 0 (.slice a3 l.length c3)
 have s2 := setCell_at (r1.at hv9 (by omega)) 0 (.slice a7 l.length c7)
 have r2 := Rb.set (w := w9.setCell ⟨w.heap.size, 0, none⟩ (.slice a3 l.length c3)) (w.heap.size + 1) 0 (.slice a7 l.length c7)
 have s1' := r2.at s1 (by omega)
 have sz := Hz.out
 have g3 : ∀ a m c, Value.slice a3 l.length c3 = .slice (some a) m c → w.heap.size + 2 ≤ a.block := fun a m c he => by have := E3.out.2 a m c he; omega
 have g7 : ∀ a m c, Value.slice a7 l.length c7 = .slice (some a) m c → w.heap.size + 2 ≤ a.block := fun a m c he => by have := E7.out.2 a m c he; omega
 have F3 := (E3.out.1.but r1 (fun a m c he hh => by have := g3 a m c he; omega)).but r2 (fun a m c he hh => by have := g3 a m c he; omega)
 have F7 := (E7.out.1.but r1 (fun a m c he hh => by have := g7 a m c he; omega)).but r2 (fun a m c he hh => by have := g7 a m c he; omega)
 have BB := ((But.of (w := w) HB9.out).trans' r1 (F := fun _ => False) (fun i hi he => by omega)).trans' r2 (F := fun _ => False) (fun i hi he => by omega)
 go_ret
 exact ⟨_, _, rfl, ⟨_, _, s1', s2, F3, F7⟩, BB.grow⟩
theorem keysC_snoc (l : List RowV) (r : RowV) : keysC (l ++ [r]) = keysC l ++ [.string r.1] := by simp [keysC]
theorem valsC_snoc (l : List RowV) (r : RowV) : valsC (l ++ [r]) = valsC l ++ [.string r.2] := by simp [valsC]
theorem over_any (l : List RowV) (hl : l.length ≤ 4194304) (v : Value) (w : World) (h : rowsF l v w) :
  Calls Tryz.prog 19 #[v] w fun e w' => ∃ kb vb, e = .returned (overV kb vb) ∧ OverAt w' kb vb l ∧ Below w.heap.size w w' := by
 have H := hid h
 obtain ⟨a, c', rfl, hc1, hcm, -⟩ := h
 unfold maxLen at hcm
 go_enter Tryz.func19, Tryz.ntmps19
 go_wp2
 go_loopw [3, 4, 5] (fun vk vv vi wr => ∃ i : Nat, i ≤ l.length ∧ vi = .int .i64 i ∧ w.heap.size ≤ wr.heap.size ∧ Hid (wr.ownsRow w.heap.size 9 1 vk i (keysC (l.take i)) ∧ wr.ownsRow w.heap.size 9 1 vv i (valsC (l.take i)) ∧ (∀ g, vk.ownBlock = some g → vv.ownBlock ≠ some g) ∧ Below w.heap.size w wr)) (fun _ _ vi _ => l.length - (intOf vi).toNat)
 case atStart => exact ⟨0, Nat.zero_le _, rfl, Nat.le_refl _, ⟨⟨rfl, .inl ⟨rfl, rfl⟩⟩, ⟨rfl, .inl ⟨rfl, rfl⟩⟩, (fun g hg => by simp [Value.ownBlock] at hg), Below.refl _ _⟩⟩
 case round =>
  obtain ⟨i, hi, rfl, hws, hR⟩ := hrel
  obtain ⟨ak, ck, rfl⟩ := own_slice hR.out.1
  obtain ⟨av, cv, rfl⟩ := own_slice hR.out.2.1
  by_cases hlt : i < l.length
  ·
   obtain ⟨⟨rk, rv⟩, hx⟩ : ∃ x, l[i]? = some x := ⟨_, List.getElem?_eq_getElem hlt⟩
   obtain ⟨b, off, cap', he, d0, d1⟩ := rows_at H.out hx
   cases he
   dsimp only at d0 d1
   have hb0 := World.block_lt_of_cell? w _ d0
   dsimp only at hb0
   have D1 := hid d1
   have c0 := (hR.out.2.2.2.cell (p := ⟨b, off + i * 2, none⟩) hb0).trans d0
   have ht := hid (take_snoc hx)
   clear hx d0 d1
   have KO := hid hR.out.1
   have VO := hid hR.out.2.1
   have AP := hid hR.out.2.2.1
   have BB := hid hR.out.2.2.2
   clear hR
   go_wp2_with (first | (at_builtin; refine app1k 84 9 Tryz.underlying84 info_str rfl (by decide) KO.out hws (by unfold maxLen; omega) (by omega) rfl rfl rfl rfl rfl rfl (by simp [Value.oneCell']) ?_; intro v1 w5 hown5 hb5 hg5; have V5 := hid (own_at VO.out hb5 (fun g hg hk => AP.out g hk hg)); have B5 := hid (show Below w.heap.size w w5 from ((But.of (w := w) BB.out).trans' hb5 (F := fun _ => False) (fun k hk ho => by have := (KO.out.lt k ho).1; omega)).grow); have A5 := hid (show ∀ g, v1.ownBlock = some g → (Value.slice av i cv).ownBlock ≠ some g from fun g hg he => (hg5 g hg).elim (fun h => AP.out g h he) (fun h => by have := (VO.out.lt g he).2; omega)); have O5 := hid hown5; have q1 := (B5.out.cell (p := ⟨b, off + i * 2 + 1, none⟩) hb0).trans D1.out; have s5 : w.heap.size ≤ w5.heap.size := B5.out.size; clear hown5 hb5 hg5) | (at_builtin; refine app1k 84 9 Tryz.underlying84 info_str rfl (by decide) V5.out s5 (by unfold maxLen; omega) (by omega) rfl rfl rfl rfl rfl rfl (by simp [Value.oneCell']) ?_; intro v2 w6 hown6 hb6 hg6))
   have K6 := own_at O5.out hb6 (fun g hg hk => A5.out g hg hk)
   have B6 : Below w.heap.size w w6 := ((But.of (w := w) B5.out).trans' hb6 (F := fun _ => False) (fun k hk ho => by have := (VO.out.lt k ho).1; omega)).grow
   refine ⟨⟨i + 1, by omega, by go_num, B6.size, ?_, ?_, ?_, B6⟩, by simp [intOf]; omega⟩
   ·
    rw [ht.out, keysC_snoc]; exact K6
   ·
    rw [ht.out, valsC_snoc]; exact hown6
   ·
    intro g hg he
    exact (hg6 g he).elim (fun h => A5.out g hg h) (fun h => by have := (O5.out.lt g hg).2; omega)
  ·
   have hin : i = l.length := by omega
   subst hin
   have F1 := hid (FlatAt.of_own hR.out.1)
   have F2 := hid (FlatAt.of_own hR.out.2.1)
   go_wp2_with fail
   refine (mOver_any l hl _ _ _ (by have := F1.out; rw [List.take_length] at this; exact this) (by have := F2.out; rw [List.take_length] at this; exact this)).mono ?_
   rintro e w2 ⟨kb, vb, rfl, ho, b2⟩
   have HO := hid ho
   have HB := hid (hR.out.2.2.2.trans (b2.mono hR.out.2.2.2.size))
   clear ho b2
   go_wp2
   go_ret
   exact ⟨kb, vb, rfl, HO.out, HB.out⟩
end Go.Proofs.YthikijlbclckdaaGreat
namespace Go.Proofs.YthikijlbclckdaaGreat
set_option maxRecDepth 100000
set_option maxHeartbeats 40000000
set_option linter.unusedSimpArgs false
set_option linter.unusedVariables false
open Go.RowKit
end Go.Proofs.YthikijlbclckdaaGreat
namespace Go.Proofs.YthikijlbclckdaaGreat
set_option maxRecDepth 100000
set_option maxHeartbeats 40000000
set_option linter.unusedSimpArgs false
set_option linter.unusedVariables false
open Go.RowKit
def state0 : StateV := { pos := 0, done := 0, made := 0, procs := [], insts := [], tokens := [], jobs := [], timers := [], subs := [], kept := [], listed := [], msgs := [] }
def cells0 : List Value := [U 0, U 0, U 0, .slice none 0 0, .slice none 0 0, .slice none 0 0, .slice none 0 0, .slice none 0 0, .slice none 0 0, .slice none 0 0, .slice none 0 0, .slice none 0 0]
theorem listAt0 {α : Type} (R : World → List Value → α → Prop) (size : Nat) (w : World) : ListAt R size w (.slice none 0 0) [] :=
 ⟨none, 0, rfl, Nat.le_refl _, by simp [maxLen], fun i x h => by cases h⟩
theorem stateAt0 (w : World) : StateAt w cells0 state0 (.slice none 0 0) (.slice none 0 0) (.slice none 0 0) (.slice none 0 0) (.slice none 0 0) (.slice none 0 0) (.slice none 0 0) (.slice none 0 0) (.slice none 0 0) :=
 ⟨rfl, listAt0 _ _ _, listAt0 _ _ _, listAt0 _ _ _, listAt0 _ _ _, listAt0 _ _ _, listAt0 _ _ _, listAt0 _ _ _, listAt0 _ _ _, listAt0 _ _ _⟩
theorem stateOk0 : StateOk state0 := by
 constructor <;> first | (show U64 0; unfold U64; omega) | (intro x hx; cases hx) | (simp [state0])
theorem uv0 : uvS 0 = ⟨#[0]⟩ := by unfold uvS; rw [Lib.uvarint_small (by decide)]; rfl
theorem rows0 : rows state0 = [(⟨#[97]⟩, ⟨#[0, 0, 0]⟩)] := by
 show [((c1 97 : ByteArray), uvS 0 ++ uvS 0 ++ uvS 0)] = _
 rw [uv0]
 rfl
theorem may0 : mayB state0 = true := by
 have h1 : boundsB state0 = true := by rfl
 unfold mayB
 rw [h1, rows0]
 rfl
theorem told0 : toldS state0 = [(⟨#[97]⟩, ⟨#[0, 0, 0]⟩)] := by rw [toldS_yes may0, rows0]
theorem run_eql_func_nil {P : Program} (w : World) (t : TypeId) {a b c} (h : P.underlying t = some (.func a b c)) : (binOp .eql t .nilFunc .nilFunc).run P w = .ok (.bool true) w := by
 have e : (Op.equal t .nilFunc .nilFunc).run P w = .ok true w := by
  show (Op.equalIn (Nat.succ 9999) t .nilFunc .nilFunc).run P w = _
  generalize 9999 = d
  simp [Op.equalIn, run_underlying h]
 simp only [binOp]
 simp [e]
theorem run_eql_func_some {P : Program} (w : World) (t : TypeId) (f : Fn) (xs ys : Array Value) {a b c} (h : P.underlying t = some (.func a b c)) : (binOp .eql t (.func f xs ys) .nilFunc).run P w = .ok (.bool false) w := by
 have e : (Op.equal t (.func f xs ys) .nilFunc).run P w = .ok false w := by
  show (Op.equalIn (Nat.succ 9999) t (.func f xs ys) .nilFunc).run P w = _
  generalize 9999 = d
  simp [Op.equalIn, run_underlying h]
 simp only [binOp]
 simp [e]
theorem readNil_any (w : World) : Calls Tryz.prog 18 #[.nilFunc] w fun e w' => e = .returned (.tuple #[.agg cells0.toArray, .int .i64 3]) ∧ Below w.heap.size w w' := by
 go_enter Tryz.func18, Tryz.ntmps18
 have he := fun w => run_eql_func_nil (P := Tryz.prog) w 38 Tryz.underlying38
 go_wp2
 have hb : Below w.heap.size w (((((w.alloc (.cells cells0.toArray 33)).alloc (.cells #[.int .i64 3] 47)).alloc (.cells cells0.toArray 33)).alloc (.cells #[.string ⟨#[]⟩] 9)).alloc (.cells #[.bool true] 4)) := by
  refine ((((((Below.refl _ w).alloc (Nat.le_refl _) _).alloc ?_ _).alloc ?_ _).alloc ?_ _).alloc ?_ _) <;> (simp only [World.size_alloc]; omega)
 have x2 := alloc_new w (.cells cells0.toArray 33)
 have x3 := alloc_new (w.alloc (.cells cells0.toArray 33)) (.cells #[.int .i64 3] 47)
 have y2 := (alloc_old (.cells #[.int .i64 3] 47) (heap_lt x2)).trans x2
 have z2 := (alloc_old (.cells cells0.toArray 33) (heap_lt y2)).trans y2
 have y3 := (alloc_old (.cells cells0.toArray 33) (heap_lt x3)).trans x3
 have u2 := (alloc_old (.cells #[.string ⟨#[]⟩] 9) (heap_lt z2)).trans z2
 have z3 := (alloc_old (.cells #[.string ⟨#[]⟩] 9) (heap_lt y3)).trans y3
 have v2 := (alloc_old (.cells #[.bool true] 4) (heap_lt u2)).trans u2
 have u3 := (alloc_old (.cells #[.bool true] 4) (heap_lt z3)).trans z3
 change bodyPost _ _ _ _ _ (((((w.alloc (.cells cells0.toArray 33)).alloc (.cells #[.int .i64 3] 47)).alloc (.cells cells0.toArray 33)).alloc (.cells #[.string ⟨#[]⟩] 9)).alloc (.cells #[.bool true] 4))
 simp only [World.size_alloc] at u3
 generalize (((((w.alloc (.cells cells0.toArray 33)).alloc (.cells #[.int .i64 3] 47)).alloc (.cells cells0.toArray 33)).alloc (.cells #[.string ⟨#[]⟩] 9)).alloc (.cells #[.bool true] 4)) = W at hb v2 u3 ⊢
 clear x2 x3 y2 z2 y3 u2 z3
 obtain ⟨k0, k1, k2, k3, k4, k5, k6, k7, k8, k9, k10, k11⟩ := cells12 v2
 have e0 := cell_of u3 0
 try simp only [cells0] at k0 k1 k2 k3 k4 k5 k6 k7 k8 k9 k10 k11
 exact bodyPost_ret (v := .tuple #[.agg cells0.toArray, .int .i64 3]) (by simp [results, Tryz.results18, go_sem, cells0, k0, k1, k2, k3, k4, k5, k6, k7, k8, k9, k10, k11, e0]) rfl ⟨rfl, hb⟩
theorem shown_any (w : World) : Calls Tryz.prog 10 #[] w fun e w' => e = .returned (.bool true) ∧ Below w.heap.size w w' := by
 go_enter Tryz.func10, Tryz.ntmps10
 go_wp2_with fail
 refine (smay_any state0 stateOk0 (rowsSz _ stateOk0) cells0 _ _ _ _ _ _ _ _ _ w (stateAt0 w)).mono ?_
 rintro e w1 ⟨rfl, b1⟩
 rw [may0]
 have B1 := hid b1
 clear b1
 go_wp2_with fail
 refine (srows_any state0 stateOk0 cells0 _ _ _ _ _ _ _ _ _ w1 (stateAt0 w1)).mono ?_
 rintro e w2 ⟨lc, v, rfl, hlc, hv, b2⟩
 rw [told0] at hv
 have B2 := hid (B1.out.trans (b2.mono B1.out.size))
 have Hlc := hid hlc
 have Hv := hid hv
 clear b2 hlc hv
 go_wp2_with fail
 refine (told_any lc _ v w2 Hlc.out Hv.out (by simp)).mono ?_
 rintro e w3 ⟨u, rfl, hf, b3⟩
 have B3 := hid (B2.out.trans (b3.mono B2.out.size))
 obtain ⟨b, off, cap, rfl, c0, c1⟩ := rows_at hf (i := 0) rfl
 dsimp only at c0 c1
 have hbl := World.block_lt_of_cell? w3 _ c0
 dsimp only at hbl
 have C0 := hid c0
 have C1 := hid c1
 clear b3 hf c0 c1
 go_wp2_with fail
 refine (readNil_any w3).mono ?_
 rintro e w4 ⟨rfl, b4⟩
 have c0 := (b4.cell (p := ⟨b, off + 0 * 2, none⟩) hbl).trans C0.out
 have c1 := (b4.cell (p := ⟨b, off + 0 * 2 + 1, none⟩) hbl).trans C1.out
 have B4 := hid (B3.out.trans (b4.mono B3.out.size))
 have hbl4 := World.block_lt_of_cell? w4 _ c0
 dsimp only at hbl4
 clear b4
 simp only [Nat.zero_mul, Nat.add_zero] at c0 c1
 simp only [cells0]
 go_wp2
 go_ret
 exact ⟨rfl, B4.out.alloc B4.out.size _⟩
theorem cells0_at {w : World} {b : Nat} {T : TypeId} (h : w.heap[b]? = some (.cells cells0.toArray T (0, 0))) :
  w.cell? ⟨b, 0, none⟩ = some (.int .u64 0) ∧ w.frozen? ⟨b, 0, none⟩ = false ∧ w.cell? ⟨b, 1, none⟩ = some (.int .u64 0) ∧ w.frozen? ⟨b, 1, none⟩ = false ∧ w.cell? ⟨b, 2, none⟩ = some (.int .u64 0) ∧ w.frozen? ⟨b, 2, none⟩ = false ∧ w.cell? ⟨b, 3, none⟩ = some (.slice none 0 0) ∧ w.frozen? ⟨b, 3, none⟩ = false ∧ w.cell? ⟨b, 4, none⟩ = some (.slice none 0 0) ∧ w.frozen? ⟨b, 4, none⟩ = false ∧ w.cell? ⟨b, 5, none⟩ = some (.slice none 0 0) ∧ w.frozen? ⟨b, 5, none⟩ = false ∧ w.cell? ⟨b, 6, none⟩ = some (.slice none 0 0) ∧ w.frozen? ⟨b, 6, none⟩ = false ∧ w.cell? ⟨b, 7, none⟩ = some (.slice none 0 0) ∧ w.frozen? ⟨b, 7, none⟩ = false ∧ w.cell? ⟨b, 8, none⟩ = some (.slice none 0 0) ∧ w.frozen? ⟨b, 8, none⟩ = false ∧ w.cell? ⟨b, 9, none⟩ = some (.slice none 0 0) ∧ w.frozen? ⟨b, 9, none⟩ = false ∧ w.cell? ⟨b, 10, none⟩ = some (.slice none 0 0) ∧ w.frozen? ⟨b, 10, none⟩ = false ∧ w.cell? ⟨b, 11, none⟩ = some (.slice none 0 0) ∧ w.frozen? ⟨b, 11, none⟩ = false :=
 ⟨cell_of h 0, free_of h 0, cell_of h 1, free_of h 1, cell_of h 2, free_of h 2, cell_of h 3, free_of h 3, cell_of h 4, free_of h 4, cell_of h 5, free_of h 5, cell_of h 6, free_of h 6, cell_of h 7, free_of h 7, cell_of h 8, free_of h 8, cell_of h 9, free_of h 9, cell_of h 10, free_of h 10, cell_of h 11, free_of h 11⟩
end Go.Proofs.YthikijlbclckdaaGreat
namespace Go.Proofs.YthikijlbclckdaaGreat
set_option maxRecDepth 100000
set_option maxHeartbeats 40000000
set_option linter.unusedSimpArgs false
set_option linter.unusedVariables false
open Go.RowKit
def risF (acc : List RowV) (x : RowV) : List RowV := match acc.getLast? with
 | none => acc ++ [x]
 | some q => if ltS q.1 x.1 = true then acc ++ [x] else acc
def risL (l : List RowV) : List RowV := l.foldl risF []
theorem risL_snoc (l : List RowV) (x : RowV) : risL (l ++ [x]) = risF (risL l) x := by unfold risL; rw [List.foldl_append]; rfl
theorem risF_len (acc : List RowV) (x : RowV) : (risF acc x).length ≤ acc.length + 1 := by
 unfold risF
 split
 ·
  simp
 ·
  split <;> simp
theorem risL_len : ∀ (l acc : List RowV), (l.foldl risF acc).length ≤ acc.length + l.length
 | [], acc => Nat.le_refl _
 | x :: l, acc => by
  rw [List.foldl_cons, List.length_cons]
  have h1 := risL_len l (risF acc x)
  have h2 := risF_len acc x
  omega
theorem risF_mem {acc : List RowV} {x y : RowV} (h : y ∈ risF acc x) : y ∈ acc ∨ y = x := by
 unfold risF at h
 split at h
 ·
  simpa using h
 ·
  split at h
  ·
   simpa using h
  ·
   exact .inl h
theorem risL_mem : ∀ (l acc : List RowV) (y : RowV), y ∈ l.foldl risF acc → y ∈ acc ∨ y ∈ l
 | [], _, _, h => .inl h
 | x :: l, acc, y, h => by
  rw [List.foldl_cons] at h
  rcases risL_mem l _ y h with h | h
  ·
   rcases risF_mem h with h | rfl
   ·
    exact .inl h
   ·
    exact .inr (List.mem_cons_self ..)
  ·
   exact .inr (List.mem_cons_of_mem _ h)
end Go.Proofs.YthikijlbclckdaaGreat
namespace Go.Proofs.YthikijlbclckdaaGreat
set_option maxRecDepth 100000
set_option maxHeartbeats 40000000
set_option linter.unusedSimpArgs false
set_option linter.unusedVariables false
open Go.RowKit
structure ChgV where
 key : ByteArray
 s : ByteArray
 gone : Bool
def chgC (x : ChgV) : List Value := [.string x.key, .string x.s, .bool x.gone]
def chgsC (l : List ChgV) : List Value := l.flatMap chgC
theorem chgsC_snoc (l : List ChgV) (x : ChgV) : chgsC (l ++ [x]) = chgsC l ++ chgC x := by simp [chgsC]
def goneC (x : RowV) : ChgV := ⟨x.1, ⟨#[]⟩, true⟩
def newC (x : RowV) : ChgV := ⟨x.1, x.2, false⟩
def mergeC : List RowV → List RowV → List ChgV
 | [], [] => []
 | x :: a, [] => goneC x :: mergeC a []
 | [], y :: b => newC y :: mergeC [] b
 | x :: a, y :: b =>
  if ltS x.1 y.1 = true then goneC x :: mergeC a (y :: b)
  else if x.1 = y.1 then (if x.2 = y.2 then mergeC a b else newC y :: mergeC a b)
  else newC y :: mergeC (x :: a) b
termination_by a b => a.length + b.length
theorem merge_len : ∀ (a b : List RowV), (mergeC a b).length ≤ a.length + b.length := by
 intro a b
 induction a, b using mergeC.induct with
 | case1 => rw [mergeC]; simp
 | case2 x a ih => rw [mergeC]; simp only [List.length_cons] at *; omega
 | case3 y b ih => rw [mergeC]; simp only [List.length_cons] at *; omega
 | case4 x a y b h ih => rw [mergeC, if_pos h]; simp only [List.length_cons] at *; omega
 | case5 x a y b h h2 h3 ih => rw [mergeC, if_neg h, if_pos h2, if_pos h3]; simp only [List.length_cons] at *; omega
 | case6 x a y b h h2 h3 ih => rw [mergeC, if_neg h, if_pos h2, if_neg h3]; simp only [List.length_cons] at *; omega
 | case7 x a y b h h2 ih => rw [mergeC, if_neg h, if_neg h2]; simp only [List.length_cons] at *; omega
theorem info_chg : (Tryz.prog.info? 63).map (fun i => (i.zero, i.size, i.bytes)) = some (some (.agg #[.string ⟨#[]⟩, .string ⟨#[]⟩, .bool false]), 3, 40) := by kernel_rfl
def chgF (l : List ChgV) : Value → World → Prop := fun u w => FlatAt 3 w u l.length (chgsC l)
def chgS (l : List RowV) (s : StateV) : List ChgV := if mayB s = true then mergeC (risL l) (rows s) else []
end Go.Proofs.YthikijlbclckdaaGreat
namespace Go.Proofs.YthikijlbclckdaaGreat
set_option maxRecDepth 100000
set_option maxHeartbeats 40000000
set_option linter.unusedSimpArgs false
set_option linter.unusedVariables false
open Go.RowKit Go.Shelf
theorem clt_eq (a b : ByteArray) : ltS a b = decide (a.data.toList < b.data.toList) := bytesLess_eq _ _
theorem clt_irr (a : ByteArray) : ltS a a = false := by rw [clt_eq]; exact decide_eq_false (List.lt_irrefl _)
theorem clt_trans {a b c : ByteArray} (h1 : ltS a b = true) (h2 : ltS b c = true) : ltS a c = true := by
 rw [clt_eq, decide_eq_true_eq] at *
 exact List.lt_trans h1 h2
theorem clt_tri {a b : ByteArray} (h : ltS a b = false) (hne : a ≠ b) : ltS b a = true := by
 rw [clt_eq] at *
 rw [decide_eq_false_iff_not, List.not_lt] at h
 rw [decide_eq_true_eq]
 rcases Classical.em (b.data.toList < a.data.toList) with h1 | h1
 ·
  exact h1
 ·
  exact absurd (ByteArray.ext (Array.toList_inj.1 (List.le_antisymm (List.not_lt.1 h1) h))) hne
theorem clt_ne {a b : ByteArray} (h : ltS a b = true) : a ≠ b := fun e => by subst e; rw [clt_irr] at h; cases h
def Up (l : List RowV) : Prop := l.Pairwise fun x y => ltS x.1 y.1 = true
def UpC (l : List ChgV) : Prop := l.Pairwise fun x y => ltS x.key y.key = true
theorem Up.head {x : RowV} {a : List RowV} (h : Up (x :: a)) : ∀ z ∈ a, ltS x.1 z.1 = true := (List.pairwise_cons.1 h).1
theorem Up.tail {x : RowV} {a : List RowV} (h : Up (x :: a)) : Up a := (List.pairwise_cons.1 h).2
theorem ris_up (l : List RowV) : Up (risL l) := by
 suffices h : ∀ (l acc : List RowV), Up acc → Up (l.foldl risF acc) from h l [] List.Pairwise.nil
 intro l
 induction l with
 | nil => exact fun _ h => h
 | cons x l ih =>
  intro acc h
  rw [List.foldl_cons]
  refine ih _ ?_
  unfold risF
  split
  ·
   rename_i h0
   rw [List.getLast?_eq_none_iff.1 h0]
   exact List.pairwise_singleton _ _
  ·
   rename_i q h0
   split
   ·
    rename_i hq
    refine List.pairwise_append.2 ⟨h, List.pairwise_singleton _ _, fun a ha b hb => ?_⟩
    obtain rfl : b = x := by simpa using hb
    obtain ⟨ys, rfl⟩ := List.getLast?_eq_some_iff.1 h0
    rcases List.mem_append.1 ha with ha | ha
    ·
     exact clt_trans ((List.pairwise_append.1 h).2.2 a ha q (by simp)) hq
    ·
     obtain rfl : a = q := by simpa using ha
     exact hq
   ·
    exact h
theorem merge_mem : ∀ (a b : List RowV), Up a → Up b → ∀ c, c ∈ mergeC a b ↔ (∃ y ∈ b, c = newC y ∧ y ∉ a) ∨ (∃ x ∈ a, c = goneC x ∧ ∀ y ∈ b, y.1 ≠ x.1) := by
 intro a b
 induction a, b using mergeC.induct with
 | case1 => intro _ _ c; rw [mergeC]; simp
 | case2 x a ih =>
  intro ha hb c
  rw [mergeC, List.mem_cons, ih ha.tail hb]
  simp
 | case3 y b ih =>
  intro ha hb c
  rw [mergeC, List.mem_cons, ih ha hb.tail]
  simp
 | case4 x a y b h ih =>
  intro ha hb c
  rw [mergeC, if_pos h, List.mem_cons, ih ha.tail hb]
  have hxb : ∀ z ∈ y :: b, ltS x.1 z.1 = true := fun z hz => by
   rcases List.mem_cons.1 hz with rfl | hz
   ·
    exact h
   ·
    exact clt_trans h (hb.head z hz)
  constructor
  ·
   rintro (rfl | ⟨z, hz, e, hn⟩ | ⟨z, hz, e, hn⟩)
   ·
    exact .inr ⟨x, by simp, rfl, fun z hz e => clt_ne (hxb z hz) e.symm⟩
   ·
    refine .inl ⟨z, hz, e, fun hm => ?_⟩
    rcases List.mem_cons.1 hm with rfl | hm
    ·
     exact clt_ne (hxb _ hz) rfl
    ·
     exact hn hm
   ·
    exact .inr ⟨z, List.mem_cons_of_mem _ hz, e, hn⟩
  ·
   rintro (⟨z, hz, e, hn⟩ | ⟨z, hz, e, hn⟩)
   ·
    exact .inr (.inl ⟨z, hz, e, fun hm => hn (List.mem_cons_of_mem _ hm)⟩)
   ·
    rcases List.mem_cons.1 hz with rfl | hz
    ·
     exact .inl e
    ·
     exact .inr (.inr ⟨z, hz, e, hn⟩)
 | case5 x a y b h h2 h3 ih =>
  intro ha hb c
  rw [mergeC, if_neg h, if_pos h2, if_pos h3, ih ha.tail hb.tail]
  obtain rfl : x = y := Prod.ext h2 h3
  constructor
  ·
   rintro (⟨z, hz, e, hn⟩ | ⟨z, hz, e, hn⟩)
   ·
    refine .inl ⟨z, List.mem_cons_of_mem _ hz, e, fun hm => ?_⟩
    rcases List.mem_cons.1 hm with rfl | hm
    ·
     exact clt_ne (hb.head _ hz) rfl
    ·
     exact hn hm
   ·
    refine .inr ⟨z, List.mem_cons_of_mem _ hz, e, fun q hq => ?_⟩
    rcases List.mem_cons.1 hq with rfl | hq
    ·
     exact clt_ne (ha.head _ hz)
    ·
     exact hn q hq
  ·
   rintro (⟨z, hz, e, hn⟩ | ⟨z, hz, e, hn⟩)
   ·
    rcases List.mem_cons.1 hz with rfl | hz
    ·
     exact absurd (List.mem_cons_self ..) hn
    ·
     exact .inl ⟨z, hz, e, fun hm => hn (List.mem_cons_of_mem _ hm)⟩
   ·
    rcases List.mem_cons.1 hz with rfl | hz
    ·
     exact absurd rfl (hn _ (List.mem_cons_self ..))
    ·
     exact .inr ⟨z, hz, e, fun q hq => hn q (List.mem_cons_of_mem _ hq)⟩
 | case6 x a y b h h2 h3 ih =>
  intro ha hb c
  rw [mergeC, if_neg h, if_pos h2, if_neg h3, List.mem_cons, ih ha.tail hb.tail]
  constructor
  ·
   rintro (rfl | ⟨z, hz, e, hn⟩ | ⟨z, hz, e, hn⟩)
   ·
    refine .inl ⟨y, by simp, rfl, fun hm => ?_⟩
    rcases List.mem_cons.1 hm with rfl | hm
    ·
     exact h3 rfl
    ·
     exact clt_ne (ha.head _ hm) h2
   ·
    refine .inl ⟨z, List.mem_cons_of_mem _ hz, e, fun hm => ?_⟩
    rcases List.mem_cons.1 hm with rfl | hm
    ·
     exact clt_ne (hb.head _ hz) h2.symm
    ·
     exact hn hm
   ·
    refine .inr ⟨z, List.mem_cons_of_mem _ hz, e, fun q hq => ?_⟩
    rcases List.mem_cons.1 hq with rfl | hq
    ·
     rw [← h2]; exact clt_ne (ha.head _ hz)
    ·
     exact hn q hq
  ·
   rintro (⟨z, hz, e, hn⟩ | ⟨z, hz, e, hn⟩)
   ·
    rcases List.mem_cons.1 hz with rfl | hz
    ·
     exact .inl e
    ·
     exact .inr (.inl ⟨z, hz, e, fun hm => hn (List.mem_cons_of_mem _ hm)⟩)
   ·
    rcases List.mem_cons.1 hz with rfl | hz
    ·
     exact absurd h2.symm (hn _ (List.mem_cons_self ..))
    ·
     exact .inr (.inr ⟨z, hz, e, fun q hq => hn q (List.mem_cons_of_mem _ hq)⟩)
 | case7 x a y b h h2 ih =>
  intro ha hb c
  rw [mergeC, if_neg h, if_neg h2, List.mem_cons, ih ha hb.tail]
  have hyx : ltS y.1 x.1 = true := clt_tri (by simpa using h) h2
  have hya : ∀ z ∈ x :: a, ltS y.1 z.1 = true := fun z hz => by
   rcases List.mem_cons.1 hz with rfl | hz
   ·
    exact hyx
   ·
    exact clt_trans hyx (ha.head z hz)
  constructor
  ·
   rintro (rfl | ⟨z, hz, e, hn⟩ | ⟨z, hz, e, hn⟩)
   ·
    exact .inl ⟨y, by simp, rfl, fun hm => clt_ne (hya _ hm) rfl⟩
   ·
    exact .inl ⟨z, List.mem_cons_of_mem _ hz, e, hn⟩
   ·
    refine .inr ⟨z, hz, e, fun q hq => ?_⟩
    rcases List.mem_cons.1 hq with rfl | hq
    ·
     exact clt_ne (hya _ hz)
    ·
     exact hn q hq
  ·
   rintro (⟨z, hz, e, hn⟩ | ⟨z, hz, e, hn⟩)
   ·
    rcases List.mem_cons.1 hz with rfl | hz
    ·
     exact .inl e
    ·
     exact .inr (.inl ⟨z, hz, e, hn⟩)
   ·
    exact .inr (.inr ⟨z, hz, e, fun q hq => hn q (List.mem_cons_of_mem _ hq)⟩)
theorem merge_key {a b : List RowV} (ha : Up a) (hb : Up b) {c : ChgV} (h : c ∈ mergeC a b) : (∃ x ∈ a, c.key = x.1) ∨ ∃ y ∈ b, c.key = y.1 := by
 rcases (merge_mem a b ha hb c).1 h with ⟨y, hy, rfl, _⟩ | ⟨x, hx, rfl, _⟩
 ·
  exact .inr ⟨y, hy, rfl⟩
 ·
  exact .inl ⟨x, hx, rfl⟩
theorem merge_up : ∀ (a b : List RowV), Up a → Up b → UpC (mergeC a b) := by
 intro a b
 induction a, b using mergeC.induct with
 | case1 => intro _ _; rw [mergeC]; exact .nil
 | case2 x a ih =>
  intro ha hb
  rw [mergeC]
  refine List.pairwise_cons.2 ⟨fun c hc => ?_, ih ha.tail hb⟩
  rcases merge_key ha.tail hb hc with ⟨z, hz, e⟩ | ⟨z, hz, e⟩
  ·
   rw [e]; exact ha.head z hz
  ·
   cases hz
 | case3 y b ih =>
  intro ha hb
  rw [mergeC]
  refine List.pairwise_cons.2 ⟨fun c hc => ?_, ih ha hb.tail⟩
  rcases merge_key ha hb.tail hc with ⟨z, hz, e⟩ | ⟨z, hz, e⟩
  ·
   cases hz
  ·
   rw [e]; exact hb.head z hz
 | case4 x a y b h ih =>
  intro ha hb
  rw [mergeC, if_pos h]
  refine List.pairwise_cons.2 ⟨fun c hc => ?_, ih ha.tail hb⟩
  rcases merge_key ha.tail hb hc with ⟨z, hz, e⟩ | ⟨z, hz, e⟩
  ·
   rw [e]; exact ha.head z hz
  ·
   rw [e]
   rcases List.mem_cons.1 hz with rfl | hz
   ·
    exact h
   ·
    exact clt_trans h (hb.head z hz)
 | case5 x a y b h h2 h3 ih =>
  intro ha hb
  rw [mergeC, if_neg h, if_pos h2, if_pos h3]
  exact ih ha.tail hb.tail
 | case6 x a y b h h2 h3 ih =>
  intro ha hb
  rw [mergeC, if_neg h, if_pos h2, if_neg h3]
  refine List.pairwise_cons.2 ⟨fun c hc => ?_, ih ha.tail hb.tail⟩
  rcases merge_key ha.tail hb.tail hc with ⟨z, hz, e⟩ | ⟨z, hz, e⟩
  ·
   rw [e]; show ltS y.1 z.1 = true; rw [← h2]; exact ha.head z hz
  ·
   rw [e]; exact hb.head z hz
 | case7 x a y b h h2 ih =>
  intro ha hb
  have hyx : ltS y.1 x.1 = true := clt_tri (by simpa using h) h2
  rw [mergeC, if_neg h, if_neg h2]
  refine List.pairwise_cons.2 ⟨fun c hc => ?_, ih ha hb.tail⟩
  rcases merge_key ha hb.tail hc with ⟨z, hz, e⟩ | ⟨z, hz, e⟩
  ·
   rw [e]
   rcases List.mem_cons.1 hz with rfl | hz
   ·
    exact hyx
   ·
    exact clt_trans hyx (ha.head z hz)
  ·
   rw [e]; exact hb.head z hz
def Once {α : Type} (m : Fm α) : Prop := m.Pairwise fun p q => p.1 ≠ q.1
theorem Up.once {l : List RowV} (h : Up l) : Once (α := ByteArray) l := List.Pairwise.imp (fun {a b} h => clt_ne h) h
theorem mlook_iff {α : Type} {m : Fm α} (h : Once m) (k : ByteArray) (x : α) : mlook m k = some x ↔ (k, x) ∈ m := by
 induction m with
 | nil => simp [mlook]
 | cons p m ih =>
  have h' := List.pairwise_cons.1 h
  by_cases hk : k = p.1
  ·
   rw [mlook, if_pos hk, List.mem_cons]
   constructor
   ·
    intro e
    exact .inl (by cases e; rw [hk])
   ·
    rintro (e | e)
    ·
     rw [← e]
    ·
     exact absurd hk.symm (h'.1 _ e)
  ·
   rw [mlook, if_neg hk, ih h'.2, List.mem_cons]
   constructor
   ·
    exact .inr
   ·
    rintro (e | e)
    ·
     exact absurd (by rw [← e]) hk
    ·
     exact e
theorem mput_new {α : Type} {m : Fm α} {k : ByteArray} (x : α) (h : ∀ p ∈ m, p.1 ≠ k) : mput m k x = m ++ [(k, x)] := by
 induction m with
 | nil => rfl
 | cons p m ih =>
  rw [mput, if_neg (fun e => h p (by simp) e.symm), ih (fun q hq => h q (List.mem_cons_of_mem _ hq))]
  rfl
theorem mdel_filter {α : Type} {m : Fm α} (h : Once m) (k : ByteArray) : mdel m k = m.filter fun p => decide (p.1 ≠ k) := by
 induction m with
 | nil => rfl
 | cons p m ih =>
  have h' := List.pairwise_cons.1 h
  by_cases hk : k = p.1
  ·
   rw [mdel, if_pos hk, List.filter_cons_of_neg (by simp [hk]), List.filter_eq_self.2]
   intro q hq
   rw [hk]
   exact decide_eq_true (fun e => h'.1 q hq e.symm)
  ·
   rw [mdel, if_neg hk, List.filter_cons_of_pos (by simp [Ne.symm hk]), ih h'.2]
abbrev CellV := ByteArray × Bool
def cellNew (y : RowV) : ByteArray × CellV := (y.1, (y.2, false))
def cellGone (x : RowV) : ByteArray × CellV := (x.1, (⟨#[]⟩, true))
def toChg (p : ByteArray × CellV) : ChgV := ⟨p.1, p.2.1, p.2.2⟩
def chStep (a : Fm ByteArray × Fm CellV) (y : RowV) : Fm ByteArray × Fm CellV :=
 (mdel a.1 y.1, if mlook a.1 y.1 = some y.2 then a.2 else mput a.2 y.1 (y.2, false))
def chFold (a : List RowV) (b : List RowV) : Fm ByteArray × Fm CellV := b.foldl chStep (a, [])
theorem chFold_snoc (a b : List RowV) (y : RowV) : chFold a (b ++ [y]) = chStep (chFold a b) y := by unfold chFold; rw [List.foldl_append]; rfl
def inB (a : List RowV) (y : RowV) : Bool := a.any fun x => decide (x.1 = y.1) && decide (x.2 = y.2)
theorem inB_iff {a : List RowV} {y : RowV} : inB a y = true ↔ y ∈ a := by
 unfold inB
 rw [List.any_eq_true]
 constructor
 ·
  rintro ⟨x, hx, h⟩
  rw [Bool.and_eq_true, decide_eq_true_eq, decide_eq_true_eq] at h
  obtain rfl : x = y := Prod.ext h.1 h.2
  exact hx
 ·
  exact fun h => ⟨y, h, by simp⟩
theorem inB_not {a : List RowV} {y : RowV} : (!inB a y) = true ↔ y ∉ a := by
 rw [← inB_iff]
 simp
theorem chFold_eq (a : List RowV) (ha : Up a) (b : List RowV) (hb : Up b) : chFold a b = (a.filter fun x => decide (∀ y ∈ b, y.1 ≠ x.1), (b.filter fun y => !inB a y).map cellNew) := by
 suffices h : ∀ (n : Nat) (b : List RowV), b.length = n → Up b → chFold a b = (a.filter fun x => decide (∀ y ∈ b, y.1 ≠ x.1), (b.filter fun y => !inB a y).map cellNew) from h _ b rfl hb
 clear hb b
 intro n
 induction n with
 | zero =>
  intro b hl _
  rw [List.eq_nil_of_length_eq_zero hl]
  have e : a = a.filter fun _ => true := (List.filter_eq_self.2 (fun _ _ => rfl)).symm
  simpa [chFold] using e
 | succ n ih' =>
  intro b0 hl hb
  have hne : b0 ≠ [] := fun e => by rw [e] at hl; cases hl
  obtain ⟨b, y, rfl⟩ : ∃ b y, b0 = b ++ [y] := ⟨b0.dropLast, b0.getLast hne, (List.dropLast_concat_getLast hne).symm⟩
  have ih := ih' b (by simpa using hl)
  have hb' := List.pairwise_append.1 hb
  have hyb : ∀ z ∈ b, ltS z.1 y.1 = true := fun z hz => hb'.2.2 z hz y (by simp)
  have ho : Once (α := ByteArray) (a.filter fun x => decide (∀ y ∈ b, y.1 ≠ x.1)) := List.Pairwise.sublist List.filter_sublist ha.once
  rw [chFold_snoc, ih hb'.1]
  unfold chStep
  dsimp only
  refine Prod.ext ?_ ?_
  ·
   dsimp only
   rw [mdel_filter ho, List.filter_filter]
   refine List.filter_congr fun x _ => ?_
   rw [← Bool.decide_and, decide_eq_decide]
   simp only [List.mem_append, List.mem_singleton, ne_eq]
   constructor
   ·
    rintro ⟨h1, h2⟩ q (hq | rfl)
    ·
     exact h2 q hq
    ·
     exact fun e => h1 e.symm
   ·
    exact fun h => ⟨fun e => h y (.inr rfl) e.symm, fun q hq => h q (.inl hq)⟩
  ·
   dsimp only
   have hl : (mlook (α := ByteArray) (a.filter fun x => decide (∀ y ∈ b, y.1 ≠ x.1)) y.1 = some y.2) ↔ y ∈ a := by
    rw [mlook_iff ho, List.mem_filter]
    constructor
    ·
     exact fun h => h.1
    ·
     exact fun h => ⟨h, decide_eq_true (fun z hz => clt_ne (hyb z hz))⟩
   rw [List.filter_append, List.map_append]
   by_cases hy : y ∈ a
   ·
    rw [if_pos (hl.2 hy), List.filter_cons_of_neg (by simp [inB_iff.2 hy])]
    simp
   ·
    rw [if_neg (fun h => hy (hl.1 h)), List.filter_cons_of_pos (p := fun y => !inB a y) (inB_not.2 hy), mput_new]
    ·
     rfl
    ·
     intro p hp
     obtain ⟨z, hz, rfl⟩ := List.mem_map.1 hp
     exact clt_ne (hyb z (List.mem_filter.1 hz).1)
theorem gone_fresh {a b d q r : List RowV} {x : RowV} (ha : Up a) (hb : Up b) (hd : (d ++ (q ++ x :: r)).Perm (chFold a b).1) : ∀ p ∈ (chFold a b).2 ++ d.map cellGone, p.1 ≠ x.1 := by
 rw [chFold_eq a ha b hb] at hd ⊢
 dsimp only at hd ⊢
 have hdo : (d ++ (q ++ x :: r)).Pairwise (fun p q => p.1 ≠ q.1) := (hd.pairwise_iff (fun {x y} h => Ne.symm h)).2 (List.Pairwise.sublist List.filter_sublist ha.once)
 have hx : x ∈ a.filter fun x => decide (∀ y ∈ b, y.1 ≠ x.1) := hd.mem_iff.1 (by simp)
 intro p hp
 rcases List.mem_append.1 hp with hp | hp
 ·
  obtain ⟨y, hy, rfl⟩ := List.mem_map.1 hp
  exact of_decide_eq_true (List.mem_filter.1 hx).2 y (List.mem_filter.1 hy).1
 ·
  obtain ⟨y, hy, rfl⟩ := List.mem_map.1 hp
  exact (List.pairwise_append.1 hdo).2.2 y hy x (by simp)
theorem changes_perm {a b d : List RowV} (ha : Up a) (hb : Up b) (hd : d.Perm (chFold a b).1) : (((chFold a b).2 ++ d.map cellGone).map toChg).Perm (mergeC a b) := by
 have hu := merge_up a b ha hb
 have hn : (mergeC a b).Nodup := List.Pairwise.imp (R := fun x y : ChgV => ltS x.key y.key = true) (S := fun x y => x ≠ y) (fun h e => clt_ne h (congrArg ChgV.key e)) hu
 rw [chFold_eq a ha b hb] at hd ⊢
 dsimp only at hd ⊢
 have hdm : ∀ x, x ∈ d ↔ x ∈ a ∧ ∀ y ∈ b, y.1 ≠ x.1 := fun x => by rw [hd.mem_iff, List.mem_filter, decide_eq_true_eq]
 have hdo : d.Pairwise (fun p q => p.1 ≠ q.1) := (hd.pairwise_iff (fun {x y} h => Ne.symm h)).2 (List.Pairwise.sublist List.filter_sublist ha.once)
 refine (List.perm_ext_iff_of_nodup ?_ hn).2 fun c => ?_
 ·
  rw [List.map_append, List.map_map, List.map_map]
  refine List.nodup_append.2 ⟨?_, ?_, ?_⟩
  ·
   refine List.pairwise_map.2 (List.Pairwise.imp ?_ (List.Pairwise.sublist List.filter_sublist hb))
   intro x y h e
   exact clt_ne h (congrArg ChgV.key e)
  ·
   refine List.pairwise_map.2 (List.Pairwise.imp ?_ hdo)
   intro x y h e
   exact h (congrArg ChgV.key e)
  ·
   rintro c hc c' hc' rfl
   obtain ⟨y, _, rfl⟩ := List.mem_map.1 hc
   obtain ⟨x, _, e⟩ := List.mem_map.1 hc'
   cases congrArg ChgV.gone e
 ·
  rw [merge_mem a b ha hb, List.map_append, List.map_map, List.map_map, List.mem_append, List.mem_map, List.mem_map]
  constructor
  ·
   rintro (⟨y, hy, rfl⟩ | ⟨x, hx, rfl⟩)
   ·
    have := List.mem_filter.1 hy
    exact .inl ⟨y, this.1, rfl, inB_not.1 this.2⟩
   ·
    exact .inr ⟨x, ((hdm x).1 hx).1, rfl, ((hdm x).1 hx).2⟩
  ·
   rintro (⟨y, hy, rfl, hn⟩ | ⟨x, hx, rfl, hn⟩)
   ·
    exact .inl ⟨y, List.mem_filter.2 ⟨hy, inB_not.2 hn⟩, rfl⟩
   ·
    exact .inr ⟨x, (hdm x).2 ⟨hx, hn⟩, rfl⟩
end Go.Proofs.YthikijlbclckdaaGreat
