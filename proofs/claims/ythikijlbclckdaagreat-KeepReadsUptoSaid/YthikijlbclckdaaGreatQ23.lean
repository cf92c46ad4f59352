/- KeepReads: contracts (Ov Ow Ls Lp). -/
import Derived.Test.YthikijlbclckdaaGreatQ10
import Derived.Test.YthikijlbclckdaaGreatQ14
import Derived.Test.YthikijlbclckdaaGreatQ22
import Derived.WalkSpells
import Derived.WalkLawsBesides
namespace Go.Proofs.YthikijlbclckdaaGreat
set_option maxRecDepth 100000
set_option maxHeartbeats 40000000
set_option linter.unusedSimpArgs false
set_option linter.unusedVariables false
open Go.IntWalk Go.RowKit
theorem info_str : (Tryz.prog.info? 9).map (fun i => (i.zero, i.size, i.bytes)) = some (some (.string ⟨#[]⟩), 1, 16) := by kernel_rfl
theorem own_empty (w : World) (e : TypeId) (size : Nat) : (w.alloc (.cells #[] e)).ownsRow w.heap.size e size (.slice (some ⟨w.heap.size, 0, none⟩) 0 0) 0 [] :=
 ⟨by simp, .inr ⟨w.heap.size, 0, #[], rfl, Nat.le_refl _, alloc_new w _, Nat.le_refl _, by simp [maxLen], by simp, by simp⟩⟩
theorem clone_any (v : Value) (n : Nat) (cs : List Value) (w : World) (h : FlatAt 1 w v n cs) (h1 : ∀ u ∈ cs, u.oneCell' = true) (hn : n * 16 ≤ 140737488355328) :
  Calls Tryz.prog 102 #[v] w fun e w' => ∃ u, e = .returned u ∧ FlatAt 1 w' u n cs ∧ (∀ a m c, u = .slice (some a) m c → w.heap.size ≤ a.block) ∧ Below w.heap.size w w' := by
 have H := hid h
 obtain ⟨a, cap, rfl, hc1, hc2, hl, hcs⟩ := h
 have Hl := hid hl
 have Hcs := hid hcs
 have H1 := hid h1
 clear hl hcs h1
 cases a with
 | none =>
  have h0 : n = 0 := by
   cases cs with
   | nil => have := Hl.out; simp at this; omega
   | cons u l => obtain ⟨b, off, he, -⟩ := Hcs.out 0 u rfl; cases he
  subst h0
  have he := fun w => Lib.run_eql_slice_nil (P := Tryz.prog) w 84 9 none 0 cap 0 0 Tryz.underlying84
  go_enter Tryz.func102, Tryz.ntmps102
  go_wp2
  go_ret
  have hnil : cs = [] := List.eq_nil_of_length_eq_zero (by simpa using Hl.out)
  exact ⟨_, rfl, by rw [hnil]; exact FlatAt.nil 1 _, (fun a m c he => by cases he), Below.refl _ _⟩
 | some a =>
  have he := fun w => Lib.run_eql_slice_nil (P := Tryz.prog) w 84 9 (some a) n cap 0 0 Tryz.underlying84
  go_enter Tryz.func102, Tryz.ntmps102
  go_wp2_with (at_builtin; refine appk 84 9 Tryz.underlying84 info_str rfl (by decide) (own_empty w 9 1) (by simp) (H.out.grow ((Below.refl _ w).alloc (Nat.le_refl _) _)) (by unfold maxLen; omega) (by omega) H1.out rfl rfl rfl rfl ?_; intro v' w5 hown5 hb5 hg5)
  go_wp2
  go_ret
  exact ⟨_, rfl, by simpa using FlatAt.of_own hown5, (fun a m c he => by subst he; exact (hown5.lt _ rfl).1), ((But.alloc (F := fun _ => False) (But.refl _ w) _).trans' hb5 (fun i hi ho => by simp only [ownB, Value.ownBlock, Option.some.injEq] at ho; omega)).grow⟩
def keysC (l : List RowV) : List Value := l.map fun r => .string r.1
def valsC (l : List RowV) : List Value := l.map fun r => .string r.2
theorem keys_one (l : List RowV) : ∀ u ∈ keysC l, u.oneCell' = true := by
 intro u hu
 obtain ⟨x, -, rfl⟩ := List.mem_map.1 hu
 rfl
theorem vals_one (l : List RowV) : ∀ u ∈ valsC l, u.oneCell' = true := by
 intro u hu
 obtain ⟨x, -, rfl⟩ := List.mem_map.1 hu
 rfl
def OverAt (w : World) (kb vb : Nat) (l : List RowV) : Prop :=
 ∃ ku vu, w.heap[kb]? = some (.cells #[ku] 84 (0, 0)) ∧ w.heap[vb]? = some (.cells #[vu] 84 (0, 0)) ∧ FlatAt 1 w ku l.length (keysC l) ∧ FlatAt 1 w vu l.length (valsC l)
theorem OverAt.grow {w w' : World} {kb vb : Nat} {l : List RowV} (h : OverAt w kb vb l) (hb : Below w.heap.size w w') : OverAt w' kb vb l := by
 obtain ⟨ku, vu, h1, h2, h3, h4⟩ := h
 exact ⟨ku, vu, (hb.block kb (heap_lt h1)).trans h1, (hb.block vb (heap_lt h2)).trans h2, h3.grow hb, h4.grow hb⟩
def overV (kb vb : Nat) : Value := .func (.func 103) #[] #[.pointer (some ⟨kb, 0, none⟩), .pointer (some ⟨vb, 0, none⟩)]
theorem mOver_any (l : List RowV) (hl : l.length ≤ 4194304) (v1 v2 : Value) (w : World) (h1 : FlatAt 1 w v1 l.length (keysC l)) (h2 : FlatAt 1 w v2 l.length (valsC l)) :
  Calls Tryz.prog 36 #[v1, v2] w fun e w' => ∃ kb vb, e = .returned (overV kb vb) ∧ OverAt w' kb vb l ∧ Below w.heap.size w w' := by
 have H1 := hid h1
 have H2 := hid h2
 obtain ⟨a1, c1', rfl, hc1, hc1m, -⟩ := h1
 obtain ⟨a2, c2', rfl, hc2, hc2m, -⟩ := h2
 go_enter Tryz.func36, Tryz.ntmps36
 go_wp2_with fail
 have hk := alloc_new w (.cells #[.slice a1 l.length c1'] 84)
 have hk2 := (alloc_old (.cells #[.slice a2 l.length c2'] 84) (heap_lt hk)).trans hk
 have hv2 := alloc_new2 w (.cells #[.slice a1 l.length c1'] 84) (.cells #[.slice a2 l.length c2'] 84)
 have hB := ((Below.refl _ w).alloc (Nat.le_refl _) (.cells #[.slice a1 l.length c1'] 84)).alloc (by simp) (.cells #[.slice a2 l.length c2'] 84)
 have hz : w.heap.size + 2 = ((w.alloc (.cells #[.slice a1 l.length c1'] 84)).alloc (.cells #[.slice a2 l.length c2'] 84)).heap.size := by simp
 generalize (w.alloc (.cells #[.slice a1 l.length c1'] 84)).alloc (.cells #[.slice a2 l.length c2'] 84) = w1 at hk2 hv2 hB hz ⊢
 have Hk := hid hk2
 have Hv := hid hv2
 have HB := hid hB
 have Hz := hid hz
 have l1 := heap_lt hk2
 have l2 := heap_lt hv2
 clear hk hk2 hv2 hB hz
 unfold maxLen at hc1m hc2m
 refine Ps.wp_par (Ps.relC (fun _ => False) (fun b _ => b < w1.heap.size)) (fun _ => True) (false :: false :: false :: true :: false :: false :: false :: true :: []) _ (.fix ?_ :: .fix ?_ :: .fix ?_ :: .st (none) (fun u W => FlatAt 1 W u l.length (keysC l) ∧ ∀ a m c, u = .slice (some a) m c → w1.heap.size ≤ a.block) (fun _ _ => True) :: .fix ?_ :: .fix ?_ :: .fix ?_ :: .st (none) (fun u W => FlatAt 1 W u l.length (valsC l) ∧ ∀ a m c, u = .slice (some a) m c → w1.heap.size ≤ a.block) (fun _ _ => True) :: []) (by kernel_rfl) (by kernel_rfl) (by simp only [List.length_cons, List.length_nil, List.drop_succ_cons, List.drop_zero, List.drop_nil]; with_reducible rfl) rfl (fun _ _ _ _ _ => ⟨fun h => h, fun h => h⟩) (fun _ _ h _ => h) (trivial) ?_
 rotate_left 6
 iterate 3
  first
   | (refine Ps.par_skip (a' := ?_) (by rfl) (by rfl) ?_ ?_ ?_; rotate_left 1; with_reducible rfl; (simp only [lays]; with_reducible rfl))
   | (refine Ps.par_run (a' := ?_) (by rfl) (by rfl) (fun w' hb hn => ?_) ?_ ?_; rotate_left 1; (have q0 := hb.2 w.heap.size 0 _ l1 (cell_of Hk.out 0); have q1 := hb.2 (w.heap.size + 1) 0 _ l2 (cell_of Hv.out 0); go_simp; (try simp (disch := omega) only [nrm, toNatUp, iteOmega]); first | with_reducible rfl | (go_simp; with_reducible rfl)); (simp only [lays]; with_reducible rfl))
 refine Ps.par_stc (a' := ?ap1k3) (f := ?fp1k3) (args := ?rp1k3) (by rfl) (by rfl) (fun w' => ?ep1k3) (fun _ _ _ h hb => ⟨h.1.grow hb.1.grow, h.2⟩) (fun _ _ _ h _ => h) (fun w' hb hn hr => ?hp1k3) (fun u => ?pp1k3) (fun u3 hu3 => ?gp1k3)
 case ep1k3 => (go_simp; constructor <;> with_reducible rfl)
 case hp1k3 => (exact (clone_any _ l.length (keysC l) w' (H1.out.grow (HB.out.trans (hb.1.grow.mono HB.out.size))) (keys_one l) (by omega)).mono (fun e w2 ⟨u, he, hf, hfr, hb2⟩ => ⟨u, he, trivial, ⟨hf, fun a m c he => Nat.le_trans hb.1.size (hfr a m c he)⟩, ⟨But.of hb2, fun b i v hs hc => (hb2.cell (p := ⟨b, i, none⟩) (World.block_lt_of_cell? _ _ hc)).trans hc⟩, trivial⟩))
 case pp1k3 => (simp only [lays]; with_reducible rfl)
 iterate 3
  first
   | (refine Ps.par_skip (a' := ?_) (by rfl) (by rfl) ?_ ?_ ?_; rotate_left 1; with_reducible rfl; (simp only [lays]; with_reducible rfl))
   | (refine Ps.par_run (a' := ?_) (by rfl) (by rfl) (fun w' hb hn => ?_) ?_ ?_; rotate_left 1; (have q0 := hb.2 w.heap.size 0 _ l1 (cell_of Hk.out 0); have q1 := hb.2 (w.heap.size + 1) 0 _ l2 (cell_of Hv.out 0); go_simp; (try simp (disch := omega) only [nrm, toNatUp, iteOmega]); first | with_reducible rfl | (go_simp; with_reducible rfl)); (simp only [lays]; with_reducible rfl))
 refine Ps.par_stc (a' := ?ap2k7) (f := ?fp2k7) (args := ?rp2k7) (by rfl) (by rfl) (fun w' => ?ep2k7) (fun _ _ _ h hb => ⟨h.1.grow hb.1.grow, h.2⟩) (fun _ _ _ h _ => h) (fun w' hb hn hr => ?hp2k7) (fun u => ?pp2k7) (fun u7 hu7 => ?gp2k7)
 case ep2k7 => (go_simp; constructor <;> with_reducible rfl)
 case hp2k7 => (exact (clone_any _ l.length (valsC l) w' (H2.out.grow (HB.out.trans (hb.1.grow.mono HB.out.size))) (vals_one l) (by omega)).mono (fun e w2 ⟨u, he, hf, hfr, hb2⟩ => ⟨u, he, trivial, ⟨hf, fun a m c he => Nat.le_trans hb.1.size (hfr a m c he)⟩, ⟨But.of hb2, fun b i v hs hc => (hb2.cell (p := ⟨b, i, none⟩) (World.block_lt_of_cell? _ _ hc)).trans hc⟩, trivial⟩))
 case pp2k7 => (simp only [lays]; with_reducible rfl)
 refine Ps.par_end (fun w9 hb9 hf9 hr9 => ?_)
 try refine Ps.wpList_none ?_
 have e7 := hf9 _ List.mem_cons_self
 have e3 := hf9 _ (List.mem_cons_of_mem _ List.mem_cons_self)
 try dsimp only at e7 e3
 have b9 := hb9.1.grow
 have hk9 := (b9.block _ l1).trans Hk.out
 have hv9 := (b9.block _ l2).trans Hv.out
 have HB9 := hid (HB.out.trans (b9.mono HB.out.size))
 have E7 := hid e7
 have E3 := hid e3
 obtain ⟨⟨a3, c3, rfl, -⟩, -⟩ := e3
 obtain ⟨⟨a7, c7, rfl, -⟩, -⟩ := e7
 have k0 := cell_of hk9 0
 have f0 := free_of hk9 0
 have k1 := cell_of hv9 0
 have f1 := free_of hv9 0
 clear hb9 hf9 hr9 b9
 go_wp2
 have s1 := setCell_at hk9 0 (.slice a3 l.length c3)
 have r1 := Rb.set (w := w9) w.heap.size 0 (.slice a3 l.length c3)
 have s2 := setCell_at (r1.at hv9 (by omega)) 0 (.slice a7 l.length c7)
 have r2 := Rb.set (w := w9.setCell ⟨w.heap.size, 0, none⟩ (.slice a3 l.length c3)) (w.heap.size + 1) 0 (.slice a7 l.length c7)
 have s1' := r2.at s1 (by omega)
 have sz := Hz.out
 have g3 : ∀ a m c, Value.slice a3 l.length c3 = .slice (some a) m c → w.heap.size + 2 ≤ a.block := fun a m c he => by have := E3.out.2 a m c he; omega
 have g7 : ∀ a m c, Value.slice a7 l.length c7 = .slice (some a) m c → w.heap.size + 2 ≤ a.block := fun a m c he => by have := E7.out.2 a m c he; omega
 have F3 := (E3.out.1.but r1 (fun a m c he hh => by have := g3 a m c he; omega)).but r2 (fun a m c he hh => by have := g3 a m c he; omega)
 have F7 := (E7.out.1.but r1 (fun a m c he hh => by have := g7 a m c he; omega)).but r2 (fun a m c he hh => by have := g7 a m c he; omega)
 have BB := ((But.of (w := w) HB9.out).trans' r1 (F := fun _ => False) (fun i hi he => by omega)).trans' r2 (F := fun _ => False) (fun i hi he => by omega)
 go_ret
 exact ⟨_, _, rfl, ⟨_, _, s1', s2, F3, F7⟩, BB.grow⟩
theorem keysC_snoc (l : List RowV) (r : RowV) : keysC (l ++ [r]) = keysC l ++ [.string r.1] := by simp [keysC]
theorem valsC_snoc (l : List RowV) (r : RowV) : valsC (l ++ [r]) = valsC l ++ [.string r.2] := by simp [valsC]
theorem over_any (l : List RowV) (hl : l.length ≤ 4194304) (v : Value) (w : World) (h : rowsF l v w) :
  Calls Tryz.prog 19 #[v] w fun e w' => ∃ kb vb, e = .returned (overV kb vb) ∧ OverAt w' kb vb l ∧ Below w.heap.size w w' := by
 have H := hid h
 obtain ⟨a, c', rfl, hc1, hcm, -⟩ := h
 unfold maxLen at hcm
 go_enter Tryz.func19, Tryz.ntmps19
 go_wp2
 go_loopw [3, 4, 5] (fun vk vv vi wr => ∃ i : Nat, i ≤ l.length ∧ vi = .int .i64 i ∧ w.heap.size ≤ wr.heap.size ∧ Hid (wr.ownsRow w.heap.size 9 1 vk i (keysC (l.take i)) ∧ wr.ownsRow w.heap.size 9 1 vv i (valsC (l.take i)) ∧ (∀ g, vk.ownBlock = some g → vv.ownBlock ≠ some g) ∧ Below w.heap.size w wr)) (fun _ _ vi _ => l.length - (intOf vi).toNat)
 case atStart => exact ⟨0, Nat.zero_le _, rfl, Nat.le_refl _, ⟨⟨rfl, .inl ⟨rfl, rfl⟩⟩, ⟨rfl, .inl ⟨rfl, rfl⟩⟩, (fun g hg => by simp [Value.ownBlock] at hg), Below.refl _ _⟩⟩
 case round =>
  obtain ⟨i, hi, rfl, hws, hR⟩ := hrel
  obtain ⟨ak, ck, rfl⟩ := own_slice hR.out.1
  obtain ⟨av, cv, rfl⟩ := own_slice hR.out.2.1
  by_cases hlt : i < l.length
  ·
   obtain ⟨⟨rk, rv⟩, hx⟩ : ∃ x, l[i]? = some x := ⟨_, List.getElem?_eq_getElem hlt⟩
   obtain ⟨b, off, cap', he, d0, d1⟩ := rows_at H.out hx
   cases he
   dsimp only at d0 d1
   have hb0 := World.block_lt_of_cell? w _ d0
   dsimp only at hb0
   have D1 := hid d1
   have c0 := (hR.out.2.2.2.cell (p := ⟨b, off + i * 2, none⟩) hb0).trans d0
   have ht := hid (take_snoc hx)
   clear hx d0 d1
   have KO := hid hR.out.1
   have VO := hid hR.out.2.1
   have AP := hid hR.out.2.2.1
   have BB := hid hR.out.2.2.2
   clear hR
   go_wp2_with (first | (at_builtin; refine app1k 84 9 Tryz.underlying84 info_str rfl (by decide) KO.out hws (by unfold maxLen; omega) (by omega) rfl rfl rfl rfl rfl rfl (by simp [Value.oneCell']) ?_; intro v1 w5 hown5 hb5 hg5; have V5 := hid (own_at VO.out hb5 (fun g hg hk => AP.out g hk hg)); have B5 := hid (show Below w.heap.size w w5 from ((But.of (w := w) BB.out).trans' hb5 (F := fun _ => False) (fun k hk ho => by have := (KO.out.lt k ho).1; omega)).grow); have A5 := hid (show ∀ g, v1.ownBlock = some g → (Value.slice av i cv).ownBlock ≠ some g from fun g hg he => (hg5 g hg).elim (fun h => AP.out g h he) (fun h => by have := (VO.out.lt g he).2; omega)); have O5 := hid hown5; have q1 := (B5.out.cell (p := ⟨b, off + i * 2 + 1, none⟩) hb0).trans D1.out; have s5 : w.heap.size ≤ w5.heap.size := B5.out.size; clear hown5 hb5 hg5) | (at_builtin; refine app1k 84 9 Tryz.underlying84 info_str rfl (by decide) V5.out s5 (by unfold maxLen; omega) (by omega) rfl rfl rfl rfl rfl rfl (by simp [Value.oneCell']) ?_; intro v2 w6 hown6 hb6 hg6))
   have K6 := own_at O5.out hb6 (fun g hg hk => A5.out g hg hk)
   have B6 : Below w.heap.size w w6 := ((But.of (w := w) B5.out).trans' hb6 (F := fun _ => False) (fun k hk ho => by have := (VO.out.lt k ho).1; omega)).grow
   refine ⟨⟨i + 1, by omega, by go_num, B6.size, ?_, ?_, ?_, B6⟩, by simp [intOf]; omega⟩
   ·
    rw [ht.out, keysC_snoc]; exact K6
   ·
    rw [ht.out, valsC_snoc]; exact hown6
   ·
    intro g hg he
    exact (hg6 g he).elim (fun h => A5.out g hg h) (fun h => by have := (O5.out.lt g hg).2; omega)
  ·
   have hin : i = l.length := by omega
   subst hin
   have F1 := hid (FlatAt.of_own hR.out.1)
   have F2 := hid (FlatAt.of_own hR.out.2.1)
   go_wp2_with fail
   refine (mOver_any l hl _ _ _ (by have := F1.out; rw [List.take_length] at this; exact this) (by have := F2.out; rw [List.take_length] at this; exact this)).mono ?_
   rintro e w2 ⟨kb, vb, rfl, ho, b2⟩
   have HO := hid ho
   have HB := hid (hR.out.2.2.2.trans (b2.mono hR.out.2.2.2.size))
   clear ho b2
   go_wp2
   go_ret
   exact ⟨kb, vb, rfl, HO.out, HB.out⟩
end Go.Proofs.YthikijlbclckdaaGreat
namespace Go.Proofs.YthikijlbclckdaaGreat
set_option maxRecDepth 100000
set_option maxHeartbeats 40000000
set_option linter.unusedSimpArgs false
set_option linter.unusedVariables false
open Go.RowKit
theorem flat_get {n : Nat} {w : World} {v : Value} {cs : List Value} (h : FlatAt 1 w v n cs) {i : Nat} {u : Value} (hu : cs[i]? = some u) : ∃ b off cap, v = .slice (some ⟨b, off, none⟩) n cap ∧ w.cell? ⟨b, off + i, none⟩ = some u := by
 obtain ⟨a, cap, rfl, -, -, -, hcs⟩ := h
 obtain ⟨b, off, rfl, hc⟩ := hcs i u hu
 exact ⟨b, off, cap, rfl, hc⟩
theorem overIt_in (n : Nat) (hn : 1 ≤ n) (l kb vb : Nat) (w0 : World) (rs : List RowV) (ho : OverAt w0 kb vb rs) (hmax : rs.length ≤ 4194304) (J Jx : List RowV → World → Prop) (W : World) (hW : Below w0.heap.size w0 W) (hJ : AbidesFrom W.heap.size J)
  (hY : ∀ pre x W1, J pre W1 → pre.length < rs.length → rs[pre.length]? = some x → YieldAt Fence.wide (n - 1) Tryz.prog l #[.string x.1, .string x.2] W1 fun e W' =>
   (e = .returned (.bool true) ∧ J (pre ++ [x]) W' ∧ Below w0.heap.size W1 W') ∨ (e = .returned (.bool false) ∧ Jx (pre ++ [x]) W'))
  (h0 : J [] W) :
  CallsIn Fence.wide n Tryz.prog 103 #[.func (.yield l) #[] #[], .pointer (some ⟨kb, 0, none⟩), .pointer (some ⟨vb, 0, none⟩)] W fun e W' => (∃ v, e = .returned v) ∧
   ((∃ ys, ys = rs ∧ J ys W') ∨ (∃ pre, pre <+: rs ∧ Jx pre W')) := by
 have HO := hid ho
 have HW := hid hW
 obtain ⟨ku, vu, hku, hvu, hkf, hvf⟩ := ho
 have HK := hid hkf
 have HV := hid hvf
 have Hkb := hid hku
 have Hvb := hid hvu
 obtain ⟨ka, kc, rfl, hkc1, hkm, -⟩ := hkf
 obtain ⟨va, vc, rfl, hvc1, hvm, -⟩ := hvf
 unfold maxLen at hkm hvm
 have hBs : W.cell? ⟨kb, 0, none⟩ = some (.slice ka rs.length kc) := cell_of ((hW.block kb (heap_lt hku)).trans hku) 0
 clear hW hku hvu
 refine callsIn_of_wp Tryz.func103 rfl trivial ?_ rfl
 simp only [Tryz.ntmps103, List.size_toArray, List.length_cons, List.length_nil, Nat.reduceAdd, Nat.reduceSub, Array.replicate_succ, Array.replicate_zero, List.push_toArray, List.append_toArray, List.nil_append, List.cons_append]
 gi_wp2
 gi_loopw [8] (fun i wr => ∃ k : Nat, k ≤ rs.length ∧ i = .int .i64 k ∧ J (rs.take k) wr ∧ Hid (Below w0.heap.size w0 wr))
  (fun i _ => rs.length - (intOf i).toNat)
 case atStart => exact ⟨0, Nat.zero_le _, rfl, h0, HW⟩
 case round =>
  obtain ⟨k, hk, rfl, hJs, hR⟩ := hrel
  by_cases hlt : k < rs.length
  ·
   obtain ⟨⟨rk, rv⟩, hx⟩ : ∃ x, rs[k]? = some x := ⟨_, List.getElem?_eq_getElem hlt⟩
   obtain ⟨b, off, cap', he, c0⟩ := flat_get (HK.out.grow hR.out) (i := k) (u := .string rk) (by simp [keysC, hx])
   cases he
   obtain ⟨b2, off2, cap2, he, c1⟩ := flat_get (HV.out.grow hR.out) (i := k) (u := .string rv) (by simp [valsC, hx])
   cases he
   have q := cell_of ((hR.out.block vb (heap_lt Hvb.out)).trans Hvb.out) 0
   obtain ⟨fn, tmps, assign, body, hy, hR3⟩ := hY _ (rk, rv) _ hJs (by rw [List.length_take]; omega) (by rw [List.length_take, Nat.min_eq_left hk]; exact hx)
   dsimp only at hy
   have Hx := hid hx
   clear hx
   gi_wp2
   refine hR3.mono ?_
   rintro e W3 (⟨rfl, hJ3, hk3⟩ | ⟨rfl, hJx3⟩)
   ·
    gi_wp2
    go_roundw
    case rel => exact ⟨k + 1, by omega, by simp, by rw [take_snoc Hx.out]; exact hJ3, hid (hR.out.trans hk3)⟩
    case measure => simp [intOf]; omega
   ·
    gi_wp2
    refine bodyPost_ret (results_none rfl _ _ _) rfl ?_
    exact ⟨⟨_, rfl⟩, .inr ⟨rs.take (k + 1), List.take_prefix _ _, by rw [take_snoc Hx.out]; exact hJx3⟩⟩
  ·
   obtain rfl : k = rs.length := by omega
   gi_wp2
   go_end0
   exact ⟨⟨_, rfl⟩, .inl ⟨_, rfl, by rw [List.take_length] at hJs; exact hJs⟩⟩
theorem map_val_inj {α : Type} {p : α → Prop} : ∀ a b : List {x : α // p x}, a.map Subtype.val = b.map Subtype.val → a = b
 | [], [], _ => rfl
 | [], _ :: _, h => by simp at h
 | _ :: _, [], h => by simp at h
 | x :: a, y :: b, h => by
  simp only [List.map_cons, List.cons.injEq] at h
  rw [Subtype.ext h.1, map_val_inj a b h.2]
theorem over_stopsP {p : RowV → Prop} (n : Nat) (hn : 1 ≤ n) (kb vb : Nat) (w : World) (rs : List {x : RowV // p x}) (n₀ : Nat) (w0 : World) (hn₀ : n₀ = w0.heap.size) (hw : Below w0.heap.size w0 w) (ho : OverAt w0 kb vb (rs.map Subtype.val)) (hmax : rs.length ≤ 4194304) :
  SeqStopsK Fence.wide n Tryz.prog 103 #[.pointer (some ⟨kb, 0, none⟩), .pointer (some ⟨vb, 0, none⟩)] (fun x : {x : RowV // p x} => #[.string x.1.1, .string x.1.2]) (Below n₀) (fun ys => ys = rs) (fun pre => pre <+: rs) rs.length w := fun l J Jx W hW hJ hJx hY h0 => by
 subst hn₀
 have inj := @map_val_inj RowV p
 refine (overIt_in n hn l kb vb w0 (rs.map Subtype.val) ho (by rw [List.length_map]; exact hmax) (fun pre W => ∃ q : List {x : RowV // p x}, pre = q.map Subtype.val ∧ J q W) (fun pre W => ∃ q : List {x : RowV // p x}, pre = q.map Subtype.val ∧ Jx q W) W (hw.trans (hW.mono hw.size))
  (fun s A B row hs hg hr => by obtain ⟨q, e, h⟩ := hs; exact ⟨q, e, hJ q A B row h hg hr⟩) (fun pre x W1 h1 h2 h3 => ?_) ⟨[], rfl, h0⟩).mono ?_
 ·
  obtain ⟨q, rfl, h⟩ := h1
  rw [List.length_map] at h2 h3
  rw [List.length_map] at h2
  rw [List.getElem?_map] at h3
  obtain ⟨y, hy, rfl⟩ := Option.map_eq_some_iff.1 h3
  obtain ⟨fn, tmps, assign, body, e, hR⟩ := hY q y W1 h h2
  refine ⟨fn, tmps, assign, body, e, hR.mono ?_⟩
  rintro e W3 (⟨rfl, a, b⟩ | ⟨rfl, a⟩)
  ·
   exact .inl ⟨rfl, ⟨q ++ [y], by simp, a⟩, b⟩
  ·
   exact .inr ⟨rfl, q ++ [y], by simp, a⟩
 ·
  rintro e W3 ⟨hv, (⟨ys, hys, q, rfl, h⟩ | ⟨pre, hpre, q, rfl, h⟩)⟩
  ·
   exact ⟨hv, .inl ⟨q, inj _ _ hys, h⟩⟩
  ·
   refine ⟨hv, .inr ⟨q, ?_, h⟩⟩
   obtain ⟨t, ht⟩ := hpre
   refine ⟨rs.drop q.length, ?_⟩
   apply inj
   have e1 : (rs.map Subtype.val).drop q.length = t := by rw [← ht, List.drop_left' (by simp)]
   rw [List.map_append, List.map_drop, e1, ht]
end Go.Proofs.YthikijlbclckdaaGreat
namespace Go.Proofs.YthikijlbclckdaaGreat
set_option maxRecDepth 100000
set_option maxHeartbeats 40000000
set_option linter.unusedSimpArgs false
set_option linter.unusedVariables false
open Go.RowKit
def stepOf (c k : Nat) (node : Int) (id : ByteArray) (s : StateV) (r : RdV) : Stp :=
 if c = 97 then stepA s r
 else if c = 103 then stepG k s r
 else if c = 105 then stepI k s r
 else if c = 106 then stepJ k s r
 else if c = 107 then stepK k node s r
 else if c = 108 then stepL k node s r
 else if c = 112 then stepP id s r
 else if c = 114 then stepR k node s r
 else if c = 115 then stepS k node s r
 else stepT k s r
def letF (c : Nat) : Nat :=
 if c = 97 then 86
 else if c = 103 then 88
 else if c = 105 then 93
 else if c = 106 then 94
 else if c = 107 then 95
 else if c = 108 then 96
 else if c = 112 then 97
 else if c = 114 then 98
 else if c = 115 then 99
 else 100
theorem sizeK_cases {c : Nat} (h : sizeK c ≠ -2) : c = 97 ∨ c = 103 ∨ c = 105 ∨ c = 106 ∨ c = 107 ∨ c = 108 ∨ c = 112 ∨ c = 114 ∨ c = 115 ∨ c = 116 := by
 unfold sizeK at h
 (repeat' split at h) <;> omega
theorem look_let (c : Nat) : look8 letTab c = if sizeK c = -2 then none else some (letV (sizeK c) (letF c)) := by
 by_cases h : sizeK c = -2
 ·
  rw [if_pos h]
  have hn : c ≠ 97 ∧ c ≠ 103 ∧ c ≠ 105 ∧ c ≠ 106 ∧ c ≠ 107 ∧ c ≠ 108 ∧ c ≠ 112 ∧ c ≠ 114 ∧ c ≠ 115 ∧ c ≠ 116 := by
   unfold sizeK at h
   (repeat' split at h) <;> omega
  obtain ⟨h0, h1, h2, h3, h4, h5, h6, h7, h8, h9⟩ := hn
  simp only [letTab, look8, if_neg h0, if_neg h1, if_neg h2, if_neg h3, if_neg h4, if_neg h5, if_neg h6, if_neg h7, if_neg h8, if_neg h9]
 ·
  rw [if_neg h]
  rcases sizeK_cases h with rfl | rfl | rfl | rfl | rfl | rfl | rfl | rfl | rfl | rfl <;> rfl
structure Many (s : StateV) (n : Nat) : Prop where
 procs : s.procs.length ≤ n
 insts : s.insts.length ≤ n
 tokens : s.tokens.length ≤ n
 jobs : s.jobs.length ≤ n
 timers : s.timers.length ≤ n
 subs : s.subs.length ≤ n
 kept : s.kept.length ≤ n
 listed : s.listed.length ≤ n
 msgs : s.msgs.length ≤ n
theorem let_any (c : Nat) (hc : sizeK c ≠ -2) (xb sb rb k : Nat) (node : Int) (id : ByteArray) (odd : Bool) (s : StateV) (r : RdV) (w : World) (base : Nat) (hbase : base ≤ w.heap.size) (hbx : base ≤ xb) (hbs : base ≤ sb) (hbr : base ≤ rb) (hx : TakAt w xb sb rb k node id odd) (hs : StB w base sb s) (hr : IsR 168 w rb r)
  (hsz : r.s.size ≤ 1099511627776) (hk : k < 18446744073709551616) (hno : I64 node) (hm : Many s 2097152) :
  Calls Tryz.prog (letF c) #[.pointer (some ⟨xb, 0, none⟩)] w fun e w' => e = .returned (.tuple #[]) ∧ TakAt w' xb sb rb k node id (odd || (stepOf c k node id s r).bad) ∧ StB w' base sb (stepOf c k node id s r).s ∧ IsR 168 w' rb (stepOf c k node id s r).r ∧ TyBut base letTs w w' := by
 rcases sizeK_cases hc with rfl | rfl | rfl | rfl | rfl | rfl | rfl | rfl | rfl | rfl
 ·
  exact let1_any xb sb rb k node id odd s r w base hbase hbx hbs hbr hx hs hr hsz hk hno
 ·
  exact let2_any xb sb rb k node id odd s r w base hbase hbx hbs hbr hx hs hr hsz hk hno hm.msgs
 ·
  exact let3_any xb sb rb k node id odd s r w base hbase hbx hbs hbr hx hs hr hsz hk hno hm.insts
 ·
  exact let4_any xb sb rb k node id odd s r w base hbase hbx hbs hbr hx hs hr hsz hk hno hm.jobs
 ·
  exact let5_any xb sb rb k node id odd s r w base hbase hbx hbs hbr hx hs hr hsz hk hno hm.kept
 ·
  exact let6_any xb sb rb k node id odd s r w base hbase hbx hbs hbr hx hs hr hsz hk hno hm.listed
 ·
  exact let7_any xb sb rb k node id odd s r w base hbase hbx hbs hbr hx hs hr hsz hk hno hm.procs
 ·
  exact let8_any xb sb rb k node id odd s r w base hbase hbx hbs hbr hx hs hr hsz hk hno hm.timers
 ·
  exact let9_any xb sb rb k node id odd s r w base hbase hbx hbs hbr hx hs hr hsz hk hno hm.subs
 ·
  exact let10_any xb sb rb k node id odd s r w base hbase hbx hbs hbr hx hs hr hsz hk hno hm.tokens
def rowKN (c : Nat) (rest : ByteArray) : Nat × Int := if 8 ≤ sizeK c then (numK (rest.extract 0 8), (numK (rest.extract 8 rest.size) : Int)) else (0, 0)
def rowStep (fst : Bool) (last : ByteArray) (s : StateV) (x : RowV) : Option StateV :=
 if x.1.size = 0 then none
 else if (fst != decide (x.1 = c1 97)) = true then none
 else if fst = false ∧ ltS last x.1 = false then none
 else if sizeK (x.1.data.toList.headD 0).toNat = -2 then none
 else if 0 ≤ sizeK (x.1.data.toList.headD 0).toNat ∧ ((x.1.extract 1 x.1.size).size : Int) ≠ sizeK (x.1.data.toList.headD 0).toNat then none
 else if (stepOf (x.1.data.toList.headD 0).toNat (rowKN (x.1.data.toList.headD 0).toNat (x.1.extract 1 x.1.size)).1 (rowKN (x.1.data.toList.headD 0).toNat (x.1.extract 1 x.1.size)).2 (x.1.extract 1 x.1.size) s ⟨x.2, 0⟩).bad = true
   ∨ endR (stepOf (x.1.data.toList.headD 0).toNat (rowKN (x.1.data.toList.headD 0).toNat (x.1.extract 1 x.1.size)).1 (rowKN (x.1.data.toList.headD 0).toNat (x.1.extract 1 x.1.size)).2 (x.1.extract 1 x.1.size) s ⟨x.2, 0⟩).r ≠ 0 then none
 else some (stepOf (x.1.data.toList.headD 0).toNat (rowKN (x.1.data.toList.headD 0).toNat (x.1.extract 1 x.1.size)).1 (rowKN (x.1.data.toList.headD 0).toNat (x.1.extract 1 x.1.size)).2 (x.1.extract 1 x.1.size) s ⟨x.2, 0⟩).s
structure Rd3 where
 fst : Bool
 last : ByteArray
 s : StateV
def rd0 : Rd3 := ⟨true, ⟨#[]⟩, state0⟩
def rdStep (a : Option Rd3) (x : RowV) : Option Rd3 := a.bind fun a => (rowStep a.fst a.last a.s x).map fun s => ⟨false, x.1, s⟩
def readF (l : List RowV) : Option Rd3 := l.foldl rdStep (some rd0)
theorem readF_snoc (l : List RowV) (x : RowV) : readF (l ++ [x]) = rdStep (readF l) x := by simp [readF]
def readS (l : List RowV) : Option StateV := (readF l).bind fun a => if a.fst = true ∨ mayB a.s = false then none else some a.s
theorem rd_none (l : List RowV) : l.foldl rdStep none = none := by
 induction l with
 | nil => rfl
 | cons x l ih => exact ih
theorem readF_bad {l : List RowV} {pre : List RowV} (hp : pre <+: l) (h : readF pre = none) : readF l = none := by
 obtain ⟨t, rfl⟩ := hp
 unfold readF at h ⊢
 rw [List.foldl_append, h]
 exact rd_none t
end Go.Proofs.YthikijlbclckdaaGreat
namespace Go.Proofs.YthikijlbclckdaaGreat
set_option maxRecDepth 100000
set_option maxHeartbeats 40000000
set_option linter.unusedSimpArgs false
set_option linter.unusedVariables false
open Go.RowKit
theorem uintR_less2 (r : RdV) (h : (uintR r).2.e = 0) : r.e = 0 ∧ (uintR r).2.s.size + 1 ≤ r.s.size := by
 unfold uintR takeR at h ⊢
 by_cases h1 : r.e = 0
 ·
  rw [if_pos h1] at h ⊢
  by_cases h2 : (numS r.s).2.2 = 0
  ·
   rw [if_pos h2]
   refine ⟨h1, ?_⟩
   have h3 := ((numS_ok r.s).pos h2).1
   have h4 := numS_len r.s
   show (r.s.extract _ r.s.size).size + 1 ≤ _
   rw [extract_size]; omega
  ·
   rw [if_neg h2] at h; exact absurd h h2
 ·
  rw [if_neg h1] at h; exact absurd h h1
theorem instsL_ok : ∀ (n : Nat) (r : RdV) (l : List Nat), (∀ x ∈ l, U64 x) → (∀ x ∈ (instsL n r l).1, U64 x) ∧ (instsL n r l).1.length ≤ l.length + r.s.size + 1
 | 0, r, l, h => ⟨h, by simp only [instsL]; omega⟩
 | n + 1, r, l, h => by
  simp only [instsL]
  by_cases he : r.e = 0
  ·
   rw [if_pos he]
   have hl : ∀ x ∈ l ++ [(uintR r).1], U64 x := fun x hx => by
    rcases List.mem_append.1 hx with hx | hx
    ·
     exact h x hx
    ·
     rw [List.mem_singleton] at hx; subst hx; exact uintR_lt r
   have ih := instsL_ok n (uintR r).2 _ hl
   refine ⟨ih.1, ?_⟩
   by_cases h2 : (uintR r).2.e = 0
   ·
    have := (uintR_less2 r h2).2
    have := ih.2
    simp only [List.length_append, List.length_cons, List.length_nil] at this
    omega
   ·
    cases n with
    | zero => simp only [instsL, List.length_append, List.length_cons, List.length_nil]; omega
    | succ n => simp only [instsL, if_neg h2, List.length_append, List.length_cons, List.length_nil]; omega
  ·
   rw [if_neg he]
   exact ⟨h, by show l.length ≤ _; omega⟩
theorem takeInsts_ok (r : RdV) : (∀ x ∈ (takeInsts r).1, U64 x) ∧ (takeInsts r).1.length ≤ r.s.size + 1 := by
 unfold takeInsts
 have h := instsL_ok (uintR r).1 (uintR r).2 [] (by simp)
 have := uintR_size r
 exact ⟨h.1, by have := h.2; simp only [List.length_nil] at this; omega⟩
theorem takeInsts_len (r : RdV) : (takeInsts r).1.length ≤ r.s.size := by
 by_cases h : (uintR r).2.e = 0
 ·
  have h1 := (uintR_less2 r h).2
  have := (instsL_ok (uintR r).1 (uintR r).2 [] (by simp)).2
  simp only [List.length_nil] at this
  unfold takeInsts; omega
 ·
  unfold takeInsts
  cases (uintR r).1 with
  | zero => simp [instsL]
  | succ n => simp [instsL, h]
theorem varsOf_ok (r : RdV) : (∀ y ∈ varsOf r, VarOk y) ∧ (varsOf r).length ≤ 16 := by
 unfold varsOf takeVars
 by_cases h : 16 < (uintR r).1
 ·
  rw [if_pos h]; simp
 ·
  rw [if_neg h]
  cases hv : varsL (uintR r).1 (uintR r).2 [] with
  | mk o r' =>
   cases o with
   | none => simp
   | some l =>
    have := varsL_ok _ _ _ _ _ (by simp) hv
    simp only
    split
    ·
     exact ⟨this.1, by have := this.2.2; simp only [List.length_nil] at this; show l.length ≤ 16; omega⟩
    ·
     simp
theorem text_sz (r : RdV) : Sz (textR 16384 r).1 := by
 have := textR_size 16384 (by omega) r
 unfold Sz; omega
structure StN (s : StateV) (n : Nat) : Prop where
 pos : U64 s.pos
 done : U64 s.done
 made : U64 s.made
 procs : ∀ x ∈ s.procs, DepOk x
 insts : ∀ x ∈ s.insts, InstOk x ∧ x.vars.length ≤ 16
 tokens : ∀ x ∈ s.tokens, TokOk x
 jobs : ∀ x ∈ s.jobs, JobOk x
 timers : ∀ x ∈ s.timers, TimOk x
 subs : ∀ x ∈ s.subs, SubOk x
 kept : ∀ x ∈ s.kept, KeptOk x
 listed : ∀ x ∈ s.listed, LisOk x ∧ x.vars.length ≤ 16
 msgs : ∀ x ∈ s.msgs, MsgOk x ∧ x.vars.length ≤ 16
 many : s.procs.length + s.insts.length + s.tokens.length + s.jobs.length + s.timers.length + s.subs.length + s.kept.length + s.listed.length + s.msgs.length ≤ n
theorem StN.ok {s : StateV} {n : Nat} (h : StN s n) (hn : n ≤ 2097152) : StateOk s :=
 ⟨h.pos, h.done, h.made, h.procs, fun x hx => (h.insts x hx).1, h.tokens, h.jobs, h.timers, h.subs, h.kept, fun x hx => (h.listed x hx).1, fun x hx => (h.msgs x hx).1, by have := h.many; omega⟩
theorem StN.each {s : StateV} {n : Nat} (h : StN s n) : Many s n := by
 have := h.many
 constructor <;> omega
theorem okSnoc {α : Type} {p : α → Prop} {l : List α} {a : α} (h : ∀ x ∈ l, p x) (ha : p a) : ∀ x ∈ l ++ [a], p x := fun x hx => by
 rcases List.mem_append.1 hx with hx | hx
 ·
  exact h x hx
 ·
  rw [List.mem_singleton] at hx; subst hx; exact ha
theorem step_ok (c k : Nat) (node : Int) (id : ByteArray) (s : StateV) (r : RdV) (n : Nat) (h : StN s n) (hk : U64 k) (hno : I64 node) (hid : Sz id) (hr : r.s.size ≤ 2097152) : StN (stepOf c k node id s r).s (n + 1) := by
 have hm := h.many
 unfold stepOf
 (repeat' split)
 ·
  exact ⟨uintR_lt _, uintR_lt _, uintR_lt _, h.procs, h.insts, h.tokens, h.jobs, h.timers, h.subs, h.kept, h.listed, h.msgs, by simp only [stepA]; omega⟩
 ·
  refine ⟨h.pos, h.done, h.made, h.procs, h.insts, h.tokens, h.jobs, h.timers, h.subs, h.kept, h.listed, okSnoc h.msgs ⟨⟨hk, text_sz _, text_sz _, text_sz _, intR_in _, (varsOf_ok _).1, (takeInsts_ok _).1, ?_⟩, (varsOf_ok _).2⟩, by simp only [stepG, List.length_append, List.length_cons, List.length_nil]; omega⟩
  refine Nat.le_trans (takeInsts_len _) (Nat.le_trans (takeVars_size _) (Nat.le_trans (intR_size _) (Nat.le_trans (textR_sz _ _) (Nat.le_trans (textR_sz _ _) (Nat.le_trans (textR_sz _ _) hr)))))
 ·
  exact ⟨h.pos, h.done, h.made, h.procs, okSnoc h.insts ⟨⟨hk, text_sz _, (varsOf_ok _).1⟩, (varsOf_ok _).2⟩, h.tokens, h.jobs, h.timers, h.subs, h.kept, h.listed, h.msgs, by simp only [stepI, List.length_append, List.length_cons, List.length_nil]; omega⟩
 ·
  exact ⟨h.pos, h.done, h.made, h.procs, h.insts, h.tokens, okSnoc h.jobs ⟨hk, uintR_lt _, text_sz _, intR_in _, text_sz _, intR_in _⟩, h.timers, h.subs, h.kept, h.listed, h.msgs, by simp only [stepJ, List.length_append, List.length_cons, List.length_nil]; omega⟩
 ·
  exact ⟨h.pos, h.done, h.made, h.procs, h.insts, h.tokens, h.jobs, h.timers, h.subs, okSnoc h.kept ⟨hk, uintR_lt _, hno⟩, h.listed, h.msgs, by simp only [stepK, List.length_append, List.length_cons, List.length_nil]; omega⟩
 ·
  exact ⟨h.pos, h.done, h.made, h.procs, h.insts, h.tokens, h.jobs, h.timers, h.subs, h.kept, okSnoc h.listed ⟨⟨hk, uintR_lt _, hno, text_sz _, text_sz _, uintR_lt _, (varsOf_ok _).1⟩, (varsOf_ok _).2⟩, h.msgs, by simp only [stepL, List.length_append, List.length_cons, List.length_nil]; omega⟩
 ·
  exact ⟨h.pos, h.done, h.made, okSnoc h.procs ⟨hid, text_sz _⟩, h.insts, h.tokens, h.jobs, h.timers, h.subs, h.kept, h.listed, h.msgs, by simp only [stepP, List.length_append, List.length_cons, List.length_nil]; omega⟩
 ·
  exact ⟨h.pos, h.done, h.made, h.procs, h.insts, h.tokens, h.jobs, okSnoc h.timers ⟨hk, hno, intR_in _⟩, h.subs, h.kept, h.listed, h.msgs, by simp only [stepR, List.length_append, List.length_cons, List.length_nil]; omega⟩
 ·
  exact ⟨h.pos, h.done, h.made, h.procs, h.insts, h.tokens, h.jobs, h.timers, okSnoc h.subs ⟨hk, uintR_lt _, hno, text_sz _, text_sz _⟩, h.kept, h.listed, h.msgs, by simp only [stepS, List.length_append, List.length_cons, List.length_nil]; omega⟩
 ·
  exact ⟨h.pos, h.done, h.made, h.procs, h.insts, okSnoc h.tokens ⟨hk, uintR_lt _, uintR_lt _, intR_in _, intR_in _, text_sz _⟩, h.jobs, h.timers, h.subs, h.kept, h.listed, h.msgs, by simp only [stepT, List.length_append, List.length_cons, List.length_nil]; omega⟩
theorem num2 (s : ByteArray) (h : s.size ≤ 2) : numK s < 65536 := by
 unfold numK
 have hl : s.data.toList.length ≤ 2 := by simpa using h
 generalize s.data.toList = l at hl
 match l, hl with
 | [], _ => simp
 | [a], _ => have := a.toNat_lt; simp only [List.foldl, numN]; omega
 | [a, b], _ => have := a.toNat_lt; have := b.toNat_lt; simp only [List.foldl, numN]; omega
theorem rowKN_ok (c : Nat) (rest : ByteArray) (h : 0 ≤ sizeK c → (rest.size : Int) = sizeK c) : U64 (rowKN c rest).1 ∧ I64 (rowKN c rest).2 := by
 unfold rowKN
 split
 ·
  rename_i h8
  have h1 := h (by omega)
  have h10 : sizeK c ≤ 10 := by unfold sizeK; (repeat' split) <;> omega
  have h2 := num2 (rest.extract 8 rest.size) (by rw [extract_size]; omega)
  exact ⟨numK_lt _, by show (-9223372036854775808 : Int) ≤ (numK _ : Int); omega, by show (numK _ : Int) ≤ _; omega⟩
 ·
  exact ⟨by show (0 : Nat) < _; omega, by show (-9223372036854775808 : Int) ≤ 0; omega, by show (0 : Int) ≤ _; omega⟩
theorem rowStep_ok (fst : Bool) (last : ByteArray) (s s' : StateV) (x : RowV) (n : Nat) (h : StN s n) (hx : Sz x.1 ∧ Sz x.2) (he : rowStep fst last s x = some s') : StN s' (n + 1) := by
 unfold rowStep at he
 (repeat' split at he) <;> first | cases he | skip
 rename_i h1 _ _ _ h2 _
 have hk := rowKN_ok (x.1.data.toList.headD 0).toNat (x.1.extract 1 x.1.size) (fun h => Classical.byContradiction fun hn => h2 ⟨h, hn⟩)
 exact step_ok _ _ _ _ _ _ _ h hk.1 hk.2 (by have := hx.1; unfold Sz at *; rw [extract_size]; omega) hx.2
theorem stN0 : StN state0 0 := by
 constructor <;> first | (show (0 : Nat) < _; omega) | (intro x hx; cases hx) | (show (0 : Nat) ≤ _; omega)
theorem readF_ok : ∀ (l : List RowV) (n : Nat) (o : Option Rd3), (∀ a, o = some a → StN a.s n) → (∀ x ∈ l, Sz x.1 ∧ Sz x.2) → ∀ a, l.foldl rdStep o = some a → StN a.s (n + l.length)
 | [], n, o, h, _, a, he => h a he
 | x :: l, n, o, h, hx, a, he => by
  have := readF_ok l (n + 1) (rdStep o x) (fun b hb => by
   cases o with
   | none => cases hb
   | some a0 =>
    simp only [rdStep, Option.bind_some, Option.map_eq_some_iff] at hb
    obtain ⟨s', hs, rfl⟩ := hb
    exact rowStep_ok _ _ _ _ _ _ (h a0 rfl) (hx x List.mem_cons_self) hs) (fun y hy => hx y (List.mem_cons_of_mem _ hy)) a he
  rw [List.length_cons, show n + (l.length + 1) = n + 1 + l.length by omega]
  exact this
theorem read_ok {l : List RowV} {a : Rd3} (hx : ∀ x ∈ l, Sz x.1 ∧ Sz x.2) (h : readF l = some a) : StN a.s l.length := by
 have := readF_ok l 0 (some rd0) (fun a e => by cases e; exact stN0) hx a h
 simpa using this
end Go.Proofs.YthikijlbclckdaaGreat
