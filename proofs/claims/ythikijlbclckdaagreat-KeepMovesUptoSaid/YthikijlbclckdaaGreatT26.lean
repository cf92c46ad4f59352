/- Keep: contracts (Rk). -/
import Derived.Test.YthikijlbclckdaaGreatT16
import Derived.Test.YthikijlbclckdaaGreatT24
import Derived.Laws.EntriesVeiled
namespace Go.Proofs.YthikijlbclckdaaGreat
set_option maxRecDepth 100000
set_option maxHeartbeats 40000000
set_option linter.unusedSimpArgs false
set_option linter.unusedVariables false
open Go.IntWalk Go.RowKit Go.Shelf
attribute [local go_sem] Oper.semAt_some
theorem cells_grown {W W' : World} {row : Option Nat} {B : Nat} (hg : W.grownBy W' row) (hr : ∀ r, row = some r → B ≤ r ∧ ∃ o : Obj, W.heap[r]? = some o ∧ o.isCells = false) : CellsKept [] W W' := fun b cs t fr _ hb =>
 (hg.block b (heap_lt hb) (fun e => by
  obtain ⟨-, o, ho, hn⟩ := hr b e.symm
  rw [hb] at ho
  cases ho
  cases hn)).trans hb
theorem StB.kept {ts : List TypeId} {w w' : World} {base sb : Nat} {s : StateV} (h : StB w base sb s) (hk : CellsKept ts w w') (h0 : 33 ∉ ts) (h1 : 177 ∉ ts) (h2 : 22 ∉ ts) (h3 : ∀ e ∈ listTs, e ∉ ts) : StB w' base sb s := by
 obtain ⟨vp, vi, vt, vj, vr, vs, vk, vl, vm, h, hl⟩ := h
 exact ⟨vp, vi, vt, vj, vr, vs, vk, vl, vm, hk _ _ _ _ h0 h, hl.keepC hk h1 h2 h3⟩
theorem cells_below {w w' : World} (hb : Below w.heap.size w w') : CellsKept [] w w' := fun b _ _ _ _ h => (hb.block b (heap_lt h)).trans h
structure RkW (b2 b3 b4 b5 b6 b7 mb : Nat) (a : Rd3) (W : World) : Prop where
 r2 : W.heap[b2]? = some (.cells cells0.toArray 33 (0, 0))
 r3 : W.heap[b3]? = some (.cells #[.int .i64 0] 47 (0, 0))
 st : StB W b4 b4 a.s
 r5 : W.heap[b5]? = some (.cells #[.string a.last] 9 (0, 0))
 r6 : W.heap[b6]? = some (.cells #[.bool a.fst] 4 (0, 0))
 r7 : W.heap[b7]? = some (.cells #[.map (some mb)] 71 (0, 0))
 lets : LetsAt W mb
theorem RkW.kept {b2 b3 b4 b5 b6 b7 mb : Nat} {a : Rd3} {W W' : World} (h : RkW b2 b3 b4 b5 b6 b7 mb a W) (hk : CellsKept [] W W') (hm : W'.heap[mb]? = W.heap[mb]?) : RkW b2 b3 b4 b5 b6 b7 mb a W' :=
 ⟨hk _ _ _ _ (by simp) h.r2, hk _ _ _ _ (by simp) h.r3, h.st.kept hk (by simp) (by simp) (by simp) (by simp), hk _ _ _ _ (by simp) h.r5, hk _ _ _ _ (by simp) h.r6, hk _ _ _ _ (by simp) h.r7, hm.trans h.lets⟩
theorem RkW.own {b2 b3 b4 b5 b6 b7 mb B : Nat} (hm : mb < B) : OwnFrom B (fun (a : Rd3) W => RkW b2 b3 b4 b5 b6 b7 mb a W) := fun a W W' row h hg hr =>
 h.kept (cells_grown hg hr) (hg.block mb (heap_lt h.lets) (fun e => by have := (hr mb e.symm).1; omega))
theorem RkW.below {b2 b3 b4 b5 b6 b7 mb : Nat} {a : Rd3} {W W' : World} (h : RkW b2 b3 b4 b5 b6 b7 mb a W) (hb : Below W.heap.size W W') : RkW b2 b3 b4 b5 b6 b7 mb a W' :=
 h.kept (cells_below hb) (hb.block mb (heap_lt h.lets))
def RkE (b2 b3 : Nat) (W : World) : Prop := W.heap[b2]? = some (.cells cells0.toArray 33 (0, 0)) ∧ W.heap[b3]? = some (.cells #[.int .i64 3] 47 (0, 0))
theorem RkE.own {b2 b3 B : Nat} : OwnFrom B (fun (_ : Unit) W => RkE b2 b3 W) := fun _ W W' row h hg hr => ⟨cells_grown hg hr _ _ _ _ (by simp) h.1, cells_grown hg hr _ _ _ _ (by simp) h.2⟩
theorem keeps_from {base B : Nat} {ts : List TypeId} {W W' : World} (h : TyBut base ts W W') : KeepsFrom B W W' :=
 ⟨h.size, fun _ _ _ hk ho => h.atMap hk (fun _ _ _ e => by subst e; cases ho)⟩
theorem read1_any (s : ByteArray) (w : World) : Calls Tryz.prog 33 #[.string s] w fun e w' => e = .returned (.pointer (some ⟨w.heap.size, 0, none⟩)) ∧ IsR 168 w' w.heap.size ⟨s, 0⟩ ∧ Below w.heap.size w w' ∧ w.heap.size < w'.heap.size := by
 go_enter Tryz.func33, Tryz.ntmps33
 go_wp2
 go_ret
 exact ⟨rfl, alloc_new _ _, (Below.refl _ w).alloc (Nat.le_refl _) _, by simp⟩
theorem letF_enters (c : Nat) (args : Array Value) (w : World) : (callFunc (letF c) args).run Tryz.prog w = .ok (.enter (letF c) args) w := by
 unfold letF
 (repeat' split)
 ·
  exact enters_of Tryz.func86 (by kernel_rfl) rfl _ _
 ·
  exact enters_of Tryz.func88 (by kernel_rfl) rfl _ _
 ·
  exact enters_of Tryz.func93 (by kernel_rfl) rfl _ _
 ·
  exact enters_of Tryz.func94 (by kernel_rfl) rfl _ _
 ·
  exact enters_of Tryz.func95 (by kernel_rfl) rfl _ _
 ·
  exact enters_of Tryz.func96 (by kernel_rfl) rfl _ _
 ·
  exact enters_of Tryz.func97 (by kernel_rfl) rfl _ _
 ·
  exact enters_of Tryz.func98 (by kernel_rfl) rfl _ _
 ·
  exact enters_of Tryz.func99 (by kernel_rfl) rfl _ _
 ·
  exact enters_of Tryz.func100 (by kernel_rfl) rfl _ _
theorem look_run (c : Nat) : (sizeK c = -2 → ∀ w mb, LetsAt w mb → (Instr.lookup 71 (.map (some mb)) (.int .u8 (c : Int)) true).run Tryz.prog w = .ok (.tuple #[.agg #[.int .i64 0, .nilFunc], .bool false]) w) ∧
  (sizeK c ≠ -2 → ∀ w mb, LetsAt w mb → (Instr.lookup 71 (.map (some mb)) (.int .u8 (c : Int)) true).run Tryz.prog w = .ok (.tuple #[.agg #[.int .i64 (sizeK c), .func (.func (letF c)) #[] #[]], .bool true]) w) := by
 have h := fun w mb (hb : LetsAt w mb) => run_lookup8 (P := Tryz.prog) (w := w) (z := .agg #[.int .i64 0, .nilFunc]) Tryz.underlying71 Tryz.underlying5 (by rfl) hb c
 rw [look_let c] at h
 constructor
 ·
  intro hc
  simp only [if_pos hc] at h
  exact h
 ·
  intro hc
  simp only [if_neg hc] at h
  exact h
theorem RkW.step {b2 b3 b4 b5 b6 b7 mb : Nat} {a : Rd3} {W : World} (h : RkW b2 b3 b4 b5 b6 b7 mb a W) (rk : ByteArray) : RkW b2 b3 b4 b5 b6 b7 mb ⟨false, rk, a.s⟩ ((W.setCell ⟨b5, 0, none⟩ (.string rk)).setCell ⟨b6, 0, none⟩ (.bool false)) ∧
  TyBut 0 [9, 4] W ((W.setCell ⟨b5, 0, none⟩ (.string rk)).setCell ⟨b6, 0, none⟩ (.bool false)) ∧ Rb b5 W (W.setCell ⟨b5, 0, none⟩ (.string rk)) ∧ Rb b6 (W.setCell ⟨b5, 0, none⟩ (.string rk)) ((W.setCell ⟨b5, 0, none⟩ (.string rk)).setCell ⟨b6, 0, none⟩ (.bool false)) := by
 have n56 := ty_ne h.r6 h.r5 (by decide)
 have g5 := setCell_at h.r5 0 (.string rk)
 have c1 := Rb.set (w := W) b5 0 (.string rk)
 have g6 := (c1.block _ (heap_lt h.r6) n56).trans h.r6
 have g6' := setCell_at g6 0 (.bool false)
 have c2 := Rb.set (w := W.setCell ⟨b5, 0, none⟩ (.string rk)) b6 0 (.bool false)
 have g5' := (c2.block _ (heap_lt g5) (Ne.symm n56)).trans g5
 have T : TyBut 0 [9, 4] W ((W.setCell ⟨b5, 0, none⟩ (.string rk)).setCell ⟨b6, 0, none⟩ (.bool false)) := (TyBut.rb h.r5 (by decide) (Nat.zero_le _) c1).trans (TyBut.rb g6 (by decide) (Nat.zero_le _) c2)
 exact ⟨⟨T.at h.r2 (by decide), T.at h.r3 (by decide), h.st.kept T.kept (by decide) (by decide) (by decide) (by decide), g5', g6', T.at h.r7 (by decide), T.atMap h.lets (fun _ _ _ e => by cases e)⟩, T, c1, c2⟩
theorem RkW.lets' {b2 b3 b4 b5 b6 b7 mb : Nat} {a : Rd3} {W W' : World} (h : RkW b2 b3 b4 b5 b6 b7 mb a W) (h2 : b2 < b4) (h3 : b3 < b4) {s : StateV} (hs : StB W' b4 b4 s) (t : TyBut b4 letTs W W') : RkW b2 b3 b4 b5 b6 b7 mb ⟨a.fst, a.last, s⟩ W' :=
 ⟨(t.block _ (heap_lt h.r2) (fun ⟨_, _, _, _, _, e⟩ => by omega)).trans h.r2, (t.block _ (heap_lt h.r3) (fun ⟨_, _, _, _, _, e⟩ => by omega)).trans h.r3, hs, t.at h.r5 (by decide), t.at h.r6 (by decide), t.at h.r7 (by decide), t.atMap h.lets (fun _ _ _ e => by cases e)⟩
theorem Many.mono {s : StateV} {n m : Nat} (h : Many s n) (hn : n ≤ m) : Many s m :=
 ⟨Nat.le_trans h.procs hn, Nat.le_trans h.insts hn, Nat.le_trans h.tokens hn, Nat.le_trans h.jobs hn, Nat.le_trans h.timers hn, Nat.le_trans h.subs hn, Nat.le_trans h.kept hn, Nat.le_trans h.listed hn, Nat.le_trans h.msgs hn⟩
theorem alloc5 (w : World) (A B C D E : Obj) : ∃ W, W = ((((w.alloc A).alloc B).alloc C).alloc D).alloc E ∧ W.heap[w.heap.size]? = some A ∧ W.heap[w.heap.size + 1]? = some B ∧ W.heap[w.heap.size + 1 + 1]? = some C ∧ W.heap[w.heap.size + 1 + 1 + 1]? = some D ∧ W.heap[w.heap.size + 1 + 1 + 1 + 1]? = some E ∧ Below w.heap.size w W ∧ W.heap.size = w.heap.size + 1 + 1 + 1 + 1 + 1 := by
 refine ⟨_, rfl, ?_, ?_, ?_, ?_, ?_, ?_, by simp only [World.size_alloc]⟩
 ·
  have x := alloc_new w A
  have x := (alloc_old B (heap_lt x)).trans x
  have x := (alloc_old C (heap_lt x)).trans x
  have x := (alloc_old D (heap_lt x)).trans x
  exact (alloc_old E (heap_lt x)).trans x
 ·
  have x := alloc_new (w.alloc A) B
  have x := (alloc_old C (heap_lt x)).trans x
  have x := (alloc_old D (heap_lt x)).trans x
  have x := (alloc_old E (heap_lt x)).trans x
  simpa only [World.size_alloc] using x
 ·
  have x := alloc_new ((w.alloc A).alloc B) C
  have x := (alloc_old D (heap_lt x)).trans x
  have x := (alloc_old E (heap_lt x)).trans x
  simpa only [World.size_alloc] using x
 ·
  have x := alloc_new (((w.alloc A).alloc B).alloc C) D
  have x := (alloc_old E (heap_lt x)).trans x
  simpa only [World.size_alloc] using x
 ·
  have x := alloc_new ((((w.alloc A).alloc B).alloc C).alloc D) E
  simpa only [World.size_alloc] using x
 ·
  refine ((((((Below.refl _ w).alloc (Nat.le_refl _) _).alloc ?_ _).alloc ?_ _).alloc ?_ _).alloc ?_ _) <;> (simp only [World.size_alloc]; omega)
theorem rk_start {b2 b3 b4 b5 b6 b7 mb : Nat} {W : World} (h2 : W.heap[b2]? = some (.cells cells0.toArray 33 (0, 0))) (h3 : W.heap[b3]? = some (.cells #[.int .i64 0] 47 (0, 0))) (h4 : W.heap[b4]? = some (.cells cells0.toArray 33 (0, 0)))
  (h5 : W.heap[b5]? = some (.cells #[.string ⟨#[]⟩] 9 (0, 0))) (h6 : W.heap[b6]? = some (.cells #[.bool true] 4 (0, 0))) (h7 : W.heap[b7]? = some (.cells #[.map (some mb)] 71 (0, 0))) (hl : LetsAt W mb) : RkW b2 b3 b4 b5 b6 b7 mb rd0 W :=
 ⟨h2, h3, ⟨_, _, _, _, _, _, _, _, _, h4, ⟨LOwn.nil _ _ _ _ _, LOwn.nil _ _ _ _ _, LOwn.nil _ _ _ _ _, LOwn.nil _ _ _ _ _, LOwn.nil _ _ _ _ _, LOwn.nil _ _ _ _ _, LOwn.nil _ _ _ _ _, LOwn.nil _ _ _ _ _, LOwn.nil _ _ _ _ _⟩⟩, h5, h6, h7, hl⟩
theorem set12 {w : World} {b : Nat} {T : TypeId} {x0 x1 x2 x3 x4 x5 x6 x7 x8 x9 x10 x11 : Value} (h : w.heap[b]? = some (.cells #[x0, x1, x2, x3, x4, x5, x6, x7, x8, x9, x10, x11] T (0, 0))) (v0 v1 v2 v3 v4 v5 v6 v7 v8 v9 v10 v11 : Value) :
  ((((((((((((w.setCell ⟨b, 0, none⟩ v0).setCell ⟨b, 1, none⟩ v1).setCell ⟨b, 2, none⟩ v2).setCell ⟨b, 3, none⟩ v3).setCell ⟨b, 4, none⟩ v4).setCell ⟨b, 5, none⟩ v5).setCell ⟨b, 6, none⟩ v6).setCell ⟨b, 7, none⟩ v7).setCell ⟨b, 8, none⟩ v8).setCell ⟨b, 9, none⟩ v9).setCell ⟨b, 10, none⟩ v10).setCell ⟨b, 11, none⟩ v11).heap[b]? = some (.cells #[v0, v1, v2, v3, v4, v5, v6, v7, v8, v9, v10, v11] T (0, 0)) ∧ Rb b w ((((((((((((w.setCell ⟨b, 0, none⟩ v0).setCell ⟨b, 1, none⟩ v1).setCell ⟨b, 2, none⟩ v2).setCell ⟨b, 3, none⟩ v3).setCell ⟨b, 4, none⟩ v4).setCell ⟨b, 5, none⟩ v5).setCell ⟨b, 6, none⟩ v6).setCell ⟨b, 7, none⟩ v7).setCell ⟨b, 8, none⟩ v8).setCell ⟨b, 9, none⟩ v9).setCell ⟨b, 10, none⟩ v10).setCell ⟨b, 11, none⟩ v11) := by
 have h0 : (w.setCell ⟨b, 0, none⟩ v0).heap[b]? = some (.cells #[v0, x1, x2, x3, x4, x5, x6, x7, x8, x9, x10, x11] T (0, 0)) := setCell_at h 0 v0
 have h1 : ((w.setCell ⟨b, 0, none⟩ v0).setCell ⟨b, 1, none⟩ v1).heap[b]? = some (.cells #[v0, v1, x2, x3, x4, x5, x6, x7, x8, x9, x10, x11] T (0, 0)) := setCell_at h0 1 v1
 have h2 : (((w.setCell ⟨b, 0, none⟩ v0).setCell ⟨b, 1, none⟩ v1).setCell ⟨b, 2, none⟩ v2).heap[b]? = some (.cells #[v0, v1, v2, x3, x4, x5, x6, x7, x8, x9, x10, x11] T (0, 0)) := setCell_at h1 2 v2
 have h3 : ((((w.setCell ⟨b, 0, none⟩ v0).setCell ⟨b, 1, none⟩ v1).setCell ⟨b, 2, none⟩ v2).setCell ⟨b, 3, none⟩ v3).heap[b]? = some (.cells #[v0, v1, v2, v3, x4, x5, x6, x7, x8, x9, x10, x11] T (0, 0)) := setCell_at h2 3 v3
 have h4 : (((((w.setCell ⟨b, 0, none⟩ v0).setCell ⟨b, 1, none⟩ v1).setCell ⟨b, 2, none⟩ v2).setCell ⟨b, 3, none⟩ v3).setCell ⟨b, 4, none⟩ v4).heap[b]? = some (.cells #[v0, v1, v2, v3, v4, x5, x6, x7, x8, x9, x10, x11] T (0, 0)) := setCell_at h3 4 v4
 have h5 : ((((((w.setCell ⟨b, 0, none⟩ v0).setCell ⟨b, 1, none⟩ v1).setCell ⟨b, 2, none⟩ v2).setCell ⟨b, 3, none⟩ v3).setCell ⟨b, 4, none⟩ v4).setCell ⟨b, 5, none⟩ v5).heap[b]? = some (.cells #[v0, v1, v2, v3, v4, v5, x6, x7, x8, x9, x10, x11] T (0, 0)) := setCell_at h4 5 v5
 have h6 : (((((((w.setCell ⟨b, 0, none⟩ v0).setCell ⟨b, 1, none⟩ v1).setCell ⟨b, 2, none⟩ v2).setCell ⟨b, 3, none⟩ v3).setCell ⟨b, 4, none⟩ v4).setCell ⟨b, 5, none⟩ v5).setCell ⟨b, 6, none⟩ v6).heap[b]? = some (.cells #[v0, v1, v2, v3, v4, v5, v6, x7, x8, x9, x10, x11] T (0, 0)) := setCell_at h5 6 v6
 have h7 : ((((((((w.setCell ⟨b, 0, none⟩ v0).setCell ⟨b, 1, none⟩ v1).setCell ⟨b, 2, none⟩ v2).setCell ⟨b, 3, none⟩ v3).setCell ⟨b, 4, none⟩ v4).setCell ⟨b, 5, none⟩ v5).setCell ⟨b, 6, none⟩ v6).setCell ⟨b, 7, none⟩ v7).heap[b]? = some (.cells #[v0, v1, v2, v3, v4, v5, v6, v7, x8, x9, x10, x11] T (0, 0)) := setCell_at h6 7 v7
 have h8 : (((((((((w.setCell ⟨b, 0, none⟩ v0).setCell ⟨b, 1, none⟩ v1).setCell ⟨b, 2, none⟩ v2).setCell ⟨b, 3, none⟩ v3).setCell ⟨b, 4, none⟩ v4).setCell ⟨b, 5, none⟩ v5).setCell ⟨b, 6, none⟩ v6).setCell ⟨b, 7, none⟩ v7).setCell ⟨b, 8, none⟩ v8).heap[b]? = some (.cells #[v0, v1, v2, v3, v4, v5, v6, v7, v8, x9, x10, x11] T (0, 0)) := setCell_at h7 8 v8
 have h9 : ((((((((((w.setCell ⟨b, 0, none⟩ v0).setCell ⟨b, 1, none⟩ v1).setCell ⟨b, 2, none⟩ v2).setCell ⟨b, 3, none⟩ v3).setCell ⟨b, 4, none⟩ v4).setCell ⟨b, 5, none⟩ v5).setCell ⟨b, 6, none⟩ v6).setCell ⟨b, 7, none⟩ v7).setCell ⟨b, 8, none⟩ v8).setCell ⟨b, 9, none⟩ v9).heap[b]? = some (.cells #[v0, v1, v2, v3, v4, v5, v6, v7, v8, v9, x10, x11] T (0, 0)) := setCell_at h8 9 v9
 have h10 : (((((((((((w.setCell ⟨b, 0, none⟩ v0).setCell ⟨b, 1, none⟩ v1).setCell ⟨b, 2, none⟩ v2).setCell ⟨b, 3, none⟩ v3).setCell ⟨b, 4, none⟩ v4).setCell ⟨b, 5, none⟩ v5).setCell ⟨b, 6, none⟩ v6).setCell ⟨b, 7, none⟩ v7).setCell ⟨b, 8, none⟩ v8).setCell ⟨b, 9, none⟩ v9).setCell ⟨b, 10, none⟩ v10).heap[b]? = some (.cells #[v0, v1, v2, v3, v4, v5, v6, v7, v8, v9, v10, x11] T (0, 0)) := setCell_at h9 10 v10
 have h11 : ((((((((((((w.setCell ⟨b, 0, none⟩ v0).setCell ⟨b, 1, none⟩ v1).setCell ⟨b, 2, none⟩ v2).setCell ⟨b, 3, none⟩ v3).setCell ⟨b, 4, none⟩ v4).setCell ⟨b, 5, none⟩ v5).setCell ⟨b, 6, none⟩ v6).setCell ⟨b, 7, none⟩ v7).setCell ⟨b, 8, none⟩ v8).setCell ⟨b, 9, none⟩ v9).setCell ⟨b, 10, none⟩ v10).setCell ⟨b, 11, none⟩ v11).heap[b]? = some (.cells #[v0, v1, v2, v3, v4, v5, v6, v7, v8, v9, v10, v11] T (0, 0)) := setCell_at h10 11 v11
 exact ⟨h11, (Rb.set b 0 v0).trans ((Rb.set b 1 v1).trans ((Rb.set b 2 v2).trans ((Rb.set b 3 v3).trans ((Rb.set b 4 v4).trans ((Rb.set b 5 v5).trans ((Rb.set b 6 v6).trans ((Rb.set b 7 v7).trans ((Rb.set b 8 v8).trans ((Rb.set b 9 v9).trans ((Rb.set b 10 v10).trans (Rb.set b 11 v11)))))))))))⟩
theorem rk_end {n : Nat} {R : Ending → World → Prop} {tmps : Array Value} {D b2 b3 : Nat} {W : World} {v0 v1 v2 v3 v4 v5 v6 v7 v8 v9 v10 v11 : Value} {e : Int} (ht2 : tmps[2]? = some (.pointer (some ⟨b2, 0, none⟩))) (ht3 : tmps[3]? = some (.pointer (some ⟨b3, 0, none⟩)))
  (h2 : W.heap[b2]? = some (.cells #[v0, v1, v2, v3, v4, v5, v6, v7, v8, v9, v10, v11] 33 (0, 0))) (h3 : W.heap[b3]? = some (.cells #[.int .i64 e] 47 (0, 0))) (hK : W.heap[D]? = some (.deferred (some [])))
  (h : R (.returned (.tuple #[.agg #[v0, v1, v2, v3, v4, v5, v6, v7, v8, v9, v10, v11], .int .i64 e])) (W.putObj D (.deferred none))) : bodyPostM Fence.wide n Tryz.prog Tryz.f18 R .ret { tmps := tmps, defers := [{ target := .collected D, args := #[] }] } W := by
 have n2 : b2 ≠ D := fun e => by subst e; rw [h2] at hK; cases hK
 have n3 : b3 ≠ D := fun e => by subst e; rw [h3] at hK; cases hK
 have g2 := (World.putObj_heap_other (o := .deferred none) n2).trans h2
 have g3 := (World.putObj_heap_other (o := .deferred none) n3).trans h3
 obtain ⟨k0, k1, k2, k3, k4, k5, k6, k7, k8, k9, k10, k11⟩ := cells12 g2
 have e0 := cell_of g3 0
 refine ⟨by simp, .inl ⟨_, _, rfl, run_takeDeferred hK, ?_⟩⟩
 refine ⟨_, ?_, h⟩
 simp [results, Tryz.results18, go_sem, ht2, ht3, k0, k1, k2, k3, k4, k5, k6, k7, k8, k9, k10, k11, e0]
theorem But.below' {F : Nat → Prop} {w w' : World} {n B : Nat} (h : But F w w') (hF : ∀ k, F k → B ≤ k) (hn : B ≤ w.heap.size) : Below B w w' :=
 ⟨h.os, h.tape, h.output, h.size, fun k hk => h.block k (by omega) (fun hf => by have := hF k hf; omega)⟩
theorem Rb_below {w w' : World} {b B : Nat} (h : Rb b w w') (hb : B ≤ b) (hn : B ≤ w.heap.size) : Below B w w' := But.below' (n := 0) h (fun k hk => by subst hk; exact hb) hn
def ReadT (rs : List RowV) (w : World) (v : Value) (w' : World) : Prop :=
 match readS rs with
 | none => v = .tuple #[.agg cells0.toArray, .int .i64 3]
 | some s => ∃ cs vp vi vt vj vr vs vk vl vm, v = .tuple #[.agg cs.toArray, .int .i64 0] ∧ StateAt w' cs s vp vi vt vj vr vs vk vl vm
theorem ReadT.no {rs : List RowV} (h : readS rs = none) (w w' : World) : ReadT rs w (.tuple #[.agg cells0.toArray, .int .i64 3]) w' := by unfold ReadT; rw [h]
theorem ReadT.yes {rs : List RowV} {s : StateV} (h : readS rs = some s) (w w' : World) {vp vi vt vj vr vs vk vl vm : Value} (hs : StateAt w' [U s.pos, U s.done, U s.made, vp, vi, vt, vj, vr, vs, vk, vl, vm] s vp vi vt vj vr vs vk vl vm) :
  ReadT rs w (.tuple #[.agg #[U s.pos, U s.done, U s.made, vp, vi, vt, vj, vr, vs, vk, vl, vm], .int .i64 0]) w' := by
 unfold ReadT
 rw [h]
 exact ⟨_, _, _, _, _, _, _, _, _, _, rfl, hs⟩
theorem ends_kept {b2 b3 D : Nat} {w0 w1 w2 : World} {cs ds : Array Value} {n m : Nat × Nat} {ds' : Option (List Deferred)} (h2 : w0.heap[b2]? = some (.cells cs 33 n)) (h3 : w0.heap[b3]? = some (.cells ds 47 m)) (hb : Rb b2 w0 w1) (hc : Rb b3 w1 w2) (hK : w2.heap[D]? = some (.deferred ds')) (o : Obj) :
  CellsKept [33, 47] w0 (w2.putObj D o) := fun b cs' t fr ht h => by
 have n2 : b ≠ b2 := fun e => by subst e; rw [h2] at h; cases h; simp at ht
 have n3 : b ≠ b3 := fun e => by subst e; rw [h3] at h; cases h; simp at ht
 have g1 := (hb.block b (heap_lt h) n2).trans h
 have g2 := (hc.block b (heap_lt g1) n3).trans g1
 have n4 : b ≠ D := fun e => by subst e; rw [hK] at g2; cases g2
 exact (World.putObj_heap_other n4).trans g2
theorem le_not (a b : ByteArray) : (Op.bytesLess b.toList a.toList || b.toList == a.toList) = !ltS a b := by
 rw [Lib.toList_data, Lib.toList_data, bytesLess_eq]
 unfold ltS
 rw [bytesLess_eq]
 by_cases h : a.data.toList < b.data.toList
 ·
  simp only [h, decide_true, Bool.not_true, Bool.or_eq_false_iff, decide_eq_false_iff_not, beq_eq_false_iff_ne, ne_eq]
  exact ⟨fun h2 => List.lt_irrefl _ (List.lt_trans h h2), fun e => by rw [e] at h; exact List.lt_irrefl _ h⟩
 ·
  simp only [h, decide_false, Bool.not_false, Bool.or_eq_true, decide_eq_true_eq, beq_iff_eq]
  rcases Std.le_total (a := b.data.toList) (b := a.data.toList) with h2 | h2
  ·
   by_cases e : b.data.toList = a.data.toList
   ·
    exact .inr e
   ·
    exact .inl (Std.lt_of_le_of_ne h2 e)
  ·
   by_cases e : b.data.toList = a.data.toList
   ·
    exact .inr e
   ·
    exact absurd (Std.lt_of_le_of_ne h2 (Ne.symm e)) h
theorem rk_bad {W w : World} {b2 B : Nat} (h2 : W.heap[b2]? = some (.cells cells0.toArray 33 (0, 0))) (h3 : W.heap[b2 + 1]? = some (.cells #[.int .i64 0] 47 (0, 0))) (hB : Below b2 w W) (hw : b2 ≤ w.heap.size) :
  KeepsFrom B W (((((((((((((W.setCell ⟨b2, 0, none⟩ (.int .u64 0)).setCell ⟨b2, 1, none⟩ (.int .u64 0)).setCell ⟨b2, 2, none⟩ (.int .u64 0)).setCell ⟨b2, 3, none⟩ (.slice none 0 0)).setCell ⟨b2, 4, none⟩ (.slice none 0 0)).setCell ⟨b2, 5, none⟩ (.slice none 0 0)).setCell ⟨b2, 6, none⟩ (.slice none 0 0)).setCell ⟨b2, 7, none⟩ (.slice none 0 0)).setCell ⟨b2, 8, none⟩ (.slice none 0 0)).setCell ⟨b2, 9, none⟩ (.slice none 0 0)).setCell ⟨b2, 10, none⟩ (.slice none 0 0)).setCell ⟨b2, 11, none⟩ (.slice none 0 0)).setCell ⟨b2 + 1, 0, none⟩ (.int .i64 3)) ∧ RkE b2 (b2 + 1) (((((((((((((W.setCell ⟨b2, 0, none⟩ (.int .u64 0)).setCell ⟨b2, 1, none⟩ (.int .u64 0)).setCell ⟨b2, 2, none⟩ (.int .u64 0)).setCell ⟨b2, 3, none⟩ (.slice none 0 0)).setCell ⟨b2, 4, none⟩ (.slice none 0 0)).setCell ⟨b2, 5, none⟩ (.slice none 0 0)).setCell ⟨b2, 6, none⟩ (.slice none 0 0)).setCell ⟨b2, 7, none⟩ (.slice none 0 0)).setCell ⟨b2, 8, none⟩ (.slice none 0 0)).setCell ⟨b2, 9, none⟩ (.slice none 0 0)).setCell ⟨b2, 10, none⟩ (.slice none 0 0)).setCell ⟨b2, 11, none⟩ (.slice none 0 0)).setCell ⟨b2 + 1, 0, none⟩ (.int .i64 3)) ∧ Below b2 w (((((((((((((W.setCell ⟨b2, 0, none⟩ (.int .u64 0)).setCell ⟨b2, 1, none⟩ (.int .u64 0)).setCell ⟨b2, 2, none⟩ (.int .u64 0)).setCell ⟨b2, 3, none⟩ (.slice none 0 0)).setCell ⟨b2, 4, none⟩ (.slice none 0 0)).setCell ⟨b2, 5, none⟩ (.slice none 0 0)).setCell ⟨b2, 6, none⟩ (.slice none 0 0)).setCell ⟨b2, 7, none⟩ (.slice none 0 0)).setCell ⟨b2, 8, none⟩ (.slice none 0 0)).setCell ⟨b2, 9, none⟩ (.slice none 0 0)).setCell ⟨b2, 10, none⟩ (.slice none 0 0)).setCell ⟨b2, 11, none⟩ (.slice none 0 0)).setCell ⟨b2 + 1, 0, none⟩ (.int .i64 3)) := by
 obtain ⟨e2, eb⟩ := set12 h2 (.int .u64 0) (.int .u64 0) (.int .u64 0) (.slice none 0 0) (.slice none 0 0) (.slice none 0 0) (.slice none 0 0) (.slice none 0 0) (.slice none 0 0) (.slice none 0 0) (.slice none 0 0) (.slice none 0 0)
 have g3 := (eb.block _ (heap_lt h3) (by omega)).trans h3
 have e3 := setCell_at g3 0 (.int .i64 3)
 have ec := Rb.set (w := ((((((((((((W.setCell ⟨b2, 0, none⟩ (.int .u64 0)).setCell ⟨b2, 1, none⟩ (.int .u64 0)).setCell ⟨b2, 2, none⟩ (.int .u64 0)).setCell ⟨b2, 3, none⟩ (.slice none 0 0)).setCell ⟨b2, 4, none⟩ (.slice none 0 0)).setCell ⟨b2, 5, none⟩ (.slice none 0 0)).setCell ⟨b2, 6, none⟩ (.slice none 0 0)).setCell ⟨b2, 7, none⟩ (.slice none 0 0)).setCell ⟨b2, 8, none⟩ (.slice none 0 0)).setCell ⟨b2, 9, none⟩ (.slice none 0 0)).setCell ⟨b2, 10, none⟩ (.slice none 0 0)).setCell ⟨b2, 11, none⟩ (.slice none 0 0))) (b2 + 1) 0 (.int .i64 3)
 have e2' := (ec.block _ (heap_lt e2) (by omega)).trans e2
 have k1 : KeepsFrom B W _ := ⟨eb.size, fun k o _ hk ho => (eb.block k (heap_lt hk) (fun e => by subst e; rw [h2] at hk; cases hk; cases ho)).trans hk⟩
 have k2 : KeepsFrom B _ _ := ⟨ec.size, fun k o _ hk ho => (ec.block k (heap_lt hk) (fun e => by subst e; rw [g3] at hk; cases hk; cases ho)).trans hk⟩
 exact ⟨k1.trans k2, ⟨e2', e3⟩, (hB.trans (Rb_below eb (Nat.le_refl _) (Nat.le_trans hw hB.size))).trans (Rb_below ec (Nat.le_succ _) (Nat.le_trans hw (Nat.le_trans hB.size eb.size)))⟩
theorem head_get (s : ByteArray) (h : 0 < s.size) : (s[0]'h).toNat = (s.data.toList.headD 0).toNat := by
 obtain ⟨⟨l⟩⟩ := s
 cases l with
 | nil => cases h
 | cons b l => rfl
theorem is_a (rk : ByteArray) : (rk.toList == [97]) = decide (rk = c1 97) := by
 by_cases h : rk = c1 97
 ·
  subst h; rw [Lib.toList_data, decide_eq_true rfl]; rfl
 ·
  rw [decide_eq_false h, beq_eq_false_iff_ne, Lib.toList_data]
  exact fun e => h (ByteArray.ext (Array.toList_inj.1 e))
theorem read_in (n : Nat) (hn : 3 ≤ n) (kb vb : Nat) (rs : List {x : RowV // Sz x.1 ∧ Sz x.2}) (w : World) (ho : OverAt w kb vb (rs.map Subtype.val)) (hmax : rs.length ≤ 2097152) :
  CallsIn Fence.wide n Tryz.prog 18 #[(.func (.func 103) #[] #[.pointer (some ⟨kb, 0, none⟩), .pointer (some ⟨vb, 0, none⟩)])] w fun e w' => ∃ v, e = .returned v ∧ ReadT (rs.map Subtype.val) w v w' ∧ Below w.heap.size w w' := by
 have h1 : 1 ≤ n := by omega
 have hro : Fence.wide.round = none := rfl
 have HO := hid ho
 clear ho
 refine callsIn_of_wp_marks Tryz.func18 rfl trivial ?_ hro
 simp only [Tryz.ntmps18, List.size_toArray, List.length_cons, List.length_nil, Nat.reduceAdd, Nat.reduceSub, Array.replicate_succ, Array.replicate_zero, List.push_toArray, List.append_toArray, List.nil_append, List.cons_append]
 have he := fun w => run_eql_func_some (P := Tryz.prog) w 38 (.func 103) #[] #[.pointer (some ⟨kb, 0, none⟩), .pointer (some ⟨vb, 0, none⟩)] Tryz.underlying38
 gi_wp2
 obtain ⟨W, hW, g2, g3, g4, g5, g6, gB, gS⟩ := alloc5 w (.cells #[.int .u64 0, .int .u64 0, .int .u64 0, .slice none 0 0, .slice none 0 0, .slice none 0 0, .slice none 0 0, .slice none 0 0, .slice none 0 0, .slice none 0 0, .slice none 0 0, .slice none 0 0] 33) (.cells #[.int .i64 0] 47) (.cells #[.int .u64 0, .int .u64 0, .int .u64 0, .slice none 0 0, .slice none 0 0, .slice none 0 0, .slice none 0 0, .slice none 0 0, .slice none 0 0, .slice none 0 0, .slice none 0 0, .slice none 0 0] 33) (.cells #[.string ⟨#[]⟩] 9) (.cells #[.bool true] 4)
 rw [← hW]
 clear hW
 refine ⟨trivial, (callsIn_wide.2 (letters_any _)).mono ?_⟩
 rintro e w2 ⟨mb, rfl, hl, b2⟩
 have hR0 := hid (rk_start (W := w2.alloc (.cells #[.map (some mb)] 71)) ((alloc_old _ (Nat.lt_of_lt_of_le (heap_lt g2) b2.size)).trans ((b2.block _ (heap_lt g2)).trans g2)) ((alloc_old _ (Nat.lt_of_lt_of_le (heap_lt g3) b2.size)).trans ((b2.block _ (heap_lt g3)).trans g3)) ((alloc_old _ (Nat.lt_of_lt_of_le (heap_lt g4) b2.size)).trans ((b2.block _ (heap_lt g4)).trans g4)) ((alloc_old _ (Nat.lt_of_lt_of_le (heap_lt g5) b2.size)).trans ((b2.block _ (heap_lt g5)).trans g5)) ((alloc_old _ (Nat.lt_of_lt_of_le (heap_lt g6) b2.size)).trans ((b2.block _ (heap_lt g6)).trans g6)) (alloc_new _ _) ((alloc_old _ (heap_lt hl)).trans hl))
 have hB0 := hid ((gB.trans (b2.mono gB.size)).alloc (Nat.le_trans gB.size b2.size) (.cells #[.map (some mb)] 71))
 have hmb := heap_lt hl
 have hsz := b2.size
 rw [gS] at hsz
 clear g2 g3 g4 g5 g6 gB gS hl b2 he
 gi_wp2
 refine wpIn_rangeFunc_ownG hro h1 (gf := 103) (lb := #[.pointer (some ⟨kb, 0, none⟩), .pointer (some ⟨vb, 0, none⟩)]) rfl trivial (enters_of Tryz.func103 (by kernel_rfl) rfl)
  (over_stopsP (n - 1) (by omega) kb vb _ rs w.heap.size w rfl hB0.out HO.out (by omega)) belowK_t (belowK_b (by simp only [World.size_alloc]; omega)) (Below.refl _ _) (fun _ => rfl)
  (fun pre W => ∃ a, readF (pre.map Subtype.val) = some a ∧ RkW w.heap.size (w.heap.size + 1) (w.heap.size + 1 + 1) (w.heap.size + 1 + 1 + 1) (w.heap.size + 1 + 1 + 1 + 1) w2.heap.size mb a W ∧ Below w.heap.size w W)
  (fun c pre W => c = .ret ∧ readF (pre.map Subtype.val) = none ∧ RkE w.heap.size (w.heap.size + 1) W ∧ Below w.heap.size w W)
  (fun pre W W' row h hg hr => by
   obtain ⟨a, e, h, b⟩ := h
   exact ⟨a, e, RkW.own (by simp only [World.size_alloc]; omega) a W W' row h hg hr, ownFrom_below (β := Unit) (Nat.le_refl _) (by simp only [World.size_alloc]; omega) () W W' row b hg hr⟩)
  (fun c pre W W' row h hg hr => by
   obtain ⟨e, e2, h, b⟩ := h
   exact ⟨e, e2, RkE.own () W W' row h hg hr, ownFrom_below (β := Unit) (Nat.le_refl _) (by simp only [World.size_alloc]; omega) () W W' row b hg hr⟩)
  ⟨rd0, rfl, hR0.out, hB0.out⟩
  (fun x => { tmps := #[(.func (.func 103) #[] #[.pointer (some ⟨kb, 0, none⟩), .pointer (some ⟨vb, 0, none⟩)]), undef, .pointer (some ⟨w.heap.size, 0, none⟩), .pointer (some ⟨w.heap.size + 1, 0, none⟩), .pointer (some ⟨w.heap.size + 1 + 1, 0, none⟩), .pointer (some ⟨w.heap.size + 1 + 1 + 1, 0, none⟩), .pointer (some ⟨w.heap.size + 1 + 1 + 1 + 1, 0, none⟩), .pointer (some ⟨w2.heap.size, 0, none⟩), .string x.1.1, .string x.1.2, undef, undef, undef, undef, (.func (.func 103) #[] #[.pointer (some ⟨kb, 0, none⟩), .pointer (some ⟨vb, 0, none⟩)]), .bool false, undef, .map (some mb), (.func (.func 103) #[] #[.pointer (some ⟨kb, 0, none⟩), .pointer (some ⟨vb, 0, none⟩)]), .string x.1.1, .string x.1.2, undef, undef, undef, undef, undef, undef, undef, undef, undef, undef, undef, undef, undef, undef, undef, undef, undef, undef, undef, undef, undef, undef, undef, undef, undef, undef, undef, undef, undef, undef, undef, undef, undef, undef, undef, undef, undef, undef, undef, undef, undef, undef, undef, undef, undef, undef, undef, undef, undef, undef, undef, undef, undef, undef, undef, undef, undef, undef, undef, undef, undef, undef, undef, undef, undef, undef, undef, undef, undef, undef, undef, undef, undef, undef, undef, undef, undef, undef, undef, undef, undef, undef, undef, undef, undef, undef, undef, undef, undef], defers := [] }) ?assign ?body ?done ?stop
 case assign =>
  intro l x W K hK
  gi_wp2
  exact hK
 case body =>
  rintro l pre ⟨⟨rk, rv⟩, hx1, hx2⟩ W ⟨a, ha, hR, hB⟩ hlt
  dsimp only at hx1 hx2 ⊢
  have q5 := cell_of hR.r5 0
  have q6 := cell_of hR.r6 0
  have HR := hid hR
  clear hR
  obtain ⟨fst, last, s⟩ := a
  dsimp only at q5 q6
  have hread : readF ((pre ++ [(⟨(rk, rv), ⟨hx1, hx2⟩⟩ : {x : RowV // Sz x.1 ∧ Sz x.2})]).map Subtype.val) = rdStep (some ⟨fst, last, s⟩) (rk, rv) := by rw [List.map_append, List.map_cons, List.map_nil, readF_snoc, ha]
  simp only [rdStep, Option.bind_some] at hread
  unfold rowStep at hread
  dsimp only at hread
  have Hread := hid hread
  clear hread
  obtain ⟨y0, z0, y1, z1, y2, z2, y3, z3, y4, z4, y5, z5, y6, z6, y7, z7, y8, z8, y9, z9, y10, z10, y11, z11⟩ := cells0_at HR.out.r2
  have y13 := cell_of HR.out.r3 0
  have z13 := free_of HR.out.r3 0
  have hle := le_not last rk
  by_cases h0 : rk.size = 0
  ·
   have e0 : rk.toList = [] := by rw [Lib.toList_data]; exact List.eq_nil_of_length_eq_zero (by simpa using h0)
   clear hle
   gi_wp2
   exact (rk_bad HR.out.r2 HR.out.r3 hB (Nat.le_refl _)).imp id (fun h => ⟨rfl, Hread.out.trans (by rw [if_pos h0]; rfl), h.1, h.2⟩)
  ·
   have e0 : ¬ rk.toList = [] := fun e => h0 (by rw [Lib.toList_data] at e; simpa using congrArg List.length e)
   have e0' : rk.toList.isEmpty = false := by cases hh : rk.toList with | nil => exact absurd hh e0 | cons => rfl
   have hA := is_a rk
   by_cases hfa : (fst != decide (rk = c1 97)) = true
   ·
    have Hn := hid (Hread.out.trans (by rw [if_neg h0, if_pos hfa]))
    cases fst
    ·
     have hda : decide (rk = c1 97) = true := by simpa using hfa
     rw [hda] at hA
     have e2 : rk.toList = [97] := by simpa using hA
     clear hle hfa hda
     gi_wp2
     exact (rk_bad HR.out.r2 HR.out.r3 hB (Nat.le_refl _)).imp id (fun h => ⟨rfl, Hn.out, h.1, h.2⟩)
    ·
     have hda : decide (rk = c1 97) = false := by simpa using hfa
     rw [hda] at hA
     have e2 : ¬ rk.toList = [97] := by simpa using hA
     clear hle hfa hda
     gi_wp2
     exact (rk_bad HR.out.r2 HR.out.r3 hB (Nat.le_refl _)).imp id (fun h => ⟨rfl, Hn.out, h.1, h.2⟩)
   ·
    by_cases hl : fst = false ∧ ltS last rk = false
    ·
     have Hn := hid (Hread.out.trans (by rw [if_neg h0, if_neg hfa, if_pos hl]))
     obtain ⟨rfl, hl⟩ := hl
     have hda : decide (rk = c1 97) = false := by simpa using hfa
     rw [hda] at hA
     have e2 : ¬ rk.toList = [97] := by simpa using hA
     rw [hl] at hle
     cases hb1 : Op.bytesLess rk.toList last.toList
     ·
      rw [hb1] at hle
      have hb2 : (rk.toList == last.toList) = true := by simpa using hle
      clear hle hfa hda hl
      gi_wp2
      exact (rk_bad HR.out.r2 HR.out.r3 hB (Nat.le_refl _)).imp id (fun h => ⟨rfl, Hn.out, h.1, h.2⟩)
     ·
      clear hle hfa hda hl
      gi_wp2
      exact (rk_bad HR.out.r2 HR.out.r3 hB (Nat.le_refl _)).imp id (fun h => ⟨rfl, Hn.out, h.1, h.2⟩)
    ·
     have hg := Hread.out
     rw [if_neg h0, if_neg hfa, if_neg hl] at hg
     have Hg := hid hg
     have hc : (rk.data.toList.headD 0).toNat < 256 := UInt8.toNat_lt _
     have h0' : 0 < rk.size := by omega
     have hget : ∀ h : 0 < rk.size, (rk[0]'h).toNat = (rk.data.toList.headD 0).toNat := fun h => head_get rk h
     generalize (rk.data.toList.headD 0).toNat = c at hg hc hget
     have Hlook := hid (look_run c)
     have Hg := hid hg
     clear hg
     have hgood : (fst = true ∧ rk.toList = [97]) ∨ (fst = false ∧ (rk.toList == [97]) = false ∧ Op.bytesLess rk.toList last.toList = false ∧ (rk.toList == last.toList) = false) := by
      cases fst
      ·
       have hda : decide (rk = c1 97) = false := by simpa using hfa
       rw [hda] at hA
       have hll : ltS last rk = true := by cases h : ltS last rk with | true => rfl | false => exact absurd ⟨rfl, h⟩ hl
       rw [hll] at hle
       simp only [Bool.not_true, Bool.or_eq_false_iff] at hle
       exact .inr ⟨rfl, hA, hle.1, hle.2⟩
      ·
       have hda : decide (rk = c1 97) = true := by simpa using hfa
       rw [hda] at hA
       exact .inl ⟨rfl, by simpa using hA⟩
     clear hle hfa hA hl
     by_cases hn2 : sizeK c = -2
     ·
      replace Hlook := hid (Hlook.out.1 hn2)
      rcases hgood with ⟨rfl, e2⟩ | ⟨rfl, e2, e3, e4⟩
      ·
       gi_wp2
       clear y0 y1 y2 y3 y4 y5 y6 y7 y8 y9 y10 y11 y13 z0 z1 z2 z3 z4 z5 z6 z7 z8 z9 z10 z11 z13
       refine Ps.wpIn_par (Ps.relQ (fun b => W.heap.size ≤ b) (fun _ _ => False)) (fun W' => W'.heap.size = W.heap.size) (false :: false :: false :: false :: false :: false :: false :: true :: true :: false :: []) _ (.fix ?_ :: .fix ?_ :: .fix (.int .u8 (c : Int)) :: .fix (.tuple #[.agg #[.int .i64 0, .nilFunc], .bool false]) :: .fix ?_ :: .fix ?_ :: .fix ?_ :: .sf (.pointer (some ⟨W.heap.size, 0, none⟩)) (fun W' => W'.heap[W.heap.size]? = some (.cells #[.int .i64 0, .nilFunc] 74 (0, 0))) :: .sf undef (fun W' => W'.heap[W.heap.size]? = some (.cells #[.int .i64 0, .nilFunc] 74 (0, 0))) :: .fix ?_ :: []) (by kernel_rfl) (by kernel_rfl) (by simp only [List.length_cons, List.length_nil, List.drop_succ_cons, List.drop_zero, List.drop_nil]; with_reducible rfl) rfl (fun _ _ _ _ _ => ⟨fun h => h, fun h => h⟩) (fun _ _ h hb => by obtain ⟨d, rfl⟩ := hb; exact h) (rfl) (by kernel_rfl) (fun _ _ h => h) ?_
       rotate_left 6
       iterate 2
        first
         | (refine Ps.par_skip (a' := ?_) (by rfl) (by rfl) ?_ ?_ ?_; rotate_left 1; with_reducible rfl; (simp only [lays]; with_reducible rfl))
         | (refine Ps.par_run (a' := ?_) (by rfl) (by rfl) (fun w' hb hn => ?_) ?_ ?_; rotate_left 1; (have q7 := But.cell hb.1 (cell_of HR.out.r7 0) (Nat.not_le.2 (heap_lt HR.out.r7)); go_simp; (try simp (disch := omega) only [nrm, toNatUp, iteOmega]); first | with_reducible rfl | (go_simp; with_reducible rfl)); (simp only [lays]; with_reducible rfl))
       refine Ps.par_run (a' := ?ap1k2) (by rfl) (by rfl) (fun w' hb hn => ?hp1k2) ?pp1k2 ?gp1k2
       case hp1k2 => (go_simp; try (rw [dif_pos h0', hget h0']))
       case pp1k2 => (simp only [lays]; with_reducible rfl)
       refine Ps.par_run (a' := ?ap2k3) (by rfl) (by rfl) (fun w' hb hn => ?hp2k3) ?pp2k3 ?gp2k3
       case hp2k3 => (have hl := Hlook.out w' mb ((hb.1.block mb (heap_lt HR.out.lets) (Nat.not_le.2 (heap_lt HR.out.lets))).trans HR.out.lets); go_simp)
       case pp2k3 => (simp only [lays]; with_reducible rfl)
       iterate 3
        first
         | (refine Ps.par_skip (a' := ?_) (by rfl) (by rfl) ?_ ?_ ?_; rotate_left 1; with_reducible rfl; (simp only [lays]; with_reducible rfl))
         | (refine Ps.par_run (a' := ?_) (by rfl) (by rfl) (fun w' hb hn => ?_) ?_ ?_; rotate_left 1; (have q7 := But.cell hb.1 (cell_of HR.out.r7 0) (Nat.not_le.2 (heap_lt HR.out.r7)); go_simp; (try simp (disch := omega) only [nrm, toNatUp, iteOmega]); first | with_reducible rfl | (go_simp; with_reducible rfl)); (simp only [lays]; with_reducible rfl))
       refine Ps.par_sfr (a' := ?ap3k7) (by rfl) (by rfl) (fun _ _ h hb => by obtain ⟨d, rfl⟩ := hb; exact h) (fun w' hb hn hr => ?hp3k7) ?pp3k7 ?gp3k7
       case hp3k7 => (exact ⟨w'.alloc (.cells #[.int .i64 0, .nilFunc] 74), (by go_simp), ⟨But.of ((Below.refl _ w').alloc (Nat.le_refl _) _), fun _ _ _ h => h.elim⟩, by have := alloc_new w' (.cells #[.int .i64 0, .nilFunc] 74); rw [hr] at this; exact this⟩)
       case pp3k7 => (simp only [lays]; with_reducible rfl)
       refine Ps.par_sfs (a' := ?ap4k8) (by rfl) (by rfl) (fun _ _ h hb => by obtain ⟨d, rfl⟩ := hb; exact h) (fun w' hb hn hr => ?hp4k8) (by rfl) ?pp4k8 ?gp4k8
       case hp4k8 => (have k0 := cell_of hr 0; have k1 := cell_of hr 1; have f0 := free_of hr 0; have f1 := free_of hr 1; have k1' : (w'.setCell ⟨W.heap.size, 0, none⟩ (.int .i64 0)).cell? ⟨W.heap.size, 1, none⟩ = some .nilFunc := cell_of (setCell_at hr 0 _) 1; have f1' : (w'.setCell ⟨W.heap.size, 0, none⟩ (.int .i64 0)).frozen? ⟨W.heap.size, 1, none⟩ = false := free_of (setCell_at hr 0 _) 1; exact ⟨(w'.setCell ⟨W.heap.size, 0, none⟩ (.int .i64 0)).setCell ⟨W.heap.size, 1, none⟩ (.nilFunc), (by go_simp; try with_reducible rfl), ⟨((But.refl _ w').setCell (p := ⟨W.heap.size, 0, none⟩) (fun _ => Nat.le_refl _) _).setCell (p := ⟨W.heap.size, 1, none⟩) (fun _ => Nat.le_refl _) _, fun _ _ _ h => h.elim⟩, setCell_at (setCell_at hr 0 _) 1 _⟩)
       case pp4k8 => with_reducible rfl
       iterate 1
        first
         | (refine Ps.par_skip (a' := ?_) (by rfl) (by rfl) ?_ ?_ ?_; rotate_left 1; with_reducible rfl; (simp only [lays]; with_reducible rfl))
         | (refine Ps.par_run (a' := ?_) (by rfl) (by rfl) (fun w' hb hn => ?_) ?_ ?_; rotate_left 1; (have q7 := But.cell hb.1 (cell_of HR.out.r7 0) (Nat.not_le.2 (heap_lt HR.out.r7)); go_simp; (try simp (disch := omega) only [nrm, toNatUp, iteOmega]); first | with_reducible rfl | (go_simp; with_reducible rfl)); (simp only [lays]; with_reducible rfl))
       refine Ps.par_end (fun w9 hb9 hf9 hr9 => ?_)
       try refine Ps.wpList_none ?_
       have b9 : Below W.heap.size W w9 := hb9.1.below' (n := 0) (fun k h => h) (Nat.le_refl _)
       have R9 := hid (HR.out.below b9)
       have k0 := cell_of hr9 0
       have K9 := hid hr9
       have hB9 := hid (hB.trans (b9.mono hB.size))
       have KF9 := hid (fun B => keeps_from (B := B) (TyBut.of (base := 0) (ts := []) b9))
       clear hb9 hf9 hr9
       obtain ⟨y0, z0, y1, z1, y2, z2, y3, z3, y4, z4, y5, z5, y6, z6, y7, z7, y8, z8, y9, z9, y10, z10, y11, z11⟩ := cells0_at R9.out.r2
       have y13 := cell_of R9.out.r3 0
       have z13 := free_of R9.out.r3 0
       have hbad := fun B => rk_bad (B := B) R9.out.r2 R9.out.r3 hB9.out (Nat.le_refl _)
       replace hbad := hid hbad
       gi_wp2
       all_goals first | exact ⟨(KF9.out _).trans (hbad.out _).1, rfl, Hg.out.trans (by rw [if_pos hn2]; rfl), (hbad.out 0).2⟩ | (rename_i h1 h2; cases h1)
      ·
       gi_wp2
       clear y0 y1 y2 y3 y4 y5 y6 y7 y8 y9 y10 y11 y13 z0 z1 z2 z3 z4 z5 z6 z7 z8 z9 z10 z11 z13
       refine Ps.wpIn_par (Ps.relQ (fun b => W.heap.size ≤ b) (fun _ _ => False)) (fun W' => W'.heap.size = W.heap.size) (false :: false :: false :: false :: false :: false :: false :: true :: true :: false :: []) _ (.fix ?_ :: .fix ?_ :: .fix (.int .u8 (c : Int)) :: .fix (.tuple #[.agg #[.int .i64 0, .nilFunc], .bool false]) :: .fix ?_ :: .fix ?_ :: .fix ?_ :: .sf (.pointer (some ⟨W.heap.size, 0, none⟩)) (fun W' => W'.heap[W.heap.size]? = some (.cells #[.int .i64 0, .nilFunc] 74 (0, 0))) :: .sf undef (fun W' => W'.heap[W.heap.size]? = some (.cells #[.int .i64 0, .nilFunc] 74 (0, 0))) :: .fix ?_ :: []) (by kernel_rfl) (by kernel_rfl) (by simp only [List.length_cons, List.length_nil, List.drop_succ_cons, List.drop_zero, List.drop_nil]; with_reducible rfl) rfl (fun _ _ _ _ _ => ⟨fun h => h, fun h => h⟩) (fun _ _ h hb => by obtain ⟨d, rfl⟩ := hb; exact h) (rfl) (by kernel_rfl) (fun _ _ h => h) ?_
       rotate_left 6
       iterate 2
        first
         | (refine Ps.par_skip (a' := ?_) (by rfl) (by rfl) ?_ ?_ ?_; rotate_left 1; with_reducible rfl; (simp only [lays]; with_reducible rfl))
         | (refine Ps.par_run (a' := ?_) (by rfl) (by rfl) (fun w' hb hn => ?_) ?_ ?_; rotate_left 1; (have q7 := But.cell hb.1 (cell_of HR.out.r7 0) (Nat.not_le.2 (heap_lt HR.out.r7)); go_simp; (try simp (disch := omega) only [nrm, toNatUp, iteOmega]); first | with_reducible rfl | (go_simp; with_reducible rfl)); (simp only [lays]; with_reducible rfl))
       refine Ps.par_run (a' := ?ap5k2) (by rfl) (by rfl) (fun w' hb hn => ?hp5k2) ?pp5k2 ?gp5k2
       case hp5k2 => (go_simp; try (rw [dif_pos h0', hget h0']))
       case pp5k2 => (simp only [lays]; with_reducible rfl)
       refine Ps.par_run (a' := ?ap6k3) (by rfl) (by rfl) (fun w' hb hn => ?hp6k3) ?pp6k3 ?gp6k3
       case hp6k3 => (have hl := Hlook.out w' mb ((hb.1.block mb (heap_lt HR.out.lets) (Nat.not_le.2 (heap_lt HR.out.lets))).trans HR.out.lets); go_simp)
       case pp6k3 => (simp only [lays]; with_reducible rfl)
       iterate 3
        first
         | (refine Ps.par_skip (a' := ?_) (by rfl) (by rfl) ?_ ?_ ?_; rotate_left 1; with_reducible rfl; (simp only [lays]; with_reducible rfl))
         | (refine Ps.par_run (a' := ?_) (by rfl) (by rfl) (fun w' hb hn => ?_) ?_ ?_; rotate_left 1; (have q7 := But.cell hb.1 (cell_of HR.out.r7 0) (Nat.not_le.2 (heap_lt HR.out.r7)); go_simp; (try simp (disch := omega) only [nrm, toNatUp, iteOmega]); first | with_reducible rfl | (go_simp; with_reducible rfl)); (simp only [lays]; with_reducible rfl))
       refine Ps.par_sfr (a' := ?ap7k7) (by rfl) (by rfl) (fun _ _ h hb => by obtain ⟨d, rfl⟩ := hb; exact h) (fun w' hb hn hr => ?hp7k7) ?pp7k7 ?gp7k7
       case hp7k7 => (exact ⟨w'.alloc (.cells #[.int .i64 0, .nilFunc] 74), (by go_simp), ⟨But.of ((Below.refl _ w').alloc (Nat.le_refl _) _), fun _ _ _ h => h.elim⟩, by have := alloc_new w' (.cells #[.int .i64 0, .nilFunc] 74); rw [hr] at this; exact this⟩)
       case pp7k7 => (simp only [lays]; with_reducible rfl)
       refine Ps.par_sfs (a' := ?ap8k8) (by rfl) (by rfl) (fun _ _ h hb => by obtain ⟨d, rfl⟩ := hb; exact h) (fun w' hb hn hr => ?hp8k8) (by rfl) ?pp8k8 ?gp8k8
       case hp8k8 => (have k0 := cell_of hr 0; have k1 := cell_of hr 1; have f0 := free_of hr 0; have f1 := free_of hr 1; have k1' : (w'.setCell ⟨W.heap.size, 0, none⟩ (.int .i64 0)).cell? ⟨W.heap.size, 1, none⟩ = some .nilFunc := cell_of (setCell_at hr 0 _) 1; have f1' : (w'.setCell ⟨W.heap.size, 0, none⟩ (.int .i64 0)).frozen? ⟨W.heap.size, 1, none⟩ = false := free_of (setCell_at hr 0 _) 1; exact ⟨(w'.setCell ⟨W.heap.size, 0, none⟩ (.int .i64 0)).setCell ⟨W.heap.size, 1, none⟩ (.nilFunc), (by go_simp; try with_reducible rfl), ⟨((But.refl _ w').setCell (p := ⟨W.heap.size, 0, none⟩) (fun _ => Nat.le_refl _) _).setCell (p := ⟨W.heap.size, 1, none⟩) (fun _ => Nat.le_refl _) _, fun _ _ _ h => h.elim⟩, setCell_at (setCell_at hr 0 _) 1 _⟩)
       case pp8k8 => with_reducible rfl
       iterate 1
        first
         | (refine Ps.par_skip (a' := ?_) (by rfl) (by rfl) ?_ ?_ ?_; rotate_left 1; with_reducible rfl; (simp only [lays]; with_reducible rfl))
         | (refine Ps.par_run (a' := ?_) (by rfl) (by rfl) (fun w' hb hn => ?_) ?_ ?_; rotate_left 1; (have q7 := But.cell hb.1 (cell_of HR.out.r7 0) (Nat.not_le.2 (heap_lt HR.out.r7)); go_simp; (try simp (disch := omega) only [nrm, toNatUp, iteOmega]); first | with_reducible rfl | (go_simp; with_reducible rfl)); (simp only [lays]; with_reducible rfl))
       refine Ps.par_end (fun w9 hb9 hf9 hr9 => ?_)
       try refine Ps.wpList_none ?_
       have b9 : Below W.heap.size W w9 := hb9.1.below' (n := 0) (fun k h => h) (Nat.le_refl _)
       have R9 := hid (HR.out.below b9)
       have k0 := cell_of hr9 0
       have K9 := hid hr9
       have hB9 := hid (hB.trans (b9.mono hB.size))
       have KF9 := hid (fun B => keeps_from (B := B) (TyBut.of (base := 0) (ts := []) b9))
       clear hb9 hf9 hr9
       obtain ⟨y0, z0, y1, z1, y2, z2, y3, z3, y4, z4, y5, z5, y6, z6, y7, z7, y8, z8, y9, z9, y10, z10, y11, z11⟩ := cells0_at R9.out.r2
       have y13 := cell_of R9.out.r3 0
       have z13 := free_of R9.out.r3 0
       have hbad := fun B => rk_bad (B := B) R9.out.r2 R9.out.r3 hB9.out (Nat.le_refl _)
       replace hbad := hid hbad
       gi_wp2
       all_goals first | exact ⟨(KF9.out _).trans (hbad.out _).1, rfl, Hg.out.trans (by rw [if_pos hn2]; rfl), (hbad.out 0).2⟩ | (rename_i h1 h2; cases h1)
     ·
      replace Hlook := hid (Hlook.out.2 hn2)
      rcases hgood with ⟨rfl, e2⟩ | ⟨rfl, e2, e3, e4⟩
      ·
       gi_wp2
       clear y0 y1 y2 y3 y4 y5 y6 y7 y8 y9 y10 y11 y13 z0 z1 z2 z3 z4 z5 z6 z7 z8 z9 z10 z11 z13
       refine Ps.wpIn_par (Ps.relQ (fun b => W.heap.size ≤ b) (fun _ _ => False)) (fun W' => W'.heap.size = W.heap.size) (false :: false :: false :: false :: false :: false :: false :: true :: true :: false :: []) _ (.fix ?_ :: .fix ?_ :: .fix (.int .u8 (c : Int)) :: .fix (.tuple #[.agg #[.int .i64 (sizeK c), .func (.func (letF c)) #[] #[]], .bool true]) :: .fix ?_ :: .fix ?_ :: .fix ?_ :: .sf (.pointer (some ⟨W.heap.size, 0, none⟩)) (fun W' => W'.heap[W.heap.size]? = some (.cells #[.int .i64 0, .nilFunc] 74 (0, 0))) :: .sf undef (fun W' => W'.heap[W.heap.size]? = some (.cells #[.int .i64 (sizeK c), .func (.func (letF c)) #[] #[]] 74 (0, 0))) :: .fix ?_ :: []) (by kernel_rfl) (by kernel_rfl) (by simp only [List.length_cons, List.length_nil, List.drop_succ_cons, List.drop_zero, List.drop_nil]; with_reducible rfl) rfl (fun _ _ _ _ _ => ⟨fun h => h, fun h => h⟩) (fun _ _ h hb => by obtain ⟨d, rfl⟩ := hb; exact h) (rfl) (by kernel_rfl) (fun _ _ h => h) ?_
       rotate_left 6
       iterate 2
        first
         | (refine Ps.par_skip (a' := ?_) (by rfl) (by rfl) ?_ ?_ ?_; rotate_left 1; with_reducible rfl; (simp only [lays]; with_reducible rfl))
         | (refine Ps.par_run (a' := ?_) (by rfl) (by rfl) (fun w' hb hn => ?_) ?_ ?_; rotate_left 1; (have q7 := But.cell hb.1 (cell_of HR.out.r7 0) (Nat.not_le.2 (heap_lt HR.out.r7)); go_simp; (try simp (disch := omega) only [nrm, toNatUp, iteOmega]); first | with_reducible rfl | (go_simp; with_reducible rfl)); (simp only [lays]; with_reducible rfl))
       refine Ps.par_run (a' := ?ap9k2) (by rfl) (by rfl) (fun w' hb hn => ?hp9k2) ?pp9k2 ?gp9k2
       case hp9k2 => (go_simp; try (rw [dif_pos h0', hget h0']))
       case pp9k2 => (simp only [lays]; with_reducible rfl)
       refine Ps.par_run (a' := ?ap10k3) (by rfl) (by rfl) (fun w' hb hn => ?hp10k3) ?pp10k3 ?gp10k3
       case hp10k3 => (have hl := Hlook.out w' mb ((hb.1.block mb (heap_lt HR.out.lets) (Nat.not_le.2 (heap_lt HR.out.lets))).trans HR.out.lets); go_simp)
       case pp10k3 => (simp only [lays]; with_reducible rfl)
       iterate 3
        first
         | (refine Ps.par_skip (a' := ?_) (by rfl) (by rfl) ?_ ?_ ?_; rotate_left 1; with_reducible rfl; (simp only [lays]; with_reducible rfl))
         | (refine Ps.par_run (a' := ?_) (by rfl) (by rfl) (fun w' hb hn => ?_) ?_ ?_; rotate_left 1; (have q7 := But.cell hb.1 (cell_of HR.out.r7 0) (Nat.not_le.2 (heap_lt HR.out.r7)); go_simp; (try simp (disch := omega) only [nrm, toNatUp, iteOmega]); first | with_reducible rfl | (go_simp; with_reducible rfl)); (simp only [lays]; with_reducible rfl))
       refine Ps.par_sfr (a' := ?ap11k7) (by rfl) (by rfl) (fun _ _ h hb => by obtain ⟨d, rfl⟩ := hb; exact h) (fun w' hb hn hr => ?hp11k7) ?pp11k7 ?gp11k7
       case hp11k7 => (exact ⟨w'.alloc (.cells #[.int .i64 0, .nilFunc] 74), (by go_simp), ⟨But.of ((Below.refl _ w').alloc (Nat.le_refl _) _), fun _ _ _ h => h.elim⟩, by have := alloc_new w' (.cells #[.int .i64 0, .nilFunc] 74); rw [hr] at this; exact this⟩)
       case pp11k7 => (simp only [lays]; with_reducible rfl)
       refine Ps.par_sfs (a' := ?ap12k8) (by rfl) (by rfl) (fun _ _ h hb => by obtain ⟨d, rfl⟩ := hb; exact h) (fun w' hb hn hr => ?hp12k8) (by rfl) ?pp12k8 ?gp12k8
       case hp12k8 => (have k0 := cell_of hr 0; have k1 := cell_of hr 1; have f0 := free_of hr 0; have f1 := free_of hr 1; have k1' : (w'.setCell ⟨W.heap.size, 0, none⟩ (.int .i64 (sizeK c))).cell? ⟨W.heap.size, 1, none⟩ = some .nilFunc := cell_of (setCell_at hr 0 _) 1; have f1' : (w'.setCell ⟨W.heap.size, 0, none⟩ (.int .i64 (sizeK c))).frozen? ⟨W.heap.size, 1, none⟩ = false := free_of (setCell_at hr 0 _) 1; exact ⟨(w'.setCell ⟨W.heap.size, 0, none⟩ (.int .i64 (sizeK c))).setCell ⟨W.heap.size, 1, none⟩ (.func (.func (letF c)) #[] #[]), (by go_simp; try with_reducible rfl), ⟨((But.refl _ w').setCell (p := ⟨W.heap.size, 0, none⟩) (fun _ => Nat.le_refl _) _).setCell (p := ⟨W.heap.size, 1, none⟩) (fun _ => Nat.le_refl _) _, fun _ _ _ h => h.elim⟩, setCell_at (setCell_at hr 0 _) 1 _⟩)
       case pp12k8 => with_reducible rfl
       iterate 1
        first
         | (refine Ps.par_skip (a' := ?_) (by rfl) (by rfl) ?_ ?_ ?_; rotate_left 1; with_reducible rfl; (simp only [lays]; with_reducible rfl))
         | (refine Ps.par_run (a' := ?_) (by rfl) (by rfl) (fun w' hb hn => ?_) ?_ ?_; rotate_left 1; (have q7 := But.cell hb.1 (cell_of HR.out.r7 0) (Nat.not_le.2 (heap_lt HR.out.r7)); go_simp; (try simp (disch := omega) only [nrm, toNatUp, iteOmega]); first | with_reducible rfl | (go_simp; with_reducible rfl)); (simp only [lays]; with_reducible rfl))
       refine Ps.par_end (fun w9 hb9 hf9 hr9 => ?_)
       try refine Ps.wpList_none ?_
       have b9 : Below W.heap.size W w9 := hb9.1.below' (n := 0) (fun k h => h) (Nat.le_refl _)
       have R9 := hid (HR.out.below b9)
       have k0 := cell_of hr9 0
       have K9 := hid hr9
       have hB9 := hid (hB.trans (b9.mono hB.size))
       have KF9 := hid (fun B => keeps_from (B := B) (TyBut.of (base := 0) (ts := []) b9))
       clear hb9 hf9 hr9
       have HM := hid ((read_ok (l := pre.map Subtype.val) (fun x hx => by obtain ⟨y, -, rfl⟩ := List.mem_map.1 hx; exact y.2) ha).each.mono (m := 2097152) (by rw [List.length_map]; omega))
       rcases Classical.em (0 ≤ sizeK c) with hs | hs
       ·
        cases hq : ((((rk.size - 1 : Nat) : Int)) != sizeK c)
        ·
         by_cases h8 : 8 ≤ sizeK c
         ·
          skip
          gi_wp2
          refine ⟨trivial, fun h => absurd h (by decide), (Ps.calls_round (read1_any rv w9)).mono ?_⟩
          rintro e w10 ⟨rfl, hr10, b10, l10⟩
          clear k0
          have R10 := hid (R9.out.below b10)
          have K10 := hid ((b10.block _ (heap_lt K9.out)).trans K9.out)
          have hrb : w.heap.size + 1 + 1 ≤ w9.heap.size := by have := heap_lt R9.out.r5; omega
          have hxb : w.heap.size + 1 + 1 ≤ w10.heap.size := by have := heap_lt R10.out.r5; omega
          have bW10 := hid (b9.trans (b10.mono b9.size))
          clear b10
          generalize w9.heap.size = rb at hr10 l10 hrb ⊢
          have T11 := hid (show TakAt (w10.alloc (.cells #[.pointer (some ⟨w.heap.size + 1 + 1, 0, none⟩), .int .u64 0, .int .i64 0, .string (rk.extract 1 rk.size), .pointer (some ⟨rb, 0, none⟩), .bool false] 81)) w10.heap.size (w.heap.size + 1 + 1) rb 0 0 (rk.extract 1 rk.size) false from alloc_new _ _)
          have R11 := hid (R10.out.below ((Below.refl _ w10).alloc (Nat.le_refl _) (.cells #[.pointer (some ⟨w.heap.size + 1 + 1, 0, none⟩), .int .u64 0, .int .i64 0, .string (rk.extract 1 rk.size), .pointer (some ⟨rb, 0, none⟩), .bool false] 81)))
          have K11 := hid ((alloc_old (.cells #[.pointer (some ⟨w.heap.size + 1 + 1, 0, none⟩), .int .u64 0, .int .i64 0, .string (rk.extract 1 rk.size), .pointer (some ⟨rb, 0, none⟩), .bool false] 81) (heap_lt K10.out)).trans K10.out)
          have I11 := hid (show IsR 168 _ rb ⟨rv, 0⟩ from (alloc_old (.cells #[.pointer (some ⟨w.heap.size + 1 + 1, 0, none⟩), .int .u64 0, .int .i64 0, .string (rk.extract 1 rk.size), .pointer (some ⟨rb, 0, none⟩), .bool false] 81) (heap_lt hr10)).trans hr10)
          have bW11 := hid (bW10.out.trans (((Below.refl _ w10).alloc (Nat.le_refl _) (.cells #[.pointer (some ⟨w.heap.size + 1 + 1, 0, none⟩), .int .u64 0, .int .i64 0, .string (rk.extract 1 rk.size), .pointer (some ⟨rb, 0, none⟩), .bool false] 81)).mono bW10.out.size))
          have k0 : (w10.alloc (.cells #[.pointer (some ⟨w.heap.size + 1 + 1, 0, none⟩), .int .u64 0, .int .i64 0, .string (rk.extract 1 rk.size), .pointer (some ⟨rb, 0, none⟩), .bool false] 81)).cell? ⟨W.heap.size, 0, none⟩ = some (.int .i64 (sizeK c)) := cell_of K11.out 0
          have k1 : (w10.alloc (.cells #[.pointer (some ⟨w.heap.size + 1 + 1, 0, none⟩), .int .u64 0, .int .i64 0, .string (rk.extract 1 rk.size), .pointer (some ⟨rb, 0, none⟩), .bool false] 81)).cell? ⟨W.heap.size, 1, none⟩ = some (.func (.func (letF c)) #[] #[]) := cell_of K11.out 1
          have hent := letF_enters c
          replace hr10 := hid hr10
          gi_wp2
          have hrs : (rk.extract 1 rk.size).size = rk.size - 1 := by simp
          have hsz9 : 0 ≤ sizeK c → (((rk.extract 1 rk.size).size : Nat) : Int) = sizeK c := fun _ => by rw [hrs]; simpa using hq
          have hng := hid (show ¬ (0 ≤ sizeK c ∧ (((rk.extract 1 rk.size).size : Nat) : Int) ≠ sizeK c) from fun h => h.2 (hsz9 h.1))
          have hKN := rowKN_ok c (rk.extract 1 rk.size) hsz9
          have Hg2 := Hg.out.trans (by rw [if_neg hn2, if_neg hng.out])
          have hKNe : rowKN c (rk.extract 1 rk.size) = (numK ((rk.extract 1 rk.size).extract 0 8), (numK ((rk.extract 1 rk.size).extract 8 (rk.extract 1 rk.size).size) : Int)) := by unfold rowKN; rw [if_pos h8]
          rw [hKNe] at hKN Hg2
          dsimp only at hKN Hg2
          replace Hg2 := hid Hg2
          clear hKNe
          have hr8 : 8 ≤ (rk.extract 1 rk.size).size := by have := hsz9 hs; omega
          have hr10' : (rk.extract 1 rk.size).size ≤ 10 := by have := hsz9 hs; have h10 : sizeK c ≤ 10 := (by unfold sizeK; (repeat' split) <;> omega); omega
          clear hsz9 hrs
          generalize w10.alloc (.cells #[.pointer (some ⟨w.heap.size + 1 + 1, 0, none⟩), .int .u64 0, .int .i64 0, .string (rk.extract 1 rk.size), .pointer (some ⟨rb, 0, none⟩), .bool false] 81) = w11 at T11 R11 K11 I11 bW11 k0 k1 ⊢
          generalize (rk.extract 1 rk.size) = rest at T11 hr8 hr10' hng hKN Hg2 ⊢
          have hn16 : numK (rest.extract 8 rest.size) < 65536 := num2 _ (by rw [extract_size]; omega)
          clear k0 k1 hent
          refine Ps.wpIn_par (Ps.relC (fun b => b = w10.heap.size) (fun _ _ => False)) (fun W' => TakAt W' w10.heap.size (w.heap.size + 1 + 1) rb 0 0 rest false) (false :: false :: false :: false :: false :: false :: false :: false :: false :: false :: false :: true :: false :: false :: true :: []) _ (.fix ?_ :: .fix ?_ :: .fix ?_ :: .fix ?_ :: .fix (.int .u64 (numK (rest.extract 0 8))) :: .fix ?_ :: .fix ?_ :: .fix (.int .u64 (numK (rest.extract 8 rest.size) : Int)) :: .fix ?_ :: .fix ?_ :: .fix ?_ :: .sf undef (fun W' => TakAt W' w10.heap.size (w.heap.size + 1 + 1) rb (numK (rest.extract 0 8)) 0 rest false) :: .fix ?_ :: .fix ?_ :: .sf undef (fun W' => TakAt W' w10.heap.size (w.heap.size + 1 + 1) rb (numK (rest.extract 0 8)) (numK (rest.extract 8 rest.size) : Int) rest false) :: []) (by kernel_rfl) (by kernel_rfl) (by simp only [List.length_cons, List.length_nil, List.drop_succ_cons, List.drop_zero, List.drop_nil]; with_reducible rfl) rfl (fun _ _ _ _ _ => ⟨fun h => h, fun h => h⟩) (fun _ _ h hb => (hb.block _ (heap_lt h)).trans h) (T11.out) (by kernel_rfl) (fun _ _ h => h) ?_
          rotate_left 11
          iterate 4
           first
            | (refine Ps.par_skip (a' := ?_) (by rfl) (by rfl) ?_ ?_ ?_; rotate_left 1; with_reducible rfl; (simp only [lays]; with_reducible rfl))
            | (refine Ps.par_run (a' := ?_) (by rfl) (by rfl) (fun w' hb hn => ?_) ?_ ?_; rotate_left 1; (skip; go_simp; (try simp (disch := omega) only [nrm, toNatUp, iteOmega]); first | with_reducible rfl | (go_simp; with_reducible rfl)); (simp only [lays]; with_reducible rfl))
          refine Ps.par_call (a' := ?ap13k4) (f := ?fp13k4) (args := ?rp13k4) (by rfl) (by rfl) (fun w' => ?ep13k4) (fun w' hb hn => ?hp13k4) ?pp13k4 ?gp13k4
          case ep13k4 => (go_simp; constructor <;> with_reducible rfl)
          case hp13k4 => (exact (number14_any _ (by rw [extract_size]; omega) w').mono (fun e w2 ⟨he, hw⟩ => ⟨he, hw ▸ Below.refl _ _⟩))
          case pp13k4 => (simp only [lays]; with_reducible rfl)
          iterate 2
           first
            | (refine Ps.par_skip (a' := ?_) (by rfl) (by rfl) ?_ ?_ ?_; rotate_left 1; with_reducible rfl; (simp only [lays]; with_reducible rfl))
            | (refine Ps.par_run (a' := ?_) (by rfl) (by rfl) (fun w' hb hn => ?_) ?_ ?_; rotate_left 1; (skip; go_simp; (try simp (disch := omega) only [nrm, toNatUp, iteOmega]); first | with_reducible rfl | (go_simp; with_reducible rfl)); (simp only [lays]; with_reducible rfl))
          refine Ps.par_call (a' := ?ap14k7) (f := ?fp14k7) (args := ?rp14k7) (by rfl) (by rfl) (fun w' => ?ep14k7) (fun w' hb hn => ?hp14k7) ?pp14k7 ?gp14k7
          case ep14k7 => (go_simp; constructor <;> with_reducible rfl)
          case hp14k7 => (exact (number14_any _ (by rw [extract_size]; omega) w').mono (fun e w2 ⟨he, hw⟩ => ⟨he, hw ▸ Below.refl _ _⟩))
          case pp14k7 => (simp only [lays]; with_reducible rfl)
          iterate 3
           first
            | (refine Ps.par_skip (a' := ?_) (by rfl) (by rfl) ?_ ?_ ?_; rotate_left 1; with_reducible rfl; (simp only [lays]; with_reducible rfl))
            | (refine Ps.par_run (a' := ?_) (by rfl) (by rfl) (fun w' hb hn => ?_) ?_ ?_; rotate_left 1; (skip; go_simp; (try simp (disch := omega) only [nrm, toNatUp, iteOmega]); first | with_reducible rfl | (go_simp; with_reducible rfl)); (simp only [lays]; with_reducible rfl))
          refine Ps.par_sfs (a' := ?ap15k11) (by rfl) (by rfl) (fun _ _ h hb => (hb.block _ (heap_lt h)).trans h) (fun w' hb hn hr => ?hp15k11) (by rfl) ?pp15k11 ?gp15k11
          case hp15k11 => (have k1 := cell_of hr 1; have f1 := free_of hr 1; exact ⟨w'.setCell ⟨w10.heap.size, 1, none⟩ (.int .u64 (numK (rest.extract 0 8))), (by go_simp; try with_reducible rfl), ⟨Rb.set (w := w') w10.heap.size 1 _, fun _ _ _ h => h.elim⟩, setCell_at hr 1 _⟩)
          case pp15k11 => with_reducible rfl
          iterate 2
           first
            | (refine Ps.par_skip (a' := ?_) (by rfl) (by rfl) ?_ ?_ ?_; rotate_left 1; with_reducible rfl; (simp only [lays]; with_reducible rfl))
            | (refine Ps.par_run (a' := ?_) (by rfl) (by rfl) (fun w' hb hn => ?_) ?_ ?_; rotate_left 1; (skip; go_simp; (try simp (disch := omega) only [nrm, toNatUp, iteOmega]); first | with_reducible rfl | (go_simp; with_reducible rfl)); (simp only [lays]; with_reducible rfl))
          refine Ps.par_sfs (a' := ?ap16k14) (by rfl) (by rfl) (fun _ _ h hb => (hb.block _ (heap_lt h)).trans h) (fun w' hb hn hr => ?hp16k14) (by rfl) ?pp16k14 ?gp16k14
          case hp16k14 => (have k1 := cell_of hr 2; have f1 := free_of hr 2; exact ⟨w'.setCell ⟨w10.heap.size, 2, none⟩ (.int .i64 (numK (rest.extract 8 rest.size) : Int)), (by go_simp; try with_reducible rfl), ⟨Rb.set (w := w') w10.heap.size 2 _, fun _ _ _ h => h.elim⟩, setCell_at hr 2 _⟩)
          case pp16k14 => with_reducible rfl
          refine Ps.par_end (fun w9 hb9 hf9 hr9 => ?_)
          try refine Ps.wpList_none ?_
          clear hf9
          have T9 : TyBut (w.heap.size + 1 + 1) [81] w11 w9 := hb9.1.mono (fun i _ hi => by subst hi; exact ⟨_, _, _, T11.out, by decide, hxb⟩)
          have n9 : w.heap.size + 1 + 1 ≤ w11.heap.size := by have := heap_lt R11.out.r5; omega
          have KF11 := hid (fun B => (keeps_from (B := B) (TyBut.of (base := 0) (ts := []) bW11.out)).trans (keeps_from (B := B) T9))
          have bW12 := hid ((bW11.out.mono hB.size).trans ((T9.below n9).mono (show w.heap.size ≤ w.heap.size + 1 + 1 by omega)))
          replace R11 := hid (RkW.lets' R11.out (by omega) (by omega) (R11.out.st.kept T9.kept (by decide) (by decide) (by decide) (by decide)) (T9.weak (by decide)))
          replace K11 := hid (T9.at K11.out (by decide))
          replace I11 := hid (show IsR _ _ rb ⟨rv, 0⟩ from T9.at I11.out (by decide))
          replace T11 := hid hr9
          clear hr9 hb9 T9
          have k1 := cell_of K11.out 1
          have hent := letF_enters c
          gi_wp2
          have hsw : w.heap.size + 1 + 1 ≤ w9.heap.size := by have := heap_lt R11.out.r5; omega
          clear k1 hent
          refine ⟨trivial, fun h => absurd h (by decide), (Ps.calls_round (let_any c hn2 w10.heap.size (w.heap.size + 1 + 1) rb (numK (rest.extract 0 8)) (numK (rest.extract 8 rest.size) : Int) rest false s ⟨rv, 0⟩ w9 (w.heap.size + 1 + 1) hsw hxb (Nat.le_refl _) hrb T11.out R11.out.st I11.out (by unfold Sz at hx2; show rv.size ≤ _; omega) hKN.1 hKN.2 HM.out)).mono ?_⟩
          rintro e w13 ⟨rfl, hx13, hs13, hr13, t13⟩
          have R13 := hid (R11.out.lets' (by omega) (by omega) hs13 t13)
          have bW13 := hid (bW12.out.trans ((t13.below hsw).mono (show w.heap.size ≤ w.heap.size + 1 + 1 by omega)))
          have KF13 := hid (fun B => (KF11.out B).trans (keeps_from (B := B) t13))
          revert Hg2 hx13 hr13 R13
          generalize stepOf c (numK (rest.extract 0 8)) (numK (rest.extract 8 rest.size) : Int) rest s ⟨rv, 0⟩ = st
          obtain ⟨s', r', bad⟩ := st
          intro Hg2 hx13 hr13 R13
          dsimp only at Hg2 hx13 hr13 R13
          have c4 := cell_of hx13 4
          have c5 := cell_of hx13 5
          clear hs13 t13 hx13
          have hbad := hid (fun B => rk_bad (B := B) R13.out.r2 R13.out.r3 (hB.trans bW13.out) (Nat.le_refl _))
          have Hr13 := hid hr13
          clear hr13
          cases bad
          ·
           gi_wp2
           refine ⟨trivial, fun h => absurd h (by decide), (Ps.calls_round (rdEnd_any rb r' w13 Hr13.out)).mono ?_⟩
           rintro e w14 ⟨rfl, rfl⟩
           by_cases he : endR r' = 0
           ·
            have y5 := cell_of R13.out.r5 0
            have z5 := free_of R13.out.r5 0
            have y6 := cell_of R13.out.r6 0
            have z6 := free_of R13.out.r6 0
            clear c4 c5
            gi_wp2
            obtain ⟨Rn, Tn, C1, C2⟩ := R13.out.step rk
            have hl13 : w.heap.size ≤ w13.heap.size := Nat.le_trans hB.size bW13.out.size
            have bE := (bW13.out.trans (Rb_below C1 (by omega) hl13)).trans (Rb_below C2 (by omega) (Nat.le_trans hl13 C1.size))
            exact ⟨(KF13.out _).trans (keeps_from Tn), bE, _, Hg2.out.trans (by rw [if_neg (by simp [he])]; rfl), Rn, hB.trans bE⟩
           ·
            clear c4 c5
            obtain ⟨y0, z0, y1, z1, y2, z2, y3, z3, y4, z4, y5, z5, y6, z6, y7, z7, y8, z8, y9, z9, y10, z10, y11, z11⟩ := cells0_at R13.out.r2
            have y13 := cell_of R13.out.r3 0
            have z13 := free_of R13.out.r3 0
            gi_wp2
            exact ⟨(KF13.out _).trans (hbad.out _).1, rfl, Hg2.out.trans (by rw [if_pos (.inr he)]; rfl), (hbad.out 0).2⟩
          ·
           skip
           obtain ⟨y0, z0, y1, z1, y2, z2, y3, z3, y4, z4, y5, z5, y6, z6, y7, z7, y8, z8, y9, z9, y10, z10, y11, z11⟩ := cells0_at R13.out.r2
           have y13 := cell_of R13.out.r3 0
           have z13 := free_of R13.out.r3 0
           gi_wp2
           refine ⟨trivial, ?_⟩
           gi_wp2
           exact ⟨(KF13.out _).trans (hbad.out _).1, rfl, Hg2.out.trans (by rw [if_pos (.inl (by trivial))]; rfl), (hbad.out 0).2⟩
         ·
          skip
          gi_wp2
          refine ⟨trivial, fun h => absurd h (by decide), (Ps.calls_round (read1_any rv w9)).mono ?_⟩
          rintro e w10 ⟨rfl, hr10, b10, l10⟩
          clear k0
          have R10 := hid (R9.out.below b10)
          have K10 := hid ((b10.block _ (heap_lt K9.out)).trans K9.out)
          have hrb : w.heap.size + 1 + 1 ≤ w9.heap.size := by have := heap_lt R9.out.r5; omega
          have hxb : w.heap.size + 1 + 1 ≤ w10.heap.size := by have := heap_lt R10.out.r5; omega
          have bW10 := hid (b9.trans (b10.mono b9.size))
          clear b10
          generalize w9.heap.size = rb at hr10 l10 hrb ⊢
          have T11 := hid (show TakAt (w10.alloc (.cells #[.pointer (some ⟨w.heap.size + 1 + 1, 0, none⟩), .int .u64 0, .int .i64 0, .string (rk.extract 1 rk.size), .pointer (some ⟨rb, 0, none⟩), .bool false] 81)) w10.heap.size (w.heap.size + 1 + 1) rb 0 0 (rk.extract 1 rk.size) false from alloc_new _ _)
          have R11 := hid (R10.out.below ((Below.refl _ w10).alloc (Nat.le_refl _) (.cells #[.pointer (some ⟨w.heap.size + 1 + 1, 0, none⟩), .int .u64 0, .int .i64 0, .string (rk.extract 1 rk.size), .pointer (some ⟨rb, 0, none⟩), .bool false] 81)))
          have K11 := hid ((alloc_old (.cells #[.pointer (some ⟨w.heap.size + 1 + 1, 0, none⟩), .int .u64 0, .int .i64 0, .string (rk.extract 1 rk.size), .pointer (some ⟨rb, 0, none⟩), .bool false] 81) (heap_lt K10.out)).trans K10.out)
          have I11 := hid (show IsR 168 _ rb ⟨rv, 0⟩ from (alloc_old (.cells #[.pointer (some ⟨w.heap.size + 1 + 1, 0, none⟩), .int .u64 0, .int .i64 0, .string (rk.extract 1 rk.size), .pointer (some ⟨rb, 0, none⟩), .bool false] 81) (heap_lt hr10)).trans hr10)
          have bW11 := hid (bW10.out.trans (((Below.refl _ w10).alloc (Nat.le_refl _) (.cells #[.pointer (some ⟨w.heap.size + 1 + 1, 0, none⟩), .int .u64 0, .int .i64 0, .string (rk.extract 1 rk.size), .pointer (some ⟨rb, 0, none⟩), .bool false] 81)).mono bW10.out.size))
          have k0 : (w10.alloc (.cells #[.pointer (some ⟨w.heap.size + 1 + 1, 0, none⟩), .int .u64 0, .int .i64 0, .string (rk.extract 1 rk.size), .pointer (some ⟨rb, 0, none⟩), .bool false] 81)).cell? ⟨W.heap.size, 0, none⟩ = some (.int .i64 (sizeK c)) := cell_of K11.out 0
          have k1 : (w10.alloc (.cells #[.pointer (some ⟨w.heap.size + 1 + 1, 0, none⟩), .int .u64 0, .int .i64 0, .string (rk.extract 1 rk.size), .pointer (some ⟨rb, 0, none⟩), .bool false] 81)).cell? ⟨W.heap.size, 1, none⟩ = some (.func (.func (letF c)) #[] #[]) := cell_of K11.out 1
          have hent := letF_enters c
          replace hr10 := hid hr10
          gi_wp2
          have hrs : (rk.extract 1 rk.size).size = rk.size - 1 := by simp
          have hsz9 : 0 ≤ sizeK c → (((rk.extract 1 rk.size).size : Nat) : Int) = sizeK c := fun _ => by rw [hrs]; simpa using hq
          have hng := hid (show ¬ (0 ≤ sizeK c ∧ (((rk.extract 1 rk.size).size : Nat) : Int) ≠ sizeK c) from fun h => h.2 (hsz9 h.1))
          have hKN := rowKN_ok c (rk.extract 1 rk.size) hsz9
          have Hg2 := Hg.out.trans (by rw [if_neg hn2, if_neg hng.out])
          have hKNe : rowKN c (rk.extract 1 rk.size) = (0, 0) := by unfold rowKN; rw [if_neg (by omega)]
          rw [hKNe] at hKN Hg2
          dsimp only at hKN Hg2
          replace Hg2 := hid Hg2
          clear hKNe
          generalize w10.alloc (.cells #[.pointer (some ⟨w.heap.size + 1 + 1, 0, none⟩), .int .u64 0, .int .i64 0, .string (rk.extract 1 rk.size), .pointer (some ⟨rb, 0, none⟩), .bool false] 81) = w11 at T11 R11 K11 I11 bW11 k0 k1 ⊢
          clear k0
          have KF11 := hid (fun B => keeps_from (B := B) (TyBut.of (base := 0) (ts := []) bW11.out))
          have bW12 := hid (bW11.out.mono hB.size)
          have hsw : w.heap.size + 1 + 1 ≤ w11.heap.size := by have := heap_lt R11.out.r5; omega
          clear k1 hent
          refine ⟨trivial, fun h => absurd h (by decide), (Ps.calls_round (let_any c hn2 w10.heap.size (w.heap.size + 1 + 1) rb 0 0 (rk.extract 1 rk.size) false s ⟨rv, 0⟩ w11 (w.heap.size + 1 + 1) hsw hxb (Nat.le_refl _) hrb T11.out R11.out.st I11.out (by unfold Sz at hx2; show rv.size ≤ _; omega) hKN.1 hKN.2 HM.out)).mono ?_⟩
          rintro e w13 ⟨rfl, hx13, hs13, hr13, t13⟩
          have R13 := hid (R11.out.lets' (by omega) (by omega) hs13 t13)
          have bW13 := hid (bW12.out.trans ((t13.below hsw).mono (show w.heap.size ≤ w.heap.size + 1 + 1 by omega)))
          have KF13 := hid (fun B => (KF11.out B).trans (keeps_from (B := B) t13))
          revert Hg2 hx13 hr13 R13
          generalize stepOf c 0 0 (rk.extract 1 rk.size) s ⟨rv, 0⟩ = st
          obtain ⟨s', r', bad⟩ := st
          intro Hg2 hx13 hr13 R13
          dsimp only at Hg2 hx13 hr13 R13
          have c4 := cell_of hx13 4
          have c5 := cell_of hx13 5
          clear hs13 t13 hx13
          have hbad := hid (fun B => rk_bad (B := B) R13.out.r2 R13.out.r3 (hB.trans bW13.out) (Nat.le_refl _))
          have Hr13 := hid hr13
          clear hr13
          cases bad
          ·
           gi_wp2
           refine ⟨trivial, fun h => absurd h (by decide), (Ps.calls_round (rdEnd_any rb r' w13 Hr13.out)).mono ?_⟩
           rintro e w14 ⟨rfl, rfl⟩
           by_cases he : endR r' = 0
           ·
            have y5 := cell_of R13.out.r5 0
            have z5 := free_of R13.out.r5 0
            have y6 := cell_of R13.out.r6 0
            have z6 := free_of R13.out.r6 0
            clear c4 c5
            gi_wp2
            obtain ⟨Rn, Tn, C1, C2⟩ := R13.out.step rk
            have hl13 : w.heap.size ≤ w13.heap.size := Nat.le_trans hB.size bW13.out.size
            have bE := (bW13.out.trans (Rb_below C1 (by omega) hl13)).trans (Rb_below C2 (by omega) (Nat.le_trans hl13 C1.size))
            exact ⟨(KF13.out _).trans (keeps_from Tn), bE, _, Hg2.out.trans (by rw [if_neg (by simp [he])]; rfl), Rn, hB.trans bE⟩
           ·
            clear c4 c5
            obtain ⟨y0, z0, y1, z1, y2, z2, y3, z3, y4, z4, y5, z5, y6, z6, y7, z7, y8, z8, y9, z9, y10, z10, y11, z11⟩ := cells0_at R13.out.r2
            have y13 := cell_of R13.out.r3 0
            have z13 := free_of R13.out.r3 0
            gi_wp2
            exact ⟨(KF13.out _).trans (hbad.out _).1, rfl, Hg2.out.trans (by rw [if_pos (.inr he)]; rfl), (hbad.out 0).2⟩
          ·
           skip
           obtain ⟨y0, z0, y1, z1, y2, z2, y3, z3, y4, z4, y5, z5, y6, z6, y7, z7, y8, z8, y9, z9, y10, z10, y11, z11⟩ := cells0_at R13.out.r2
           have y13 := cell_of R13.out.r3 0
           have z13 := free_of R13.out.r3 0
           gi_wp2
           refine ⟨trivial, ?_⟩
           gi_wp2
           exact ⟨(KF13.out _).trans (hbad.out _).1, rfl, Hg2.out.trans (by rw [if_pos (.inl (by trivial))]; rfl), (hbad.out 0).2⟩
        ·
         skip
         obtain ⟨y0, z0, y1, z1, y2, z2, y3, z3, y4, z4, y5, z5, y6, z6, y7, z7, y8, z8, y9, z9, y10, z10, y11, z11⟩ := cells0_at R9.out.r2
         have y13 := cell_of R9.out.r3 0
         have z13 := free_of R9.out.r3 0
         have hbad := fun B => rk_bad (B := B) R9.out.r2 R9.out.r3 hB9.out (Nat.le_refl _)
         replace hbad := hid hbad
         gi_wp2
         all_goals first | exact ⟨(KF9.out _).trans (hbad.out _).1, rfl, Hg.out.trans (by rw [if_neg hn2, if_pos ⟨hs, by rw [show (rk.extract 1 rk.size).size = rk.size - 1 by simp]; simpa using hq⟩]; rfl), (hbad.out 0).2⟩ | (rename_i h1 h2; cases h1)
       ·
        skip
        gi_wp2
        refine ⟨trivial, fun h => absurd h (by decide), (Ps.calls_round (read1_any rv w9)).mono ?_⟩
        rintro e w10 ⟨rfl, hr10, b10, l10⟩
        clear k0
        have R10 := hid (R9.out.below b10)
        have K10 := hid ((b10.block _ (heap_lt K9.out)).trans K9.out)
        have hrb : w.heap.size + 1 + 1 ≤ w9.heap.size := by have := heap_lt R9.out.r5; omega
        have hxb : w.heap.size + 1 + 1 ≤ w10.heap.size := by have := heap_lt R10.out.r5; omega
        have bW10 := hid (b9.trans (b10.mono b9.size))
        clear b10
        generalize w9.heap.size = rb at hr10 l10 hrb ⊢
        have T11 := hid (show TakAt (w10.alloc (.cells #[.pointer (some ⟨w.heap.size + 1 + 1, 0, none⟩), .int .u64 0, .int .i64 0, .string (rk.extract 1 rk.size), .pointer (some ⟨rb, 0, none⟩), .bool false] 81)) w10.heap.size (w.heap.size + 1 + 1) rb 0 0 (rk.extract 1 rk.size) false from alloc_new _ _)
        have R11 := hid (R10.out.below ((Below.refl _ w10).alloc (Nat.le_refl _) (.cells #[.pointer (some ⟨w.heap.size + 1 + 1, 0, none⟩), .int .u64 0, .int .i64 0, .string (rk.extract 1 rk.size), .pointer (some ⟨rb, 0, none⟩), .bool false] 81)))
        have K11 := hid ((alloc_old (.cells #[.pointer (some ⟨w.heap.size + 1 + 1, 0, none⟩), .int .u64 0, .int .i64 0, .string (rk.extract 1 rk.size), .pointer (some ⟨rb, 0, none⟩), .bool false] 81) (heap_lt K10.out)).trans K10.out)
        have I11 := hid (show IsR 168 _ rb ⟨rv, 0⟩ from (alloc_old (.cells #[.pointer (some ⟨w.heap.size + 1 + 1, 0, none⟩), .int .u64 0, .int .i64 0, .string (rk.extract 1 rk.size), .pointer (some ⟨rb, 0, none⟩), .bool false] 81) (heap_lt hr10)).trans hr10)
        have bW11 := hid (bW10.out.trans (((Below.refl _ w10).alloc (Nat.le_refl _) (.cells #[.pointer (some ⟨w.heap.size + 1 + 1, 0, none⟩), .int .u64 0, .int .i64 0, .string (rk.extract 1 rk.size), .pointer (some ⟨rb, 0, none⟩), .bool false] 81)).mono bW10.out.size))
        have k0 : (w10.alloc (.cells #[.pointer (some ⟨w.heap.size + 1 + 1, 0, none⟩), .int .u64 0, .int .i64 0, .string (rk.extract 1 rk.size), .pointer (some ⟨rb, 0, none⟩), .bool false] 81)).cell? ⟨W.heap.size, 0, none⟩ = some (.int .i64 (sizeK c)) := cell_of K11.out 0
        have k1 : (w10.alloc (.cells #[.pointer (some ⟨w.heap.size + 1 + 1, 0, none⟩), .int .u64 0, .int .i64 0, .string (rk.extract 1 rk.size), .pointer (some ⟨rb, 0, none⟩), .bool false] 81)).cell? ⟨W.heap.size, 1, none⟩ = some (.func (.func (letF c)) #[] #[]) := cell_of K11.out 1
        have hent := letF_enters c
        replace hr10 := hid hr10
        gi_wp2
        have hrs : (rk.extract 1 rk.size).size = rk.size - 1 := by simp
        have hng := hid (show ¬ (0 ≤ sizeK c ∧ (((rk.extract 1 rk.size).size : Nat) : Int) ≠ sizeK c) from fun h => absurd h.1 (by omega))
        have hsz9 : 0 ≤ sizeK c → (((rk.extract 1 rk.size).size : Nat) : Int) = sizeK c := fun h => absurd h (by omega)
        have hKN := rowKN_ok c (rk.extract 1 rk.size) hsz9
        have Hg2 := Hg.out.trans (by rw [if_neg hn2, if_neg hng.out])
        have hKNe : rowKN c (rk.extract 1 rk.size) = (0, 0) := by unfold rowKN; rw [if_neg (by omega)]
        rw [hKNe] at hKN Hg2
        dsimp only at hKN Hg2
        replace Hg2 := hid Hg2
        clear hKNe
        generalize w10.alloc (.cells #[.pointer (some ⟨w.heap.size + 1 + 1, 0, none⟩), .int .u64 0, .int .i64 0, .string (rk.extract 1 rk.size), .pointer (some ⟨rb, 0, none⟩), .bool false] 81) = w11 at T11 R11 K11 I11 bW11 k0 k1 ⊢
        clear k0
        have KF11 := hid (fun B => keeps_from (B := B) (TyBut.of (base := 0) (ts := []) bW11.out))
        have bW12 := hid (bW11.out.mono hB.size)
        have hsw : w.heap.size + 1 + 1 ≤ w11.heap.size := by have := heap_lt R11.out.r5; omega
        clear k1 hent
        refine ⟨trivial, fun h => absurd h (by decide), (Ps.calls_round (let_any c hn2 w10.heap.size (w.heap.size + 1 + 1) rb 0 0 (rk.extract 1 rk.size) false s ⟨rv, 0⟩ w11 (w.heap.size + 1 + 1) hsw hxb (Nat.le_refl _) hrb T11.out R11.out.st I11.out (by unfold Sz at hx2; show rv.size ≤ _; omega) hKN.1 hKN.2 HM.out)).mono ?_⟩
        rintro e w13 ⟨rfl, hx13, hs13, hr13, t13⟩
        have R13 := hid (R11.out.lets' (by omega) (by omega) hs13 t13)
        have bW13 := hid (bW12.out.trans ((t13.below hsw).mono (show w.heap.size ≤ w.heap.size + 1 + 1 by omega)))
        have KF13 := hid (fun B => (KF11.out B).trans (keeps_from (B := B) t13))
        revert Hg2 hx13 hr13 R13
        generalize stepOf c 0 0 (rk.extract 1 rk.size) s ⟨rv, 0⟩ = st
        obtain ⟨s', r', bad⟩ := st
        intro Hg2 hx13 hr13 R13
        dsimp only at Hg2 hx13 hr13 R13
        have c4 := cell_of hx13 4
        have c5 := cell_of hx13 5
        clear hs13 t13 hx13
        have hbad := hid (fun B => rk_bad (B := B) R13.out.r2 R13.out.r3 (hB.trans bW13.out) (Nat.le_refl _))
        have Hr13 := hid hr13
        clear hr13
        cases bad
        ·
         gi_wp2
         refine ⟨trivial, fun h => absurd h (by decide), (Ps.calls_round (rdEnd_any rb r' w13 Hr13.out)).mono ?_⟩
         rintro e w14 ⟨rfl, rfl⟩
         by_cases he : endR r' = 0
         ·
          have y5 := cell_of R13.out.r5 0
          have z5 := free_of R13.out.r5 0
          have y6 := cell_of R13.out.r6 0
          have z6 := free_of R13.out.r6 0
          clear c4 c5
          gi_wp2
          obtain ⟨Rn, Tn, C1, C2⟩ := R13.out.step rk
          have hl13 : w.heap.size ≤ w13.heap.size := Nat.le_trans hB.size bW13.out.size
          have bE := (bW13.out.trans (Rb_below C1 (by omega) hl13)).trans (Rb_below C2 (by omega) (Nat.le_trans hl13 C1.size))
          exact ⟨(KF13.out _).trans (keeps_from Tn), bE, _, Hg2.out.trans (by rw [if_neg (by simp [he])]; rfl), Rn, hB.trans bE⟩
         ·
          clear c4 c5
          obtain ⟨y0, z0, y1, z1, y2, z2, y3, z3, y4, z4, y5, z5, y6, z6, y7, z7, y8, z8, y9, z9, y10, z10, y11, z11⟩ := cells0_at R13.out.r2
          have y13 := cell_of R13.out.r3 0
          have z13 := free_of R13.out.r3 0
          gi_wp2
          exact ⟨(KF13.out _).trans (hbad.out _).1, rfl, Hg2.out.trans (by rw [if_pos (.inr he)]; rfl), (hbad.out 0).2⟩
        ·
         skip
         obtain ⟨y0, z0, y1, z1, y2, z2, y3, z3, y4, z4, y5, z5, y6, z6, y7, z7, y8, z8, y9, z9, y10, z10, y11, z11⟩ := cells0_at R13.out.r2
         have y13 := cell_of R13.out.r3 0
         have z13 := free_of R13.out.r3 0
         gi_wp2
         refine ⟨trivial, ?_⟩
         gi_wp2
         exact ⟨(KF13.out _).trans (hbad.out _).1, rfl, Hg2.out.trans (by rw [if_pos (.inl (by trivial))]; rfl), (hbad.out 0).2⟩
      ·
       gi_wp2
       clear y0 y1 y2 y3 y4 y5 y6 y7 y8 y9 y10 y11 y13 z0 z1 z2 z3 z4 z5 z6 z7 z8 z9 z10 z11 z13
       refine Ps.wpIn_par (Ps.relQ (fun b => W.heap.size ≤ b) (fun _ _ => False)) (fun W' => W'.heap.size = W.heap.size) (false :: false :: false :: false :: false :: false :: false :: true :: true :: false :: []) _ (.fix ?_ :: .fix ?_ :: .fix (.int .u8 (c : Int)) :: .fix (.tuple #[.agg #[.int .i64 (sizeK c), .func (.func (letF c)) #[] #[]], .bool true]) :: .fix ?_ :: .fix ?_ :: .fix ?_ :: .sf (.pointer (some ⟨W.heap.size, 0, none⟩)) (fun W' => W'.heap[W.heap.size]? = some (.cells #[.int .i64 0, .nilFunc] 74 (0, 0))) :: .sf undef (fun W' => W'.heap[W.heap.size]? = some (.cells #[.int .i64 (sizeK c), .func (.func (letF c)) #[] #[]] 74 (0, 0))) :: .fix ?_ :: []) (by kernel_rfl) (by kernel_rfl) (by simp only [List.length_cons, List.length_nil, List.drop_succ_cons, List.drop_zero, List.drop_nil]; with_reducible rfl) rfl (fun _ _ _ _ _ => ⟨fun h => h, fun h => h⟩) (fun _ _ h hb => by obtain ⟨d, rfl⟩ := hb; exact h) (rfl) (by kernel_rfl) (fun _ _ h => h) ?_
       rotate_left 6
       iterate 2
        first
         | (refine Ps.par_skip (a' := ?_) (by rfl) (by rfl) ?_ ?_ ?_; rotate_left 1; with_reducible rfl; (simp only [lays]; with_reducible rfl))
         | (refine Ps.par_run (a' := ?_) (by rfl) (by rfl) (fun w' hb hn => ?_) ?_ ?_; rotate_left 1; (have q7 := But.cell hb.1 (cell_of HR.out.r7 0) (Nat.not_le.2 (heap_lt HR.out.r7)); go_simp; (try simp (disch := omega) only [nrm, toNatUp, iteOmega]); first | with_reducible rfl | (go_simp; with_reducible rfl)); (simp only [lays]; with_reducible rfl))
       refine Ps.par_run (a' := ?ap17k2) (by rfl) (by rfl) (fun w' hb hn => ?hp17k2) ?pp17k2 ?gp17k2
       case hp17k2 => (go_simp; try (rw [dif_pos h0', hget h0']))
       case pp17k2 => (simp only [lays]; with_reducible rfl)
       refine Ps.par_run (a' := ?ap18k3) (by rfl) (by rfl) (fun w' hb hn => ?hp18k3) ?pp18k3 ?gp18k3
       case hp18k3 => (have hl := Hlook.out w' mb ((hb.1.block mb (heap_lt HR.out.lets) (Nat.not_le.2 (heap_lt HR.out.lets))).trans HR.out.lets); go_simp)
       case pp18k3 => (simp only [lays]; with_reducible rfl)
       iterate 3
        first
         | (refine Ps.par_skip (a' := ?_) (by rfl) (by rfl) ?_ ?_ ?_; rotate_left 1; with_reducible rfl; (simp only [lays]; with_reducible rfl))
         | (refine Ps.par_run (a' := ?_) (by rfl) (by rfl) (fun w' hb hn => ?_) ?_ ?_; rotate_left 1; (have q7 := But.cell hb.1 (cell_of HR.out.r7 0) (Nat.not_le.2 (heap_lt HR.out.r7)); go_simp; (try simp (disch := omega) only [nrm, toNatUp, iteOmega]); first | with_reducible rfl | (go_simp; with_reducible rfl)); (simp only [lays]; with_reducible rfl))
       refine Ps.par_sfr (a' := ?ap19k7) (by rfl) (by rfl) (fun _ _ h hb => by obtain ⟨d, rfl⟩ := hb; exact h) (fun w' hb hn hr => ?hp19k7) ?pp19k7 ?gp19k7
       case hp19k7 => (exact ⟨w'.alloc (.cells #[.int .i64 0, .nilFunc] 74), (by go_simp), ⟨But.of ((Below.refl _ w').alloc (Nat.le_refl _) _), fun _ _ _ h => h.elim⟩, by have := alloc_new w' (.cells #[.int .i64 0, .nilFunc] 74); rw [hr] at this; exact this⟩)
       case pp19k7 => (simp only [lays]; with_reducible rfl)
       refine Ps.par_sfs (a' := ?ap20k8) (by rfl) (by rfl) (fun _ _ h hb => by obtain ⟨d, rfl⟩ := hb; exact h) (fun w' hb hn hr => ?hp20k8) (by rfl) ?pp20k8 ?gp20k8
       case hp20k8 => (have k0 := cell_of hr 0; have k1 := cell_of hr 1; have f0 := free_of hr 0; have f1 := free_of hr 1; have k1' : (w'.setCell ⟨W.heap.size, 0, none⟩ (.int .i64 (sizeK c))).cell? ⟨W.heap.size, 1, none⟩ = some .nilFunc := cell_of (setCell_at hr 0 _) 1; have f1' : (w'.setCell ⟨W.heap.size, 0, none⟩ (.int .i64 (sizeK c))).frozen? ⟨W.heap.size, 1, none⟩ = false := free_of (setCell_at hr 0 _) 1; exact ⟨(w'.setCell ⟨W.heap.size, 0, none⟩ (.int .i64 (sizeK c))).setCell ⟨W.heap.size, 1, none⟩ (.func (.func (letF c)) #[] #[]), (by go_simp; try with_reducible rfl), ⟨((But.refl _ w').setCell (p := ⟨W.heap.size, 0, none⟩) (fun _ => Nat.le_refl _) _).setCell (p := ⟨W.heap.size, 1, none⟩) (fun _ => Nat.le_refl _) _, fun _ _ _ h => h.elim⟩, setCell_at (setCell_at hr 0 _) 1 _⟩)
       case pp20k8 => with_reducible rfl
       iterate 1
        first
         | (refine Ps.par_skip (a' := ?_) (by rfl) (by rfl) ?_ ?_ ?_; rotate_left 1; with_reducible rfl; (simp only [lays]; with_reducible rfl))
         | (refine Ps.par_run (a' := ?_) (by rfl) (by rfl) (fun w' hb hn => ?_) ?_ ?_; rotate_left 1; (have q7 := But.cell hb.1 (cell_of HR.out.r7 0) (Nat.not_le.2 (heap_lt HR.out.r7)); go_simp; (try simp (disch := omega) only [nrm, toNatUp, iteOmega]); first | with_reducible rfl | (go_simp; with_reducible rfl)); (simp only [lays]; with_reducible rfl))
       refine Ps.par_end (fun w9 hb9 hf9 hr9 => ?_)
       try refine Ps.wpList_none ?_
       have b9 : Below W.heap.size W w9 := hb9.1.below' (n := 0) (fun k h => h) (Nat.le_refl _)
       have R9 := hid (HR.out.below b9)
       have k0 := cell_of hr9 0
       have K9 := hid hr9
       have hB9 := hid (hB.trans (b9.mono hB.size))
       have KF9 := hid (fun B => keeps_from (B := B) (TyBut.of (base := 0) (ts := []) b9))
       clear hb9 hf9 hr9
       have HM := hid ((read_ok (l := pre.map Subtype.val) (fun x hx => by obtain ⟨y, -, rfl⟩ := List.mem_map.1 hx; exact y.2) ha).each.mono (m := 2097152) (by rw [List.length_map]; omega))
       rcases Classical.em (0 ≤ sizeK c) with hs | hs
       ·
        cases hq : ((((rk.size - 1 : Nat) : Int)) != sizeK c)
        ·
         by_cases h8 : 8 ≤ sizeK c
         ·
          skip
          gi_wp2
          refine ⟨trivial, fun h => absurd h (by decide), (Ps.calls_round (read1_any rv w9)).mono ?_⟩
          rintro e w10 ⟨rfl, hr10, b10, l10⟩
          clear k0
          have R10 := hid (R9.out.below b10)
          have K10 := hid ((b10.block _ (heap_lt K9.out)).trans K9.out)
          have hrb : w.heap.size + 1 + 1 ≤ w9.heap.size := by have := heap_lt R9.out.r5; omega
          have hxb : w.heap.size + 1 + 1 ≤ w10.heap.size := by have := heap_lt R10.out.r5; omega
          have bW10 := hid (b9.trans (b10.mono b9.size))
          clear b10
          generalize w9.heap.size = rb at hr10 l10 hrb ⊢
          have T11 := hid (show TakAt (w10.alloc (.cells #[.pointer (some ⟨w.heap.size + 1 + 1, 0, none⟩), .int .u64 0, .int .i64 0, .string (rk.extract 1 rk.size), .pointer (some ⟨rb, 0, none⟩), .bool false] 81)) w10.heap.size (w.heap.size + 1 + 1) rb 0 0 (rk.extract 1 rk.size) false from alloc_new _ _)
          have R11 := hid (R10.out.below ((Below.refl _ w10).alloc (Nat.le_refl _) (.cells #[.pointer (some ⟨w.heap.size + 1 + 1, 0, none⟩), .int .u64 0, .int .i64 0, .string (rk.extract 1 rk.size), .pointer (some ⟨rb, 0, none⟩), .bool false] 81)))
          have K11 := hid ((alloc_old (.cells #[.pointer (some ⟨w.heap.size + 1 + 1, 0, none⟩), .int .u64 0, .int .i64 0, .string (rk.extract 1 rk.size), .pointer (some ⟨rb, 0, none⟩), .bool false] 81) (heap_lt K10.out)).trans K10.out)
          have I11 := hid (show IsR 168 _ rb ⟨rv, 0⟩ from (alloc_old (.cells #[.pointer (some ⟨w.heap.size + 1 + 1, 0, none⟩), .int .u64 0, .int .i64 0, .string (rk.extract 1 rk.size), .pointer (some ⟨rb, 0, none⟩), .bool false] 81) (heap_lt hr10)).trans hr10)
          have bW11 := hid (bW10.out.trans (((Below.refl _ w10).alloc (Nat.le_refl _) (.cells #[.pointer (some ⟨w.heap.size + 1 + 1, 0, none⟩), .int .u64 0, .int .i64 0, .string (rk.extract 1 rk.size), .pointer (some ⟨rb, 0, none⟩), .bool false] 81)).mono bW10.out.size))
          have k0 : (w10.alloc (.cells #[.pointer (some ⟨w.heap.size + 1 + 1, 0, none⟩), .int .u64 0, .int .i64 0, .string (rk.extract 1 rk.size), .pointer (some ⟨rb, 0, none⟩), .bool false] 81)).cell? ⟨W.heap.size, 0, none⟩ = some (.int .i64 (sizeK c)) := cell_of K11.out 0
          have k1 : (w10.alloc (.cells #[.pointer (some ⟨w.heap.size + 1 + 1, 0, none⟩), .int .u64 0, .int .i64 0, .string (rk.extract 1 rk.size), .pointer (some ⟨rb, 0, none⟩), .bool false] 81)).cell? ⟨W.heap.size, 1, none⟩ = some (.func (.func (letF c)) #[] #[]) := cell_of K11.out 1
          have hent := letF_enters c
          replace hr10 := hid hr10
          gi_wp2
          have hrs : (rk.extract 1 rk.size).size = rk.size - 1 := by simp
          have hsz9 : 0 ≤ sizeK c → (((rk.extract 1 rk.size).size : Nat) : Int) = sizeK c := fun _ => by rw [hrs]; simpa using hq
          have hng := hid (show ¬ (0 ≤ sizeK c ∧ (((rk.extract 1 rk.size).size : Nat) : Int) ≠ sizeK c) from fun h => h.2 (hsz9 h.1))
          have hKN := rowKN_ok c (rk.extract 1 rk.size) hsz9
          have Hg2 := Hg.out.trans (by rw [if_neg hn2, if_neg hng.out])
          have hKNe : rowKN c (rk.extract 1 rk.size) = (numK ((rk.extract 1 rk.size).extract 0 8), (numK ((rk.extract 1 rk.size).extract 8 (rk.extract 1 rk.size).size) : Int)) := by unfold rowKN; rw [if_pos h8]
          rw [hKNe] at hKN Hg2
          dsimp only at hKN Hg2
          replace Hg2 := hid Hg2
          clear hKNe
          have hr8 : 8 ≤ (rk.extract 1 rk.size).size := by have := hsz9 hs; omega
          have hr10' : (rk.extract 1 rk.size).size ≤ 10 := by have := hsz9 hs; have h10 : sizeK c ≤ 10 := (by unfold sizeK; (repeat' split) <;> omega); omega
          clear hsz9 hrs
          generalize w10.alloc (.cells #[.pointer (some ⟨w.heap.size + 1 + 1, 0, none⟩), .int .u64 0, .int .i64 0, .string (rk.extract 1 rk.size), .pointer (some ⟨rb, 0, none⟩), .bool false] 81) = w11 at T11 R11 K11 I11 bW11 k0 k1 ⊢
          generalize (rk.extract 1 rk.size) = rest at T11 hr8 hr10' hng hKN Hg2 ⊢
          have hn16 : numK (rest.extract 8 rest.size) < 65536 := num2 _ (by rw [extract_size]; omega)
          clear k0 k1 hent
          refine Ps.wpIn_par (Ps.relC (fun b => b = w10.heap.size) (fun _ _ => False)) (fun W' => TakAt W' w10.heap.size (w.heap.size + 1 + 1) rb 0 0 rest false) (false :: false :: false :: false :: false :: false :: false :: false :: false :: false :: false :: true :: false :: false :: true :: []) _ (.fix ?_ :: .fix ?_ :: .fix ?_ :: .fix ?_ :: .fix (.int .u64 (numK (rest.extract 0 8))) :: .fix ?_ :: .fix ?_ :: .fix (.int .u64 (numK (rest.extract 8 rest.size) : Int)) :: .fix ?_ :: .fix ?_ :: .fix ?_ :: .sf undef (fun W' => TakAt W' w10.heap.size (w.heap.size + 1 + 1) rb (numK (rest.extract 0 8)) 0 rest false) :: .fix ?_ :: .fix ?_ :: .sf undef (fun W' => TakAt W' w10.heap.size (w.heap.size + 1 + 1) rb (numK (rest.extract 0 8)) (numK (rest.extract 8 rest.size) : Int) rest false) :: []) (by kernel_rfl) (by kernel_rfl) (by simp only [List.length_cons, List.length_nil, List.drop_succ_cons, List.drop_zero, List.drop_nil]; with_reducible rfl) rfl (fun _ _ _ _ _ => ⟨fun h => h, fun h => h⟩) (fun _ _ h hb => (hb.block _ (heap_lt h)).trans h) (T11.out) (by kernel_rfl) (fun _ _ h => h) ?_
          rotate_left 11
          iterate 4
           first
            | (refine Ps.par_skip (a' := ?_) (by rfl) (by rfl) ?_ ?_ ?_; rotate_left 1; with_reducible rfl; (simp only [lays]; with_reducible rfl))
            | (refine Ps.par_run (a' := ?_) (by rfl) (by rfl) (fun w' hb hn => ?_) ?_ ?_; rotate_left 1; (skip; go_simp; (try simp (disch := omega) only [nrm, toNatUp, iteOmega]); first | with_reducible rfl | (go_simp; with_reducible rfl)); (simp only [lays]; with_reducible rfl))
          refine Ps.par_call (a' := ?ap21k4) (f := ?fp21k4) (args := ?rp21k4) (by rfl) (by rfl) (fun w' => ?ep21k4) (fun w' hb hn => ?hp21k4) ?pp21k4 ?gp21k4
          case ep21k4 => (go_simp; constructor <;> with_reducible rfl)
          case hp21k4 => (exact (number14_any _ (by rw [extract_size]; omega) w').mono (fun e w2 ⟨he, hw⟩ => ⟨he, hw ▸ Below.refl _ _⟩))
          case pp21k4 => (simp only [lays]; with_reducible rfl)
          iterate 2
           first
            | (refine Ps.par_skip (a' := ?_) (by rfl) (by rfl) ?_ ?_ ?_; rotate_left 1; with_reducible rfl; (simp only [lays]; with_reducible rfl))
            | (refine Ps.par_run (a' := ?_) (by rfl) (by rfl) (fun w' hb hn => ?_) ?_ ?_; rotate_left 1; (skip; go_simp; (try simp (disch := omega) only [nrm, toNatUp, iteOmega]); first | with_reducible rfl | (go_simp; with_reducible rfl)); (simp only [lays]; with_reducible rfl))
          refine Ps.par_call (a' := ?ap22k7) (f := ?fp22k7) (args := ?rp22k7) (by rfl) (by rfl) (fun w' => ?ep22k7) (fun w' hb hn => ?hp22k7) ?pp22k7 ?gp22k7
          case ep22k7 => (go_simp; constructor <;> with_reducible rfl)
          case hp22k7 => (exact (number14_any _ (by rw [extract_size]; omega) w').mono (fun e w2 ⟨he, hw⟩ => ⟨he, hw ▸ Below.refl _ _⟩))
          case pp22k7 => (simp only [lays]; with_reducible rfl)
          iterate 3
           first
            | (refine Ps.par_skip (a' := ?_) (by rfl) (by rfl) ?_ ?_ ?_; rotate_left 1; with_reducible rfl; (simp only [lays]; with_reducible rfl))
            | (refine Ps.par_run (a' := ?_) (by rfl) (by rfl) (fun w' hb hn => ?_) ?_ ?_; rotate_left 1; (skip; go_simp; (try simp (disch := omega) only [nrm, toNatUp, iteOmega]); first | with_reducible rfl | (go_simp; with_reducible rfl)); (simp only [lays]; with_reducible rfl))
          refine Ps.par_sfs (a' := ?ap23k11) (by rfl) (by rfl) (fun _ _ h hb => (hb.block _ (heap_lt h)).trans h) (fun w' hb hn hr => ?hp23k11) (by rfl) ?pp23k11 ?gp23k11
          case hp23k11 => (have k1 := cell_of hr 1; have f1 := free_of hr 1; exact ⟨w'.setCell ⟨w10.heap.size, 1, none⟩ (.int .u64 (numK (rest.extract 0 8))), (by go_simp; try with_reducible rfl), ⟨Rb.set (w := w') w10.heap.size 1 _, fun _ _ _ h => h.elim⟩, setCell_at hr 1 _⟩)
          case pp23k11 => with_reducible rfl
          iterate 2
           first
            | (refine Ps.par_skip (a' := ?_) (by rfl) (by rfl) ?_ ?_ ?_; rotate_left 1; with_reducible rfl; (simp only [lays]; with_reducible rfl))
            | (refine Ps.par_run (a' := ?_) (by rfl) (by rfl) (fun w' hb hn => ?_) ?_ ?_; rotate_left 1; (skip; go_simp; (try simp (disch := omega) only [nrm, toNatUp, iteOmega]); first | with_reducible rfl | (go_simp; with_reducible rfl)); (simp only [lays]; with_reducible rfl))
          refine Ps.par_sfs (a' := ?ap24k14) (by rfl) (by rfl) (fun _ _ h hb => (hb.block _ (heap_lt h)).trans h) (fun w' hb hn hr => ?hp24k14) (by rfl) ?pp24k14 ?gp24k14
          case hp24k14 => (have k1 := cell_of hr 2; have f1 := free_of hr 2; exact ⟨w'.setCell ⟨w10.heap.size, 2, none⟩ (.int .i64 (numK (rest.extract 8 rest.size) : Int)), (by go_simp; try with_reducible rfl), ⟨Rb.set (w := w') w10.heap.size 2 _, fun _ _ _ h => h.elim⟩, setCell_at hr 2 _⟩)
          case pp24k14 => with_reducible rfl
          refine Ps.par_end (fun w9 hb9 hf9 hr9 => ?_)
          try refine Ps.wpList_none ?_
          clear hf9
          have T9 : TyBut (w.heap.size + 1 + 1) [81] w11 w9 := hb9.1.mono (fun i _ hi => by subst hi; exact ⟨_, _, _, T11.out, by decide, hxb⟩)
          have n9 : w.heap.size + 1 + 1 ≤ w11.heap.size := by have := heap_lt R11.out.r5; omega
          have KF11 := hid (fun B => (keeps_from (B := B) (TyBut.of (base := 0) (ts := []) bW11.out)).trans (keeps_from (B := B) T9))
          have bW12 := hid ((bW11.out.mono hB.size).trans ((T9.below n9).mono (show w.heap.size ≤ w.heap.size + 1 + 1 by omega)))
          replace R11 := hid (RkW.lets' R11.out (by omega) (by omega) (R11.out.st.kept T9.kept (by decide) (by decide) (by decide) (by decide)) (T9.weak (by decide)))
          replace K11 := hid (T9.at K11.out (by decide))
          replace I11 := hid (show IsR _ _ rb ⟨rv, 0⟩ from T9.at I11.out (by decide))
          replace T11 := hid hr9
          clear hr9 hb9 T9
          have k1 := cell_of K11.out 1
          have hent := letF_enters c
          gi_wp2
          have hsw : w.heap.size + 1 + 1 ≤ w9.heap.size := by have := heap_lt R11.out.r5; omega
          clear k1 hent
          refine ⟨trivial, fun h => absurd h (by decide), (Ps.calls_round (let_any c hn2 w10.heap.size (w.heap.size + 1 + 1) rb (numK (rest.extract 0 8)) (numK (rest.extract 8 rest.size) : Int) rest false s ⟨rv, 0⟩ w9 (w.heap.size + 1 + 1) hsw hxb (Nat.le_refl _) hrb T11.out R11.out.st I11.out (by unfold Sz at hx2; show rv.size ≤ _; omega) hKN.1 hKN.2 HM.out)).mono ?_⟩
          rintro e w13 ⟨rfl, hx13, hs13, hr13, t13⟩
          have R13 := hid (R11.out.lets' (by omega) (by omega) hs13 t13)
          have bW13 := hid (bW12.out.trans ((t13.below hsw).mono (show w.heap.size ≤ w.heap.size + 1 + 1 by omega)))
          have KF13 := hid (fun B => (KF11.out B).trans (keeps_from (B := B) t13))
          revert Hg2 hx13 hr13 R13
          generalize stepOf c (numK (rest.extract 0 8)) (numK (rest.extract 8 rest.size) : Int) rest s ⟨rv, 0⟩ = st
          obtain ⟨s', r', bad⟩ := st
          intro Hg2 hx13 hr13 R13
          dsimp only at Hg2 hx13 hr13 R13
          have c4 := cell_of hx13 4
          have c5 := cell_of hx13 5
          clear hs13 t13 hx13
          have hbad := hid (fun B => rk_bad (B := B) R13.out.r2 R13.out.r3 (hB.trans bW13.out) (Nat.le_refl _))
          have Hr13 := hid hr13
          clear hr13
          cases bad
          ·
           gi_wp2
           refine ⟨trivial, fun h => absurd h (by decide), (Ps.calls_round (rdEnd_any rb r' w13 Hr13.out)).mono ?_⟩
           rintro e w14 ⟨rfl, rfl⟩
           by_cases he : endR r' = 0
           ·
            have y5 := cell_of R13.out.r5 0
            have z5 := free_of R13.out.r5 0
            have y6 := cell_of R13.out.r6 0
            have z6 := free_of R13.out.r6 0
            clear c4 c5
            gi_wp2
            obtain ⟨Rn, Tn, C1, C2⟩ := R13.out.step rk
            have hl13 : w.heap.size ≤ w13.heap.size := Nat.le_trans hB.size bW13.out.size
            have bE := (bW13.out.trans (Rb_below C1 (by omega) hl13)).trans (Rb_below C2 (by omega) (Nat.le_trans hl13 C1.size))
            exact ⟨(KF13.out _).trans (keeps_from Tn), bE, _, Hg2.out.trans (by rw [if_neg (by simp [he])]; rfl), Rn, hB.trans bE⟩
           ·
            clear c4 c5
            obtain ⟨y0, z0, y1, z1, y2, z2, y3, z3, y4, z4, y5, z5, y6, z6, y7, z7, y8, z8, y9, z9, y10, z10, y11, z11⟩ := cells0_at R13.out.r2
            have y13 := cell_of R13.out.r3 0
            have z13 := free_of R13.out.r3 0
            gi_wp2
            exact ⟨(KF13.out _).trans (hbad.out _).1, rfl, Hg2.out.trans (by rw [if_pos (.inr he)]; rfl), (hbad.out 0).2⟩
          ·
           skip
           obtain ⟨y0, z0, y1, z1, y2, z2, y3, z3, y4, z4, y5, z5, y6, z6, y7, z7, y8, z8, y9, z9, y10, z10, y11, z11⟩ := cells0_at R13.out.r2
           have y13 := cell_of R13.out.r3 0
           have z13 := free_of R13.out.r3 0
           gi_wp2
           refine ⟨trivial, ?_⟩
           gi_wp2
           exact ⟨(KF13.out _).trans (hbad.out _).1, rfl, Hg2.out.trans (by rw [if_pos (.inl (by trivial))]; rfl), (hbad.out 0).2⟩
         ·
          skip
          gi_wp2
          refine ⟨trivial, fun h => absurd h (by decide), (Ps.calls_round (read1_any rv w9)).mono ?_⟩
          rintro e w10 ⟨rfl, hr10, b10, l10⟩
          clear k0
          have R10 := hid (R9.out.below b10)
          have K10 := hid ((b10.block _ (heap_lt K9.out)).trans K9.out)
          have hrb : w.heap.size + 1 + 1 ≤ w9.heap.size := by have := heap_lt R9.out.r5; omega
          have hxb : w.heap.size + 1 + 1 ≤ w10.heap.size := by have := heap_lt R10.out.r5; omega
          have bW10 := hid (b9.trans (b10.mono b9.size))
          clear b10
          generalize w9.heap.size = rb at hr10 l10 hrb ⊢
          have T11 := hid (show TakAt (w10.alloc (.cells #[.pointer (some ⟨w.heap.size + 1 + 1, 0, none⟩), .int .u64 0, .int .i64 0, .string (rk.extract 1 rk.size), .pointer (some ⟨rb, 0, none⟩), .bool false] 81)) w10.heap.size (w.heap.size + 1 + 1) rb 0 0 (rk.extract 1 rk.size) false from alloc_new _ _)
          have R11 := hid (R10.out.below ((Below.refl _ w10).alloc (Nat.le_refl _) (.cells #[.pointer (some ⟨w.heap.size + 1 + 1, 0, none⟩), .int .u64 0, .int .i64 0, .string (rk.extract 1 rk.size), .pointer (some ⟨rb, 0, none⟩), .bool false] 81)))
          have K11 := hid ((alloc_old (.cells #[.pointer (some ⟨w.heap.size + 1 + 1, 0, none⟩), .int .u64 0, .int .i64 0, .string (rk.extract 1 rk.size), .pointer (some ⟨rb, 0, none⟩), .bool false] 81) (heap_lt K10.out)).trans K10.out)
          have I11 := hid (show IsR 168 _ rb ⟨rv, 0⟩ from (alloc_old (.cells #[.pointer (some ⟨w.heap.size + 1 + 1, 0, none⟩), .int .u64 0, .int .i64 0, .string (rk.extract 1 rk.size), .pointer (some ⟨rb, 0, none⟩), .bool false] 81) (heap_lt hr10)).trans hr10)
          have bW11 := hid (bW10.out.trans (((Below.refl _ w10).alloc (Nat.le_refl _) (.cells #[.pointer (some ⟨w.heap.size + 1 + 1, 0, none⟩), .int .u64 0, .int .i64 0, .string (rk.extract 1 rk.size), .pointer (some ⟨rb, 0, none⟩), .bool false] 81)).mono bW10.out.size))
          have k0 : (w10.alloc (.cells #[.pointer (some ⟨w.heap.size + 1 + 1, 0, none⟩), .int .u64 0, .int .i64 0, .string (rk.extract 1 rk.size), .pointer (some ⟨rb, 0, none⟩), .bool false] 81)).cell? ⟨W.heap.size, 0, none⟩ = some (.int .i64 (sizeK c)) := cell_of K11.out 0
          have k1 : (w10.alloc (.cells #[.pointer (some ⟨w.heap.size + 1 + 1, 0, none⟩), .int .u64 0, .int .i64 0, .string (rk.extract 1 rk.size), .pointer (some ⟨rb, 0, none⟩), .bool false] 81)).cell? ⟨W.heap.size, 1, none⟩ = some (.func (.func (letF c)) #[] #[]) := cell_of K11.out 1
          have hent := letF_enters c
          replace hr10 := hid hr10
          gi_wp2
          have hrs : (rk.extract 1 rk.size).size = rk.size - 1 := by simp
          have hsz9 : 0 ≤ sizeK c → (((rk.extract 1 rk.size).size : Nat) : Int) = sizeK c := fun _ => by rw [hrs]; simpa using hq
          have hng := hid (show ¬ (0 ≤ sizeK c ∧ (((rk.extract 1 rk.size).size : Nat) : Int) ≠ sizeK c) from fun h => h.2 (hsz9 h.1))
          have hKN := rowKN_ok c (rk.extract 1 rk.size) hsz9
          have Hg2 := Hg.out.trans (by rw [if_neg hn2, if_neg hng.out])
          have hKNe : rowKN c (rk.extract 1 rk.size) = (0, 0) := by unfold rowKN; rw [if_neg (by omega)]
          rw [hKNe] at hKN Hg2
          dsimp only at hKN Hg2
          replace Hg2 := hid Hg2
          clear hKNe
          generalize w10.alloc (.cells #[.pointer (some ⟨w.heap.size + 1 + 1, 0, none⟩), .int .u64 0, .int .i64 0, .string (rk.extract 1 rk.size), .pointer (some ⟨rb, 0, none⟩), .bool false] 81) = w11 at T11 R11 K11 I11 bW11 k0 k1 ⊢
          clear k0
          have KF11 := hid (fun B => keeps_from (B := B) (TyBut.of (base := 0) (ts := []) bW11.out))
          have bW12 := hid (bW11.out.mono hB.size)
          have hsw : w.heap.size + 1 + 1 ≤ w11.heap.size := by have := heap_lt R11.out.r5; omega
          clear k1 hent
          refine ⟨trivial, fun h => absurd h (by decide), (Ps.calls_round (let_any c hn2 w10.heap.size (w.heap.size + 1 + 1) rb 0 0 (rk.extract 1 rk.size) false s ⟨rv, 0⟩ w11 (w.heap.size + 1 + 1) hsw hxb (Nat.le_refl _) hrb T11.out R11.out.st I11.out (by unfold Sz at hx2; show rv.size ≤ _; omega) hKN.1 hKN.2 HM.out)).mono ?_⟩
          rintro e w13 ⟨rfl, hx13, hs13, hr13, t13⟩
          have R13 := hid (R11.out.lets' (by omega) (by omega) hs13 t13)
          have bW13 := hid (bW12.out.trans ((t13.below hsw).mono (show w.heap.size ≤ w.heap.size + 1 + 1 by omega)))
          have KF13 := hid (fun B => (KF11.out B).trans (keeps_from (B := B) t13))
          revert Hg2 hx13 hr13 R13
          generalize stepOf c 0 0 (rk.extract 1 rk.size) s ⟨rv, 0⟩ = st
          obtain ⟨s', r', bad⟩ := st
          intro Hg2 hx13 hr13 R13
          dsimp only at Hg2 hx13 hr13 R13
          have c4 := cell_of hx13 4
          have c5 := cell_of hx13 5
          clear hs13 t13 hx13
          have hbad := hid (fun B => rk_bad (B := B) R13.out.r2 R13.out.r3 (hB.trans bW13.out) (Nat.le_refl _))
          have Hr13 := hid hr13
          clear hr13
          cases bad
          ·
           gi_wp2
           refine ⟨trivial, fun h => absurd h (by decide), (Ps.calls_round (rdEnd_any rb r' w13 Hr13.out)).mono ?_⟩
           rintro e w14 ⟨rfl, rfl⟩
           by_cases he : endR r' = 0
           ·
            have y5 := cell_of R13.out.r5 0
            have z5 := free_of R13.out.r5 0
            have y6 := cell_of R13.out.r6 0
            have z6 := free_of R13.out.r6 0
            clear c4 c5
            gi_wp2
            obtain ⟨Rn, Tn, C1, C2⟩ := R13.out.step rk
            have hl13 : w.heap.size ≤ w13.heap.size := Nat.le_trans hB.size bW13.out.size
            have bE := (bW13.out.trans (Rb_below C1 (by omega) hl13)).trans (Rb_below C2 (by omega) (Nat.le_trans hl13 C1.size))
            exact ⟨(KF13.out _).trans (keeps_from Tn), bE, _, Hg2.out.trans (by rw [if_neg (by simp [he])]; rfl), Rn, hB.trans bE⟩
           ·
            clear c4 c5
            obtain ⟨y0, z0, y1, z1, y2, z2, y3, z3, y4, z4, y5, z5, y6, z6, y7, z7, y8, z8, y9, z9, y10, z10, y11, z11⟩ := cells0_at R13.out.r2
            have y13 := cell_of R13.out.r3 0
            have z13 := free_of R13.out.r3 0
            gi_wp2
            exact ⟨(KF13.out _).trans (hbad.out _).1, rfl, Hg2.out.trans (by rw [if_pos (.inr he)]; rfl), (hbad.out 0).2⟩
          ·
           skip
           obtain ⟨y0, z0, y1, z1, y2, z2, y3, z3, y4, z4, y5, z5, y6, z6, y7, z7, y8, z8, y9, z9, y10, z10, y11, z11⟩ := cells0_at R13.out.r2
           have y13 := cell_of R13.out.r3 0
           have z13 := free_of R13.out.r3 0
           gi_wp2
           refine ⟨trivial, ?_⟩
           gi_wp2
           exact ⟨(KF13.out _).trans (hbad.out _).1, rfl, Hg2.out.trans (by rw [if_pos (.inl (by trivial))]; rfl), (hbad.out 0).2⟩
        ·
         skip
         obtain ⟨y0, z0, y1, z1, y2, z2, y3, z3, y4, z4, y5, z5, y6, z6, y7, z7, y8, z8, y9, z9, y10, z10, y11, z11⟩ := cells0_at R9.out.r2
         have y13 := cell_of R9.out.r3 0
         have z13 := free_of R9.out.r3 0
         have hbad := fun B => rk_bad (B := B) R9.out.r2 R9.out.r3 hB9.out (Nat.le_refl _)
         replace hbad := hid hbad
         gi_wp2
         all_goals first | exact ⟨(KF9.out _).trans (hbad.out _).1, rfl, Hg.out.trans (by rw [if_neg hn2, if_pos ⟨hs, by rw [show (rk.extract 1 rk.size).size = rk.size - 1 by simp]; simpa using hq⟩]; rfl), (hbad.out 0).2⟩ | (rename_i h1 h2; cases h1)
       ·
        skip
        gi_wp2
        refine ⟨trivial, fun h => absurd h (by decide), (Ps.calls_round (read1_any rv w9)).mono ?_⟩
        rintro e w10 ⟨rfl, hr10, b10, l10⟩
        clear k0
        have R10 := hid (R9.out.below b10)
        have K10 := hid ((b10.block _ (heap_lt K9.out)).trans K9.out)
        have hrb : w.heap.size + 1 + 1 ≤ w9.heap.size := by have := heap_lt R9.out.r5; omega
        have hxb : w.heap.size + 1 + 1 ≤ w10.heap.size := by have := heap_lt R10.out.r5; omega
        have bW10 := hid (b9.trans (b10.mono b9.size))
        clear b10
        generalize w9.heap.size = rb at hr10 l10 hrb ⊢
        have T11 := hid (show TakAt (w10.alloc (.cells #[.pointer (some ⟨w.heap.size + 1 + 1, 0, none⟩), .int .u64 0, .int .i64 0, .string (rk.extract 1 rk.size), .pointer (some ⟨rb, 0, none⟩), .bool false] 81)) w10.heap.size (w.heap.size + 1 + 1) rb 0 0 (rk.extract 1 rk.size) false from alloc_new _ _)
        have R11 := hid (R10.out.below ((Below.refl _ w10).alloc (Nat.le_refl _) (.cells #[.pointer (some ⟨w.heap.size + 1 + 1, 0, none⟩), .int .u64 0, .int .i64 0, .string (rk.extract 1 rk.size), .pointer (some ⟨rb, 0, none⟩), .bool false] 81)))
        have K11 := hid ((alloc_old (.cells #[.pointer (some ⟨w.heap.size + 1 + 1, 0, none⟩), .int .u64 0, .int .i64 0, .string (rk.extract 1 rk.size), .pointer (some ⟨rb, 0, none⟩), .bool false] 81) (heap_lt K10.out)).trans K10.out)
        have I11 := hid (show IsR 168 _ rb ⟨rv, 0⟩ from (alloc_old (.cells #[.pointer (some ⟨w.heap.size + 1 + 1, 0, none⟩), .int .u64 0, .int .i64 0, .string (rk.extract 1 rk.size), .pointer (some ⟨rb, 0, none⟩), .bool false] 81) (heap_lt hr10)).trans hr10)
        have bW11 := hid (bW10.out.trans (((Below.refl _ w10).alloc (Nat.le_refl _) (.cells #[.pointer (some ⟨w.heap.size + 1 + 1, 0, none⟩), .int .u64 0, .int .i64 0, .string (rk.extract 1 rk.size), .pointer (some ⟨rb, 0, none⟩), .bool false] 81)).mono bW10.out.size))
        have k0 : (w10.alloc (.cells #[.pointer (some ⟨w.heap.size + 1 + 1, 0, none⟩), .int .u64 0, .int .i64 0, .string (rk.extract 1 rk.size), .pointer (some ⟨rb, 0, none⟩), .bool false] 81)).cell? ⟨W.heap.size, 0, none⟩ = some (.int .i64 (sizeK c)) := cell_of K11.out 0
        have k1 : (w10.alloc (.cells #[.pointer (some ⟨w.heap.size + 1 + 1, 0, none⟩), .int .u64 0, .int .i64 0, .string (rk.extract 1 rk.size), .pointer (some ⟨rb, 0, none⟩), .bool false] 81)).cell? ⟨W.heap.size, 1, none⟩ = some (.func (.func (letF c)) #[] #[]) := cell_of K11.out 1
        have hent := letF_enters c
        replace hr10 := hid hr10
        gi_wp2
        have hrs : (rk.extract 1 rk.size).size = rk.size - 1 := by simp
        have hng := hid (show ¬ (0 ≤ sizeK c ∧ (((rk.extract 1 rk.size).size : Nat) : Int) ≠ sizeK c) from fun h => absurd h.1 (by omega))
        have hsz9 : 0 ≤ sizeK c → (((rk.extract 1 rk.size).size : Nat) : Int) = sizeK c := fun h => absurd h (by omega)
        have hKN := rowKN_ok c (rk.extract 1 rk.size) hsz9
        have Hg2 := Hg.out.trans (by rw [if_neg hn2, if_neg hng.out])
        have hKNe : rowKN c (rk.extract 1 rk.size) = (0, 0) := by unfold rowKN; rw [if_neg (by omega)]
        rw [hKNe] at hKN Hg2
        dsimp only at hKN Hg2
        replace Hg2 := hid Hg2
        clear hKNe
        generalize w10.alloc (.cells #[.pointer (some ⟨w.heap.size + 1 + 1, 0, none⟩), .int .u64 0, .int .i64 0, .string (rk.extract 1 rk.size), .pointer (some ⟨rb, 0, none⟩), .bool false] 81) = w11 at T11 R11 K11 I11 bW11 k0 k1 ⊢
        clear k0
        have KF11 := hid (fun B => keeps_from (B := B) (TyBut.of (base := 0) (ts := []) bW11.out))
        have bW12 := hid (bW11.out.mono hB.size)
        have hsw : w.heap.size + 1 + 1 ≤ w11.heap.size := by have := heap_lt R11.out.r5; omega
        clear k1 hent
        refine ⟨trivial, fun h => absurd h (by decide), (Ps.calls_round (let_any c hn2 w10.heap.size (w.heap.size + 1 + 1) rb 0 0 (rk.extract 1 rk.size) false s ⟨rv, 0⟩ w11 (w.heap.size + 1 + 1) hsw hxb (Nat.le_refl _) hrb T11.out R11.out.st I11.out (by unfold Sz at hx2; show rv.size ≤ _; omega) hKN.1 hKN.2 HM.out)).mono ?_⟩
        rintro e w13 ⟨rfl, hx13, hs13, hr13, t13⟩
        have R13 := hid (R11.out.lets' (by omega) (by omega) hs13 t13)
        have bW13 := hid (bW12.out.trans ((t13.below hsw).mono (show w.heap.size ≤ w.heap.size + 1 + 1 by omega)))
        have KF13 := hid (fun B => (KF11.out B).trans (keeps_from (B := B) t13))
        revert Hg2 hx13 hr13 R13
        generalize stepOf c 0 0 (rk.extract 1 rk.size) s ⟨rv, 0⟩ = st
        obtain ⟨s', r', bad⟩ := st
        intro Hg2 hx13 hr13 R13
        dsimp only at Hg2 hx13 hr13 R13
        have c4 := cell_of hx13 4
        have c5 := cell_of hx13 5
        clear hs13 t13 hx13
        have hbad := hid (fun B => rk_bad (B := B) R13.out.r2 R13.out.r3 (hB.trans bW13.out) (Nat.le_refl _))
        have Hr13 := hid hr13
        clear hr13
        cases bad
        ·
         gi_wp2
         refine ⟨trivial, fun h => absurd h (by decide), (Ps.calls_round (rdEnd_any rb r' w13 Hr13.out)).mono ?_⟩
         rintro e w14 ⟨rfl, rfl⟩
         by_cases he : endR r' = 0
         ·
          have y5 := cell_of R13.out.r5 0
          have z5 := free_of R13.out.r5 0
          have y6 := cell_of R13.out.r6 0
          have z6 := free_of R13.out.r6 0
          clear c4 c5
          gi_wp2
          obtain ⟨Rn, Tn, C1, C2⟩ := R13.out.step rk
          have hl13 : w.heap.size ≤ w13.heap.size := Nat.le_trans hB.size bW13.out.size
          have bE := (bW13.out.trans (Rb_below C1 (by omega) hl13)).trans (Rb_below C2 (by omega) (Nat.le_trans hl13 C1.size))
          exact ⟨(KF13.out _).trans (keeps_from Tn), bE, _, Hg2.out.trans (by rw [if_neg (by simp [he])]; rfl), Rn, hB.trans bE⟩
         ·
          clear c4 c5
          obtain ⟨y0, z0, y1, z1, y2, z2, y3, z3, y4, z4, y5, z5, y6, z6, y7, z7, y8, z8, y9, z9, y10, z10, y11, z11⟩ := cells0_at R13.out.r2
          have y13 := cell_of R13.out.r3 0
          have z13 := free_of R13.out.r3 0
          gi_wp2
          exact ⟨(KF13.out _).trans (hbad.out _).1, rfl, Hg2.out.trans (by rw [if_pos (.inr he)]; rfl), (hbad.out 0).2⟩
        ·
         skip
         obtain ⟨y0, z0, y1, z1, y2, z2, y3, z3, y4, z4, y5, z5, y6, z6, y7, z7, y8, z8, y9, z9, y10, z10, y11, z11⟩ := cells0_at R13.out.r2
         have y13 := cell_of R13.out.r3 0
         have z13 := free_of R13.out.r3 0
         gi_wp2
         refine ⟨trivial, ?_⟩
         gi_wp2
         exact ⟨(KF13.out _).trans (hbad.out _).1, rfl, Hg2.out.trans (by rw [if_pos (.inl (by trivial))]; rfl), (hbad.out 0).2⟩
 case done =>
  rintro D ys W hD rfl ⟨a, ha, hR, hB⟩ hK
  have hD9 : w.heap.size + 5 ≤ D := by simp only [World.size_alloc] at hD; omega
  have q6 := cell_of hR.r6 0
  have z3 := free_of hR.r3 0
  have HR := hid hR
  cases hf : a.fst
  ·
   rw [hf] at q6
   obtain ⟨vp, vi, vt, vj, vr, vs, vk, vl, vm, h4, hL⟩ := hR.st
   have H4 := hid h4
   obtain ⟨k0, k1, k2, k3, k4, k5, k6, k7, k8, k9, k10, k11⟩ := cells12 h4
   have hok := read_ok (l := ys.map Subtype.val) (fun x hx => by obtain ⟨y, -, rfl⟩ := List.mem_map.1 hx; exact y.2) ha
   rw [List.length_map] at hok
   have Hok := hid hok
   clear hok
   have hst := hid (hL.at (fun x hx => (Hok.out.insts x hx).2) (fun x hx => (Hok.out.listed x hx).2) (fun x hx => (Hok.out.msgs x hx).2))
   obtain ⟨ap, cp, rfl, -⟩ := hst.out.procs
   obtain ⟨ai, ci, rfl, -⟩ := hst.out.insts
   obtain ⟨at_, ct, rfl, -⟩ := hst.out.tokens
   obtain ⟨aj, cj, rfl, -⟩ := hst.out.jobs
   obtain ⟨ar, cr, rfl, -⟩ := hst.out.timers
   obtain ⟨as_, cs_, rfl, -⟩ := hst.out.subs
   obtain ⟨ak, ck, rfl, -⟩ := hst.out.kept
   obtain ⟨al, cl, rfl, -⟩ := hst.out.listed
   obtain ⟨am, cm, rfl, -⟩ := hst.out.msgs
   have HL := hid hL
   clear hR h4 hL
   gi_wp2
   refine ⟨trivial, (callsIn_wide.2 (smay_any a.s (Hok.out.ok hmax) (rowsSz a.s (Hok.out.ok hmax)) _ _ _ _ _ _ _ _ _ _ W hst.out)).mono ?_⟩
   rintro e w3 ⟨rfl, b3⟩
   clear q6 z3 k0 k1 k2 k3 k4 k5 k6 k7 k8 k9 k10 k11
   have hR3 := hid (HR.out.below b3)
   have hB3 := hid (hB.trans (b3.mono hB.size))
   have h43 := hid ((b3.block _ (heap_lt H4.out)).trans H4.out)
   have hK3 := hid ((b3.block _ (heap_lt hK)).trans hK)
   have hL3 := hid (HL.out.keepC (cells_below b3) (by simp) (by simp) (by simp))
   cases hmy : mayB a.s
   ·
    skip
    have y0 : w3.cell? ⟨w.heap.size, 0, none⟩ = some (.int .u64 0) := cell_of hR3.out.r2 0
    have y1 : w3.cell? ⟨w.heap.size, 1, none⟩ = some (.int .u64 0) := cell_of hR3.out.r2 1
    have y2 : w3.cell? ⟨w.heap.size, 2, none⟩ = some (.int .u64 0) := cell_of hR3.out.r2 2
    have y3 : w3.cell? ⟨w.heap.size, 3, none⟩ = some (.slice none 0 0) := cell_of hR3.out.r2 3
    have y4 : w3.cell? ⟨w.heap.size, 4, none⟩ = some (.slice none 0 0) := cell_of hR3.out.r2 4
    have y5 : w3.cell? ⟨w.heap.size, 5, none⟩ = some (.slice none 0 0) := cell_of hR3.out.r2 5
    have y6 : w3.cell? ⟨w.heap.size, 6, none⟩ = some (.slice none 0 0) := cell_of hR3.out.r2 6
    have y7 : w3.cell? ⟨w.heap.size, 7, none⟩ = some (.slice none 0 0) := cell_of hR3.out.r2 7
    have y8 : w3.cell? ⟨w.heap.size, 8, none⟩ = some (.slice none 0 0) := cell_of hR3.out.r2 8
    have y9 : w3.cell? ⟨w.heap.size, 9, none⟩ = some (.slice none 0 0) := cell_of hR3.out.r2 9
    have y10 : w3.cell? ⟨w.heap.size, 10, none⟩ = some (.slice none 0 0) := cell_of hR3.out.r2 10
    have y11 : w3.cell? ⟨w.heap.size, 11, none⟩ = some (.slice none 0 0) := cell_of hR3.out.r2 11
    have z0 := free_of hR3.out.r2 0
    have z1 := free_of hR3.out.r2 1
    have z2 := free_of hR3.out.r2 2
    have z3 := free_of hR3.out.r2 3
    have z4 := free_of hR3.out.r2 4
    have z5 := free_of hR3.out.r2 5
    have z6 := free_of hR3.out.r2 6
    have z7 := free_of hR3.out.r2 7
    have z8 := free_of hR3.out.r2 8
    have z9 := free_of hR3.out.r2 9
    have z10 := free_of hR3.out.r2 10
    have z11 := free_of hR3.out.r2 11
    have y13 := cell_of hR3.out.r3 0
    have z13 := free_of hR3.out.r3 0
    gi_wp2
    obtain ⟨e2, eb⟩ := set12 hR3.out.r2 (.int .u64 0) (.int .u64 0) (.int .u64 0) (.slice none 0 0) (.slice none 0 0) (.slice none 0 0) (.slice none 0 0) (.slice none 0 0) (.slice none 0 0) (.slice none 0 0) (.slice none 0 0) (.slice none 0 0)
    have e3 := setCell_at ((eb.block _ (heap_lt hR3.out.r3) (by omega)).trans hR3.out.r3) 0 (.int .i64 3)
    have ec := Rb.set (w := ((((((((((((w3.setCell ⟨w.heap.size, 0, none⟩ (.int .u64 0)).setCell ⟨w.heap.size, 1, none⟩ (.int .u64 0)).setCell ⟨w.heap.size, 2, none⟩ (.int .u64 0)).setCell ⟨w.heap.size, 3, none⟩ (.slice none 0 0)).setCell ⟨w.heap.size, 4, none⟩ (.slice none 0 0)).setCell ⟨w.heap.size, 5, none⟩ (.slice none 0 0)).setCell ⟨w.heap.size, 6, none⟩ (.slice none 0 0)).setCell ⟨w.heap.size, 7, none⟩ (.slice none 0 0)).setCell ⟨w.heap.size, 8, none⟩ (.slice none 0 0)).setCell ⟨w.heap.size, 9, none⟩ (.slice none 0 0)).setCell ⟨w.heap.size, 10, none⟩ (.slice none 0 0)).setCell ⟨w.heap.size, 11, none⟩ (.slice none 0 0))) (w.heap.size + 1) 0 (.int .i64 3)
    have e2' := (ec.block _ (heap_lt e2) (by omega)).trans e2
    have eD : D ≠ w.heap.size ∧ D ≠ w.heap.size + 1 := by omega
    have eK := (ec.block _ (by have := heap_lt hK3.out; exact Nat.lt_of_lt_of_le this eb.size) eD.2).trans ((eb.block _ (heap_lt hK3.out) eD.1).trans hK3.out)
    have eB := ((hB3.out).trans (Rb_below eb (Nat.le_refl _) hB3.out.size)).trans (Rb_below ec (Nat.le_succ _) (Nat.le_trans hB3.out.size eb.size))
    clear ec eb
    generalize ((((((((((((w3.setCell ⟨w.heap.size, 0, none⟩ (.int .u64 0)).setCell ⟨w.heap.size, 1, none⟩ (.int .u64 0)).setCell ⟨w.heap.size, 2, none⟩ (.int .u64 0)).setCell ⟨w.heap.size, 3, none⟩ (.slice none 0 0)).setCell ⟨w.heap.size, 4, none⟩ (.slice none 0 0)).setCell ⟨w.heap.size, 5, none⟩ (.slice none 0 0)).setCell ⟨w.heap.size, 6, none⟩ (.slice none 0 0)).setCell ⟨w.heap.size, 7, none⟩ (.slice none 0 0)).setCell ⟨w.heap.size, 8, none⟩ (.slice none 0 0)).setCell ⟨w.heap.size, 9, none⟩ (.slice none 0 0)).setCell ⟨w.heap.size, 10, none⟩ (.slice none 0 0)).setCell ⟨w.heap.size, 11, none⟩ (.slice none 0 0)).setCell ⟨w.heap.size + 1, 0, none⟩ (.int .i64 3) = W9 at e2' e3 eK eB ⊢
    refine rk_end rfl rfl e2' e3 eK ⟨_, rfl, ?_, eB.trans (belowK_b (w := w) (Nat.le_refl _) W9 D _ _ (by simp only [World.size_alloc] at hD; omega) eK rfl rfl)⟩
    exact ReadT.no (by simp [readS, ha, hmy]) _ _
   ·
    have k0 := cell_of h43.out 0
    have k1 := cell_of h43.out 1
    have k2 := cell_of h43.out 2
    have k3 := cell_of h43.out 3
    have k4 := cell_of h43.out 4
    have k5 := cell_of h43.out 5
    have k6 := cell_of h43.out 6
    have k7 := cell_of h43.out 7
    have k8 := cell_of h43.out 8
    have k9 := cell_of h43.out 9
    have k10 := cell_of h43.out 10
    have k11 := cell_of h43.out 11
    have y0 : w3.cell? ⟨w.heap.size, 0, none⟩ = some (.int .u64 0) := cell_of hR3.out.r2 0
    have y1 : w3.cell? ⟨w.heap.size, 1, none⟩ = some (.int .u64 0) := cell_of hR3.out.r2 1
    have y2 : w3.cell? ⟨w.heap.size, 2, none⟩ = some (.int .u64 0) := cell_of hR3.out.r2 2
    have y3 : w3.cell? ⟨w.heap.size, 3, none⟩ = some (.slice none 0 0) := cell_of hR3.out.r2 3
    have y4 : w3.cell? ⟨w.heap.size, 4, none⟩ = some (.slice none 0 0) := cell_of hR3.out.r2 4
    have y5 : w3.cell? ⟨w.heap.size, 5, none⟩ = some (.slice none 0 0) := cell_of hR3.out.r2 5
    have y6 : w3.cell? ⟨w.heap.size, 6, none⟩ = some (.slice none 0 0) := cell_of hR3.out.r2 6
    have y7 : w3.cell? ⟨w.heap.size, 7, none⟩ = some (.slice none 0 0) := cell_of hR3.out.r2 7
    have y8 : w3.cell? ⟨w.heap.size, 8, none⟩ = some (.slice none 0 0) := cell_of hR3.out.r2 8
    have y9 : w3.cell? ⟨w.heap.size, 9, none⟩ = some (.slice none 0 0) := cell_of hR3.out.r2 9
    have y10 : w3.cell? ⟨w.heap.size, 10, none⟩ = some (.slice none 0 0) := cell_of hR3.out.r2 10
    have y11 : w3.cell? ⟨w.heap.size, 11, none⟩ = some (.slice none 0 0) := cell_of hR3.out.r2 11
    have z0 := free_of hR3.out.r2 0
    have z1 := free_of hR3.out.r2 1
    have z2 := free_of hR3.out.r2 2
    have z3 := free_of hR3.out.r2 3
    have z4 := free_of hR3.out.r2 4
    have z5 := free_of hR3.out.r2 5
    have z6 := free_of hR3.out.r2 6
    have z7 := free_of hR3.out.r2 7
    have z8 := free_of hR3.out.r2 8
    have z9 := free_of hR3.out.r2 9
    have z10 := free_of hR3.out.r2 10
    have z11 := free_of hR3.out.r2 11
    have y13 := cell_of hR3.out.r3 0
    have z13 := free_of hR3.out.r3 0
    gi_wp2
    obtain ⟨e2, eb⟩ := set12 hR3.out.r2 (U a.s.pos) (U a.s.done) (U a.s.made) (.slice ap a.s.procs.length cp) (.slice ai a.s.insts.length ci) (.slice at_ a.s.tokens.length ct) (.slice aj a.s.jobs.length cj) (.slice ar a.s.timers.length cr) (.slice as_ a.s.subs.length cs_) (.slice ak a.s.kept.length ck) (.slice al a.s.listed.length cl) (.slice am a.s.msgs.length cm)
    have e3 := setCell_at ((eb.block _ (heap_lt hR3.out.r3) (by omega)).trans hR3.out.r3) 0 (.int .i64 0)
    have ec := Rb.set (w := ((((((((((((w3.setCell ⟨w.heap.size, 0, none⟩ (U a.s.pos)).setCell ⟨w.heap.size, 1, none⟩ (U a.s.done)).setCell ⟨w.heap.size, 2, none⟩ (U a.s.made)).setCell ⟨w.heap.size, 3, none⟩ (.slice ap a.s.procs.length cp)).setCell ⟨w.heap.size, 4, none⟩ (.slice ai a.s.insts.length ci)).setCell ⟨w.heap.size, 5, none⟩ (.slice at_ a.s.tokens.length ct)).setCell ⟨w.heap.size, 6, none⟩ (.slice aj a.s.jobs.length cj)).setCell ⟨w.heap.size, 7, none⟩ (.slice ar a.s.timers.length cr)).setCell ⟨w.heap.size, 8, none⟩ (.slice as_ a.s.subs.length cs_)).setCell ⟨w.heap.size, 9, none⟩ (.slice ak a.s.kept.length ck)).setCell ⟨w.heap.size, 10, none⟩ (.slice al a.s.listed.length cl)).setCell ⟨w.heap.size, 11, none⟩ (.slice am a.s.msgs.length cm))) (w.heap.size + 1) 0 (.int .i64 0)
    have e2' := (ec.block _ (heap_lt e2) (by omega)).trans e2
    have eD : D ≠ w.heap.size ∧ D ≠ w.heap.size + 1 := by omega
    have eK := (ec.block _ (by have := heap_lt hK3.out; exact Nat.lt_of_lt_of_le this eb.size) eD.2).trans ((eb.block _ (heap_lt hK3.out) eD.1).trans hK3.out)
    have eB := ((hB3.out).trans (Rb_below eb (Nat.le_refl _) hB3.out.size)).trans (Rb_below ec (Nat.le_succ _) (Nat.le_trans hB3.out.size eb.size))
    have eC := ends_kept hR3.out.r2 hR3.out.r3 eb ec eK (.deferred none)
    clear ec eb
    generalize ((((((((((((w3.setCell ⟨w.heap.size, 0, none⟩ (U a.s.pos)).setCell ⟨w.heap.size, 1, none⟩ (U a.s.done)).setCell ⟨w.heap.size, 2, none⟩ (U a.s.made)).setCell ⟨w.heap.size, 3, none⟩ (.slice ap a.s.procs.length cp)).setCell ⟨w.heap.size, 4, none⟩ (.slice ai a.s.insts.length ci)).setCell ⟨w.heap.size, 5, none⟩ (.slice at_ a.s.tokens.length ct)).setCell ⟨w.heap.size, 6, none⟩ (.slice aj a.s.jobs.length cj)).setCell ⟨w.heap.size, 7, none⟩ (.slice ar a.s.timers.length cr)).setCell ⟨w.heap.size, 8, none⟩ (.slice as_ a.s.subs.length cs_)).setCell ⟨w.heap.size, 9, none⟩ (.slice ak a.s.kept.length ck)).setCell ⟨w.heap.size, 10, none⟩ (.slice al a.s.listed.length cl)).setCell ⟨w.heap.size, 11, none⟩ (.slice am a.s.msgs.length cm)).setCell ⟨w.heap.size + 1, 0, none⟩ (.int .i64 0) = W9 at e2' e3 eK eB eC ⊢
    refine rk_end rfl rfl e2' e3 eK ⟨_, rfl, ?_, eB.trans (belowK_b (w := w) (Nat.le_refl _) W9 D _ _ (by simp only [World.size_alloc] at hD; omega) eK rfl rfl)⟩
    exact ReadT.yes (by simp [readS, ha, hmy, hf]) _ _ ((hL3.out.keepC eC (by decide) (by decide) (by decide)).at (fun x hx => (Hok.out.insts x hx).2) (fun x hx => (Hok.out.listed x hx).2) (fun x hx => (Hok.out.msgs x hx).2))
  ·
   rw [hf] at q6
   clear hR
   gi_wp2
   refine ⟨trivial, ?_⟩
   have y0 : W.cell? ⟨w.heap.size, 0, none⟩ = some (.int .u64 0) := cell_of HR.out.r2 0
   have y1 : W.cell? ⟨w.heap.size, 1, none⟩ = some (.int .u64 0) := cell_of HR.out.r2 1
   have y2 : W.cell? ⟨w.heap.size, 2, none⟩ = some (.int .u64 0) := cell_of HR.out.r2 2
   have y3 : W.cell? ⟨w.heap.size, 3, none⟩ = some (.slice none 0 0) := cell_of HR.out.r2 3
   have y4 : W.cell? ⟨w.heap.size, 4, none⟩ = some (.slice none 0 0) := cell_of HR.out.r2 4
   have y5 : W.cell? ⟨w.heap.size, 5, none⟩ = some (.slice none 0 0) := cell_of HR.out.r2 5
   have y6 : W.cell? ⟨w.heap.size, 6, none⟩ = some (.slice none 0 0) := cell_of HR.out.r2 6
   have y7 : W.cell? ⟨w.heap.size, 7, none⟩ = some (.slice none 0 0) := cell_of HR.out.r2 7
   have y8 : W.cell? ⟨w.heap.size, 8, none⟩ = some (.slice none 0 0) := cell_of HR.out.r2 8
   have y9 : W.cell? ⟨w.heap.size, 9, none⟩ = some (.slice none 0 0) := cell_of HR.out.r2 9
   have y10 : W.cell? ⟨w.heap.size, 10, none⟩ = some (.slice none 0 0) := cell_of HR.out.r2 10
   have y11 : W.cell? ⟨w.heap.size, 11, none⟩ = some (.slice none 0 0) := cell_of HR.out.r2 11
   have z0 := free_of HR.out.r2 0
   have z1 := free_of HR.out.r2 1
   have z2 := free_of HR.out.r2 2
   have z3 := free_of HR.out.r2 3
   have z4 := free_of HR.out.r2 4
   have z5 := free_of HR.out.r2 5
   have z6 := free_of HR.out.r2 6
   have z7 := free_of HR.out.r2 7
   have z8 := free_of HR.out.r2 8
   have z9 := free_of HR.out.r2 9
   have z10 := free_of HR.out.r2 10
   have z11 := free_of HR.out.r2 11
   have y13 := cell_of HR.out.r3 0
   have z13 := free_of HR.out.r3 0
   gi_wp2
   obtain ⟨e2, eb⟩ := set12 HR.out.r2 (.int .u64 0) (.int .u64 0) (.int .u64 0) (.slice none 0 0) (.slice none 0 0) (.slice none 0 0) (.slice none 0 0) (.slice none 0 0) (.slice none 0 0) (.slice none 0 0) (.slice none 0 0) (.slice none 0 0)
   have e3 := setCell_at ((eb.block _ (heap_lt HR.out.r3) (by omega)).trans HR.out.r3) 0 (.int .i64 3)
   have ec := Rb.set (w := ((((((((((((W.setCell ⟨w.heap.size, 0, none⟩ (.int .u64 0)).setCell ⟨w.heap.size, 1, none⟩ (.int .u64 0)).setCell ⟨w.heap.size, 2, none⟩ (.int .u64 0)).setCell ⟨w.heap.size, 3, none⟩ (.slice none 0 0)).setCell ⟨w.heap.size, 4, none⟩ (.slice none 0 0)).setCell ⟨w.heap.size, 5, none⟩ (.slice none 0 0)).setCell ⟨w.heap.size, 6, none⟩ (.slice none 0 0)).setCell ⟨w.heap.size, 7, none⟩ (.slice none 0 0)).setCell ⟨w.heap.size, 8, none⟩ (.slice none 0 0)).setCell ⟨w.heap.size, 9, none⟩ (.slice none 0 0)).setCell ⟨w.heap.size, 10, none⟩ (.slice none 0 0)).setCell ⟨w.heap.size, 11, none⟩ (.slice none 0 0))) (w.heap.size + 1) 0 (.int .i64 3)
   have e2' := (ec.block _ (heap_lt e2) (by omega)).trans e2
   have eD : D ≠ w.heap.size ∧ D ≠ w.heap.size + 1 := by omega
   have eK := (ec.block _ (by have := heap_lt hK; exact Nat.lt_of_lt_of_le this eb.size) eD.2).trans ((eb.block _ (heap_lt hK) eD.1).trans hK)
   have eB := ((hB).trans (Rb_below eb (Nat.le_refl _) hB.size)).trans (Rb_below ec (Nat.le_succ _) (Nat.le_trans hB.size eb.size))
   clear ec eb
   generalize ((((((((((((W.setCell ⟨w.heap.size, 0, none⟩ (.int .u64 0)).setCell ⟨w.heap.size, 1, none⟩ (.int .u64 0)).setCell ⟨w.heap.size, 2, none⟩ (.int .u64 0)).setCell ⟨w.heap.size, 3, none⟩ (.slice none 0 0)).setCell ⟨w.heap.size, 4, none⟩ (.slice none 0 0)).setCell ⟨w.heap.size, 5, none⟩ (.slice none 0 0)).setCell ⟨w.heap.size, 6, none⟩ (.slice none 0 0)).setCell ⟨w.heap.size, 7, none⟩ (.slice none 0 0)).setCell ⟨w.heap.size, 8, none⟩ (.slice none 0 0)).setCell ⟨w.heap.size, 9, none⟩ (.slice none 0 0)).setCell ⟨w.heap.size, 10, none⟩ (.slice none 0 0)).setCell ⟨w.heap.size, 11, none⟩ (.slice none 0 0)).setCell ⟨w.heap.size + 1, 0, none⟩ (.int .i64 3) = W9 at e2' e3 eK eB ⊢
   refine rk_end rfl rfl e2' e3 eK ⟨_, rfl, ?_, eB.trans (belowK_b (w := w) (Nat.le_refl _) W9 D _ _ (by simp only [World.size_alloc] at hD; omega) eK rfl rfl)⟩
   exact ReadT.no (by simp [readS, ha, hf]) _ _
 case stop =>
  rintro D c pre W hD hpre ⟨rfl, hnone, ⟨hE2, hE3⟩, hB⟩ hK
  gi_wp2
  refine rk_end rfl rfl hE2 hE3 hK ⟨_, rfl, ?_, hB.trans (belowK_b (w := w) (Nat.le_refl _) W D _ _ (by simp only [World.size_alloc] at hD; omega) hK rfl rfl)⟩
  exact ReadT.no (by unfold readS; rw [readF_bad (pre := pre.map Subtype.val) (by obtain ⟨t, rfl⟩ := hpre; exact ⟨t.map Subtype.val, by simp⟩) hnone]; rfl) _ _
theorem sread_any (kb vb : Nat) (l : List RowV) (w : World) (ho : OverAt w kb vb l) (hsz : ∀ x ∈ l, Sz x.1 ∧ Sz x.2) (hmax : l.length ≤ 2097152) :
  Calls Tryz.prog 18 #[overV kb vb] w fun e w' => ∃ v, e = .returned v ∧ ReadT l w v w' ∧ Below w.heap.size w w' := by
 have h := read_in 3 (by omega) kb vb (l.pmap Subtype.mk hsz) w
 rw [show (l.pmap Subtype.mk hsz).map Subtype.val = l by simp [List.map_pmap], List.length_pmap] at h
 exact (callsIn_wide (n := 3)).1 (h ho hmax)
end Go.Proofs.YthikijlbclckdaaGreat
