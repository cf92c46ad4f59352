/- Keep: contracts (Ru Rd Hg). -/
import Derived.Test.YtjkbfoeakeoeiaaGreatQ1
import Derived.Test.YtjkbfoeakeoeiaaGreatQ3
import Derived.Test.YtjkbfoeakeoeiaaGreatQ20
import Derived.Test.YtjkbfoeakeoeiaaGreatRows
import Derived.Deep.Slices
import Derived.ProofKit
import Derived.SizedLaws
import Derived.KernelRfl
namespace Go.Proofs.YtjkbfoeakeoeiaaGreat
set_option maxRecDepth 100000
set_option maxHeartbeats 40000000
set_option linter.unusedSimpArgs false
set_option linter.unusedVariables false
open Go.RowKit Go.Deep
structure Rep (P : Program) (t : TypeId) (α : Type) where
  R : (Nat → Prop) → World → List Value → α → Prop
  bulk : α → Nat
  len : ∀ {S : Nat → Prop} {w : World} {cs : List Value} {x : α}, R S w cs x → cs.length = P.cellsOf t
  mono : ∀ {S : Nat → Prop} {w w' : World} {cs : List Value} {x : α}, (∀ k, S k → k < w.heap.size → w'.heap[k]? = w.heap[k]?) → R S w cs x → R S w' cs x
  weak : ∀ {S S' : Nat → Prop} {w : World} {cs : List Value} {x : α}, (∀ k, k < w.heap.size → S k → S' k) → R S w cs x → R S' w cs x
  opens : ∀ {H : Type} {enc : TypeId × Value → H} {w : World} {base : Nat} {held : Bool} {fuel : Nat} {cs : List Value} {d : DataW H} {ps : List MemPlace},
    DataW.trod enc P w base (fun _ => true) held fuel t cs = some (d, ps) → (∀ n ∈ d.weights P t, n ≤ reachBytes) → ∃ x, R (fun k => base ≤ k ∧ k < w.heap.size) w cs x ∧ bulk x ≤ Rows.uptoBulk d
theorem bulk_one {H : Type} (d : DataW H) : 1 ≤ Rows.uptoBulk d := by
  cases d with
  | lit l => cases l <;> simp [Rows.uptoBulk]
  | nil => simp [Rows.uptoBulk]
  | ptr d => simp [Rows.uptoBulk]
  | slice elems spare => simp [Rows.uptoBulk]
  | agg parts => simp [Rows.uptoBulk]
  | iface t d => simp [Rows.uptoBulk]
  | map entries => simp [Rows.uptoBulk]
  | held h => simp [Rows.uptoBulk]
theorem cell_mono {S : Nat → Prop} {w w' : World} (h : ∀ k, S k → k < w.heap.size → w'.heap[k]? = w.heap[k]?) {a : Addr} (ha : S a.block) {v : Value} (hc : w.cell? a = some v) : w'.cell? a = some v := by
  rw [World.cell?_of_block (w := w) (h a.block ha (World.block_lt_of_cell? w a hc))]
  exact hc
section
variable {P : Program} {t e : TypeId} {α β : Type}
def Rep.int (k : IntKind) (ht : P.underlying t = some (.int k)) (hc : P.cellsOf t = 1) : Rep P t Int where
  R _ _ cs x := cs = [.int k x] ∧ (Lit.int k x).wf = true
  bulk _ := 1
  len h := by rw [h.1, hc]; rfl
  mono _ h := h
  weak _ h := h
  opens h _ := by
    obtain ⟨n, rfl, _, hw⟩ := DataW.trod_int ht h
    exact ⟨n, ⟨rfl, hw⟩, bulk_one _⟩
def Rep.u64 (ht : P.underlying t = some (.int .u64)) (hc : P.cellsOf t = 1) : Rep P t Nat where
  R _ _ cs x := cs = [.int .u64 (x : Int)] ∧ x < 18446744073709551616
  bulk _ := 1
  len h := by rw [h.1, hc]; rfl
  mono _ h := h
  weak _ h := h
  opens h _ := by
    obtain ⟨n, rfl, _, hw⟩ := DataW.trod_int ht h
    have hx : 0 ≤ n ∧ n ≤ 18446744073709551615 := by simpa [Lit.wf, IntKind.min, IntKind.max, IntKind.signed, IntKind.bits] using hw
    exact ⟨n.toNat, ⟨by rw [Int.toNat_of_nonneg hx.1], by omega⟩, bulk_one _⟩
def Rep.bool (ht : P.underlying t = some .bool) (hc : P.cellsOf t = 1) : Rep P t Bool where
  R _ _ cs x := cs = [.bool x]
  bulk _ := 1
  len h := by rw [h, hc]; rfl
  mono _ h := h
  weak _ h := h
  opens h _ := by
    obtain ⟨n, rfl, _⟩ := DataW.trod_bool ht h
    exact ⟨n, rfl, bulk_one _⟩
def Rep.str (ht : P.underlying t = some .string) (hc : P.cellsOf t = 1) : Rep P t ByteArray where
  R _ _ cs x := cs = [.string x] ∧ x.size ≤ reachBytes
  bulk x := x.size + 1
  len h := by rw [h.1, hc]; rfl
  mono _ h := h
  weak _ h := h
  opens h hw := by
    obtain ⟨s, rfl, hx, _⟩ := DataW.trod_string ht h
    injection hx with hd _
    subst hd
    refine ⟨s, ⟨rfl, ?_⟩, ?_⟩
    · have := hw s.data.toList.length (by simp [DataW.weights])
      rwa [Array.length_toList] at this
    · simp only [Rows.uptoBulk, Array.length_toList]; exact Nat.le_refl _
def Rep.SR (r : Rep P e α) (S : Nat → Prop) (w : World) (v : Value) (xs : List α) : Prop :=
  ∃ a cap, v = .slice a xs.length cap ∧ xs.length ≤ cap ∧ cap ≤ maxLen ∧ cap * P.bytesOf e ≤ reachBytes ∧
    ∀ i x, xs[i]? = some x → ∃ b off, a = some ⟨b, off, none⟩ ∧ S b ∧ ∃ cs, r.R S w cs x ∧ ∀ j u, cs[j]? = some u → w.cell? ⟨b, off + (i * P.cellsOf e + j), none⟩ = some u
theorem Rep.SR.mono {r : Rep P e α} {S : Nat → Prop} {w w' : World} {v : Value} {xs : List α} (hm : ∀ k, S k → k < w.heap.size → w'.heap[k]? = w.heap[k]?) (h : r.SR S w v xs) : r.SR S w' v xs := by
  obtain ⟨a, cap, hv, h1, h2, h3, h4⟩ := h
  refine ⟨a, cap, hv, h1, h2, h3, fun i x hx => ?_⟩
  obtain ⟨b, off, ha, hb, cs, hr, hc⟩ := h4 i x hx
  exact ⟨b, off, ha, hb, cs, r.mono hm hr, fun j u hu => cell_mono hm (a := ⟨b, off + (i * P.cellsOf e + j), none⟩) hb (hc j u hu)⟩
theorem Rep.SR.weak {r : Rep P e α} {S S' : Nat → Prop} {w : World} {v : Value} {xs : List α} (hpos : 0 < P.cellsOf e) (hm : ∀ k, k < w.heap.size → S k → S' k) (h : r.SR S w v xs) : r.SR S' w v xs := by
  obtain ⟨a, cap, hv, h1, h2, h3, h4⟩ := h
  refine ⟨a, cap, hv, h1, h2, h3, fun i x hx => ?_⟩
  obtain ⟨b, off, ha, hb, cs, hr, hc⟩ := h4 i x hx
  refine ⟨b, off, ha, ?_, cs, r.weak hm hr, hc⟩
  have hl := r.len hr
  have h0 : cs[0]? = some (cs[0]'(by omega)) := List.getElem?_eq_getElem _
  exact hm b (World.block_lt_of_cell? w _ (hc 0 _ h0)) hb
theorem Rep.SR.nil (r : Rep P e α) (S : Nat → Prop) (w : World) : r.SR S w (.slice none 0 0) [] := ⟨none, 0, rfl, Nat.le_refl _, by simp [maxLen], by simp, by simp⟩
theorem mapM_len {γ δ : Type} {f : γ → Option δ} : ∀ {l : List γ} {r : List δ}, l.mapM f = some r → r.length = l.length
  | [], r, h => by simp at h; subst h; rfl
  | c :: l, r, h => by
    simp only [List.mapM_cons, Option.bind_eq_bind, Option.bind_eq_some_iff, Option.pure_def, Option.some.injEq] at h
    obtain ⟨b, hb, r', hr', rfl⟩ := h
    simp [mapM_len hr']
theorem mapM_opt {γ δ : Type} {f : γ → Option δ} : ∀ {l : List γ} {r : List δ}, l.mapM f = some r → ∀ (i : Nat) (a : γ), l[i]? = some a → f a = r[i]?
  | [], r, h, i, a, ha => by simp at ha
  | c :: l, r, h, i, a, ha => by
    simp only [List.mapM_cons, Option.bind_eq_bind, Option.bind_eq_some_iff, Option.pure_def, Option.some.injEq] at h
    obtain ⟨b, hb, r', hr', rfl⟩ := h
    cases i with
    | zero => simp at ha; subst ha; simpa using hb
    | succ i => simpa using mapM_opt hr' i a (by simpa using ha)
theorem cells_at {w : World} {base : Nat} {a : Addr} {n : Nat} {cs : List Value} (h : w.cells? base a n = some cs) : base ≤ a.block ∧ cs.length = n ∧ ∀ j u, cs[j]? = some u → w.cell? (a.add j) = some u := by
  unfold World.cells? at h
  split at h
  · rename_i hb
    have hl : cs.length = n := by have := mapM_len h; simpa using this
    refine ⟨hb, hl, fun j u hu => ?_⟩
    have hj : j < n := by have := (List.getElem?_eq_some_iff.1 hu).1; omega
    have := mapM_opt h j j (by simp [hj])
    rw [this, hu]
  · cases h
theorem list_of {γ : Type} {Q : Nat → γ → Prop} : ∀ (n : Nat), (∀ i, i < n → ∃ x, Q i x) → ∃ xs : List γ, xs.length = n ∧ ∀ i x, xs[i]? = some x → Q i x
  | 0, _ => ⟨[], rfl, by simp⟩
  | n + 1, h => by
    obtain ⟨xs, hl, hx⟩ := list_of n (fun i hi => h i (by omega))
    obtain ⟨y, hy⟩ := h n (by omega)
    refine ⟨xs ++ [y], by simp [hl], fun i x hi => ?_⟩
    rcases Nat.lt_or_ge i n with h1 | h1
    · rw [List.getElem?_append_left (by omega)] at hi
      exact hx i x hi
    · rw [List.getElem?_append_right (by omega), hl] at hi
      have : i = n := by
        have := (List.getElem?_eq_some_iff.1 hi).1
        simp at this; omega
      subst this
      simp at hi
      subst hi
      exact hy
theorem weightsAll_mem' {H : Type} {P : Program} {e : TypeId} : ∀ {l : List (DataW H)} {d : DataW H}, d ∈ l → ∀ n ∈ d.weights P e, n ∈ DataW.weightsAll P e l
  | c :: l, d, hd, n, hn => by
    simp only [DataW.weightsAll, List.mem_append]
    rcases List.mem_cons.1 hd with rfl | hd
    · exact .inl hn
    · exact .inr (weightsAll_mem' hd n hn)
theorem sum_bulk {γ H : Type} (f : γ → Nat) : ∀ (xs : List γ) (ds : List (DataW H)), xs.length = ds.length → (∀ (i : Nat) (x : γ) (d : DataW H), xs[i]? = some x → ds[i]? = some d → f x ≤ Rows.uptoBulk d) → (xs.map f).sum ≤ Rows.uptoBulkAll ds
  | [], [], _, _ => by simp [Rows.uptoBulkAll]
  | x :: xs, d :: ds, hl, h => by
    have h0 := h 0 x d rfl rfl
    have h1 := sum_bulk f xs ds (by simpa using hl) (fun i y e hy he => h (i + 1) y e (by simpa using hy) (by simpa using he))
    simp only [List.map_cons, List.sum_cons, Rows.uptoBulkAll]
    omega
  | [], _ :: _, hl, _ => by simp at hl
  | _ :: _, [], hl, _ => by simp at hl
def Rep.slice (r : Rep P e α) (ht : P.underlying t = some (.slice e)) (hc : P.cellsOf t = 1) (hpos : 0 < P.cellsOf e) : Rep P t (List α) where
  R S w cs xs := ∃ v, cs = [v] ∧ r.SR S w v xs
  bulk xs := (xs.map r.bulk).sum + 1
  len h := by obtain ⟨v, rfl, _⟩ := h; rw [hc]; rfl
  mono hm h := by obtain ⟨v, hv, hs⟩ := h; exact ⟨v, hv, hs.mono hm⟩
  weak hm h := by obtain ⟨v, hv, hs⟩ := h; exact ⟨v, hv, hs.weak hpos hm⟩
  opens {H enc w base held fuel cs d ps} h hw := by
    rcases open_slice ht h with ⟨rfl, hx⟩ | ⟨a, len, cap, m, n, D, Pl, rfl, hb, hl, hm, hmm, hx, hel⟩
    · exact ⟨[], ⟨_, rfl, Rep.SR.nil r _ w⟩, bulk_one _⟩
    · injection hx with hd _
      subst hd
      simp only [if_true] at hmm
      subst hmm
      have hwt : (len + (m - len)) * P.bytesOf e ≤ reachBytes := by
        have := hw ((len + (m - len)) * P.bytesOf e) (by simp [DataW.weights, ht])
        exact this
      have hq : ∀ i, i < len → ∃ x, r.bulk x ≤ Rows.uptoBulk (D i) ∧ ∃ b off, (some a : Option Addr) = some ⟨b, off, none⟩ ∧ (base ≤ b ∧ b < w.heap.size) ∧ ∃ cs, r.R (fun k => base ≤ k ∧ k < w.heap.size) w cs x ∧ ∀ j u, cs[j]? = some u → w.cell? ⟨b, off + (i * P.cellsOf e + j), none⟩ = some u := by
        intro i hi
        obtain ⟨cs', hcs, htr⟩ := hel i (by omega)
        obtain ⟨hba, hcl, hcc⟩ := cells_at hcs
        obtain ⟨x, hx, hbk⟩ := r.opens htr (fun q hq => hw q (by
          simp only [DataW.weights, ht, List.mem_cons, List.mem_append]
          exact .inr (.inl (weightsAll_mem' (List.mem_map.2 ⟨i, by simp [hi], rfl⟩) q hq))))
        have hlen := r.len hx
        have hc0 := hcc 0 _ (List.getElem?_eq_getElem (show 0 < cs'.length by omega))
        have hspot : a.spot = none := by
          cases hs : a.spot with
          | none => rfl
          | some s =>
            exfalso
            obtain ⟨cs0, hcs0, _⟩ := hel 0 (by omega)
            obtain ⟨_, hl0, hc00⟩ := cells_at hcs0
            have := hc00 0 _ (List.getElem?_eq_getElem (show 0 < cs0.length by omega))
            simp [Addr.add, World.cell?, hs] at this
            split at this <;> simp at this
        obtain ⟨b, off, sp⟩ := a
        simp only at hspot
        subst hspot
        have hadd : ∀ j, ((⟨b, off, none⟩ : Addr).add (i * P.cellsOf e)).add j = ⟨b, off + (i * P.cellsOf e + j), none⟩ := by
          intro j
          unfold Addr.add
          split <;> split <;> simp_all [Nat.add_assoc]
        rw [hadd] at hc0
        exact ⟨x, hbk, b, off, rfl, ⟨hb, World.block_lt_of_cell? w _ hc0⟩, cs', hx, fun j u hu => by have := hcc j u hu; rwa [hadd] at this⟩
      obtain ⟨xs, hxl, hxs⟩ := list_of len hq
      refine ⟨xs, ⟨_, rfl, some a, m, by rw [hxl], by omega, hm, ?_, fun i x hx => (hxs i x hx).2⟩, ?_⟩
      · rwa [show len + (m - len) = m by omega] at hwt
      · have hs := sum_bulk r.bulk xs ((List.range len).map D) (by simp [hxl]) (fun i x d hx hd => by
          simp only [List.getElem?_map, Option.map_eq_some_iff] at hd
          obtain ⟨j, hj, rfl⟩ := hd
          have hj' : j = i := by
            have := List.getElem?_eq_some_iff.1 hj
            obtain ⟨h1, h2⟩ := this
            simp at h2
            omega
          subst hj'
          exact (hxs j x hx).1)
        simp only [Rows.uptoBulk]
        omega
structure Fl (P : Program) (fs : List Field) (α : Type) where
  R : (Nat → Prop) → World → List Value → α → Prop
  bulk : α → Nat
  mono : ∀ {S : Nat → Prop} {w w' : World} {cs : List Value} {x : α}, (∀ k, S k → k < w.heap.size → w'.heap[k]? = w.heap[k]?) → R S w cs x → R S w' cs x
  weak : ∀ {S S' : Nat → Prop} {w : World} {cs : List Value} {x : α}, (∀ k, k < w.heap.size → S k → S' k) → R S w cs x → R S' w cs x
  opens : ∀ {H : Type} {enc : TypeId × Value → H} {w : World} {base : Nat} {held : Bool} {fuel : Nat} {cs : List Value} {xs : List (DataW H × List MemPlace)}, xs.length = fs.length →
    (∀ (i : Nat) (f : Field), fs[i]? = some f → DataW.trod enc P w base (fun _ => true) held fuel f.type ((cs.drop f.offset).take (P.cellsOf f.type)) = xs[i]?) →
    (∀ n ∈ DataW.weightsEach P (fs.map (·.type)) (xs.map (·.1)), n ≤ reachBytes) → ∃ x, R (fun k => base ≤ k ∧ k < w.heap.size) w cs x ∧ bulk x ≤ Rows.uptoBulkAll (xs.map (·.1))
def Fl.nil (P : Program) : Fl P [] Unit where
  R _ _ _ _ := True
  bulk _ := 0
  mono _ _ := trivial
  weak _ _ := trivial
  opens _ _ _ := ⟨(), trivial, Nat.zero_le _⟩
def Fl.cons {f : Field} {fs : List Field} (r : Rep P f.type α) (l : Fl P fs β) : Fl P (f :: fs) (α × β) where
  R S w cs x := r.R S w ((cs.drop f.offset).take (P.cellsOf f.type)) x.1 ∧ l.R S w cs x.2
  bulk x := r.bulk x.1 + l.bulk x.2
  mono hm h := ⟨r.mono hm h.1, l.mono hm h.2⟩
  weak hm h := ⟨r.weak hm h.1, l.weak hm h.2⟩
  opens {H enc w base held fuel cs xs} hl h hw := by
    match xs, hl with
    | y :: ys, hl =>
      have h0 := h 0 f rfl
      obtain ⟨x, hx, hb1⟩ := r.opens (d := y.1) (ps := y.2) (by simpa using h0) (fun n hn => hw n (by simp only [List.map_cons, DataW.weightsEach, List.mem_append]; exact .inl hn))
      obtain ⟨z, hz, hb2⟩ := l.opens (xs := ys) (by simpa using hl) (fun i g hg => by simpa using h (i + 1) g (by simpa using hg)) (fun n hn => hw n (by simp only [List.map_cons, DataW.weightsEach, List.mem_append]; exact .inr hn))
      exact ⟨(x, z), ⟨hx, hz⟩, by simp only [List.map_cons, Rows.uptoBulkAll]; omega⟩
def Rep.struct {fs : Array Field} (ht : P.underlying t = some (.struct fs)) (l : Fl P fs.toList α) (g : α → β) (bk : β → Nat) (hbk : ∀ x, bk (g x) ≤ l.bulk x + 1) : Rep P t β where
  R S w cs y := cs.length = P.cellsOf t ∧ ∃ x, l.R S w cs x ∧ y = g x
  bulk := bk
  len h := h.1
  mono hm h := by obtain ⟨h1, x, h2, h3⟩ := h; exact ⟨h1, x, l.mono hm h2, h3⟩
  weak hm h := by obtain ⟨h1, x, h2, h3⟩ := h; exact ⟨h1, x, l.weak hm h2, h3⟩
  opens h hw := by
    obtain ⟨xs, n, _, hx, hl, hlen, hf⟩ := DataW.trod_struct ht h
    injection hx with hd _
    subst hd
    obtain ⟨x, hx, hb⟩ := l.opens (xs := xs) (by simpa using hlen) (fun i f hf' => hf i f (by simpa using hf')) (fun n hn => hw n (by simpa [DataW.weights, ht] using hn))
    exact ⟨g x, ⟨hl, x, hx, rfl⟩, by have := hbk x; simp only [Rows.uptoBulk]; omega⟩
theorem Rep.arg (r : Rep P t α) {H : Type} {enc : TypeId × Value → H} {W : World} {held : Bool} {v : Value} {d : DataW H} {p : List MemPlace} (h : DataW.Trod enc P W 0 (fun _ => true) held t v d p)
    {ts : List TypeId} {ds : List (DataW H)} (hsz : (DataW.weightsEach P ts ds).all (· ≤ reachBytes) = true) {j : Nat} (hj : ts[j]? = some t) (hd : ds[j]? = some d) : ∃ x, r.R (fun k => k < W.heap.size) W v.cells.toList x ∧ r.bulk x ≤ Rows.uptoBulk d := by
  obtain ⟨fuel, hf⟩ := h
  obtain ⟨x, hx, hb⟩ := r.opens hf (fun n hn => by
    have := List.all_eq_true.1 hsz n (DataW.weights_mem_each hj hd n hn)
    simpa using this)
  exact ⟨x, r.weak (fun k _ hk => hk.2) hx, hb⟩
end
end Go.Proofs.YtjkbfoeakeoeiaaGreat
namespace Go.Proofs.YtjkbfoeakeoeiaaGreat
set_option maxRecDepth 100000
set_option maxHeartbeats 40000000
set_option linter.unusedSimpArgs false
set_option linter.unusedVariables false
open Go.RowKit
theorem cz_str : Tryz.prog.cellsOf 9 = 1 := by kernel_rfl
theorem cz_u : Tryz.prog.cellsOf 22 = 1 := by kernel_rfl
theorem cz_int : Tryz.prog.cellsOf 3 = 1 := by kernel_rfl
theorem cz_i64 : Tryz.prog.cellsOf 2 = 1 := by kernel_rfl
theorem cz_bool : Tryz.prog.cellsOf 4 = 1 := by kernel_rfl
theorem cz_val : Tryz.prog.cellsOf 78 = 3 := by kernel_rfl
theorem cz_var : Tryz.prog.cellsOf 80 = 4 := by kernel_rfl
theorem bz_var : Tryz.prog.bytesOf 80 = 48 := by kernel_rfl
noncomputable def rdStr : Rep Tryz.prog 9 ByteArray := Rep.str Tryz.underlying9 cz_str
noncomputable def rdU : Rep Tryz.prog 22 Nat := Rep.u64 Tryz.underlying22 cz_u
noncomputable def rdInt : Rep Tryz.prog 3 Int := Rep.int .i64 Tryz.underlying3 cz_int
noncomputable def rdI64 : Rep Tryz.prog 2 Int := Rep.int .i64 Tryz.underlying2 cz_i64
noncomputable def rdBool : Rep Tryz.prog 4 Bool := Rep.bool Tryz.underlying4 cz_bool
noncomputable def rdNats : Rep Tryz.prog 64 (List Nat) := Rep.slice rdU Tryz.underlying64 (by kernel_rfl) (by rw [cz_u]; exact Nat.one_pos)
noncomputable def rdVal : Rep Tryz.prog 78 ValV :=
  Rep.struct Tryz.underlying78 (Fl.cons rdInt (Fl.cons rdI64 (Fl.cons rdStr (Fl.nil _)))) (fun x => ⟨x.1, x.2.1, x.2.2.1⟩) (fun y => rdInt.bulk y.k + (rdI64.bulk y.n + (rdStr.bulk y.s + (0))) + 1) (fun _ => Nat.le_refl _)
noncomputable def rdVar : Rep Tryz.prog 80 VarV :=
  Rep.struct Tryz.underlying80 (Fl.cons rdStr (Fl.cons rdVal (Fl.nil _))) (fun x => ⟨x.1, x.2.1⟩) (fun y => rdStr.bulk y.name + (rdVal.bulk y.v + (0)) + 1) (fun _ => Nat.le_refl _)
noncomputable def rdVars : Rep Tryz.prog 47 (List VarV) := Rep.slice rdVar Tryz.underlying47 (by kernel_rfl) (by rw [cz_var]; omega)
theorem wf64 {n : Int} (h : (Lit.int .i64 n).wf = true) : I64 n := by
  have hx : -9223372036854775808 ≤ n ∧ n ≤ 9223372036854775807 := by simpa [Lit.wf, IntKind.min, IntKind.max, IntKind.signed, IntKind.bits] using h
  exact hx
theorem rdVar_at {S : Nat → Prop} {w : World} {cs : List Value} {y : VarV} (h : rdVar.R S w cs y) : cs = [.string y.name, .int .i64 y.v.k, .int .i64 y.v.n, .string y.v.s] ∧ I64 y.v.n := by
  obtain ⟨hl, x, ⟨h1, h2, -⟩, rfl⟩ := h
  rw [cz_var] at hl
  match cs, hl with
  | [a, b, c, d], _ =>
    obtain ⟨hl2, z, ⟨g1, g2, g3, -⟩, hz⟩ := h2
    obtain ⟨h1, b1⟩ := h1
    obtain ⟨g1, d1⟩ := g1
    obtain ⟨g2, d2⟩ := g2
    obtain ⟨g3, d3⟩ := g3
    simp only [cz_str, cz_int, cz_i64, cz_val, List.drop_succ_cons, List.drop_zero, List.take_succ_cons, List.take_zero, List.cons.injEq, and_true] at h1 g1 g2 g3
    dsimp only
    rw [hz]
    exact ⟨by rw [h1, g1, g2, g3], wf64 d2⟩
theorem vars_at {S : Nat → Prop} {w : World} {v : Value} {l : List VarV} (h : rdVar.SR S w v l) : VarsAt w v l := by
  obtain ⟨a, cap, hv, h1, h2, h3, h4⟩ := h
  rw [bz_var] at h3
  refine ⟨a, cap, hv, h1, by unfold reachBytes at h3; omega, fun i x hx => ?_⟩
  obtain ⟨b, off, ha, -, cs, hr, hc⟩ := h4 i x hx
  obtain ⟨rfl, -⟩ := rdVar_at hr
  rw [cz_var] at hc
  exact ⟨b, off, ha, hc 0 _ rfl, hc 1 _ rfl, hc 2 _ rfl, hc 3 _ rfl⟩
end Go.Proofs.YtjkbfoeakeoeiaaGreat
namespace Go.Proofs.YtjkbfoeakeoeiaaGreat
set_option maxRecDepth 100000
set_option maxHeartbeats 40000000
set_option linter.unusedSimpArgs false
set_option linter.unusedVariables false
open Go.RowKit
theorem cz_Rec : Tryz.prog.cellsOf 49 = 13 := by kernel_rfl
theorem cz_vars : Tryz.prog.cellsOf 47 = 1 := by kernel_rfl
noncomputable def rdRec : Rep Tryz.prog 49 RecV :=
  Rep.struct Tryz.underlying49 (Fl.cons rdInt (Fl.cons rdInt (Fl.cons rdU (Fl.cons rdI64 (Fl.cons rdU (Fl.cons rdU (Fl.cons rdU (Fl.cons rdI64 (Fl.cons rdI64 (Fl.cons rdStr (Fl.cons rdStr (Fl.cons rdStr (Fl.cons rdVars (Fl.nil _)))))))))))))) (fun x => ⟨x.1, x.2.1, x.2.2.1, x.2.2.2.1, x.2.2.2.2.1, x.2.2.2.2.2.1, x.2.2.2.2.2.2.1, x.2.2.2.2.2.2.2.1, x.2.2.2.2.2.2.2.2.1, x.2.2.2.2.2.2.2.2.2.1, x.2.2.2.2.2.2.2.2.2.2.1, x.2.2.2.2.2.2.2.2.2.2.2.1, x.2.2.2.2.2.2.2.2.2.2.2.2.1⟩) (fun y => rdInt.bulk y.cls + (rdInt.bulk y.kind + (rdU.bulk y.from_ + (rdI64.bulk y.time + (rdU.bulk y.key + (rdU.bulk y.key2 + (rdU.bulk y.key3 + (rdI64.bulk y.n + (rdI64.bulk y.m + (rdStr.bulk y.a + (rdStr.bulk y.b + (rdStr.bulk y.c + (rdVars.bulk y.vars + (0))))))))))))) + 1) (fun _ => Nat.le_refl _)
theorem vars_in {S : Nat → Prop} {w : World} {v : Value} {l : List VarV} (h : rdVar.SR S w v l) : ∀ y ∈ l, I64 y.v.n := by
  intro y hy
  obtain ⟨i, hi⟩ := List.mem_iff_getElem?.1 hy
  obtain ⟨a, cap, hv, h1, h2, h3, h4⟩ := h
  obtain ⟨b, off, ha, -, cs, hr, hc⟩ := h4 i y hi
  exact (rdVar_at hr).2
theorem rdRec_at {S : Nat → Prop} {w : World} {cs : List Value} {y : RecV} (h : rdRec.R S w cs y) : (∃ a cap, cs = [I y.cls, I y.kind, U y.from_, I y.time, U y.key, U y.key2, U y.key3, I y.n, I y.m, .string y.a, .string y.b, .string y.c, .slice a y.vars.length cap] ∧ VarsAt w (.slice a y.vars.length cap) y.vars) ∧ RecIn y := by
  obtain ⟨hl, x, ⟨h0, h1, h2, h3, h4, h5, h6, h7, h8, h9, h10, h11, h12, -⟩, rfl⟩ := h
  rw [cz_Rec] at hl
  match cs, hl with
  | [c0, c1, c2, c3, c4, c5, c6, c7, c8, c9, c10, c11, c12], _ =>
    obtain ⟨h0, b0⟩ := h0
    obtain ⟨h1, b1⟩ := h1
    obtain ⟨h2, b2⟩ := h2
    obtain ⟨h3, b3⟩ := h3
    obtain ⟨h4, b4⟩ := h4
    obtain ⟨h5, b5⟩ := h5
    obtain ⟨h6, b6⟩ := h6
    obtain ⟨h7, b7⟩ := h7
    obtain ⟨h8, b8⟩ := h8
    obtain ⟨h9, b9⟩ := h9
    obtain ⟨h10, b10⟩ := h10
    obtain ⟨h11, b11⟩ := h11
    obtain ⟨v12, h12, s12⟩ := h12
    simp only [cz_str, cz_int, cz_i64, cz_u, cz_vars, List.drop_succ_cons, List.drop_zero, List.take_succ_cons, List.take_zero, List.cons.injEq, and_true] at h0 h1 h2 h3 h4 h5 h6 h7 h8 h9 h10 h11 h12
    subst h0 h1 h2 h3 h4 h5 h6 h7 h8 h9 h10 h11 h12
    have hv := vars_at s12
    obtain ⟨a, cap, e, h1⟩ := hv
    have hv := vars_at s12
    rw [e] at hv
    refine ⟨⟨a, cap, ?_, hv⟩, ⟨wf64 b0, wf64 b1, b2, wf64 b3, b4, b5, b6, wf64 b7, wf64 b8, vars_in s12⟩⟩
    dsimp only
    rw [e]
theorem cz_Meets : Tryz.prog.cellsOf 51 = 28 := by kernel_rfl
noncomputable def rdMeets : Rep Tryz.prog 51 (RecV × RecV × Bool × Int) :=
  Rep.struct Tryz.underlying51 (Fl.cons rdRec (Fl.cons rdRec (Fl.cons rdBool (Fl.cons rdI64 (Fl.nil _))))) (fun x => (x.1, x.2.1, x.2.2.1, x.2.2.2.1)) (fun y => rdRec.bulk y.1 + (rdRec.bulk y.2.1 + (rdBool.bulk y.2.2.1 + (rdI64.bulk y.2.2.2 + (0)))) + 1) (fun _ => Nat.le_refl _)
theorem meets_law (x : RecV × RecV × Bool × Int) (c : Array Value) (w : World) {S : Nat → Prop} (h : rdMeets.R S w (Value.agg c).cells.toList x) :
    Calls Tryz.prog 4 #[.agg c] w fun e w' => e = .returned (.bool true) ∧ Below w.heap.size w w' := by
  obtain ⟨hl, z, ⟨ha, hb, hf, hw, -⟩, rfl⟩ := h
  obtain ⟨a, b, first, wait, u⟩ := z
  rw [cz_Meets] at hl
  have hc : (Value.agg c).cells.toList = c.toList := rfl
  rw [hc] at hl ha hb hf hw
  obtain ⟨⟨aa, ac, ea, va⟩, ia⟩ := rdRec_at ha
  obtain ⟨⟨ba, bc, eb, -⟩, ib⟩ := rdRec_at hb
  obtain ⟨ew, iw⟩ := hw
  have hwt := wf64 iw
  change _ = [_] at hf
  rw [cz_Rec] at ea eb
  simp only [cz_bool, cz_i64] at hf ew
  have e : c.toList = [I a.cls, I a.kind, U a.from_, I a.time, U a.key, U a.key2, U a.key3, I a.n, I a.m, .string a.a, .string a.b, .string a.c, .slice aa a.vars.length ac, I b.cls, I b.kind, U b.from_, I b.time, U b.key, U b.key2, U b.key3, I b.n, I b.m, .string b.a, .string b.b, .string b.c, .slice ba b.vars.length bc, .bool first, I wait] := by
    have e1 : c.toList = (c.toList.drop 0).take 13 ++ ((c.toList.drop 13).take 13 ++ ((c.toList.drop 26).take 1 ++ (c.toList.drop 27).take 1)) := by
      generalize c.toList = l at hl
      match l, hl with
      | [_, _, _, _, _, _, _, _, _, _, _, _, _, _, _, _, _, _, _, _, _, _, _, _, _, _, _, _], _ => rfl
    rw [e1, ea, eb, hf, ew]
    rfl
  obtain rfl : c = #[I a.cls, I a.kind, U a.from_, I a.time, U a.key, U a.key2, U a.key3, I a.n, I a.m, .string a.a, .string a.b, .string a.c, .slice aa a.vars.length ac, I b.cls, I b.kind, U b.from_, I b.time, U b.key, U b.key2, U b.key3, I b.n, I b.m, .string b.a, .string b.b, .string b.c, .slice ba b.vars.length bc, .bool first, I wait] := by
    rw [← Array.toArray_toList (xs := c), e]
  exact meets_any w a b first wait aa ba ac _ bc ia hwt va
end Go.Proofs.YtjkbfoeakeoeiaaGreat
