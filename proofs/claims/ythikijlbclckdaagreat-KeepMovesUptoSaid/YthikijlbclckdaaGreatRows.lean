/-
  No cell of these rows narrows 'for every input' (looked for: loops, veiled, ifaces, maps, wideKeys, modest, calm, conditions, laid).
  DERIVED. THE GIVEN ROWS OF THIS SEAT. 7 by the template 'for every input the law returns true; each argument reads behind the call as it read before'; 0 by the template 'total and deterministic' (their statements: YthikijlbclckdaaGreatTotals.lean).
  GIVEN WITH THE SEED: the statements are not yours to turn. If you find one false, say at which input.
  Laid BY PROGRAM, IN A SANDBOX (cutbox-rows.mjs): the forced cells as the released guide's own fill.sh prints them over the translation a080a7541db4a656… (all of the seat's roots in one cut). By AI agents, Wed Nov 11 2026. No macro, syntax, notation, axiom, sorry.
-/
import Derived.Test.YthikijlbclckdaaGreatChecked
import GoSem.Claim
import GoSem.ClaimJoined
import GoSem.ClaimMapViews
import Derived.JoinedTies
import Derived.KernelRfl
namespace Go.Proofs.YthikijlbclckdaaGreat
/- THE CELL 'sum', in the pinned program and in every row, IS THE sha256 OF THE DUMP (.gsa) THAT YthikijlbclckdaaGreatProg.lean LOADS. Nothing in Lean hashes anything: it is a label: what it is worth is what the hold of that sum in a sandbox is worth. -/
noncomputable def Tryz.pinned : Pinned := { name := "ythikijlbclckdaagreat", sum := "a080a7541db4a65616166ac2585828f2e630ae69305692afbb990b67b4b56725", checked := Tryz.checked }
namespace Rows
def none {H : Type} : Left H := { results := [], args := [] }

/-- 'wherrylaw14.KeepRows': WHATEVER THE INPUT: true; the input reads as it did. -/
def keepRowsSpec : ChangeSpec := { name := "keepRows", fn := fun _ => fun
  | [d] => { results := [.lit (.bool true)], args := [d] }
  | _ => none }
def keepRowsRow : OpenClaim := { program := "ythikijlbclckdaagreat", sum := "a080a7541db4a65616166ac2585828f2e630ae69305692afbb990b67b4b56725", func := "wherry/wherrylaw14.KeepRows", spec := "keepRows", inPlace := ["internal/abi.NoEscape"], unfollowed := true, recurses := true, apart := false }
def KeepRowsSaid : Prop := keepRowsRow.holds Tryz.pinned (OpenSpec.ofChange keepRowsSpec)

/-- ITS FALSE NEIGHBOUR: 'it returns false'. Refute it at one input. -/
def keepRowsWrong : ChangeSpec := { name := "keepRows", fn := fun _ => fun
  | [d] => { results := [.lit (.bool false)], args := [d] }
  | _ => none }
def KeepRowsWrongFalsely : Prop := keepRowsRow.holds Tryz.pinned (OpenSpec.ofChange keepRowsWrong)

/-- 'wherrylaw14.KeepRises': WHATEVER THE INPUT: true; the input reads as it did. -/
def keepRisesSpec : ChangeSpec := { name := "keepRises", fn := fun _ => fun
  | [d] => { results := [.lit (.bool true)], args := [d] }
  | _ => none }
def keepRisesRow : OpenClaim := { program := "ythikijlbclckdaagreat", sum := "a080a7541db4a65616166ac2585828f2e630ae69305692afbb990b67b4b56725", func := "wherry/wherrylaw14.KeepRises", spec := "keepRises", inPlace := ["internal/abi.NoEscape"], unfollowed := true, recurses := true, apart := false }
def KeepRisesSaid : Prop := keepRisesRow.holds Tryz.pinned (OpenSpec.ofChange keepRisesSpec)

/-- ITS FALSE NEIGHBOUR: 'it returns false'. Refute it at one input. -/
def keepRisesWrong : ChangeSpec := { name := "keepRises", fn := fun _ => fun
  | [d] => { results := [.lit (.bool false)], args := [d] }
  | _ => none }
def KeepRisesWrongFalsely : Prop := keepRisesRow.holds Tryz.pinned (OpenSpec.ofChange keepRisesWrong)

/-- 'wherrylaw14.KeepReads': WHATEVER THE INPUT: true; the input reads as it did. -/
def keepReadsSpec : ChangeSpec := { name := "keepReads", fn := fun _ => fun
  | [d] => { results := [.lit (.bool true)], args := [d] }
  | _ => none }
def keepReadsRow : OpenClaim := { program := "ythikijlbclckdaagreat", sum := "a080a7541db4a65616166ac2585828f2e630ae69305692afbb990b67b4b56725", func := "wherry/wherrylaw14.KeepReads", spec := "keepReads", inPlace := ["internal/abi.NoEscape"], unfollowed := true, recurses := true, apart := false }
def KeepReadsSaid : Prop := keepReadsRow.holds Tryz.pinned (OpenSpec.ofChange keepReadsSpec)

/-- ITS FALSE NEIGHBOUR: 'it returns false'. Refute it at one input. -/
def keepReadsWrong : ChangeSpec := { name := "keepReads", fn := fun _ => fun
  | [d] => { results := [.lit (.bool false)], args := [d] }
  | _ => none }
def KeepReadsWrongFalsely : Prop := keepReadsRow.holds Tryz.pinned (OpenSpec.ofChange keepReadsWrong)

/-- 'wherrylaw14.KeepBack': WHATEVER THE INPUT: true; the input reads as it did. -/
def keepBackSpec : ChangeSpec := { name := "keepBack", fn := fun _ => fun
  | [d1, d2] => { results := [.lit (.bool true)], args := [d1, d2] }
  | _ => none }
def keepBackRow : OpenClaim := { program := "ythikijlbclckdaagreat", sum := "a080a7541db4a65616166ac2585828f2e630ae69305692afbb990b67b4b56725", func := "wherry/wherrylaw14.KeepBack", spec := "keepBack", inPlace := ["internal/abi.NoEscape"], unfollowed := true, recurses := true, apart := false }
def KeepBackSaid : Prop := keepBackRow.holds Tryz.pinned (OpenSpec.ofChange keepBackSpec)

/-- ITS FALSE NEIGHBOUR: 'it returns false'. Refute it at one input. -/
def keepBackWrong : ChangeSpec := { name := "keepBack", fn := fun _ => fun
  | [d1, d2] => { results := [.lit (.bool false)], args := [d1, d2] }
  | _ => none }
def KeepBackWrongFalsely : Prop := keepBackRow.holds Tryz.pinned (OpenSpec.ofChange keepBackWrong)

/-- 'wherrylaw14.KeepChanges': WHATEVER THE INPUT: true; the input reads as it did. -/
def keepChangesSpec : ChangeSpec := { name := "keepChanges", fn := fun _ => fun
  | [d1, d2] => { results := [.lit (.bool true)], args := [d1, d2] }
  | _ => none }
def keepChangesRow : OpenClaim := { program := "ythikijlbclckdaagreat", sum := "a080a7541db4a65616166ac2585828f2e630ae69305692afbb990b67b4b56725", func := "wherry/wherrylaw14.KeepChanges", spec := "keepChanges", inPlace := ["internal/abi.NoEscape"], unfollowed := true, recurses := true, apart := false }
def KeepChangesSaid : Prop := keepChangesRow.holds Tryz.pinned (OpenSpec.ofChange keepChangesSpec)

/-- ITS FALSE NEIGHBOUR: 'it returns false'. Refute it at one input. -/
def keepChangesWrong : ChangeSpec := { name := "keepChanges", fn := fun _ => fun
  | [d1, d2] => { results := [.lit (.bool false)], args := [d1, d2] }
  | _ => none }
def KeepChangesWrongFalsely : Prop := keepChangesRow.holds Tryz.pinned (OpenSpec.ofChange keepChangesWrong)

/-- 'wherrylaw14.KeepMoves': WHATEVER THE INPUT: true; the input reads as it did. -/
def keepMovesSpec : ChangeSpec := { name := "keepMoves", fn := fun _ => fun
  | [d1, d2] => { results := [.lit (.bool true)], args := [d1, d2] }
  | _ => none }
def keepMovesRow : OpenClaim := { program := "ythikijlbclckdaagreat", sum := "a080a7541db4a65616166ac2585828f2e630ae69305692afbb990b67b4b56725", func := "wherry/wherrylaw14.KeepMoves", spec := "keepMoves", inPlace := ["internal/abi.NoEscape"], unfollowed := true, recurses := true, apart := false }
def KeepMovesSaid : Prop := keepMovesRow.holds Tryz.pinned (OpenSpec.ofChange keepMovesSpec)

/-- ITS FALSE NEIGHBOUR: 'it returns false'. Refute it at one input. -/
def keepMovesWrong : ChangeSpec := { name := "keepMoves", fn := fun _ => fun
  | [d1, d2] => { results := [.lit (.bool false)], args := [d1, d2] }
  | _ => none }
def KeepMovesWrongFalsely : Prop := keepMovesRow.holds Tryz.pinned (OpenSpec.ofChange keepMovesWrong)

/-- 'wherrylaw14.KeepLeast': WHATEVER THE INPUT: true; the input reads as it did. -/
def keepLeastSpec : ChangeSpec := { name := "keepLeast", fn := fun _ => fun
  | [d1, d2] => { results := [.lit (.bool true)], args := [d1, d2] }
  | _ => none }
def keepLeastRow : OpenClaim := { program := "ythikijlbclckdaagreat", sum := "a080a7541db4a65616166ac2585828f2e630ae69305692afbb990b67b4b56725", func := "wherry/wherrylaw14.KeepLeast", spec := "keepLeast", inPlace := ["internal/abi.NoEscape"], unfollowed := true, recurses := true, apart := false }
def KeepLeastSaid : Prop := keepLeastRow.holds Tryz.pinned (OpenSpec.ofChange keepLeastSpec)

/-- ITS FALSE NEIGHBOUR: 'it returns false'. Refute it at one input. -/
def keepLeastWrong : ChangeSpec := { name := "keepLeast", fn := fun _ => fun
  | [d1, d2] => { results := [.lit (.bool false)], args := [d1, d2] }
  | _ => none }
def KeepLeastWrongFalsely : Prop := keepLeastRow.holds Tryz.pinned (OpenSpec.ofChange keepLeastWrong)

/- THE SECOND FORM. 'bulk': how many values and letters a reading holds, each counted each time it is reached (what is shared counts as often as it is met; a slice's spare places count too). A statement '..UptoSaid' is the law's where the arguments, and the package variables that the reading takes, are together of bulk at most 1048576: NARROWER than '..Said'. Prove '..Said' where nothing that the law and all that it calls make is longer than what came in: it says more and counts as full. Else prove '..UptoSaid'. A law counts once. -/
mutual
def uptoBulk {H : Type} : DataW H → Nat
  | .lit (.string bytes) => bytes.length + 1
  | .lit _ => 1
  | .nil => 1
  | .ptr d => uptoBulk d + 1
  | .slice elems spare => uptoBulkAll elems + uptoBulkAll spare + 1
  | .agg parts => uptoBulkAll parts + 1
  | .iface _ d => uptoBulk d + 1
  | .map entries => uptoBulkEntries entries + 1
  | .held _ => 1
def uptoBulkAll {H : Type} : List (DataW H) → Nat
  | [] => 0
  | d :: r => uptoBulk d + uptoBulkAll r
def uptoBulkEntries {H : Type} : List (Lit × DataW H) → Nat
  | [] => 0
  | x :: r => uptoBulkEntry x + uptoBulkEntries r
def uptoBulkEntry {H : Type} : Lit × DataW H → Nat
  | (.string bytes, d) => bytes.length + uptoBulk d + 1
  | (_, d) => uptoBulk d + 1
 end
def uptoSmall : (H : Type) → List (DataW H) → Bool := fun _ ds => decide (uptoBulkAll ds ≤ 1048576)
def OpenSpec.upto (s : _root_.Go.ChangeSpec) : _root_.Go.OpenSpec := { _root_.Go.OpenSpec.ofChange s with cond := some uptoSmall }

/-- 'wherrylaw14.KeepRows', WHERE WHAT IT READS IS OF BULK AT MOST 1048576: true; the input reads as it did. -/
def keepRowsUptoRow : OpenClaim := { program := "ythikijlbclckdaagreat", sum := "a080a7541db4a65616166ac2585828f2e630ae69305692afbb990b67b4b56725", func := "wherry/wherrylaw14.KeepRows", spec := "keepRows", inPlace := ["internal/abi.NoEscape"], unfollowed := true, recurses := true, apart := false, narrowed := true }
def KeepRowsUptoSaid : Prop := keepRowsUptoRow.holds Tryz.pinned (OpenSpec.upto keepRowsSpec)

/-- 'wherrylaw14.KeepRises', WHERE WHAT IT READS IS OF BULK AT MOST 1048576: true; the input reads as it did. -/
def keepRisesUptoRow : OpenClaim := { program := "ythikijlbclckdaagreat", sum := "a080a7541db4a65616166ac2585828f2e630ae69305692afbb990b67b4b56725", func := "wherry/wherrylaw14.KeepRises", spec := "keepRises", inPlace := ["internal/abi.NoEscape"], unfollowed := true, recurses := true, apart := false, narrowed := true }
def KeepRisesUptoSaid : Prop := keepRisesUptoRow.holds Tryz.pinned (OpenSpec.upto keepRisesSpec)

/-- 'wherrylaw14.KeepReads', WHERE WHAT IT READS IS OF BULK AT MOST 1048576: true; the input reads as it did. -/
def keepReadsUptoRow : OpenClaim := { program := "ythikijlbclckdaagreat", sum := "a080a7541db4a65616166ac2585828f2e630ae69305692afbb990b67b4b56725", func := "wherry/wherrylaw14.KeepReads", spec := "keepReads", inPlace := ["internal/abi.NoEscape"], unfollowed := true, recurses := true, apart := false, narrowed := true }
def KeepReadsUptoSaid : Prop := keepReadsUptoRow.holds Tryz.pinned (OpenSpec.upto keepReadsSpec)

/-- 'wherrylaw14.KeepBack', WHERE WHAT IT READS IS OF BULK AT MOST 1048576: true; the input reads as it did. -/
def keepBackUptoRow : OpenClaim := { program := "ythikijlbclckdaagreat", sum := "a080a7541db4a65616166ac2585828f2e630ae69305692afbb990b67b4b56725", func := "wherry/wherrylaw14.KeepBack", spec := "keepBack", inPlace := ["internal/abi.NoEscape"], unfollowed := true, recurses := true, apart := false, narrowed := true }
def KeepBackUptoSaid : Prop := keepBackUptoRow.holds Tryz.pinned (OpenSpec.upto keepBackSpec)

/-- 'wherrylaw14.KeepChanges', WHERE WHAT IT READS IS OF BULK AT MOST 1048576: true; the input reads as it did. -/
def keepChangesUptoRow : OpenClaim := { program := "ythikijlbclckdaagreat", sum := "a080a7541db4a65616166ac2585828f2e630ae69305692afbb990b67b4b56725", func := "wherry/wherrylaw14.KeepChanges", spec := "keepChanges", inPlace := ["internal/abi.NoEscape"], unfollowed := true, recurses := true, apart := false, narrowed := true }
def KeepChangesUptoSaid : Prop := keepChangesUptoRow.holds Tryz.pinned (OpenSpec.upto keepChangesSpec)

/-- 'wherrylaw14.KeepMoves', WHERE WHAT IT READS IS OF BULK AT MOST 1048576: true; the input reads as it did. -/
def keepMovesUptoRow : OpenClaim := { program := "ythikijlbclckdaagreat", sum := "a080a7541db4a65616166ac2585828f2e630ae69305692afbb990b67b4b56725", func := "wherry/wherrylaw14.KeepMoves", spec := "keepMoves", inPlace := ["internal/abi.NoEscape"], unfollowed := true, recurses := true, apart := false, narrowed := true }
def KeepMovesUptoSaid : Prop := keepMovesUptoRow.holds Tryz.pinned (OpenSpec.upto keepMovesSpec)

/-- 'wherrylaw14.KeepLeast', WHERE WHAT IT READS IS OF BULK AT MOST 1048576: true; the input reads as it did. -/
def keepLeastUptoRow : OpenClaim := { program := "ythikijlbclckdaagreat", sum := "a080a7541db4a65616166ac2585828f2e630ae69305692afbb990b67b4b56725", func := "wherry/wherrylaw14.KeepLeast", spec := "keepLeast", inPlace := ["internal/abi.NoEscape"], unfollowed := true, recurses := true, apart := false, narrowed := true }
def KeepLeastUptoSaid : Prop := keepLeastUptoRow.holds Tryz.pinned (OpenSpec.upto keepLeastSpec)

end Rows
end Go.Proofs.YthikijlbclckdaaGreat
