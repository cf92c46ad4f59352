/-
  No cell of these rows narrows 'for every input' (looked for: loops, veiled, ifaces, maps, wideKeys, modest, calm, conditions, laid).
  DERIVED. THE GIVEN ROWS OF THIS SEAT. 3 by the template 'for every input the law returns true; each argument reads behind the call as it read before'; 0 by the template 'total and deterministic' (their statements: YtjkbfoeakeoeiaaGreatTotals.lean).
  GIVEN WITH THE SEED: the statements are not yours to turn. If you find one false, say at which input.
  Laid BY PROGRAM, IN A SANDBOX (cutbox-rows.mjs): the forced cells as the released guide's own fill.sh prints them over the translation 3097bdb1bb9e1353… (all of the seat's roots in one cut). By AI agents, Wed Nov 11 2026. No macro, syntax, notation, axiom, sorry.
-/
import Derived.Test.YtjkbfoeakeoeiaaGreatChecked
import GoSem.Claim
import GoSem.ClaimJoined
import GoSem.ClaimMapViews
import Derived.JoinedTies
import Derived.KernelRfl
namespace Go.Proofs.YtjkbfoeakeoeiaaGreat
/- THE CELL 'sum', in the pinned program and in every row, IS THE sha256 OF THE DUMP (.gsa) THAT YtjkbfoeakeoeiaaGreatProg.lean LOADS. Nothing in Lean hashes anything: it is a label: what it is worth is what the hold of that sum in a sandbox is worth. -/
noncomputable def Tryz.pinned : Pinned := { name := "ytjkbfoeakeoeiaagreat", sum := "3097bdb1bb9e135376e4e6da02ce4d9de305ec1e5d9a0fb1ad533c4ae508be59", checked := Tryz.checked }
namespace Rows
def none {H : Type} : Left H := { results := [], args := [] }

/-- 'wherrylaw17.MatchAsks': WHATEVER THE INPUT: true; the input reads as it did. -/
def matchAsksSpec : ChangeSpec := { name := "matchAsks", fn := fun _ => fun
  | [d] => { results := [.lit (.bool true)], args := [d] }
  | _ => none }
def matchAsksRow : OpenClaim := { program := "ytjkbfoeakeoeiaagreat", sum := "3097bdb1bb9e135376e4e6da02ce4d9de305ec1e5d9a0fb1ad533c4ae508be59", func := "wherry/wherrylaw17.MatchAsks", spec := "matchAsks", inPlace := ["internal/abi.NoEscape", "slices.overlaps[wherry/api.Deployed]", "internal/bytealg.abigen_runtime_cmpstring", "slices.overlaps[wherry/api.Instance]", "slices.overlaps[wherry/api.Token]", "slices.overlaps[wherry/api.Job]", "slices.overlaps[wherry/api.Timer]", "slices.overlaps[wherry/api.Sub]", "slices.overlaps[wherry/api.Kept]", "slices.overlaps[wherry/api.Listed]", "slices.overlaps[wherry/api.Message]"], unfollowed := true, recurses := true, apart := false }
def MatchAsksSaid : Prop := matchAsksRow.holds Tryz.pinned (OpenSpec.ofChange matchAsksSpec)

/-- ITS FALSE NEIGHBOUR: 'it returns false'. Refute it at one input. -/
def matchAsksWrong : ChangeSpec := { name := "matchAsks", fn := fun _ => fun
  | [d] => { results := [.lit (.bool false)], args := [d] }
  | _ => none }
def MatchAsksWrongFalsely : Prop := matchAsksRow.holds Tryz.pinned (OpenSpec.ofChange matchAsksWrong)

/-- 'wherrylaw17.MatchMeets': WHATEVER THE INPUT: true; the input reads as it did. -/
def matchMeetsSpec : ChangeSpec := { name := "matchMeets", fn := fun _ => fun
  | [d] => { results := [.lit (.bool true)], args := [d] }
  | _ => none }
def matchMeetsRow : OpenClaim := { program := "ytjkbfoeakeoeiaagreat", sum := "3097bdb1bb9e135376e4e6da02ce4d9de305ec1e5d9a0fb1ad533c4ae508be59", func := "wherry/wherrylaw17.MatchMeets", spec := "matchMeets", inPlace := ["internal/abi.NoEscape", "slices.overlaps[wherry/api.Deployed]", "internal/bytealg.abigen_runtime_cmpstring", "slices.overlaps[wherry/api.Instance]", "slices.overlaps[wherry/api.Token]", "slices.overlaps[wherry/api.Job]", "slices.overlaps[wherry/api.Timer]", "slices.overlaps[wherry/api.Sub]", "slices.overlaps[wherry/api.Kept]", "slices.overlaps[wherry/api.Listed]", "slices.overlaps[wherry/api.Message]"], unfollowed := true, recurses := true, apart := false }
def MatchMeetsSaid : Prop := matchMeetsRow.holds Tryz.pinned (OpenSpec.ofChange matchMeetsSpec)

/-- ITS FALSE NEIGHBOUR: 'it returns false'. Refute it at one input. -/
def matchMeetsWrong : ChangeSpec := { name := "matchMeets", fn := fun _ => fun
  | [d] => { results := [.lit (.bool false)], args := [d] }
  | _ => none }
def MatchMeetsWrongFalsely : Prop := matchMeetsRow.holds Tryz.pinned (OpenSpec.ofChange matchMeetsWrong)

/-- 'wherrylaw17.MatchTells': WHATEVER THE INPUT: true; the input reads as it did. -/
def matchTellsSpec : ChangeSpec := { name := "matchTells", fn := fun _ => fun
  | [d] => { results := [.lit (.bool true)], args := [d] }
  | _ => none }
def matchTellsRow : OpenClaim := { program := "ytjkbfoeakeoeiaagreat", sum := "3097bdb1bb9e135376e4e6da02ce4d9de305ec1e5d9a0fb1ad533c4ae508be59", func := "wherry/wherrylaw17.MatchTells", spec := "matchTells", inPlace := ["internal/abi.NoEscape", "slices.overlaps[wherry/api.Deployed]", "internal/bytealg.abigen_runtime_cmpstring", "slices.overlaps[wherry/api.Instance]", "slices.overlaps[wherry/api.Token]", "slices.overlaps[wherry/api.Job]", "slices.overlaps[wherry/api.Timer]", "slices.overlaps[wherry/api.Sub]", "slices.overlaps[wherry/api.Kept]", "slices.overlaps[wherry/api.Listed]", "slices.overlaps[wherry/api.Message]"], unfollowed := true, recurses := true, apart := false }
def MatchTellsSaid : Prop := matchTellsRow.holds Tryz.pinned (OpenSpec.ofChange matchTellsSpec)

/-- ITS FALSE NEIGHBOUR: 'it returns false'. Refute it at one input. -/
def matchTellsWrong : ChangeSpec := { name := "matchTells", fn := fun _ => fun
  | [d] => { results := [.lit (.bool false)], args := [d] }
  | _ => none }
def MatchTellsWrongFalsely : Prop := matchTellsRow.holds Tryz.pinned (OpenSpec.ofChange matchTellsWrong)

/- THE SECOND FORM. 'bulk': how many values and letters a reading holds, each counted each time it is reached (what is shared counts as often as it is met; a slice's spare places count too). A statement '..UptoSaid' is the law's where the arguments, and the package variables that the reading takes, are together of bulk at most 1048576: NARROWER than '..Said'. Prove '..Said' where nothing that the law and all that it calls make is longer than what came in: it says more and counts as full. Else prove '..UptoSaid'. A law counts once. -/
mutual
def uptoBulk {H : Type} : DataW H → Nat
  | .lit (.string bytes) => bytes.length + 1
  | .lit _ => 1
  | .nil => 1
  | .ptr d => uptoBulk d + 1
  | .slice elems spare => uptoBulkAll elems + uptoBulkAll spare + 1
  | .agg parts => uptoBulkAll parts + 1
  | .iface _ d => uptoBulk d + 1
  | .map entries => uptoBulkEntries entries + 1
  | .held _ => 1
def uptoBulkAll {H : Type} : List (DataW H) → Nat
  | [] => 0
  | d :: r => uptoBulk d + uptoBulkAll r
def uptoBulkEntries {H : Type} : List (Lit × DataW H) → Nat
  | [] => 0
  | x :: r => uptoBulkEntry x + uptoBulkEntries r
def uptoBulkEntry {H : Type} : Lit × DataW H → Nat
  | (.string bytes, d) => bytes.length + uptoBulk d + 1
  | (_, d) => uptoBulk d + 1
 end
def uptoSmall : (H : Type) → List (DataW H) → Bool := fun _ ds => decide (uptoBulkAll ds ≤ 1048576)
def OpenSpec.upto (s : _root_.Go.ChangeSpec) : _root_.Go.OpenSpec := { _root_.Go.OpenSpec.ofChange s with cond := some uptoSmall }

/-- 'wherrylaw17.MatchAsks', WHERE WHAT IT READS IS OF BULK AT MOST 1048576: true; the input reads as it did. -/
def matchAsksUptoRow : OpenClaim := { program := "ytjkbfoeakeoeiaagreat", sum := "3097bdb1bb9e135376e4e6da02ce4d9de305ec1e5d9a0fb1ad533c4ae508be59", func := "wherry/wherrylaw17.MatchAsks", spec := "matchAsks", inPlace := ["internal/abi.NoEscape", "slices.overlaps[wherry/api.Deployed]", "internal/bytealg.abigen_runtime_cmpstring", "slices.overlaps[wherry/api.Instance]", "slices.overlaps[wherry/api.Token]", "slices.overlaps[wherry/api.Job]", "slices.overlaps[wherry/api.Timer]", "slices.overlaps[wherry/api.Sub]", "slices.overlaps[wherry/api.Kept]", "slices.overlaps[wherry/api.Listed]", "slices.overlaps[wherry/api.Message]"], unfollowed := true, recurses := true, apart := false, narrowed := true }
def MatchAsksUptoSaid : Prop := matchAsksUptoRow.holds Tryz.pinned (OpenSpec.upto matchAsksSpec)

/-- 'wherrylaw17.MatchMeets', WHERE WHAT IT READS IS OF BULK AT MOST 1048576: true; the input reads as it did. -/
def matchMeetsUptoRow : OpenClaim := { program := "ytjkbfoeakeoeiaagreat", sum := "3097bdb1bb9e135376e4e6da02ce4d9de305ec1e5d9a0fb1ad533c4ae508be59", func := "wherry/wherrylaw17.MatchMeets", spec := "matchMeets", inPlace := ["internal/abi.NoEscape", "slices.overlaps[wherry/api.Deployed]", "internal/bytealg.abigen_runtime_cmpstring", "slices.overlaps[wherry/api.Instance]", "slices.overlaps[wherry/api.Token]", "slices.overlaps[wherry/api.Job]", "slices.overlaps[wherry/api.Timer]", "slices.overlaps[wherry/api.Sub]", "slices.overlaps[wherry/api.Kept]", "slices.overlaps[wherry/api.Listed]", "slices.overlaps[wherry/api.Message]"], unfollowed := true, recurses := true, apart := false, narrowed := true }
def MatchMeetsUptoSaid : Prop := matchMeetsUptoRow.holds Tryz.pinned (OpenSpec.upto matchMeetsSpec)

/-- 'wherrylaw17.MatchTells', WHERE WHAT IT READS IS OF BULK AT MOST 1048576: true; the input reads as it did. -/
def matchTellsUptoRow : OpenClaim := { program := "ytjkbfoeakeoeiaagreat", sum := "3097bdb1bb9e135376e4e6da02ce4d9de305ec1e5d9a0fb1ad533c4ae508be59", func := "wherry/wherrylaw17.MatchTells", spec := "matchTells", inPlace := ["internal/abi.NoEscape", "slices.overlaps[wherry/api.Deployed]", "internal/bytealg.abigen_runtime_cmpstring", "slices.overlaps[wherry/api.Instance]", "slices.overlaps[wherry/api.Token]", "slices.overlaps[wherry/api.Job]", "slices.overlaps[wherry/api.Timer]", "slices.overlaps[wherry/api.Sub]", "slices.overlaps[wherry/api.Kept]", "slices.overlaps[wherry/api.Listed]", "slices.overlaps[wherry/api.Message]"], unfollowed := true, recurses := true, apart := false, narrowed := true }
def MatchTellsUptoSaid : Prop := matchTellsUptoRow.holds Tryz.pinned (OpenSpec.upto matchTellsSpec)

end Rows
end Go.Proofs.YtjkbfoeakeoeiaaGreat
