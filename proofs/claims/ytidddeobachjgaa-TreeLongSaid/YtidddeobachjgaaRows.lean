/-
  No cell of these rows narrows 'for every input' (looked for: loops, veiled, ifaces, maps, wideKeys, modest, calm, conditions, laid).
  DERIVED. THE GIVEN ROWS OF THIS SEAT. 9 by the template 'for every input the law returns true; each argument reads behind the call as it read before'; 0 by the template 'total and deterministic' (their statements: YtidddeobachjgaaTotals.lean).
  GIVEN WITH THE SEED: the statements are not yours to turn. If you find one false, say at which input.
  Laid BY PROGRAM, IN A SANDBOX (cutbox-rows.mjs): the forced cells as the released guide's own fill.sh prints them over the translation 3fddd2cf33342406… (all of the seat's roots in one cut). By AI agents, Wed Nov 11 2026. No macro, syntax, notation, axiom, sorry.
-/
import Derived.Test.YtidddeobachjgaaChecked
import GoSem.Claim
import GoSem.ClaimJoined
import GoSem.ClaimMapViews
import Derived.JoinedTies
import Derived.KernelRfl
namespace Go.Proofs.Ytidddeobachjgaa
/- THE CELL 'sum', in the pinned program and in every row, IS THE sha256 OF THE DUMP (.gsa) THAT YtidddeobachjgaaProg.lean LOADS. Nothing in Lean hashes anything: it is a label: what it is worth is what the hold of that sum in a sandbox is worth. -/
noncomputable def Try.pinned : Pinned := { name := "ytidddeobachjgaa", sum := "3fddd2cf333424065c830d3b043328fe670a1adc7d44cc452d854a91265c769f", checked := Try.checked }
namespace Rows
def none {H : Type} : Left H := { results := [], args := [] }

/-- 'stragglelaw08.TreeLess': WHATEVER THE INPUT: true; the input reads as it did. -/
def treeLessSpec : ChangeSpec := { name := "treeLess", fn := fun _ => fun
  | [d1, d2, d3] => { results := [.lit (.bool true)], args := [d1, d2, d3] }
  | _ => none }
def treeLessRow : OpenClaim := { program := "ytidddeobachjgaa", sum := "3fddd2cf333424065c830d3b043328fe670a1adc7d44cc452d854a91265c769f", func := "straggle/stragglelaw08.TreeLess", spec := "treeLess", unfollowed := true, recurses := true, apart := false }
def TreeLessSaid : Prop := treeLessRow.holds Try.pinned (OpenSpec.ofChange treeLessSpec)

/-- ITS FALSE NEIGHBOUR: 'it returns false'. Refute it at one input. -/
def treeLessWrong : ChangeSpec := { name := "treeLess", fn := fun _ => fun
  | [d1, d2, d3] => { results := [.lit (.bool false)], args := [d1, d2, d3] }
  | _ => none }
def TreeLessWrongFalsely : Prop := treeLessRow.holds Try.pinned (OpenSpec.ofChange treeLessWrong)

/-- 'stragglelaw08.TreeAsked': WHATEVER THE INPUT: true; the input reads as it did. -/
def treeAskedSpec : ChangeSpec := { name := "treeAsked", fn := fun _ => fun
  | [d1, d2] => { results := [.lit (.bool true)], args := [d1, d2] }
  | _ => none }
def treeAskedRow : OpenClaim := { program := "ytidddeobachjgaa", sum := "3fddd2cf333424065c830d3b043328fe670a1adc7d44cc452d854a91265c769f", func := "straggle/stragglelaw08.TreeAsked", spec := "treeAsked", unfollowed := true, recurses := true, apart := false }
def TreeAskedSaid : Prop := treeAskedRow.holds Try.pinned (OpenSpec.ofChange treeAskedSpec)

/-- ITS FALSE NEIGHBOUR: 'it returns false'. Refute it at one input. -/
def treeAskedWrong : ChangeSpec := { name := "treeAsked", fn := fun _ => fun
  | [d1, d2] => { results := [.lit (.bool false)], args := [d1, d2] }
  | _ => none }
def TreeAskedWrongFalsely : Prop := treeAskedRow.holds Try.pinned (OpenSpec.ofChange treeAskedWrong)

/-- 'stragglelaw08.TreeLong': WHATEVER THE INPUT: true; the input reads as it did. -/
def treeLongSpec : ChangeSpec := { name := "treeLong", fn := fun _ => fun
  | [d1, d2] => { results := [.lit (.bool true)], args := [d1, d2] }
  | _ => none }
def treeLongRow : OpenClaim := { program := "ytidddeobachjgaa", sum := "3fddd2cf333424065c830d3b043328fe670a1adc7d44cc452d854a91265c769f", func := "straggle/stragglelaw08.TreeLong", spec := "treeLong", unfollowed := true, recurses := true, apart := false }
def TreeLongSaid : Prop := treeLongRow.holds Try.pinned (OpenSpec.ofChange treeLongSpec)

/-- ITS FALSE NEIGHBOUR: 'it returns false'. Refute it at one input. -/
def treeLongWrong : ChangeSpec := { name := "treeLong", fn := fun _ => fun
  | [d1, d2] => { results := [.lit (.bool false)], args := [d1, d2] }
  | _ => none }
def TreeLongWrongFalsely : Prop := treeLongRow.holds Try.pinned (OpenSpec.ofChange treeLongWrong)

/-- 'stragglelaw08.TreeOwn': WHATEVER THE INPUT: true; the input reads as it did. -/
def treeOwnSpec : ChangeSpec := { name := "treeOwn", fn := fun _ => fun
  | [d1, d2] => { results := [.lit (.bool true)], args := [d1, d2] }
  | _ => none }
def treeOwnRow : OpenClaim := { program := "ytidddeobachjgaa", sum := "3fddd2cf333424065c830d3b043328fe670a1adc7d44cc452d854a91265c769f", func := "straggle/stragglelaw08.TreeOwn", spec := "treeOwn", unfollowed := true, recurses := true, apart := false }
def TreeOwnSaid : Prop := treeOwnRow.holds Try.pinned (OpenSpec.ofChange treeOwnSpec)

/-- ITS FALSE NEIGHBOUR: 'it returns false'. Refute it at one input. -/
def treeOwnWrong : ChangeSpec := { name := "treeOwn", fn := fun _ => fun
  | [d1, d2] => { results := [.lit (.bool false)], args := [d1, d2] }
  | _ => none }
def TreeOwnWrongFalsely : Prop := treeOwnRow.holds Try.pinned (OpenSpec.ofChange treeOwnWrong)

/-- 'stragglelaw11.CheckTells': WHATEVER THE INPUT: true; the input reads as it did. -/
def checkTellsSpec : ChangeSpec := { name := "checkTells", fn := fun _ => fun
  | [d1, d2] => { results := [.lit (.bool true)], args := [d1, d2] }
  | _ => none }
def checkTellsRow : OpenClaim := { program := "ytidddeobachjgaa", sum := "3fddd2cf333424065c830d3b043328fe670a1adc7d44cc452d854a91265c769f", func := "straggle/stragglelaw11.CheckTells", spec := "checkTells", unfollowed := true, recurses := true, apart := false }
def CheckTellsSaid : Prop := checkTellsRow.holds Try.pinned (OpenSpec.ofChange checkTellsSpec)

/-- ITS FALSE NEIGHBOUR: 'it returns false'. Refute it at one input. -/
def checkTellsWrong : ChangeSpec := { name := "checkTells", fn := fun _ => fun
  | [d1, d2] => { results := [.lit (.bool false)], args := [d1, d2] }
  | _ => none }
def CheckTellsWrongFalsely : Prop := checkTellsRow.holds Try.pinned (OpenSpec.ofChange checkTellsWrong)

/-- 'stragglelaw11.CheckMay': WHATEVER THE INPUT: true; the input reads as it did. -/
def checkMaySpec : ChangeSpec := { name := "checkMay", fn := fun _ => fun
  | [d] => { results := [.lit (.bool true)], args := [d] }
  | _ => none }
def checkMayRow : OpenClaim := { program := "ytidddeobachjgaa", sum := "3fddd2cf333424065c830d3b043328fe670a1adc7d44cc452d854a91265c769f", func := "straggle/stragglelaw11.CheckMay", spec := "checkMay", unfollowed := true, recurses := true, apart := false }
def CheckMaySaid : Prop := checkMayRow.holds Try.pinned (OpenSpec.ofChange checkMaySpec)

/-- ITS FALSE NEIGHBOUR: 'it returns false'. Refute it at one input. -/
def checkMayWrong : ChangeSpec := { name := "checkMay", fn := fun _ => fun
  | [d] => { results := [.lit (.bool false)], args := [d] }
  | _ => none }
def CheckMayWrongFalsely : Prop := checkMayRow.holds Try.pinned (OpenSpec.ofChange checkMayWrong)

/-- 'stragglelaw11.CheckOne': WHATEVER THE INPUT: true; the input reads as it did. -/
def checkOneSpec : ChangeSpec := { name := "checkOne", fn := fun _ => fun
  | [d1, d2, d3] => { results := [.lit (.bool true)], args := [d1, d2, d3] }
  | _ => none }
def checkOneRow : OpenClaim := { program := "ytidddeobachjgaa", sum := "3fddd2cf333424065c830d3b043328fe670a1adc7d44cc452d854a91265c769f", func := "straggle/stragglelaw11.CheckOne", spec := "checkOne", unfollowed := true, recurses := true, apart := false }
def CheckOneSaid : Prop := checkOneRow.holds Try.pinned (OpenSpec.ofChange checkOneSpec)

/-- ITS FALSE NEIGHBOUR: 'it returns false'. Refute it at one input. -/
def checkOneWrong : ChangeSpec := { name := "checkOne", fn := fun _ => fun
  | [d1, d2, d3] => { results := [.lit (.bool false)], args := [d1, d2, d3] }
  | _ => none }
def CheckOneWrongFalsely : Prop := checkOneRow.holds Try.pinned (OpenSpec.ofChange checkOneWrong)

/-- 'stragglelaw11.CheckFirst': WHATEVER THE INPUT: true; the input reads as it did. -/
def checkFirstSpec : ChangeSpec := { name := "checkFirst", fn := fun _ => fun
  | [d] => { results := [.lit (.bool true)], args := [d] }
  | _ => none }
def checkFirstRow : OpenClaim := { program := "ytidddeobachjgaa", sum := "3fddd2cf333424065c830d3b043328fe670a1adc7d44cc452d854a91265c769f", func := "straggle/stragglelaw11.CheckFirst", spec := "checkFirst", unfollowed := true, recurses := true, apart := false }
def CheckFirstSaid : Prop := checkFirstRow.holds Try.pinned (OpenSpec.ofChange checkFirstSpec)

/-- ITS FALSE NEIGHBOUR: 'it returns false'. Refute it at one input. -/
def checkFirstWrong : ChangeSpec := { name := "checkFirst", fn := fun _ => fun
  | [d] => { results := [.lit (.bool false)], args := [d] }
  | _ => none }
def CheckFirstWrongFalsely : Prop := checkFirstRow.holds Try.pinned (OpenSpec.ofChange checkFirstWrong)

/-- 'stragglelaw11.CheckTails': WHATEVER THE INPUT: true; the input reads as it did. -/
def checkTailsSpec : ChangeSpec := { name := "checkTails", fn := fun _ => fun
  | [d1, d2] => { results := [.lit (.bool true)], args := [d1, d2] }
  | _ => none }
def checkTailsRow : OpenClaim := { program := "ytidddeobachjgaa", sum := "3fddd2cf333424065c830d3b043328fe670a1adc7d44cc452d854a91265c769f", func := "straggle/stragglelaw11.CheckTails", spec := "checkTails", unfollowed := true, recurses := true, apart := false }
def CheckTailsSaid : Prop := checkTailsRow.holds Try.pinned (OpenSpec.ofChange checkTailsSpec)

/-- ITS FALSE NEIGHBOUR: 'it returns false'. Refute it at one input. -/
def checkTailsWrong : ChangeSpec := { name := "checkTails", fn := fun _ => fun
  | [d1, d2] => { results := [.lit (.bool false)], args := [d1, d2] }
  | _ => none }
def CheckTailsWrongFalsely : Prop := checkTailsRow.holds Try.pinned (OpenSpec.ofChange checkTailsWrong)

/- THE SECOND FORM. 'bulk': how many values and letters a reading holds, each counted each time it is reached (what is shared counts as often as it is met; a slice's spare places count too). A statement '..UptoSaid' is the law's where the arguments, and the package variables that the reading takes, are together of bulk at most 1048576: NARROWER than '..Said'. Prove '..Said' where nothing that the law and all that it calls make is longer than what came in: it says more and counts as full. Else prove '..UptoSaid'. A law counts once. -/
mutual
def uptoBulk {H : Type} : DataW H → Nat
  | .lit (.string bytes) => bytes.length + 1
  | .lit _ => 1
  | .nil => 1
  | .ptr d => uptoBulk d + 1
  | .slice elems spare => uptoBulkAll elems + uptoBulkAll spare + 1
  | .agg parts => uptoBulkAll parts + 1
  | .iface _ d => uptoBulk d + 1
  | .map entries => uptoBulkEntries entries + 1
  | .held _ => 1
def uptoBulkAll {H : Type} : List (DataW H) → Nat
  | [] => 0
  | d :: r => uptoBulk d + uptoBulkAll r
def uptoBulkEntries {H : Type} : List (Lit × DataW H) → Nat
  | [] => 0
  | x :: r => uptoBulkEntry x + uptoBulkEntries r
def uptoBulkEntry {H : Type} : Lit × DataW H → Nat
  | (.string bytes, d) => bytes.length + uptoBulk d + 1
  | (_, d) => uptoBulk d + 1
 end
def uptoSmall : (H : Type) → List (DataW H) → Bool := fun _ ds => decide (uptoBulkAll ds ≤ 1048576)
def OpenSpec.upto (s : _root_.Go.ChangeSpec) : _root_.Go.OpenSpec := { _root_.Go.OpenSpec.ofChange s with cond := some uptoSmall }

/-- 'stragglelaw08.TreeLess', WHERE WHAT IT READS IS OF BULK AT MOST 1048576: true; the input reads as it did. -/
def treeLessUptoRow : OpenClaim := { program := "ytidddeobachjgaa", sum := "3fddd2cf333424065c830d3b043328fe670a1adc7d44cc452d854a91265c769f", func := "straggle/stragglelaw08.TreeLess", spec := "treeLess", unfollowed := true, recurses := true, apart := false, narrowed := true }
def TreeLessUptoSaid : Prop := treeLessUptoRow.holds Try.pinned (OpenSpec.upto treeLessSpec)

/-- 'stragglelaw08.TreeAsked', WHERE WHAT IT READS IS OF BULK AT MOST 1048576: true; the input reads as it did. -/
def treeAskedUptoRow : OpenClaim := { program := "ytidddeobachjgaa", sum := "3fddd2cf333424065c830d3b043328fe670a1adc7d44cc452d854a91265c769f", func := "straggle/stragglelaw08.TreeAsked", spec := "treeAsked", unfollowed := true, recurses := true, apart := false, narrowed := true }
def TreeAskedUptoSaid : Prop := treeAskedUptoRow.holds Try.pinned (OpenSpec.upto treeAskedSpec)

/-- 'stragglelaw08.TreeLong', WHERE WHAT IT READS IS OF BULK AT MOST 1048576: true; the input reads as it did. -/
def treeLongUptoRow : OpenClaim := { program := "ytidddeobachjgaa", sum := "3fddd2cf333424065c830d3b043328fe670a1adc7d44cc452d854a91265c769f", func := "straggle/stragglelaw08.TreeLong", spec := "treeLong", unfollowed := true, recurses := true, apart := false, narrowed := true }
def TreeLongUptoSaid : Prop := treeLongUptoRow.holds Try.pinned (OpenSpec.upto treeLongSpec)

/-- 'stragglelaw08.TreeOwn', WHERE WHAT IT READS IS OF BULK AT MOST 1048576: true; the input reads as it did. -/
def treeOwnUptoRow : OpenClaim := { program := "ytidddeobachjgaa", sum := "3fddd2cf333424065c830d3b043328fe670a1adc7d44cc452d854a91265c769f", func := "straggle/stragglelaw08.TreeOwn", spec := "treeOwn", unfollowed := true, recurses := true, apart := false, narrowed := true }
def TreeOwnUptoSaid : Prop := treeOwnUptoRow.holds Try.pinned (OpenSpec.upto treeOwnSpec)

/-- 'stragglelaw11.CheckTells', WHERE WHAT IT READS IS OF BULK AT MOST 1048576: true; the input reads as it did. -/
def checkTellsUptoRow : OpenClaim := { program := "ytidddeobachjgaa", sum := "3fddd2cf333424065c830d3b043328fe670a1adc7d44cc452d854a91265c769f", func := "straggle/stragglelaw11.CheckTells", spec := "checkTells", unfollowed := true, recurses := true, apart := false, narrowed := true }
def CheckTellsUptoSaid : Prop := checkTellsUptoRow.holds Try.pinned (OpenSpec.upto checkTellsSpec)

/-- 'stragglelaw11.CheckMay', WHERE WHAT IT READS IS OF BULK AT MOST 1048576: true; the input reads as it did. -/
def checkMayUptoRow : OpenClaim := { program := "ytidddeobachjgaa", sum := "3fddd2cf333424065c830d3b043328fe670a1adc7d44cc452d854a91265c769f", func := "straggle/stragglelaw11.CheckMay", spec := "checkMay", unfollowed := true, recurses := true, apart := false, narrowed := true }
def CheckMayUptoSaid : Prop := checkMayUptoRow.holds Try.pinned (OpenSpec.upto checkMaySpec)

/-- 'stragglelaw11.CheckOne', WHERE WHAT IT READS IS OF BULK AT MOST 1048576: true; the input reads as it did. -/
def checkOneUptoRow : OpenClaim := { program := "ytidddeobachjgaa", sum := "3fddd2cf333424065c830d3b043328fe670a1adc7d44cc452d854a91265c769f", func := "straggle/stragglelaw11.CheckOne", spec := "checkOne", unfollowed := true, recurses := true, apart := false, narrowed := true }
def CheckOneUptoSaid : Prop := checkOneUptoRow.holds Try.pinned (OpenSpec.upto checkOneSpec)

/-- 'stragglelaw11.CheckFirst', WHERE WHAT IT READS IS OF BULK AT MOST 1048576: true; the input reads as it did. -/
def checkFirstUptoRow : OpenClaim := { program := "ytidddeobachjgaa", sum := "3fddd2cf333424065c830d3b043328fe670a1adc7d44cc452d854a91265c769f", func := "straggle/stragglelaw11.CheckFirst", spec := "checkFirst", unfollowed := true, recurses := true, apart := false, narrowed := true }
def CheckFirstUptoSaid : Prop := checkFirstUptoRow.holds Try.pinned (OpenSpec.upto checkFirstSpec)

/-- 'stragglelaw11.CheckTails', WHERE WHAT IT READS IS OF BULK AT MOST 1048576: true; the input reads as it did. -/
def checkTailsUptoRow : OpenClaim := { program := "ytidddeobachjgaa", sum := "3fddd2cf333424065c830d3b043328fe670a1adc7d44cc452d854a91265c769f", func := "straggle/stragglelaw11.CheckTails", spec := "checkTails", unfollowed := true, recurses := true, apart := false, narrowed := true }
def CheckTailsUptoSaid : Prop := checkTailsUptoRow.holds Try.pinned (OpenSpec.upto checkTailsSpec)

end Rows
end Go.Proofs.Ytidddeobachjgaa
