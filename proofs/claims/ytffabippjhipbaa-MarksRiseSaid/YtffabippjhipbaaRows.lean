/-
  No cell of these rows narrows 'for every input' (looked for: loops, veiled, ifaces, maps, wideKeys, modest, calm, conditions, laid).
  DERIVED. THE GIVEN ROWS OF THIS SEAT. 5 by the template 'for every input the law returns true; each argument reads behind the call as it read before'; 0 by the template 'total and deterministic' (their statements: YtffabippjhipbaaTotals.lean).
  GIVEN WITH THE SEED: the statements are not yours to turn. If you find one false, say at which input.
  Laid BY PROGRAM, IN A SANDBOX (cutbox-rows.mjs): the forced cells as the released guide's own fill.sh prints them over the translation 0c6ae27af3cbe450… (all of the seat's roots in one cut). By AI agents, Wed Nov 11 2026. No macro, syntax, notation, axiom, sorry.
-/
import Derived.Test.YtffabippjhipbaaChecked
import GoSem.Claim
import GoSem.ClaimJoined
import GoSem.ClaimMapViews
import Derived.JoinedTies
import Derived.KernelRfl
namespace Go.Proofs.Ytffabippjhipbaa
/- THE CELL 'sum', in the pinned program and in every row, IS THE sha256 OF THE DUMP (.gsa) THAT YtffabippjhipbaaProg.lean LOADS. Nothing in Lean hashes anything: it is a label: what it is worth is what the hold of that sum in a sandbox is worth. -/
noncomputable def Try.pinned : Pinned := { name := "ytffabippjhipbaa", sum := "0c6ae27af3cbe450874d38820105a954f4961cd0f9815ae57bd5ea1b91b6beae", checked := Try.checked }
namespace Rows
def none {H : Type} : Left H := { results := [], args := [] }

/-- 'stragglelaw19.MarksTells': WHATEVER THE INPUT: true; the input reads as it did. -/
def marksTellsSpec : ChangeSpec := { name := "marksTells", fn := fun _ => fun
  | [d1, d2, d3, d4, d5] => { results := [.lit (.bool true)], args := [d1, d2, d3, d4, d5] }
  | _ => none }
def marksTellsRow : OpenClaim := { program := "ytffabippjhipbaa", sum := "0c6ae27af3cbe450874d38820105a954f4961cd0f9815ae57bd5ea1b91b6beae", func := "straggle/stragglelaw19.MarksTells", spec := "marksTells", unfollowed := true, recurses := true, apart := false }
def MarksTellsSaid : Prop := marksTellsRow.holds Try.pinned (OpenSpec.ofChange marksTellsSpec)

/-- ITS FALSE NEIGHBOUR: 'it returns false'. Refute it at one input. -/
def marksTellsWrong : ChangeSpec := { name := "marksTells", fn := fun _ => fun
  | [d1, d2, d3, d4, d5] => { results := [.lit (.bool false)], args := [d1, d2, d3, d4, d5] }
  | _ => none }
def MarksTellsWrongFalsely : Prop := marksTellsRow.holds Try.pinned (OpenSpec.ofChange marksTellsWrong)

/-- 'stragglelaw19.MarksRise': WHATEVER THE INPUT: true; the input reads as it did. -/
def marksRiseSpec : ChangeSpec := { name := "marksRise", fn := fun _ => fun
  | [d1, d2, d3] => { results := [.lit (.bool true)], args := [d1, d2, d3] }
  | _ => none }
def marksRiseRow : OpenClaim := { program := "ytffabippjhipbaa", sum := "0c6ae27af3cbe450874d38820105a954f4961cd0f9815ae57bd5ea1b91b6beae", func := "straggle/stragglelaw19.MarksRise", spec := "marksRise", unfollowed := true, recurses := true, apart := false }
def MarksRiseSaid : Prop := marksRiseRow.holds Try.pinned (OpenSpec.ofChange marksRiseSpec)

/-- ITS FALSE NEIGHBOUR: 'it returns false'. Refute it at one input. -/
def marksRiseWrong : ChangeSpec := { name := "marksRise", fn := fun _ => fun
  | [d1, d2, d3] => { results := [.lit (.bool false)], args := [d1, d2, d3] }
  | _ => none }
def MarksRiseWrongFalsely : Prop := marksRiseRow.holds Try.pinned (OpenSpec.ofChange marksRiseWrong)

/-- 'stragglelaw19.MarksLeast': WHATEVER THE INPUT: true; the input reads as it did. -/
def marksLeastSpec : ChangeSpec := { name := "marksLeast", fn := fun _ => fun
  | [d1, d2] => { results := [.lit (.bool true)], args := [d1, d2] }
  | _ => none }
def marksLeastRow : OpenClaim := { program := "ytffabippjhipbaa", sum := "0c6ae27af3cbe450874d38820105a954f4961cd0f9815ae57bd5ea1b91b6beae", func := "straggle/stragglelaw19.MarksLeast", spec := "marksLeast", unfollowed := true, recurses := true, apart := false }
def MarksLeastSaid : Prop := marksLeastRow.holds Try.pinned (OpenSpec.ofChange marksLeastSpec)

/-- ITS FALSE NEIGHBOUR: 'it returns false'. Refute it at one input. -/
def marksLeastWrong : ChangeSpec := { name := "marksLeast", fn := fun _ => fun
  | [d1, d2] => { results := [.lit (.bool false)], args := [d1, d2] }
  | _ => none }
def MarksLeastWrongFalsely : Prop := marksLeastRow.holds Try.pinned (OpenSpec.ofChange marksLeastWrong)

/-- 'stragglelaw19.MarksLate': WHATEVER THE INPUT: true; the input reads as it did. -/
def marksLateSpec : ChangeSpec := { name := "marksLate", fn := fun _ => fun
  | [d1, d2, d3, d4, d5] => { results := [.lit (.bool true)], args := [d1, d2, d3, d4, d5] }
  | _ => none }
def marksLateRow : OpenClaim := { program := "ytffabippjhipbaa", sum := "0c6ae27af3cbe450874d38820105a954f4961cd0f9815ae57bd5ea1b91b6beae", func := "straggle/stragglelaw19.MarksLate", spec := "marksLate", unfollowed := true, recurses := true, apart := false }
def MarksLateSaid : Prop := marksLateRow.holds Try.pinned (OpenSpec.ofChange marksLateSpec)

/-- ITS FALSE NEIGHBOUR: 'it returns false'. Refute it at one input. -/
def marksLateWrong : ChangeSpec := { name := "marksLate", fn := fun _ => fun
  | [d1, d2, d3, d4, d5] => { results := [.lit (.bool false)], args := [d1, d2, d3, d4, d5] }
  | _ => none }
def MarksLateWrongFalsely : Prop := marksLateRow.holds Try.pinned (OpenSpec.ofChange marksLateWrong)

/-- 'stragglelaw19.MarksFloor': WHATEVER THE INPUT: true; the input reads as it did. -/
def marksFloorSpec : ChangeSpec := { name := "marksFloor", fn := fun _ => fun
  | [d1, d2, d3, d4, d5] => { results := [.lit (.bool true)], args := [d1, d2, d3, d4, d5] }
  | _ => none }
def marksFloorRow : OpenClaim := { program := "ytffabippjhipbaa", sum := "0c6ae27af3cbe450874d38820105a954f4961cd0f9815ae57bd5ea1b91b6beae", func := "straggle/stragglelaw19.MarksFloor", spec := "marksFloor", unfollowed := true, recurses := true, apart := false }
def MarksFloorSaid : Prop := marksFloorRow.holds Try.pinned (OpenSpec.ofChange marksFloorSpec)

/-- ITS FALSE NEIGHBOUR: 'it returns false'. Refute it at one input. -/
def marksFloorWrong : ChangeSpec := { name := "marksFloor", fn := fun _ => fun
  | [d1, d2, d3, d4, d5] => { results := [.lit (.bool false)], args := [d1, d2, d3, d4, d5] }
  | _ => none }
def MarksFloorWrongFalsely : Prop := marksFloorRow.holds Try.pinned (OpenSpec.ofChange marksFloorWrong)

/- THE SECOND FORM. 'bulk': how many values and letters a reading holds, each counted each time it is reached (what is shared counts as often as it is met; a slice's spare places count too). A statement '..UptoSaid' is the law's where the arguments, and the package variables that the reading takes, are together of bulk at most 1048576: NARROWER than '..Said'. Prove '..Said' where nothing that the law and all that it calls make is longer than what came in: it says more and counts as full. Else prove '..UptoSaid'. A law counts once. -/
mutual
def uptoBulk {H : Type} : DataW H → Nat
  | .lit (.string bytes) => bytes.length + 1
  | .lit _ => 1
  | .nil => 1
  | .ptr d => uptoBulk d + 1
  | .slice elems spare => uptoBulkAll elems + uptoBulkAll spare + 1
  | .agg parts => uptoBulkAll parts + 1
  | .iface _ d => uptoBulk d + 1
  | .map entries => uptoBulkEntries entries + 1
  | .held _ => 1
def uptoBulkAll {H : Type} : List (DataW H) → Nat
  | [] => 0
  | d :: r => uptoBulk d + uptoBulkAll r
def uptoBulkEntries {H : Type} : List (Lit × DataW H) → Nat
  | [] => 0
  | x :: r => uptoBulkEntry x + uptoBulkEntries r
def uptoBulkEntry {H : Type} : Lit × DataW H → Nat
  | (.string bytes, d) => bytes.length + uptoBulk d + 1
  | (_, d) => uptoBulk d + 1
 end
def uptoSmall : (H : Type) → List (DataW H) → Bool := fun _ ds => decide (uptoBulkAll ds ≤ 1048576)
def OpenSpec.upto (s : _root_.Go.ChangeSpec) : _root_.Go.OpenSpec := { _root_.Go.OpenSpec.ofChange s with cond := some uptoSmall }

/-- 'stragglelaw19.MarksTells', WHERE WHAT IT READS IS OF BULK AT MOST 1048576: true; the input reads as it did. -/
def marksTellsUptoRow : OpenClaim := { program := "ytffabippjhipbaa", sum := "0c6ae27af3cbe450874d38820105a954f4961cd0f9815ae57bd5ea1b91b6beae", func := "straggle/stragglelaw19.MarksTells", spec := "marksTells", unfollowed := true, recurses := true, apart := false, narrowed := true }
def MarksTellsUptoSaid : Prop := marksTellsUptoRow.holds Try.pinned (OpenSpec.upto marksTellsSpec)

/-- 'stragglelaw19.MarksRise', WHERE WHAT IT READS IS OF BULK AT MOST 1048576: true; the input reads as it did. -/
def marksRiseUptoRow : OpenClaim := { program := "ytffabippjhipbaa", sum := "0c6ae27af3cbe450874d38820105a954f4961cd0f9815ae57bd5ea1b91b6beae", func := "straggle/stragglelaw19.MarksRise", spec := "marksRise", unfollowed := true, recurses := true, apart := false, narrowed := true }
def MarksRiseUptoSaid : Prop := marksRiseUptoRow.holds Try.pinned (OpenSpec.upto marksRiseSpec)

/-- 'stragglelaw19.MarksLeast', WHERE WHAT IT READS IS OF BULK AT MOST 1048576: true; the input reads as it did. -/
def marksLeastUptoRow : OpenClaim := { program := "ytffabippjhipbaa", sum := "0c6ae27af3cbe450874d38820105a954f4961cd0f9815ae57bd5ea1b91b6beae", func := "straggle/stragglelaw19.MarksLeast", spec := "marksLeast", unfollowed := true, recurses := true, apart := false, narrowed := true }
def MarksLeastUptoSaid : Prop := marksLeastUptoRow.holds Try.pinned (OpenSpec.upto marksLeastSpec)

/-- 'stragglelaw19.MarksLate', WHERE WHAT IT READS IS OF BULK AT MOST 1048576: true; the input reads as it did. -/
def marksLateUptoRow : OpenClaim := { program := "ytffabippjhipbaa", sum := "0c6ae27af3cbe450874d38820105a954f4961cd0f9815ae57bd5ea1b91b6beae", func := "straggle/stragglelaw19.MarksLate", spec := "marksLate", unfollowed := true, recurses := true, apart := false, narrowed := true }
def MarksLateUptoSaid : Prop := marksLateUptoRow.holds Try.pinned (OpenSpec.upto marksLateSpec)

/-- 'stragglelaw19.MarksFloor', WHERE WHAT IT READS IS OF BULK AT MOST 1048576: true; the input reads as it did. -/
def marksFloorUptoRow : OpenClaim := { program := "ytffabippjhipbaa", sum := "0c6ae27af3cbe450874d38820105a954f4961cd0f9815ae57bd5ea1b91b6beae", func := "straggle/stragglelaw19.MarksFloor", spec := "marksFloor", unfollowed := true, recurses := true, apart := false, narrowed := true }
def MarksFloorUptoSaid : Prop := marksFloorUptoRow.holds Try.pinned (OpenSpec.upto marksFloorSpec)

end Rows
end Go.Proofs.Ytffabippjhipbaa
