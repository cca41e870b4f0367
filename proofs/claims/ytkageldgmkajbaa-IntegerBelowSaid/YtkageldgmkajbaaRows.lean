/-
  No cell of these rows narrows 'for every input' (looked for: loops, veiled, ifaces, maps, wideKeys, modest, calm, conditions, laid).
  DERIVED. THE GIVEN ROWS OF THIS SEAT. 3 by the template 'for every input the law returns true; each argument reads behind the call as it read before'; 0 by the template 'total and deterministic' (their statements: YtkageldgmkajbaaTotals.lean).
  GIVEN WITH THE SEED: the statements are not yours to turn. If you find one false, say at which input.
  Laid BY PROGRAM, IN A SANDBOX (cutbox-rows.mjs): the forced cells as the released guide's own fill.sh prints them over the translation 3c3d438394699991… (all of the seat's roots in one cut). By AI agents, Wed Nov 11 2026. No macro, syntax, notation, axiom, sorry.
-/
import Derived.Test.YtkageldgmkajbaaChecked
import GoSem.Claim
import GoSem.ClaimJoined
import GoSem.ClaimMapViews
import Derived.JoinedTies
import Derived.KernelRfl
namespace Go.Proofs.Ytkageldgmkajbaa
/- THE CELL 'sum', in the pinned program and in every row, IS THE sha256 OF THE DUMP (.gsa) THAT YtkageldgmkajbaaProg.lean LOADS. Nothing in Lean hashes anything: it is a label: what it is worth is what the hold of that sum in a sandbox is worth. -/
noncomputable def Try.pinned : Pinned := { name := "ytkageldgmkajbaa", sum := "3c3d438394699991e63c2e1edce59e3d553321fd97a13cb4b365936848365c54", checked := Try.checked }
namespace Rows
def none {H : Type} : Left H := { results := [], args := [] }

/-- 'timeboundlaw33.IntegerSolves': WHATEVER THE INPUT: true; the input reads as it did. -/
def integerSolvesSpec : ChangeSpec := { name := "integerSolves", fn := fun _ => fun
  | [d1, d2, d3] => { results := [.lit (.bool true)], args := [d1, d2, d3] }
  | _ => none }
def integerSolvesRow : OpenClaim := { program := "ytkageldgmkajbaa", sum := "3c3d438394699991e63c2e1edce59e3d553321fd97a13cb4b365936848365c54", func := "timebound/timeboundlaw33.IntegerSolves", spec := "integerSolves", unfollowed := true, recurses := true, apart := false }
def IntegerSolvesSaid : Prop := integerSolvesRow.holds Try.pinned (OpenSpec.ofChange integerSolvesSpec)

/-- ITS FALSE NEIGHBOUR: 'it returns false'. Refute it at one input. -/
def integerSolvesWrong : ChangeSpec := { name := "integerSolves", fn := fun _ => fun
  | [d1, d2, d3] => { results := [.lit (.bool false)], args := [d1, d2, d3] }
  | _ => none }
def IntegerSolvesWrongFalsely : Prop := integerSolvesRow.holds Try.pinned (OpenSpec.ofChange integerSolvesWrong)

/-- 'timeboundlaw33.IntegerBelow': WHATEVER THE INPUT: true; the input reads as it did. -/
def integerBelowSpec : ChangeSpec := { name := "integerBelow", fn := fun _ => fun
  | [d] => { results := [.lit (.bool true)], args := [d] }
  | _ => none }
def integerBelowRow : OpenClaim := { program := "ytkageldgmkajbaa", sum := "3c3d438394699991e63c2e1edce59e3d553321fd97a13cb4b365936848365c54", func := "timebound/timeboundlaw33.IntegerBelow", spec := "integerBelow", unfollowed := true, recurses := true, apart := false }
def IntegerBelowSaid : Prop := integerBelowRow.holds Try.pinned (OpenSpec.ofChange integerBelowSpec)

/-- ITS FALSE NEIGHBOUR: 'it returns false'. Refute it at one input. -/
def integerBelowWrong : ChangeSpec := { name := "integerBelow", fn := fun _ => fun
  | [d] => { results := [.lit (.bool false)], args := [d] }
  | _ => none }
def IntegerBelowWrongFalsely : Prop := integerBelowRow.holds Try.pinned (OpenSpec.ofChange integerBelowWrong)

/-- 'timeboundlaw33.IntegerBoxes': WHATEVER THE INPUT: true; the input reads as it did. -/
def integerBoxesSpec : ChangeSpec := { name := "integerBoxes", fn := fun _ => fun
  | [d] => { results := [.lit (.bool true)], args := [d] }
  | _ => none }
def integerBoxesRow : OpenClaim := { program := "ytkageldgmkajbaa", sum := "3c3d438394699991e63c2e1edce59e3d553321fd97a13cb4b365936848365c54", func := "timebound/timeboundlaw33.IntegerBoxes", spec := "integerBoxes", unfollowed := true, recurses := true, apart := false }
def IntegerBoxesSaid : Prop := integerBoxesRow.holds Try.pinned (OpenSpec.ofChange integerBoxesSpec)

/-- ITS FALSE NEIGHBOUR: 'it returns false'. Refute it at one input. -/
def integerBoxesWrong : ChangeSpec := { name := "integerBoxes", fn := fun _ => fun
  | [d] => { results := [.lit (.bool false)], args := [d] }
  | _ => none }
def IntegerBoxesWrongFalsely : Prop := integerBoxesRow.holds Try.pinned (OpenSpec.ofChange integerBoxesWrong)

/- THE SECOND FORM. 'bulk': how many values and letters a reading holds, each counted each time it is reached (what is shared counts as often as it is met; a slice's spare places count too). A statement '..UptoSaid' is the law's where the arguments, and the package variables that the reading takes, are together of bulk at most 1048576: NARROWER than '..Said'. Prove '..Said' where nothing that the law and all that it calls make is longer than what came in: it says more and counts as full. Else prove '..UptoSaid'. A law counts once. -/
mutual
def uptoBulk {H : Type} : DataW H → Nat
  | .lit (.string bytes) => bytes.length + 1
  | .lit _ => 1
  | .nil => 1
  | .ptr d => uptoBulk d + 1
  | .slice elems spare => uptoBulkAll elems + uptoBulkAll spare + 1
  | .agg parts => uptoBulkAll parts + 1
  | .iface _ d => uptoBulk d + 1
  | .map entries => uptoBulkEntries entries + 1
  | .held _ => 1
def uptoBulkAll {H : Type} : List (DataW H) → Nat
  | [] => 0
  | d :: r => uptoBulk d + uptoBulkAll r
def uptoBulkEntries {H : Type} : List (Lit × DataW H) → Nat
  | [] => 0
  | x :: r => uptoBulkEntry x + uptoBulkEntries r
def uptoBulkEntry {H : Type} : Lit × DataW H → Nat
  | (.string bytes, d) => bytes.length + uptoBulk d + 1
  | (_, d) => uptoBulk d + 1
 end
def uptoSmall : (H : Type) → List (DataW H) → Bool := fun _ ds => decide (uptoBulkAll ds ≤ 1048576)
def OpenSpec.upto (s : _root_.Go.ChangeSpec) : _root_.Go.OpenSpec := { _root_.Go.OpenSpec.ofChange s with cond := some uptoSmall }

/-- 'timeboundlaw33.IntegerSolves', WHERE WHAT IT READS IS OF BULK AT MOST 1048576: true; the input reads as it did. -/
def integerSolvesUptoRow : OpenClaim := { program := "ytkageldgmkajbaa", sum := "3c3d438394699991e63c2e1edce59e3d553321fd97a13cb4b365936848365c54", func := "timebound/timeboundlaw33.IntegerSolves", spec := "integerSolves", unfollowed := true, recurses := true, apart := false, narrowed := true }
def IntegerSolvesUptoSaid : Prop := integerSolvesUptoRow.holds Try.pinned (OpenSpec.upto integerSolvesSpec)

/-- 'timeboundlaw33.IntegerBelow', WHERE WHAT IT READS IS OF BULK AT MOST 1048576: true; the input reads as it did. -/
def integerBelowUptoRow : OpenClaim := { program := "ytkageldgmkajbaa", sum := "3c3d438394699991e63c2e1edce59e3d553321fd97a13cb4b365936848365c54", func := "timebound/timeboundlaw33.IntegerBelow", spec := "integerBelow", unfollowed := true, recurses := true, apart := false, narrowed := true }
def IntegerBelowUptoSaid : Prop := integerBelowUptoRow.holds Try.pinned (OpenSpec.upto integerBelowSpec)

/-- 'timeboundlaw33.IntegerBoxes', WHERE WHAT IT READS IS OF BULK AT MOST 1048576: true; the input reads as it did. -/
def integerBoxesUptoRow : OpenClaim := { program := "ytkageldgmkajbaa", sum := "3c3d438394699991e63c2e1edce59e3d553321fd97a13cb4b365936848365c54", func := "timebound/timeboundlaw33.IntegerBoxes", spec := "integerBoxes", unfollowed := true, recurses := true, apart := false, narrowed := true }
def IntegerBoxesUptoSaid : Prop := integerBoxesUptoRow.holds Try.pinned (OpenSpec.upto integerBoxesSpec)

end Rows
end Go.Proofs.Ytkageldgmkajbaa
