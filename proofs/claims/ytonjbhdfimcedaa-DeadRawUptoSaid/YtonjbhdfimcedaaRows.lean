/-
  No cell of these rows narrows 'for every input' (looked for: loops, veiled, ifaces, maps, wideKeys, modest, calm, conditions, laid).
  DERIVED. THE GIVEN ROWS OF THIS SEAT. 6 by the template 'for every input the law returns true; each argument reads behind the call as it read before'; 0 by the template 'total and deterministic' (their statements: YtonjbhdfimcedaaTotals.lean).
  GIVEN WITH THE SEED: the statements are not yours to turn. If you find one false, say at which input.
  Laid BY PROGRAM, IN A SANDBOX (cutbox-rows.mjs): the forced cells as the released guide's own fill.sh prints them over the translation 2f808d7192438522… (all of the seat's roots in one cut). By AI agents, Wed Nov 11 2026. No macro, syntax, notation, axiom, sorry.
-/
import Derived.Test.YtonjbhdfimcedaaChecked
import GoSem.Claim
import GoSem.ClaimJoined
import GoSem.ClaimMapViews
import Derived.JoinedTies
import Derived.KernelRfl
namespace Go.Proofs.Ytonjbhdfimcedaa
/- THE CELL 'sum', in the pinned program and in every row, IS THE sha256 OF THE DUMP (.gsa) THAT YtonjbhdfimcedaaProg.lean LOADS. Nothing in Lean hashes anything: it is a label: what it is worth is what the hold of that sum in a sandbox is worth. -/
noncomputable def Try.pinned : Pinned := { name := "ytonjbhdfimcedaa", sum := "2f808d719243852294ea7c9c876b3b58568364380641910267554d805364b02a", checked := Try.checked }
namespace Rows
def none {H : Type} : Left H := { results := [], args := [] }

/-- 'timeboundlaw14.FoldRaw': WHATEVER THE INPUT: true; the input reads as it did. -/
def foldRawSpec : ChangeSpec := { name := "foldRaw", fn := fun _ => fun
  | [d] => { results := [.lit (.bool true)], args := [d] }
  | _ => none }
def foldRawRow : OpenClaim := { program := "ytonjbhdfimcedaa", sum := "2f808d719243852294ea7c9c876b3b58568364380641910267554d805364b02a", func := "timebound/timeboundlaw14.FoldRaw", spec := "foldRaw", unfollowed := true, recurses := true, apart := false }
def FoldRawSaid : Prop := foldRawRow.holds Try.pinned (OpenSpec.ofChange foldRawSpec)

/-- ITS FALSE NEIGHBOUR: 'it returns false'. Refute it at one input. -/
def foldRawWrong : ChangeSpec := { name := "foldRaw", fn := fun _ => fun
  | [d] => { results := [.lit (.bool false)], args := [d] }
  | _ => none }
def FoldRawWrongFalsely : Prop := foldRawRow.holds Try.pinned (OpenSpec.ofChange foldRawWrong)

/-- 'timeboundlaw14.FoldOps': WHATEVER THE INPUT: true; the input reads as it did. -/
def foldOpsSpec : ChangeSpec := { name := "foldOps", fn := fun _ => fun
  | [d1, d2, d3, d4] => { results := [.lit (.bool true)], args := [d1, d2, d3, d4] }
  | _ => none }
def foldOpsRow : OpenClaim := { program := "ytonjbhdfimcedaa", sum := "2f808d719243852294ea7c9c876b3b58568364380641910267554d805364b02a", func := "timebound/timeboundlaw14.FoldOps", spec := "foldOps", unfollowed := true, recurses := true, apart := false }
def FoldOpsSaid : Prop := foldOpsRow.holds Try.pinned (OpenSpec.ofChange foldOpsSpec)

/-- ITS FALSE NEIGHBOUR: 'it returns false'. Refute it at one input. -/
def foldOpsWrong : ChangeSpec := { name := "foldOps", fn := fun _ => fun
  | [d1, d2, d3, d4] => { results := [.lit (.bool false)], args := [d1, d2, d3, d4] }
  | _ => none }
def FoldOpsWrongFalsely : Prop := foldOpsRow.holds Try.pinned (OpenSpec.ofChange foldOpsWrong)

/-- 'timeboundlaw14.FoldAll': WHATEVER THE INPUT: true; the input reads as it did. -/
def foldAllSpec : ChangeSpec := { name := "foldAll", fn := fun _ => fun
  | [d1, d2] => { results := [.lit (.bool true)], args := [d1, d2] }
  | _ => none }
def foldAllRow : OpenClaim := { program := "ytonjbhdfimcedaa", sum := "2f808d719243852294ea7c9c876b3b58568364380641910267554d805364b02a", func := "timebound/timeboundlaw14.FoldAll", spec := "foldAll", unfollowed := true, recurses := true, apart := false }
def FoldAllSaid : Prop := foldAllRow.holds Try.pinned (OpenSpec.ofChange foldAllSpec)

/-- ITS FALSE NEIGHBOUR: 'it returns false'. Refute it at one input. -/
def foldAllWrong : ChangeSpec := { name := "foldAll", fn := fun _ => fun
  | [d1, d2] => { results := [.lit (.bool false)], args := [d1, d2] }
  | _ => none }
def FoldAllWrongFalsely : Prop := foldAllRow.holds Try.pinned (OpenSpec.ofChange foldAllWrong)

/-- 'timeboundlaw15.DeadRaw': WHATEVER THE INPUT: true; the input reads as it did. -/
def deadRawSpec : ChangeSpec := { name := "deadRaw", fn := fun _ => fun
  | [d] => { results := [.lit (.bool true)], args := [d] }
  | _ => none }
def deadRawRow : OpenClaim := { program := "ytonjbhdfimcedaa", sum := "2f808d719243852294ea7c9c876b3b58568364380641910267554d805364b02a", func := "timebound/timeboundlaw15.DeadRaw", spec := "deadRaw", unfollowed := true, recurses := true, apart := false }
def DeadRawSaid : Prop := deadRawRow.holds Try.pinned (OpenSpec.ofChange deadRawSpec)

/-- ITS FALSE NEIGHBOUR: 'it returns false'. Refute it at one input. -/
def deadRawWrong : ChangeSpec := { name := "deadRaw", fn := fun _ => fun
  | [d] => { results := [.lit (.bool false)], args := [d] }
  | _ => none }
def DeadRawWrongFalsely : Prop := deadRawRow.holds Try.pinned (OpenSpec.ofChange deadRawWrong)

/-- 'timeboundlaw16.MergeRaw': WHATEVER THE INPUT: true; the input reads as it did. -/
def mergeRawSpec : ChangeSpec := { name := "mergeRaw", fn := fun _ => fun
  | [d] => { results := [.lit (.bool true)], args := [d] }
  | _ => none }
def mergeRawRow : OpenClaim := { program := "ytonjbhdfimcedaa", sum := "2f808d719243852294ea7c9c876b3b58568364380641910267554d805364b02a", func := "timebound/timeboundlaw16.MergeRaw", spec := "mergeRaw", unfollowed := true, recurses := true, apart := false }
def MergeRawSaid : Prop := mergeRawRow.holds Try.pinned (OpenSpec.ofChange mergeRawSpec)

/-- ITS FALSE NEIGHBOUR: 'it returns false'. Refute it at one input. -/
def mergeRawWrong : ChangeSpec := { name := "mergeRaw", fn := fun _ => fun
  | [d] => { results := [.lit (.bool false)], args := [d] }
  | _ => none }
def MergeRawWrongFalsely : Prop := mergeRawRow.holds Try.pinned (OpenSpec.ofChange mergeRawWrong)

/-- 'timeboundlaw16.MergeShapes': WHATEVER THE INPUT: true; the input reads as it did. -/
def mergeShapesSpec : ChangeSpec := { name := "mergeShapes", fn := fun _ => fun
  | [d1, d2, d3] => { results := [.lit (.bool true)], args := [d1, d2, d3] }
  | _ => none }
def mergeShapesRow : OpenClaim := { program := "ytonjbhdfimcedaa", sum := "2f808d719243852294ea7c9c876b3b58568364380641910267554d805364b02a", func := "timebound/timeboundlaw16.MergeShapes", spec := "mergeShapes", unfollowed := true, recurses := true, apart := false }
def MergeShapesSaid : Prop := mergeShapesRow.holds Try.pinned (OpenSpec.ofChange mergeShapesSpec)

/-- ITS FALSE NEIGHBOUR: 'it returns false'. Refute it at one input. -/
def mergeShapesWrong : ChangeSpec := { name := "mergeShapes", fn := fun _ => fun
  | [d1, d2, d3] => { results := [.lit (.bool false)], args := [d1, d2, d3] }
  | _ => none }
def MergeShapesWrongFalsely : Prop := mergeShapesRow.holds Try.pinned (OpenSpec.ofChange mergeShapesWrong)

/- THE SECOND FORM. 'bulk': how many values and letters a reading holds, each counted each time it is reached (what is shared counts as often as it is met; a slice's spare places count too). A statement '..UptoSaid' is the law's where the arguments, and the package variables that the reading takes, are together of bulk at most 1048576: NARROWER than '..Said'. Prove '..Said' where nothing that the law and all that it calls make is longer than what came in: it says more and counts as full. Else prove '..UptoSaid'. A law counts once. -/
mutual
def uptoBulk {H : Type} : DataW H → Nat
  | .lit (.string bytes) => bytes.length + 1
  | .lit _ => 1
  | .nil => 1
  | .ptr d => uptoBulk d + 1
  | .slice elems spare => uptoBulkAll elems + uptoBulkAll spare + 1
  | .agg parts => uptoBulkAll parts + 1
  | .iface _ d => uptoBulk d + 1
  | .map entries => uptoBulkEntries entries + 1
  | .held _ => 1
def uptoBulkAll {H : Type} : List (DataW H) → Nat
  | [] => 0
  | d :: r => uptoBulk d + uptoBulkAll r
def uptoBulkEntries {H : Type} : List (Lit × DataW H) → Nat
  | [] => 0
  | x :: r => uptoBulkEntry x + uptoBulkEntries r
def uptoBulkEntry {H : Type} : Lit × DataW H → Nat
  | (.string bytes, d) => bytes.length + uptoBulk d + 1
  | (_, d) => uptoBulk d + 1
 end
def uptoSmall : (H : Type) → List (DataW H) → Bool := fun _ ds => decide (uptoBulkAll ds ≤ 1048576)
def OpenSpec.upto (s : _root_.Go.ChangeSpec) : _root_.Go.OpenSpec := { _root_.Go.OpenSpec.ofChange s with cond := some uptoSmall }

/-- 'timeboundlaw14.FoldRaw', WHERE WHAT IT READS IS OF BULK AT MOST 1048576: true; the input reads as it did. -/
def foldRawUptoRow : OpenClaim := { program := "ytonjbhdfimcedaa", sum := "2f808d719243852294ea7c9c876b3b58568364380641910267554d805364b02a", func := "timebound/timeboundlaw14.FoldRaw", spec := "foldRaw", unfollowed := true, recurses := true, apart := false, narrowed := true }
def FoldRawUptoSaid : Prop := foldRawUptoRow.holds Try.pinned (OpenSpec.upto foldRawSpec)

/-- 'timeboundlaw14.FoldOps', WHERE WHAT IT READS IS OF BULK AT MOST 1048576: true; the input reads as it did. -/
def foldOpsUptoRow : OpenClaim := { program := "ytonjbhdfimcedaa", sum := "2f808d719243852294ea7c9c876b3b58568364380641910267554d805364b02a", func := "timebound/timeboundlaw14.FoldOps", spec := "foldOps", unfollowed := true, recurses := true, apart := false, narrowed := true }
def FoldOpsUptoSaid : Prop := foldOpsUptoRow.holds Try.pinned (OpenSpec.upto foldOpsSpec)

/-- 'timeboundlaw14.FoldAll', WHERE WHAT IT READS IS OF BULK AT MOST 1048576: true; the input reads as it did. -/
def foldAllUptoRow : OpenClaim := { program := "ytonjbhdfimcedaa", sum := "2f808d719243852294ea7c9c876b3b58568364380641910267554d805364b02a", func := "timebound/timeboundlaw14.FoldAll", spec := "foldAll", unfollowed := true, recurses := true, apart := false, narrowed := true }
def FoldAllUptoSaid : Prop := foldAllUptoRow.holds Try.pinned (OpenSpec.upto foldAllSpec)

/-- 'timeboundlaw15.DeadRaw', WHERE WHAT IT READS IS OF BULK AT MOST 1048576: true; the input reads as it did. -/
def deadRawUptoRow : OpenClaim := { program := "ytonjbhdfimcedaa", sum := "2f808d719243852294ea7c9c876b3b58568364380641910267554d805364b02a", func := "timebound/timeboundlaw15.DeadRaw", spec := "deadRaw", unfollowed := true, recurses := true, apart := false, narrowed := true }
def DeadRawUptoSaid : Prop := deadRawUptoRow.holds Try.pinned (OpenSpec.upto deadRawSpec)

/-- 'timeboundlaw16.MergeRaw', WHERE WHAT IT READS IS OF BULK AT MOST 1048576: true; the input reads as it did. -/
def mergeRawUptoRow : OpenClaim := { program := "ytonjbhdfimcedaa", sum := "2f808d719243852294ea7c9c876b3b58568364380641910267554d805364b02a", func := "timebound/timeboundlaw16.MergeRaw", spec := "mergeRaw", unfollowed := true, recurses := true, apart := false, narrowed := true }
def MergeRawUptoSaid : Prop := mergeRawUptoRow.holds Try.pinned (OpenSpec.upto mergeRawSpec)

/-- 'timeboundlaw16.MergeShapes', WHERE WHAT IT READS IS OF BULK AT MOST 1048576: true; the input reads as it did. -/
def mergeShapesUptoRow : OpenClaim := { program := "ytonjbhdfimcedaa", sum := "2f808d719243852294ea7c9c876b3b58568364380641910267554d805364b02a", func := "timebound/timeboundlaw16.MergeShapes", spec := "mergeShapes", unfollowed := true, recurses := true, apart := false, narrowed := true }
def MergeShapesUptoSaid : Prop := mergeShapesUptoRow.holds Try.pinned (OpenSpec.upto mergeShapesSpec)

end Rows
end Go.Proofs.Ytonjbhdfimcedaa
