/- Graphs: what is checked. No condition on any program. -/
import Derived.Test.YtonjbhdfimcedaaVP
namespace Go.Proofs.Ytonjbhdfimcedaa
set_option linter.unusedSimpArgs false
set_option linter.unusedSectionVars false
set_option linter.unusedVariables false
open Go.RowKit
/-- A graph. -/
structure Grf where
  inp : List Inp
  vars : Int
  keep : Int
  arrs : List Arr
  shared : Int
  blks : List Blk
  pts : List (List Int)
  hds : List Hd_
/-- An operation is right: variables up to hi, na arrays. -/
def opB (hi na : Int) (o : Op_) : Bool := decide (
  (o.kind = 1 ∧ (0 ≤ o.dst ∧ o.dst ≤ hi) ∧ o.a = 0 ∧ o.b = 0 ∧ -2147483648 ≤ o.imm ∧ o.imm ≤ 2147483647) ∨
  (o.kind = 2 ∧ (0 ≤ o.dst ∧ o.dst ≤ hi) ∧ (0 ≤ o.a ∧ o.a ≤ hi) ∧ o.b = 0 ∧ o.imm = 0) ∨
  (o.kind = 3 ∧ (0 ≤ o.dst ∧ o.dst ≤ hi) ∧ (0 ≤ o.a ∧ o.a ≤ hi) ∧ (0 ≤ o.b ∧ o.b ≤ hi) ∧ 1 ≤ o.imm ∧ o.imm ≤ 14) ∨
  (o.kind = 4 ∧ (0 ≤ o.dst ∧ o.dst ≤ hi) ∧ (0 ≤ o.a ∧ o.a ≤ hi) ∧ o.b = 0 ∧ 0 ≤ o.imm ∧ o.imm < na) ∨
  (o.kind = 5 ∧ (0 ≤ o.a ∧ o.a ≤ hi) ∧ (0 ≤ o.b ∧ o.b ≤ hi) ∧ o.dst = 0 ∧ 0 ≤ o.imm ∧ o.imm < na) ∨
  ((o.kind = 6 ∨ o.kind = 7) ∧ o.dst = 0 ∧ o.a = 0 ∧ o.b = 0 ∧ 0 ≤ o.imm ∧ o.imm ≤ 3))
end Go.Proofs.Ytonjbhdfimcedaa
