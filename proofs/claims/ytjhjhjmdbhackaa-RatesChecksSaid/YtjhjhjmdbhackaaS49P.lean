/- Plain facts on lists of disturbances. No condition on any program. -/
import Derived.Test.YtjhjhjmdbhackaaVC
namespace Go.Proofs.Ytjhjhjmdbhackaa
set_option linter.unusedSimpArgs false
set_option linter.unusedSectionVars false
set_option linter.unusedVariables false
open Go.RowKit
/-- A disturbance has its form, behind a time. -/
def formD (b : Int) (d : Dist) : Bool := decide (0 ≤ d.tm ∧ d.tm ≤ 16777216 ∧ b ≤ d.tm ∧ 1 ≤ d.kind ∧ d.kind ≤ 3) && (if d.kind = 3 then decide (0 ≤ d.set ∧ 0 ≤ d.place) else decide (d.set = 0 ∧ d.place = 0))
def formsD : Int → List Dist → Bool
  | _, [] => true
  | b, d :: l => formD b d && formsD d.tm l
/-- The times of a kind. -/
def kindT (k : Int) : List Dist → List Int
  | [] => []
  | d :: l => if d.kind = k then d.tm :: kindT k l else kindT k l
/-- So many times are so far apart. -/
def farT (many dist : Int) (l : List Int) : Bool := if dist = 0 ∨ many = 0 then decide (l.length = 0) else (List.range l.length).all fun i => decide ((l.length : Int) ≤ (i : Int) + many) || decide (dist ≤ gt (c := .int) l (i + many.toNat) - gt (c := .int) l i)
theorem kindT_app (k : Int) : ∀ (l m : List Dist), kindT k (l ++ m) = kindT k l ++ kindT k m
  | [], m => rfl
  | d :: l, m => by
    show (if d.kind = k then d.tm :: kindT k (l ++ m) else kindT k (l ++ m)) = (if d.kind = k then d.tm :: kindT k l else kindT k l) ++ kindT k m
    rw [kindT_app k l m]
    split <;> rfl
theorem kindT_len (k : Int) : ∀ (l : List Dist), (kindT k l).length ≤ l.length
  | [] => Nat.le_refl _
  | d :: l => by
    have := kindT_len k l
    show (if d.kind = k then d.tm :: kindT k l else kindT k l).length ≤ _
    split <;> simp only [List.length_cons] <;> omega
end Go.Proofs.Ytjhjhjmdbhackaa
