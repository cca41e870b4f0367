/- Plain facts on disturbances. No condition on any program. -/
import Derived.Test.YtjhjhjmdbhackaaZ12
namespace Go.Proofs.Ytjhjhjmdbhackaa
set_option linter.unusedSimpArgs false
set_option linter.unusedSectionVars false
set_option linter.unusedVariables false
open Go.RowKit
structure Dist where
  tm : Int
  kind : Int
  data : Bool
  set : Int
  place : Int
def encD (d : Dist) : List DV := [.int .i64 d.tm, .int .i64 d.kind, .bool d.data, .int .i64 d.set, .int .i64 d.place]
def hitB (k f t : Int) (d : Dist) : Bool := d.kind == k && (decide (f ≤ d.tm) && decide (d.tm < t))
def countI (k f t : Int) : List Dist → Int
  | [] => 0
  | d :: l => (if hitB k f t d then 1 else 0) + countI k f t l
theorem countI_append (k f t : Int) : ∀ l m, countI k f t (l ++ m) = countI k f t l + countI k f t m
  | [], m => by simp [countI]
  | d :: l, m => by simp only [List.cons_append, countI, countI_append k f t l m]; omega
theorem take_snoc {α : Type} {l : List α} {k : Nat} {a : α} (h : l[k]? = some a) : l.take (k + 1) = l.take k ++ [a] := by
  rw [List.take_add_one, h]; rfl
theorem countI_snoc {k f t : Int} {l : List Dist} {n : Nat} {d : Dist} (h : l[n]? = some d) : countI k f t (l.take (n + 1)) = countI k f t (l.take n) + if hitB k f t d then 1 else 0 := by
  rw [take_snoc h, countI_append]
  simp only [countI]; omega
theorem countI_bd (k f t : Int) : ∀ l : List Dist, 0 ≤ countI k f t l ∧ countI k f t l ≤ l.length
  | [] => by simp [countI]
  | d :: l => by
    have := countI_bd k f t l
    simp only [countI, List.length_cons]
    split <;> omega
theorem countI_take_bd (k f t : Int) (l : List Dist) (n : Nat) : 0 ≤ countI k f t (l.take n) ∧ countI k f t (l.take n) ≤ n := by
  have h1 := countI_bd k f t (l.take n)
  have h2 : (l.take n).length ≤ n := List.length_take_le _ _
  omega
end Go.Proofs.Ytjhjhjmdbhackaa
