/- Plain facts on intervals of words: validity, the lattice. No condition on any program. -/
import Derived.Test.YtbcoanbjhbppcaaIvC
namespace Go.Proofs.Ytbcoanbjhbppcaa
set_option linter.unusedVariables false
/-- None, or an interval of words. -/
def vI (p q : Int) : Prop := (p = 1 ∧ q = 0) ∨ (-2147483648 ≤ p ∧ p ≤ q ∧ q ≤ 2147483647)
theorem vI_fix {p q : Int} (h : vI p q) : fixI p q = (p, q) := by
  unfold vI at h
  unfold fixI
  rw [if_pos]
  unfold validI isW
  rcases h with ⟨rfl, rfl⟩ | h
  · rfl
  · simp; omega
theorem vI_fixI (a b : Int) : vI (fixI a b).1 (fixI a b).2 := by
  unfold fixI vI
  by_cases h : validI a b = true
  · simp only [if_pos h]
    simp only [validI, isW, Bool.or_eq_true, Bool.and_eq_true, beq_iff_eq, decide_eq_true_eq] at h
    omega
  · simp only [if_neg h]; omega
theorem vI_made {p q : Int} (h1 : -2147483648 ≤ p) (h2 : q ≤ 2147483647) : vI (madeI p q).1 (madeI p q).2 := by unfold vI madeI; grind
theorem vI_join {a b c d : Int} (h1 : vI a b) (h2 : vI c d) : vI (joinI a b c d).1 (joinI a b c d).2 := by
  unfold vI at *; grind [joinI, emptyB, madeI, minL, maxL, imin, imax]
theorem vI_meet {a b c d : Int} (h1 : vI a b) (h2 : vI c d) : vI (meetI a b c d).1 (meetI a b c d).2 := by
  unfold vI at *; grind [meetI, emptyB, madeI, minL, maxL, imin, imax]
theorem leq_join1 {a b c d : Int} (h1 : vI a b) (h2 : vI c d) : leqI a b (joinI a b c d).1 (joinI a b c d).2 = true := by
  unfold vI at *; grind [leqI, joinI, emptyB, madeI, minL, maxL, imin, imax]
theorem leq_join2 {a b c d : Int} (h1 : vI a b) (h2 : vI c d) : leqI c d (joinI a b c d).1 (joinI a b c d).2 = true := by
  unfold vI at *; grind [leqI, joinI, emptyB, madeI, minL, maxL, imin, imax]
theorem leq_meet1 {a b c d : Int} (h1 : vI a b) (h2 : vI c d) : leqI (meetI a b c d).1 (meetI a b c d).2 a b = true := by
  unfold vI at *; grind [leqI, meetI, emptyB, madeI, minL, maxL, imin, imax]
theorem leq_meet2 {a b c d : Int} (h1 : vI a b) (h2 : vI c d) : leqI (meetI a b c d).1 (meetI a b c d).2 c d = true := by
  unfold vI at *; grind [leqI, meetI, emptyB, madeI, minL, maxL, imin, imax]
theorem leq_none (a b : Int) : leqI 1 0 a b = true := by unfold leqI emptyB; simp
theorem leq_all {a b : Int} (h1 : vI a b) : leqI a b (-2147483648) 2147483647 = true := by unfold vI at *; grind [leqI, emptyB]
theorem join_least {a b c d e f : Int} (h1 : vI a b) (h2 : vI c d) (h3 : vI e f) (h : leqI a b e f = true) : leqI c d e f = leqI (joinI a b c d).1 (joinI a b c d).2 e f := by
  unfold vI at *; grind [leqI, joinI, emptyB, madeI, minL, maxL, imin, imax]
theorem meet_greatest {a b c d e f : Int} (h1 : vI a b) (h2 : vI c d) (h3 : vI e f) (h : leqI e f a b = true) : leqI e f c d = leqI e f (meetI a b c d).1 (meetI a b c d).2 := by
  unfold vI at *; grind [leqI, meetI, emptyB, madeI, minL, maxL, imin, imax]
theorem join_comm {a b c d : Int} (h1 : vI a b) (h2 : vI c d) : joinI a b c d = joinI c d a b := by
  unfold vI at *; grind [joinI, emptyB, madeI, minL, maxL, imin, imax]
theorem meet_comm {a b c d : Int} (h1 : vI a b) (h2 : vI c d) : meetI a b c d = meetI c d a b := by
  unfold vI at *; grind [meetI, emptyB, madeI, minL, maxL, imin, imax]
theorem leq_refl {a b : Int} (h1 : vI a b) : leqI a b a b = true := by unfold vI at *; grind [leqI, emptyB]
theorem leq_anti {a b c d : Int} (h1 : vI a b) (h2 : vI c d) (h : leqI a b c d = true) (h' : leqI c d a b = true) : a = c ∧ b = d := by
  unfold vI at *; grind [leqI, emptyB]
end Go.Proofs.Ytbcoanbjhbppcaa
