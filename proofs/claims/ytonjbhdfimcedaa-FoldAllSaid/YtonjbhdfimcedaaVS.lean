/- Walks: a state that says less. No condition on any program. -/
import Derived.Test.YtonjbhdfimcedaaVR
import Derived.Test.YtonjbhdfimcedaaVN
namespace Go.Proofs.Ytonjbhdfimcedaa
set_option linter.unusedSimpArgs false
set_option linter.unusedSectionVars false
set_option linter.unusedVariables false
open Go.RowKit
section
variable {x : Cx} {Q : Exit → St → Prop} {obs : List Prop} {K : List Kf} {all l : List Oper}
/-- Ahead of an operation less is known. -/
theorem g_wk (hL : LayOk x.P x.L) (fuel : Nat) {s t : St} (ho : AllP obs) (hs : SubG x.kb t s) (hk : Good x Q (run x fuel [] (.ops all l) K t)) : Good x Q (.ops obs all l K s) := by
  refine ⟨ho, ?_⟩
  have h1 := (run_ok hL hk).2
  exact ⟨fun g Q' V ac w hQ hr => by
    obtain ⟨V', hr'⟩ := (SubG_ok hs).run g V ac w hr
    exact h1.run g Q' V' ac w hQ hr'⟩
end
end Go.Proofs.Ytonjbhdfimcedaa
