/- The element types of this seat's lists, as arguments hold them. -/
import Derived.Test.YtkageldgmkajbaaVO
import Derived.Test.YtkageldgmkajbaaVL
namespace Go.Proofs.Ytkageldgmkajbaa
open Go.RowKit
def codes : List (Nat × Ty) := [(3, .int), (22, .ints), (52, .term), (54, .row)]
theorem codes_ok : codesB Try.prog codes codes = true := by kernel_rfl
end Go.Proofs.Ytkageldgmkajbaa
