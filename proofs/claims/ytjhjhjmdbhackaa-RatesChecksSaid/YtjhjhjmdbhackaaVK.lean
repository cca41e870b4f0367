/- The element types of this seat's lists, as arguments hold them. -/
import Derived.Test.YtjhjhjmdbhackaaVO
import Derived.Test.YtjhjhjmdbhackaaVL
namespace Go.Proofs.Ytjhjhjmdbhackaa
open Go.RowKit
def codes : List (Nat × Ty) := [(3, .int), (65, .hold), (63, .job), (43, .dist), (56, .answer), (34, .release)]
theorem codes_ok : codesB Try.prog codes codes = true := by kernel_rfl
end Go.Proofs.Ytjhjhjmdbhackaa
