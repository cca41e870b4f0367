/- The element types of this seat's lists, as arguments hold them. -/
import Derived.Test.YtonjbhdfimcedaaVO
import Derived.Test.YtonjbhdfimcedaaVL
namespace Go.Proofs.Ytonjbhdfimcedaa
open Go.RowKit
def codes : List (Nat × Ty) := [(3, .int), (4, .bool), (5, .u8), (38, .ints), (76, .bools), (42, .op), (40, .block), (33, .input), (35, .array), (57, .head)]
theorem codes_ok : codesB Try.prog codes codes = true := by kernel_rfl
end Go.Proofs.Ytonjbhdfimcedaa
