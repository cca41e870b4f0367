/- The contract of interval.Refine. No condition. -/
import Derived.Test.YtbcoanbjhbppcaaIvD
import Derived.Test.YtbcoanbjhbppcaaIvE
namespace Go.Proofs.Ytbcoanbjhbppcaa
open Go.RowKit
set_option linter.unusedVariables false
theorem c_refine (op : Int) (t : Bool) (a b c d : Int) (w : World) : Con Try.prog 18 [.int .i64 op, .bool t, .agg #[.int .i64 a, .int .i64 b], .agg #[.int .i64 c, .int .i64 d]] w (.tuple #[ag (refF op t (fixI a b).1 (fixI a b).2 (fixI c d).1 (fixI c d).2).1, ag (refF op t (fixI a b).1 (fixI a b).2 (fixI c d).1 (fixI c d).2).2]) := by
  by_cases ho : op < 11 ∨ 14 < op
  · exact c_refine_out a b c d op t ho w
  · have h : op = 11 ∨ op = 12 ∨ op = 13 ∨ op = 14 := by omega
    rcases h with rfl | rfl | rfl | rfl <;> cases t
    · exact c_refine11f a b c d w
    · exact c_refine11t a b c d w
    · exact c_refine12f a b c d w
    · exact c_refine12t a b c d w
    · exact c_refine13f a b c d w
    · exact c_refine13t a b c d w
    · exact c_refine14f a b c d w
    · exact c_refine14t a b c d w
end Go.Proofs.Ytbcoanbjhbppcaa