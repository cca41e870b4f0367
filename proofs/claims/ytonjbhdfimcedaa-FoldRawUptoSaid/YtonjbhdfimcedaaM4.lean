/- Graphs of a bounded bulk. -/
import Derived.Test.YtonjbhdfimcedaaP1
import Derived.Test.YtonjbhdfimcedaaVT
namespace Go.Proofs.Ytonjbhdfimcedaa
set_option linter.unusedVariables false
set_option linter.unusedSimpArgs false
open Go.RowKit
theorem lsum_mem {c : Ty} {l : List (El c)} {x : El c} (h : x ∈ l) : tsz (tcells c x) ≤ lsum c l := by
  induction l with
  | nil => cases h
  | cons y l ih =>
    simp only [lsum]
    rcases List.mem_cons.1 h with rfl | h
    · omega
    · have := ih h; omega
theorem osum_lsum : ∀ {l : List Blk}, osum l ≤ lsum .block l
  | [] => Nat.le_refl _
  | x :: l => by
    have := osum_lsum (l := l)
    show x.ops.length + osum l ≤ tsz [.sl .op x.ops, .int .i64 x.cond, .sl .int x.next] + lsum .block l
    simp only [tsz]; omega
theorem grf_bnd {g : Grf} (h0 : g.inp.length + lsum .input g.inp ≤ 1048576) (h3 : g.arrs.length + lsum .array g.arrs ≤ 1048576) (h5 : g.blks.length + lsum .block g.blks ≤ 1048576) (h6 : g.pts.length + lsum .ints g.pts ≤ 1048576) (h7 : g.hds.length + lsum .head g.hds ≤ 1048576) : Bnd g := by
  have ho := osum_lsum (l := g.blks)
  refine ⟨by omega, by omega, by omega, by omega, by omega, by rw [opsN_sum]; omega, fun x hx => ?_, fun x hx => ?_, fun x hx => ?_⟩
  · have h := lsum_mem (c := .block) hx
    have e : tsz (tcells .block x) = x.ops.length + (x.next.length + 0) := rfl
    omega
  · have h := lsum_mem (c := .block) hx
    have e : tsz (tcells .block x) = x.ops.length + (x.next.length + 0) := rfl
    omega
  · have h := lsum_mem (c := .ints) hx
    have e : tsz (tcells .ints x) = x.length + 0 := rfl
    omega
end Go.Proofs.Ytonjbhdfimcedaa
