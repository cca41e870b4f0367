/- The walks of the helpers of the laws of layer 1: 'do', 'awake', and the small functions of both sides. No condition. -/
import Derived.Test.YtfngcibikmgopaaWord
import Derived.Test.YtfngcibikmgopaaRef01
namespace Go.Proofs.Ytfngcibikmgopaa
open Go.RowKit
theorem law01_do (op x y : Int) (w : World) :
    Calls Try.prog 12 #[.int .i64 op, .int .i64 x, .int .i64 y] w fun e w' => e = .returned (.int .i64 (doV op x y)) ∧ Grown w w' := by
  go_enter Try.func12, Try.ntmps12
  go_wp2_with (go_at_call 9; refine (word_do _ _ _ _).mono ?_; rintro e w' ⟨rfl, hg⟩)
  go_ret
  exact ⟨rfl, hg⟩
theorem ref01_known (n : Int) (w : World) :
    Calls Try.prog 16 #[.int .i64 n] w fun e w' => e = .returned (.bool (knownB n)) ∧ w = w' := by
  by_cases h0 : 1 ≤ n
  · by_cases h1 : n ≤ 14
    · have hk : Hid (knownB n = true) := Lib.hid (by simp [knownB, h0, h1])
      go_enter Try.func16, Try.ntmps16
      go_wp2
      go_ret
      exact ⟨by rw [hk.out]; rfl, rfl⟩
    · have hk : Hid (knownB n = false) := Lib.hid (by simp [knownB, h1])
      go_enter Try.func16, Try.ntmps16
      go_wp2
      go_ret
      exact ⟨by rw [hk.out]; rfl, rfl⟩
  · have hk : Hid (knownB n = false) := Lib.hid (by simp [knownB, h0])
    go_enter Try.func16, Try.ntmps16
    go_wp2
    go_ret
    exact ⟨by rw [hk.out]; rfl, rfl⟩
def costV (n : Int) : Int := if n = 3 then 1 else if n = 4 then 2 else if n = 5 then 2 else 0
theorem costV_other {n : Int} (a : ¬ n = 3) (b : ¬ n = 4) (c : ¬ n = 5) : costV n = 0 := by simp [costV, a, b, c]
theorem word_cost (n : Int) (w : World) :
    Calls Try.prog 17 #[.int .i64 n] w fun e w' => e = .returned (.int .i64 (costV n)) ∧ w = w' := by
  by_cases h3 : n = 3
  · subst h3
    go_enter Try.func17, Try.ntmps17
    go_wp2
    go_ret
    exact ⟨rfl, rfl⟩
  by_cases h4 : n = 4
  · subst h4; clear h3
    go_enter Try.func17, Try.ntmps17
    go_wp2
    go_ret
    exact ⟨rfl, rfl⟩
  by_cases h5 : n = 5
  · subst h5; clear h3 h4
    go_enter Try.func17, Try.ntmps17
    go_wp2
    go_ret
    exact ⟨rfl, rfl⟩
  have hc : Hid (costV n = 0) := Lib.hid (costV_other h3 h4 h5)
  have e3 : (n == 3) = false := beq_eq_false_iff_ne.2 h3
  have e4 : (n == 4) = false := beq_eq_false_iff_ne.2 h4
  have e5 : (n == 5) = false := beq_eq_false_iff_ne.2 h5
  clear h3 h4 h5
  go_enter Try.func17, Try.ntmps17
  go_wp2
  go_ret
  exact ⟨by rw [hc.out]; rfl, rfl⟩
theorem ref01_cost (n : Int) (w : World) :
    Calls Try.prog 18 #[.int .i64 n] w fun e w' => e = .returned (.int .i64 (costV n)) ∧ w = w' := by
  by_cases h3 : n = 3
  · subst h3
    go_enter Try.func18, Try.ntmps18
    go_wp2
    go_ret
    exact ⟨rfl, rfl⟩
  by_cases h4 : n = 4
  · subst h4; clear h3
    go_enter Try.func18, Try.ntmps18
    go_wp2
    go_ret
    exact ⟨rfl, rfl⟩
  by_cases h5 : n = 5
  · subst h5; clear h3 h4
    go_enter Try.func18, Try.ntmps18
    go_wp2
    go_ret
    exact ⟨rfl, rfl⟩
  have hc : Hid (costV n = 0) := Lib.hid (costV_other h3 h4 h5)
  have e3 : (n == 3) = false := beq_eq_false_iff_ne.2 h3
  have e4 : (n == 4) = false := beq_eq_false_iff_ne.2 h4
  have e5 : (n == 5) = false := beq_eq_false_iff_ne.2 h5
  clear h3 h4 h5
  go_enter Try.func18, Try.ntmps18
  go_wp2
  go_ret
  exact ⟨by rw [hc.out]; rfl, rfl⟩
set_option maxHeartbeats 400000 in
theorem law01_awake (w : World) :
    Calls Try.prog 11 #[] w fun e w' => e = .returned (.bool true) ∧ Grown w w' := by
  have a1 : (doV 1 2147483647 1 == -2147483648) = true := by decide
  have a2 : (doE 1 == 0) = true := by decide
  have a3 : (doV 5 (-7) 2 == -1) = true := by decide
  have a4 : (doE 5 == 0) = true := by decide
  have a5 : (doV 4 5 0 == 0) = true := by decide
  have a6 : (doE 4 == 0) = true := by decide
  have a7 : (wr 4294967301 == 5) = true := by decide
  have a8 : knownB 14 = true := by decide
  go_enter Try.func11, Try.ntmps11
  go_wp2_with (first | (go_at_call 9; refine (word_do _ _ _ _).mono ?_; rintro e w' ⟨rfl, hg⟩) | (go_at_call 13; refine (word_wrap _ _).mono ?_; rintro e w' ⟨rfl, rfl⟩) | (go_at_call 15; refine (word_known _ _).mono ?_; rintro e w' ⟨rfl, rfl⟩))
  go_ret
  exact ⟨rfl, by repeat (first | assumption | refine grown_trans ?_ (by assumption))⟩
end Go.Proofs.Ytfngcibikmgopaa
