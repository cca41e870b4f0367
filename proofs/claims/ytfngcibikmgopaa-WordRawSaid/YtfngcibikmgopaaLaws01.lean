/- The walks of the laws of layer 1. -/
import Derived.Test.YtfngcibikmgopaaLaw01
import Derived.Test.YtfngcibikmgopaaLaws01Pure
namespace Go.Proofs.Ytfngcibikmgopaa
open Go.RowKit
set_option maxHeartbeats 400000 in
theorem raw_walk (op a b : Int) (w : World) :
    Calls Try.prog 8 #[.int .i64 op, .int .i64 a, .int .i64 b] w fun e w' => e = .returned (.bool true) ∧ Grown w w' := by
  go_enter Try.func8, Try.ntmps8
  go_wp2_with (first | (go_at_call 9; refine (word_do _ _ _ _).mono ?_; rintro e w' ⟨rfl, hg⟩) | (go_at_call 10; refine (ref01_do _ _ _ _).mono ?_; rintro e w' ⟨rfl, rfl⟩) | (go_at_call 13; refine (word_wrap _ _).mono ?_; rintro e w' ⟨rfl, rfl⟩) | (go_at_call 14; refine (ref01_wrap _ _).mono ?_; rintro e w' ⟨rfl, rfl⟩) | (go_at_call 15; refine (word_known _ _).mono ?_; rintro e w' ⟨rfl, rfl⟩) | (go_at_call 16; refine (ref01_known _ _).mono ?_; rintro e w' ⟨rfl, rfl⟩) | (go_at_call 17; refine (word_cost _ _).mono ?_; rintro e w' ⟨rfl, rfl⟩) | (go_at_call 18; refine (ref01_cost _ _).mono ?_; rintro e w' ⟨rfl, rfl⟩) | (go_at_call 11; refine (law01_awake _).mono ?_; rintro e w' ⟨rfl, hg⟩))
  go_ret
  exact ⟨rfl, by repeat (first | assumption | refine grown_trans ?_ (by assumption))⟩
set_option maxHeartbeats 400000 in
theorem does_walk (op a b c : Int) (_ : 0 ≤ op) (_ : op ≤ 255) (_ : -2147483648 ≤ a) (_ : a ≤ 2147483647) (_ : -2147483648 ≤ b) (_ : b ≤ 2147483647) (_ : 0 ≤ c) (_ : c ≤ 255) (w : World) :
    Calls Try.prog 3 #[.int .u8 op, .int .i32 a, .int .i32 b, .int .u8 c] w fun e w' => e = .returned (.bool true) ∧ Grown w w' := by
  have e0 : (doE (1 + op % 14) == 0) = true := by rw [doE_in (by omega) (by omega)]; rfl
  have l1 := doV_lo (1 + op % 14) a b
  have l2 := doV_hi (1 + op % 14) a b
  have l3 := doV_lo (1 + op % 14) a (c % 40)
  have l4 := doV_hi (1 + op % 14) a (c % 40)
  go_enter Try.func3, Try.ntmps3
  go_wp2_with (first | (go_at_call 9; refine (word_do _ _ _ _).mono ?_; rintro e w' ⟨rfl, hg⟩) | (go_at_call 10; refine (ref01_do _ _ _ _).mono ?_; rintro e w' ⟨rfl, rfl⟩) | (go_at_call 11; refine (law01_awake _).mono ?_; rintro e w' ⟨rfl, hg⟩))
  all_goals
    go_ret
    exact ⟨rfl, by repeat (first | assumption | refine grown_trans ?_ (by assumption))⟩
set_option maxHeartbeats 400000 in
theorem ring_walk (a b c k m : Int) (_ : -2147483648 ≤ a) (_ : a ≤ 2147483647) (_ : -2147483648 ≤ b) (_ : b ≤ 2147483647) (_ : -2147483648 ≤ c) (_ : c ≤ 2147483647) (_ : -2147483648 ≤ k) (_ : k ≤ 2147483647) (_ : -2147483648 ≤ m) (_ : m ≤ 2147483647) (w : World) :
    Calls Try.prog 4 #[.int .i32 a, .int .i32 b, .int .i32 c, .int .i32 k, .int .i32 m] w fun e w' => e = .returned (.bool true) ∧ Grown w w' := by
  have r1 := ring1 a b
  have r2 := ring2 a b c
  have r3 := ring3 a b c
  have r4 := ring4 (x := a) b ‹_› ‹_›
  have r6 := ring6 (x := a) b ‹_› ‹_›
  have r5 : (doV 3 a b == doV 3 (wrap64 (a + k * 4294967296)) (wrap64 (b + m * 4294967296))) = true := ring5 (by unfold wrap64; omega) (by unfold wrap64; omega)
  go_enter Try.func4, Try.ntmps4
  go_wp2_with (first | (go_at_call 12; refine (law01_do _ _ _ _).mono ?_; rintro e w' ⟨rfl, hg⟩) | (go_at_call 11; refine (law01_awake _).mono ?_; rintro e w' ⟨rfl, hg⟩))
  go_ret
  exact ⟨rfl, by repeat (first | assumption | refine grown_trans ?_ (by assumption))⟩
set_option maxHeartbeats 400000 in
theorem bits_walk (a b c : Int) (_ : -2147483648 ≤ a) (_ : a ≤ 2147483647) (_ : -2147483648 ≤ b) (_ : b ≤ 2147483647) (_ : -2147483648 ≤ c) (_ : c ≤ 2147483647) (w : World) :
    Calls Try.prog 7 #[.int .i32 a, .int .i32 b, .int .i32 c] w fun e w' => e = .returned (.bool true) ∧ Grown w w' := by
  have r1 : (doV 8 (doV 6 a b) (-1) != doV 7 (doV 8 a (-1)) (doV 8 b (-1))) = false := by simp [bne, bits1 a b]
  have r2 : (doV 7 a (doV 6 a b) != a) = false := by simp [bne, bits2 (x := a) b ‹_› ‹_›]
  have r3 : (doV 6 a (doV 7 b c) != doV 7 (doV 6 a b) (doV 6 a c)) = false := by simp [bne, bits3 a b c]
  have r4 := bits4 a b
  have r5 := bits5 a b
  go_enter Try.func7, Try.ntmps7
  go_wp2_with (first | (go_at_call 12; refine (law01_do _ _ _ _).mono ?_; rintro e w' ⟨rfl, hg⟩) | (go_at_call 11; refine (law01_awake _).mono ?_; rintro e w' ⟨rfl, hg⟩))
  go_ret
  exact ⟨rfl, by repeat (first | assumption | refine grown_trans ?_ (by assumption))⟩
set_option maxHeartbeats 400000 in
theorem compares_walk (a b : Int) (same : Bool) (_ : -2147483648 ≤ a) (_ : a ≤ 2147483647) (_ : -2147483648 ≤ b) (_ : b ≤ 2147483647) (w : World) :
    Calls Try.prog 6 #[.int .i32 a, .int .i32 b, .bool same] w fun e w' => e = .returned (.bool true) ∧ Grown w w' := by
  cases same
  · -- two words
    have l1 := cmp1 (a := a) (b := b) ‹_› ‹_› ‹_› ‹_›
    have l2 := cmp2 (a := a) (b := b) ‹_› ‹_› ‹_› ‹_›
    have l3 := cmp3 (a := a) (b := b) ‹_› ‹_› ‹_› ‹_›
    have l4 := cmp4 (a := a) (b := b) ‹_› ‹_› ‹_› ‹_›
    go_enter Try.func6, Try.ntmps6
    go_wp2_with (first | (go_at_call 12; refine (law01_do _ _ _ _).mono ?_; rintro e w' ⟨rfl, hg⟩) | (go_at_call 11; refine (law01_awake _).mono ?_; rintro e w' ⟨rfl, hg⟩))
    go_ret
    exact ⟨rfl, by repeat (first | assumption | refine grown_trans ?_ (by assumption))⟩
  · -- the same word twice
    have l1 := cmp1 (a := a) (b := a) ‹_› ‹_› ‹_› ‹_›
    have l2 := cmp2 (a := a) (b := a) ‹_› ‹_› ‹_› ‹_›
    have l3 := cmp3 (a := a) (b := a) ‹_› ‹_› ‹_› ‹_›
    have l4 := cmp4 (a := a) (b := a) ‹_› ‹_› ‹_› ‹_›
    simp only [Int.lt_irrefl, decide_false] at l4
    go_enter Try.func6, Try.ntmps6
    go_wp2_with (first | (go_at_call 12; refine (law01_do _ _ _ _).mono ?_; rintro e w' ⟨rfl, hg⟩) | (go_at_call 11; refine (law01_awake _).mono ?_; rintro e w' ⟨rfl, hg⟩))
    go_ret
    exact ⟨rfl, by repeat (first | assumption | refine grown_trans ?_ (by assumption))⟩
set_option maxHeartbeats 600000 in
theorem divides_walk (a b c : Int) (_ : -2147483648 ≤ a) (_ : a ≤ 2147483647) (_ : -2147483648 ≤ b) (_ : b ≤ 2147483647) (_ : 0 ≤ c) (_ : c ≤ 255) (w : World) :
    Calls Try.prog 5 #[.int .i32 a, .int .i32 b, .int .u8 c] w fun e w' => e = .returned (.bool true) ∧ Grown w w' := by
  have s4 := dv4 (a := a) (k := c % 31) ‹_› ‹_› (by omega) (by omega)
  have s5 := dv5 (a := a) (k := c % 31) ‹_› ‹_› (by omega) (by omega)
  have s6 := dv6 (a := a) (k := c % 31) (by omega) (by omega)
  by_cases hc : c < 80
  · by_cases h0 : (c - 40 == 0) = true
    · clear s4 s5 s6
      have d1 := div0' a h0
      have d2 := rem0' a h0
      go_enter Try.func5, Try.ntmps5
      go_wp2_with (first | (go_at_call 12; refine (law01_do _ _ _ _).mono ?_; rintro e w' ⟨rfl, hg⟩) | (go_at_call 11; refine (law01_awake _).mono ?_; rintro e w' ⟨rfl, hg⟩))
      go_ret
      exact ⟨rfl, by repeat (first | assumption | refine grown_trans ?_ (by assumption))⟩
    · -- the divisor is not 0
      have h0' : (c - 40 == 0) = false := by simpa using h0
      have hne : c - 40 ≠ 0 := by simpa using h0
      have d1 := dv1 (a := a) (b := c - 40) ‹_› ‹_› (by omega) (by omega) hne
      have d2 := dv2 (a := a) (b := c - 40) ‹_› ‹_› (by omega) (by omega) hne
      have d3 := dv3 (a := a) (b := c - 40) ‹_› ‹_› (by omega) (by omega) hne
      clear hne h0
      go_enter Try.func5, Try.ntmps5
      go_wp2_with (first | (go_at_call 12; refine (law01_do _ _ _ _).mono ?_; rintro e w' ⟨rfl, hg⟩) | (go_at_call 11; refine (law01_awake _).mono ?_; rintro e w' ⟨rfl, hg⟩))
      go_ret
      exact ⟨rfl, by repeat (first | assumption | refine grown_trans ?_ (by assumption))⟩
  · have hc' : 80 ≤ c := by omega
    clear hc
    by_cases h0 : (b == 0) = true
    · clear s4 s5 s6
      have d1 := div0' a h0
      have d2 := rem0' a h0
      go_enter Try.func5, Try.ntmps5
      go_wp2_with (first | (go_at_call 12; refine (law01_do _ _ _ _).mono ?_; rintro e w' ⟨rfl, hg⟩) | (go_at_call 11; refine (law01_awake _).mono ?_; rintro e w' ⟨rfl, hg⟩))
      go_ret
      exact ⟨rfl, by repeat (first | assumption | refine grown_trans ?_ (by assumption))⟩
    · -- the divisor is not 0
      have h0' : (b == 0) = false := by simpa using h0
      have hne : b ≠ 0 := by simpa using h0
      have d1 := dv1 (a := a) (b := b) ‹_› ‹_› (by omega) (by omega) hne
      have d2 := dv2 (a := a) (b := b) ‹_› ‹_› (by omega) (by omega) hne
      have d3 := dv3 (a := a) (b := b) ‹_› ‹_› (by omega) (by omega) hne
      clear hne h0
      go_enter Try.func5, Try.ntmps5
      go_wp2_with (first | (go_at_call 12; refine (law01_do _ _ _ _).mono ?_; rintro e w' ⟨rfl, hg⟩) | (go_at_call 11; refine (law01_awake _).mono ?_; rintro e w' ⟨rfl, hg⟩))
      go_ret
      exact ⟨rfl, by repeat (first | assumption | refine grown_trans ?_ (by assumption))⟩
end Go.Proofs.Ytfngcibikmgopaa
