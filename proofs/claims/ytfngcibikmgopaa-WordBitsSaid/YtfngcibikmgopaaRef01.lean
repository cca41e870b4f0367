/- The walks of the reference of layer 1: what each function returns for any numbers. No condition. -/
import Derived.Test.YtfngcibikmgopaaChecked
import Derived.Test.YtfngcibikmgopaaBase
import Derived.Test.YtfngcibikmgopaaWordPure
namespace Go.Proofs.Ytfngcibikmgopaa
open Go.RowKit
theorem ref01_wrap (n : Int) (w : World) :
    Calls Try.prog 14 #[.int .i64 n] w fun e w' => e = .returned (.int .i64 (wr n)) ∧ w = w' := by
  have h := Lib.hid (wr_u64 n)
  go_enter Try.func14, Try.ntmps14
  go_wp2
  go_ret
  exact ⟨by rw [← h.out]; rfl, rfl⟩
theorem ref01_truth (b : Bool) (w : World) :
    Calls Try.prog 20 #[.bool b] w fun e w' => e = .returned (.int .i64 (truth b)) ∧ w = w' := by
  cases b
  · go_enter Try.func20, Try.ntmps20
    go_wp2
    go_ret
    exact ⟨rfl, rfl⟩
  · go_enter Try.func20, Try.ntmps20
    go_wp2
    go_ret
    exact ⟨rfl, rfl⟩

set_option maxHeartbeats 400000 in
theorem ref01_do1 (x y : Int) (w : World) :
    Calls Try.prog 10 #[.int .i64 1, .int .i64 x, .int .i64 y] w fun e w' => e = .returned (.tuple #[.int .i64 (wr (opv 1 (wr x) (wr y))), .int .i64 0]) ∧ w = w' := by
  have a := wr_lo x
  have b := wr_hi x
  have c := wr_lo y
  have d := wr_hi y
  go_enter Try.func10, Try.ntmps10
  go_wp2_with (first | (go_at_call 14; refine (ref01_wrap _ _).mono ?_; rintro e w' ⟨rfl, rfl⟩) | (go_at_call 20; refine (ref01_truth _ _).mono ?_; rintro e w' ⟨rfl, rfl⟩))
  go_ret2
  exact ⟨by simp [opv], rfl⟩

set_option maxHeartbeats 400000 in
theorem ref01_do2 (x y : Int) (w : World) :
    Calls Try.prog 10 #[.int .i64 2, .int .i64 x, .int .i64 y] w fun e w' => e = .returned (.tuple #[.int .i64 (wr (opv 2 (wr x) (wr y))), .int .i64 0]) ∧ w = w' := by
  have a := wr_lo x
  have b := wr_hi x
  have c := wr_lo y
  have d := wr_hi y
  go_enter Try.func10, Try.ntmps10
  go_wp2_with (first | (go_at_call 14; refine (ref01_wrap _ _).mono ?_; rintro e w' ⟨rfl, rfl⟩) | (go_at_call 20; refine (ref01_truth _ _).mono ?_; rintro e w' ⟨rfl, rfl⟩))
  go_ret2
  exact ⟨by simp [opv], rfl⟩

set_option maxHeartbeats 400000 in
theorem ref01_do3 (x y : Int) (w : World) :
    Calls Try.prog 10 #[.int .i64 3, .int .i64 x, .int .i64 y] w fun e w' => e = .returned (.tuple #[.int .i64 (wr (opv 3 (wr x) (wr y))), .int .i64 0]) ∧ w = w' := by
  have a := wr_lo x
  have b := wr_hi x
  have c := wr_lo y
  have d := wr_hi y
  go_enter Try.func10, Try.ntmps10
  go_wp2_with (first | (go_at_call 14; refine (ref01_wrap _ _).mono ?_; rintro e w' ⟨rfl, rfl⟩) | (go_at_call 20; refine (ref01_truth _ _).mono ?_; rintro e w' ⟨rfl, rfl⟩))
  go_ret2
  exact ⟨by simp [opv], rfl⟩

set_option maxHeartbeats 400000 in
theorem ref01_do4 (x y : Int) (w : World) :
    Calls Try.prog 10 #[.int .i64 4, .int .i64 x, .int .i64 y] w fun e w' => e = .returned (.tuple #[.int .i64 (wr (opv 4 (wr x) (wr y))), .int .i64 0]) ∧ w = w' := by
  have a := wr_lo x
  have b := wr_hi x
  have c := wr_lo y
  have d := wr_hi y
  by_cases hy : wr y = 0
  · have h0 : (wr y != 0) = false := by simp [hy]
    have hy' : Hid (wr y = 0) := Lib.hid hy
    clear hy
    go_enter Try.func10, Try.ntmps10
    go_wp2_with (first | (go_at_call 14; refine (ref01_wrap _ _).mono ?_; rintro e w' ⟨rfl, rfl⟩) | (go_at_call 20; refine (ref01_truth _ _).mono ?_; rintro e w' ⟨rfl, rfl⟩))
    go_ret2
    exact ⟨by simp [opv, hy'.out, wr_zero], rfl⟩
  · have h0 : (wr y != 0) = true := by simp [hy]
    have hy' : Hid (¬ wr y = 0) := Lib.hid hy
    go_enter Try.func10, Try.ntmps10
    go_wp2_with (first | (go_at_call 14; refine (ref01_wrap _ _).mono ?_; rintro e w' ⟨rfl, rfl⟩) | (go_at_call 20; refine (ref01_truth _ _).mono ?_; rintro e w' ⟨rfl, rfl⟩))
    go_ret2
    exact ⟨by simp [opv, hy'.out], rfl⟩

set_option maxHeartbeats 400000 in
theorem ref01_do5 (x y : Int) (w : World) :
    Calls Try.prog 10 #[.int .i64 5, .int .i64 x, .int .i64 y] w fun e w' => e = .returned (.tuple #[.int .i64 (wr (opv 5 (wr x) (wr y))), .int .i64 0]) ∧ w = w' := by
  have a := wr_lo x
  have b := wr_hi x
  have c := wr_lo y
  have d := wr_hi y
  by_cases hy : wr y = 0
  · have h0 : (wr y != 0) = false := by simp [hy]
    have hy' : Hid (wr y = 0) := Lib.hid hy
    clear hy
    go_enter Try.func10, Try.ntmps10
    go_wp2_with (first | (go_at_call 14; refine (ref01_wrap _ _).mono ?_; rintro e w' ⟨rfl, rfl⟩) | (go_at_call 20; refine (ref01_truth _ _).mono ?_; rintro e w' ⟨rfl, rfl⟩))
    go_ret2
    exact ⟨by simp [opv, hy'.out, wr_zero], rfl⟩
  · have h0 : (wr y != 0) = true := by simp [hy]
    have hy' : Hid (¬ wr y = 0) := Lib.hid hy
    go_enter Try.func10, Try.ntmps10
    go_wp2_with (first | (go_at_call 14; refine (ref01_wrap _ _).mono ?_; rintro e w' ⟨rfl, rfl⟩) | (go_at_call 20; refine (ref01_truth _ _).mono ?_; rintro e w' ⟨rfl, rfl⟩))
    go_ret2
    exact ⟨by simp [opv, hy'.out], rfl⟩

set_option maxHeartbeats 400000 in
theorem ref01_do6 (x y : Int) (w : World) :
    Calls Try.prog 10 #[.int .i64 6, .int .i64 x, .int .i64 y] w fun e w' => e = .returned (.tuple #[.int .i64 (wr (opv 6 (wr x) (wr y))), .int .i64 0]) ∧ w = w' := by
  have a := wr_lo x
  have b := wr_hi x
  have c := wr_lo y
  have d := wr_hi y
  go_enter Try.func10, Try.ntmps10
  go_wp2_with (first | (go_at_call 14; refine (ref01_wrap _ _).mono ?_; rintro e w' ⟨rfl, rfl⟩) | (go_at_call 20; refine (ref01_truth _ _).mono ?_; rintro e w' ⟨rfl, rfl⟩))
  go_ret2
  exact ⟨by simp [opv], rfl⟩

set_option maxHeartbeats 400000 in
theorem ref01_do7 (x y : Int) (w : World) :
    Calls Try.prog 10 #[.int .i64 7, .int .i64 x, .int .i64 y] w fun e w' => e = .returned (.tuple #[.int .i64 (wr (opv 7 (wr x) (wr y))), .int .i64 0]) ∧ w = w' := by
  have a := wr_lo x
  have b := wr_hi x
  have c := wr_lo y
  have d := wr_hi y
  go_enter Try.func10, Try.ntmps10
  go_wp2_with (first | (go_at_call 14; refine (ref01_wrap _ _).mono ?_; rintro e w' ⟨rfl, rfl⟩) | (go_at_call 20; refine (ref01_truth _ _).mono ?_; rintro e w' ⟨rfl, rfl⟩))
  go_ret2
  exact ⟨by simp [opv], rfl⟩

set_option maxHeartbeats 400000 in
theorem ref01_do8 (x y : Int) (w : World) :
    Calls Try.prog 10 #[.int .i64 8, .int .i64 x, .int .i64 y] w fun e w' => e = .returned (.tuple #[.int .i64 (wr (opv 8 (wr x) (wr y))), .int .i64 0]) ∧ w = w' := by
  have a := wr_lo x
  have b := wr_hi x
  have c := wr_lo y
  have d := wr_hi y
  go_enter Try.func10, Try.ntmps10
  go_wp2_with (first | (go_at_call 14; refine (ref01_wrap _ _).mono ?_; rintro e w' ⟨rfl, rfl⟩) | (go_at_call 20; refine (ref01_truth _ _).mono ?_; rintro e w' ⟨rfl, rfl⟩))
  go_ret2
  exact ⟨by simp [opv], rfl⟩

set_option maxHeartbeats 400000 in
theorem ref01_do9 (x y : Int) (w : World) :
    Calls Try.prog 10 #[.int .i64 9, .int .i64 x, .int .i64 y] w fun e w' => e = .returned (.tuple #[.int .i64 (wr (opv 9 (wr x) (wr y))), .int .i64 0]) ∧ w = w' := by
  have a := wr_lo x
  have b := wr_hi x
  have c := wr_lo y
  have d := wr_hi y
  have hb := and31 (wr y)
  have hb1 : 0 ≤ wr y % 32 := by omega
  have hb2 : wr y % 32 ≤ 31 := by omega
  go_enter Try.func10, Try.ntmps10
  go_wp2_with (first | (go_at_call 14; refine (ref01_wrap _ _).mono ?_; rintro e w' ⟨rfl, rfl⟩) | (go_at_call 20; refine (ref01_truth _ _).mono ?_; rintro e w' ⟨rfl, rfl⟩))
  go_ret2
  exact ⟨by simp [opv], rfl⟩

set_option maxHeartbeats 400000 in
theorem ref01_do10 (x y : Int) (w : World) :
    Calls Try.prog 10 #[.int .i64 10, .int .i64 x, .int .i64 y] w fun e w' => e = .returned (.tuple #[.int .i64 (wr (opv 10 (wr x) (wr y))), .int .i64 0]) ∧ w = w' := by
  have a := wr_lo x
  have b := wr_hi x
  have c := wr_lo y
  have d := wr_hi y
  have hb := and31 (wr y)
  have hb1 : 0 ≤ wr y % 32 := by omega
  have hb2 : wr y % 32 ≤ 31 := by omega
  go_enter Try.func10, Try.ntmps10
  go_wp2_with (first | (go_at_call 14; refine (ref01_wrap _ _).mono ?_; rintro e w' ⟨rfl, rfl⟩) | (go_at_call 20; refine (ref01_truth _ _).mono ?_; rintro e w' ⟨rfl, rfl⟩))
  go_ret2
  exact ⟨by simp [opv], rfl⟩

set_option maxHeartbeats 400000 in
theorem ref01_do11 (x y : Int) (w : World) :
    Calls Try.prog 10 #[.int .i64 11, .int .i64 x, .int .i64 y] w fun e w' => e = .returned (.tuple #[.int .i64 (wr (opv 11 (wr x) (wr y))), .int .i64 0]) ∧ w = w' := by
  have a := wr_lo x
  have b := wr_hi x
  have c := wr_lo y
  have d := wr_hi y
  go_enter Try.func10, Try.ntmps10
  go_wp2_with (first | (go_at_call 14; refine (ref01_wrap _ _).mono ?_; rintro e w' ⟨rfl, rfl⟩) | (go_at_call 20; refine (ref01_truth _ _).mono ?_; rintro e w' ⟨rfl, rfl⟩))
  go_ret2
  exact ⟨by simp [opv], rfl⟩

set_option maxHeartbeats 400000 in
theorem ref01_do12 (x y : Int) (w : World) :
    Calls Try.prog 10 #[.int .i64 12, .int .i64 x, .int .i64 y] w fun e w' => e = .returned (.tuple #[.int .i64 (wr (opv 12 (wr x) (wr y))), .int .i64 0]) ∧ w = w' := by
  have a := wr_lo x
  have b := wr_hi x
  have c := wr_lo y
  have d := wr_hi y
  go_enter Try.func10, Try.ntmps10
  go_wp2_with (first | (go_at_call 14; refine (ref01_wrap _ _).mono ?_; rintro e w' ⟨rfl, rfl⟩) | (go_at_call 20; refine (ref01_truth _ _).mono ?_; rintro e w' ⟨rfl, rfl⟩))
  go_ret2
  exact ⟨by simp [opv], rfl⟩

set_option maxHeartbeats 400000 in
theorem ref01_do13 (x y : Int) (w : World) :
    Calls Try.prog 10 #[.int .i64 13, .int .i64 x, .int .i64 y] w fun e w' => e = .returned (.tuple #[.int .i64 (wr (opv 13 (wr x) (wr y))), .int .i64 0]) ∧ w = w' := by
  have a := wr_lo x
  have b := wr_hi x
  have c := wr_lo y
  have d := wr_hi y
  go_enter Try.func10, Try.ntmps10
  go_wp2_with (first | (go_at_call 14; refine (ref01_wrap _ _).mono ?_; rintro e w' ⟨rfl, rfl⟩) | (go_at_call 20; refine (ref01_truth _ _).mono ?_; rintro e w' ⟨rfl, rfl⟩))
  go_ret2
  exact ⟨by simp [opv], rfl⟩

set_option maxHeartbeats 400000 in
theorem ref01_do14 (x y : Int) (w : World) :
    Calls Try.prog 10 #[.int .i64 14, .int .i64 x, .int .i64 y] w fun e w' => e = .returned (.tuple #[.int .i64 (wr (opv 14 (wr x) (wr y))), .int .i64 0]) ∧ w = w' := by
  have a := wr_lo x
  have b := wr_hi x
  have c := wr_lo y
  have d := wr_hi y
  go_enter Try.func10, Try.ntmps10
  go_wp2_with (first | (go_at_call 14; refine (ref01_wrap _ _).mono ?_; rintro e w' ⟨rfl, rfl⟩) | (go_at_call 20; refine (ref01_truth _ _).mono ?_; rintro e w' ⟨rfl, rfl⟩))
  go_ret2
  exact ⟨by simp [opv], rfl⟩

theorem ref01_do_out (op x y : Int) (h : ¬ (1 ≤ op ∧ op ≤ 14)) (w : World) :
    Calls Try.prog 10 #[.int .i64 op, .int .i64 x, .int .i64 y] w fun e w' => e = .returned (.tuple #[.int .i64 0, .int .i64 6]) ∧ w = w' := by
  have n1 : (op == 1) = false := beq_eq_false_iff_ne.2 (by omega)
  have n2 : (op == 2) = false := beq_eq_false_iff_ne.2 (by omega)
  have n3 : (op == 3) = false := beq_eq_false_iff_ne.2 (by omega)
  have n4 : (op == 4) = false := beq_eq_false_iff_ne.2 (by omega)
  have n5 : (op == 5) = false := beq_eq_false_iff_ne.2 (by omega)
  have n6 : (op == 6) = false := beq_eq_false_iff_ne.2 (by omega)
  have n7 : (op == 7) = false := beq_eq_false_iff_ne.2 (by omega)
  have n8 : (op == 8) = false := beq_eq_false_iff_ne.2 (by omega)
  have n9 : (op == 9) = false := beq_eq_false_iff_ne.2 (by omega)
  have n10 : (op == 10) = false := beq_eq_false_iff_ne.2 (by omega)
  have n11 : (op == 11) = false := beq_eq_false_iff_ne.2 (by omega)
  have n12 : (op == 12) = false := beq_eq_false_iff_ne.2 (by omega)
  have n13 : (op == 13) = false := beq_eq_false_iff_ne.2 (by omega)
  have n14 : (op == 14) = false := beq_eq_false_iff_ne.2 (by omega)
  clear h
  go_enter Try.func10, Try.ntmps10
  go_wp2_with (first | (go_at_call 14; refine (ref01_wrap _ _).mono ?_; rintro e w' ⟨rfl, rfl⟩) | (go_at_call 20; refine (ref01_truth _ _).mono ?_; rintro e w' ⟨rfl, rfl⟩))
  go_ret2
  exact ⟨rfl, rfl⟩
theorem ref01_do (op x y : Int) (w : World) :
    Calls Try.prog 10 #[.int .i64 op, .int .i64 x, .int .i64 y] w fun e w' => e = .returned (.tuple #[.int .i64 (doV op x y), .int .i64 (doE op)]) ∧ w = w' := by
  by_cases h : 1 ≤ op ∧ op ≤ 14
  · rw [doV_in x y h.1 h.2, doE_in h.1 h.2]
    obtain rfl | rfl | rfl | rfl | rfl | rfl | rfl | rfl | rfl | rfl | rfl | rfl | rfl | rfl : op = 1 ∨ op = 2 ∨ op = 3 ∨ op = 4 ∨ op = 5 ∨ op = 6 ∨ op = 7 ∨ op = 8 ∨ op = 9 ∨ op = 10 ∨ op = 11 ∨ op = 12 ∨ op = 13 ∨ op = 14 := by omega
    · exact ref01_do1 x y w
    · exact ref01_do2 x y w
    · exact ref01_do3 x y w
    · exact ref01_do4 x y w
    · exact ref01_do5 x y w
    · exact ref01_do6 x y w
    · exact ref01_do7 x y w
    · exact ref01_do8 x y w
    · exact ref01_do9 x y w
    · exact ref01_do10 x y w
    · exact ref01_do11 x y w
    · exact ref01_do12 x y w
    · exact ref01_do13 x y w
    · exact ref01_do14 x y w
  · rw [doV_out x y h, doE_out h]
    exact ref01_do_out op x y h w
end Go.Proofs.Ytfngcibikmgopaa
