/- The walks of package word: what each function returns for any numbers. No condition. -/
import Derived.Test.YtbcoanbjhbppcaaDoorChecked
import Derived.Test.YtbcoanbjhbppcaaDoorBase
import Derived.Test.YtbcoanbjhbppcaaDoorCgWordPure
namespace Go.Proofs.YtbcoanbjhbppcaaDoor.W
open Go.RowKit
set_option linter.unusedVariables false
set_option linter.unusedSimpArgs false
set_option linter.unusedSectionVars false

def OPS : Value := .agg #[Value.func (Fn.func 46) #[] #[], Value.func (Fn.func 47) #[] #[], Value.func (Fn.func 48) #[] #[], Value.func (Fn.func 49) #[] #[], Value.func (Fn.func 50) #[] #[], Value.func (Fn.func 51) #[] #[], Value.func (Fn.func 52) #[] #[], Value.func (Fn.func 53) #[] #[], Value.func (Fn.func 54) #[] #[], Value.func (Fn.func 55) #[] #[], Value.func (Fn.func 56) #[] #[], Value.func (Fn.func 58) #[] #[], Value.func (Fn.func 59) #[] #[], Value.func (Fn.func 60) #[] #[]]
theorem word_wrap (n : Int) (w : World) :
    Calls Tryd.prog 31 #[.int .i64 n] w fun e w' => e = .returned (.int .i64 (wr n)) ∧ w = w' := by
  have h := Lib.hid (wr_u32 n)
  go_enter Tryd.func31, Tryd.ntmps31
  go_wp2
  go_ret
  exact ⟨by rw [← h.out]; rfl, rfl⟩
theorem word_operators (w : World) :
    Calls Tryd.prog 41 #[] w fun e w' => e = .returned OPS ∧ Grown w w' := by
  go_enter Tryd.func41, Tryd.ntmps41
  go_wp2
  refine bodyPost_ret (v := OPS) (by simp [results, Tryd.results41, go_sem, OPS]) rfl ⟨rfl, (Grown.refl _).alloc _ _⟩
def knownB (n : Int) : Bool := decide (1 ≤ n ∧ n ≤ 14)
theorem word_known (n : Int) (w : World) :
    Calls Tryd.prog 40 #[.int .i64 n] w fun e w' => e = .returned (.bool (knownB n)) ∧ w = w' := by
  by_cases h0 : 1 ≤ n
  · by_cases h1 : n ≤ 14
    · have hk : Hid (knownB n = true) := Lib.hid (by simp [knownB, h0, h1])
      go_enter Tryd.func40, Tryd.ntmps40
      go_wp2
      go_ret
      exact ⟨by rw [hk.out]; rfl, rfl⟩
    · have hk : Hid (knownB n = false) := Lib.hid (by simp [knownB, h1])
      go_enter Tryd.func40, Tryd.ntmps40
      go_wp2
      go_ret
      exact ⟨by rw [hk.out]; rfl, rfl⟩
  · have hk : Hid (knownB n = false) := Lib.hid (by simp [knownB, h0])
    go_enter Tryd.func40, Tryd.ntmps40
    go_wp2
    go_ret
    exact ⟨by rw [hk.out]; rfl, rfl⟩
theorem word_truth (b : Bool) (w : World) :
    Calls Tryd.prog 57 #[.bool b] w fun e w' => e = .returned (.int .i64 (truth b)) ∧ w = w' := by
  cases b
  · go_enter Tryd.func57, Tryd.ntmps57
    go_wp2
    go_ret
    exact ⟨rfl, rfl⟩
  · go_enter Tryd.func57, Tryd.ntmps57
    go_wp2
    go_ret
    exact ⟨rfl, rfl⟩

theorem word_op1 (x y : Int) (w : World) (_ : -2147483648 ≤ x) (_ : x ≤ 2147483647) (_ : -2147483648 ≤ y) (_ : y ≤ 2147483647) :
    Calls Tryd.prog 46 #[.int .i64 x, .int .i64 y] w fun e w' => e = .returned (.int .i64 (opv 1 x y)) ∧ w = w' := by
  go_enter Tryd.func46, Tryd.ntmps46
  go_wp2
  go_ret
  exact ⟨by simp [opv], rfl⟩

theorem word_op2 (x y : Int) (w : World) (_ : -2147483648 ≤ x) (_ : x ≤ 2147483647) (_ : -2147483648 ≤ y) (_ : y ≤ 2147483647) :
    Calls Tryd.prog 47 #[.int .i64 x, .int .i64 y] w fun e w' => e = .returned (.int .i64 (opv 2 x y)) ∧ w = w' := by
  go_enter Tryd.func47, Tryd.ntmps47
  go_wp2
  go_ret
  exact ⟨by simp [opv], rfl⟩

theorem word_op3 (x y : Int) (w : World) (_ : -2147483648 ≤ x) (_ : x ≤ 2147483647) (_ : -2147483648 ≤ y) (_ : y ≤ 2147483647) :
    Calls Tryd.prog 48 #[.int .i64 x, .int .i64 y] w fun e w' => e = .returned (.int .i64 (opv 3 x y)) ∧ w = w' := by
  go_enter Tryd.func48, Tryd.ntmps48
  go_wp2
  go_ret
  exact ⟨by simp [opv], rfl⟩

theorem word_op4 (x y : Int) (w : World) (_ : -2147483648 ≤ x) (_ : x ≤ 2147483647) (_ : -2147483648 ≤ y) (_ : y ≤ 2147483647) :
    Calls Tryd.prog 49 #[.int .i64 x, .int .i64 y] w fun e w' => e = .returned (.int .i64 (opv 4 x y)) ∧ w = w' := by
  by_cases hy : y = 0
  · subst hy
    go_enter Tryd.func49, Tryd.ntmps49
    go_wp2
    go_ret
    exact ⟨by simp [opv], rfl⟩
  · have hy' : Hid (y ≠ 0) := Lib.hid hy
    go_enter Tryd.func49, Tryd.ntmps49
    go_wp2
    go_ret
    exact ⟨by simp [opv, hy'.out], rfl⟩

theorem word_op5 (x y : Int) (w : World) (_ : -2147483648 ≤ x) (_ : x ≤ 2147483647) (_ : -2147483648 ≤ y) (_ : y ≤ 2147483647) :
    Calls Tryd.prog 50 #[.int .i64 x, .int .i64 y] w fun e w' => e = .returned (.int .i64 (opv 5 x y)) ∧ w = w' := by
  by_cases hy : y = 0
  · subst hy
    go_enter Tryd.func50, Tryd.ntmps50
    go_wp2
    go_ret
    exact ⟨by simp [opv], rfl⟩
  · have hy' : Hid (y ≠ 0) := Lib.hid hy
    go_enter Tryd.func50, Tryd.ntmps50
    go_wp2
    go_ret
    exact ⟨by simp [opv, hy'.out], rfl⟩

theorem word_op6 (x y : Int) (w : World) (_ : -2147483648 ≤ x) (_ : x ≤ 2147483647) (_ : -2147483648 ≤ y) (_ : y ≤ 2147483647) :
    Calls Tryd.prog 51 #[.int .i64 x, .int .i64 y] w fun e w' => e = .returned (.int .i64 (opv 6 x y)) ∧ w = w' := by
  go_enter Tryd.func51, Tryd.ntmps51
  go_wp2
  go_ret
  exact ⟨by simp [opv], rfl⟩

theorem word_op7 (x y : Int) (w : World) (_ : -2147483648 ≤ x) (_ : x ≤ 2147483647) (_ : -2147483648 ≤ y) (_ : y ≤ 2147483647) :
    Calls Tryd.prog 52 #[.int .i64 x, .int .i64 y] w fun e w' => e = .returned (.int .i64 (opv 7 x y)) ∧ w = w' := by
  go_enter Tryd.func52, Tryd.ntmps52
  go_wp2
  go_ret
  exact ⟨by simp [opv], rfl⟩

theorem word_op8 (x y : Int) (w : World) (_ : -2147483648 ≤ x) (_ : x ≤ 2147483647) (_ : -2147483648 ≤ y) (_ : y ≤ 2147483647) :
    Calls Tryd.prog 53 #[.int .i64 x, .int .i64 y] w fun e w' => e = .returned (.int .i64 (opv 8 x y)) ∧ w = w' := by
  go_enter Tryd.func53, Tryd.ntmps53
  go_wp2
  go_ret
  exact ⟨by simp [opv], rfl⟩

theorem word_op9 (x y : Int) (w : World) (_ : -2147483648 ≤ x) (_ : x ≤ 2147483647) (_ : -2147483648 ≤ y) (_ : y ≤ 2147483647) :
    Calls Tryd.prog 54 #[.int .i64 x, .int .i64 y] w fun e w' => e = .returned (.int .i64 (opv 9 x y)) ∧ w = w' := by
  have hb := and31 y
  have hb1 : 0 ≤ y % 32 := by omega
  go_enter Tryd.func54, Tryd.ntmps54
  go_wp2
  go_ret
  exact ⟨by simp [opv], rfl⟩

theorem word_op10 (x y : Int) (w : World) (_ : -2147483648 ≤ x) (_ : x ≤ 2147483647) (_ : -2147483648 ≤ y) (_ : y ≤ 2147483647) :
    Calls Tryd.prog 55 #[.int .i64 x, .int .i64 y] w fun e w' => e = .returned (.int .i64 (opv 10 x y)) ∧ w = w' := by
  have hb := and31 y
  have hb1 : 0 ≤ y % 32 := by omega
  go_enter Tryd.func55, Tryd.ntmps55
  go_wp2
  go_ret
  exact ⟨by simp [opv], rfl⟩

theorem word_op11 (x y : Int) (w : World) (_ : -2147483648 ≤ x) (_ : x ≤ 2147483647) (_ : -2147483648 ≤ y) (_ : y ≤ 2147483647) :
    Calls Tryd.prog 56 #[.int .i64 x, .int .i64 y] w fun e w' => e = .returned (.int .i64 (opv 11 x y)) ∧ w = w' := by
  go_enter Tryd.func56, Tryd.ntmps56
  go_wp2_with (go_at_call 57; refine (word_truth _ _).mono ?_; rintro e w' ⟨rfl, rfl⟩)
  go_ret
  exact ⟨by simp [opv], rfl⟩

theorem word_op12 (x y : Int) (w : World) (_ : -2147483648 ≤ x) (_ : x ≤ 2147483647) (_ : -2147483648 ≤ y) (_ : y ≤ 2147483647) :
    Calls Tryd.prog 58 #[.int .i64 x, .int .i64 y] w fun e w' => e = .returned (.int .i64 (opv 12 x y)) ∧ w = w' := by
  go_enter Tryd.func58, Tryd.ntmps58
  go_wp2_with (go_at_call 57; refine (word_truth _ _).mono ?_; rintro e w' ⟨rfl, rfl⟩)
  go_ret
  exact ⟨by simp [opv], rfl⟩

theorem word_op13 (x y : Int) (w : World) (_ : -2147483648 ≤ x) (_ : x ≤ 2147483647) (_ : -2147483648 ≤ y) (_ : y ≤ 2147483647) :
    Calls Tryd.prog 59 #[.int .i64 x, .int .i64 y] w fun e w' => e = .returned (.int .i64 (opv 13 x y)) ∧ w = w' := by
  go_enter Tryd.func59, Tryd.ntmps59
  go_wp2_with (go_at_call 57; refine (word_truth _ _).mono ?_; rintro e w' ⟨rfl, rfl⟩)
  go_ret
  exact ⟨by simp [opv], rfl⟩

theorem word_op14 (x y : Int) (w : World) (_ : -2147483648 ≤ x) (_ : x ≤ 2147483647) (_ : -2147483648 ≤ y) (_ : y ≤ 2147483647) :
    Calls Tryd.prog 60 #[.int .i64 x, .int .i64 y] w fun e w' => e = .returned (.int .i64 (opv 14 x y)) ∧ w = w' := by
  go_enter Tryd.func60, Tryd.ntmps60
  go_wp2_with (go_at_call 57; refine (word_truth _ _).mono ?_; rintro e w' ⟨rfl, rfl⟩)
  go_ret
  exact ⟨by simp [opv], rfl⟩

theorem ops_index1 (w : World) : (Instr.index 53 OPS (.int .i64 (IntKind.i64.wrap 0))).run Tryd.prog w = .ok (Value.func (Fn.func 46) #[] #[]) w := by kernel_rfl
theorem ops_index1' (w : World) : (Instr.index 53 OPS (.int .i64 0)).run Tryd.prog w = .ok (Value.func (Fn.func 46) #[] #[]) w := by kernel_rfl
set_option maxHeartbeats 400000 in
theorem word_do1 (x y : Int) (w : World) :
    Calls Tryd.prog 25 #[.int .i64 1, .int .i64 x, .int .i64 y] w fun e w' => e = .returned (.tuple #[.int .i64 (wr (opv 1 (wr x) (wr y))), .int .i64 0]) ∧ Grown w w' := by
  have hi := ops_index1
  have hi' := ops_index1'
  have hk : knownB 1 = true := by decide
  go_enter Tryd.func25, Tryd.ntmps25
  go_wp2_with (go_at_call 40; refine (word_known _ _).mono ?_; rintro e w' ⟨rfl, rfl⟩)
  refine region_after (by kernel_rfl) (by kernel_rfl) ?_
  repeat (go_big_quiet_step (first | (exact quiet_grown (word_operators _)) | (exact quiet_same (word_wrap _ _)) | (exact quiet_same (word_op1 _ _ _ (wr_lo _) (wr_hi _) (wr_lo _) (wr_hi _)))))
  refine wpQuiet_nil ?_
  rintro _ ⟨n, rfl⟩
  go_wp2
  go_ret2
  exact ⟨rfl, n.grown⟩

theorem ops_index2 (w : World) : (Instr.index 53 OPS (.int .i64 (IntKind.i64.wrap 1))).run Tryd.prog w = .ok (Value.func (Fn.func 47) #[] #[]) w := by kernel_rfl
theorem ops_index2' (w : World) : (Instr.index 53 OPS (.int .i64 1)).run Tryd.prog w = .ok (Value.func (Fn.func 47) #[] #[]) w := by kernel_rfl
set_option maxHeartbeats 400000 in
theorem word_do2 (x y : Int) (w : World) :
    Calls Tryd.prog 25 #[.int .i64 2, .int .i64 x, .int .i64 y] w fun e w' => e = .returned (.tuple #[.int .i64 (wr (opv 2 (wr x) (wr y))), .int .i64 0]) ∧ Grown w w' := by
  have hi := ops_index2
  have hi' := ops_index2'
  have hk : knownB 2 = true := by decide
  go_enter Tryd.func25, Tryd.ntmps25
  go_wp2_with (go_at_call 40; refine (word_known _ _).mono ?_; rintro e w' ⟨rfl, rfl⟩)
  refine region_after (by kernel_rfl) (by kernel_rfl) ?_
  repeat (go_big_quiet_step (first | (exact quiet_grown (word_operators _)) | (exact quiet_same (word_wrap _ _)) | (exact quiet_same (word_op2 _ _ _ (wr_lo _) (wr_hi _) (wr_lo _) (wr_hi _)))))
  refine wpQuiet_nil ?_
  rintro _ ⟨n, rfl⟩
  go_wp2
  go_ret2
  exact ⟨rfl, n.grown⟩

theorem ops_index3 (w : World) : (Instr.index 53 OPS (.int .i64 (IntKind.i64.wrap 2))).run Tryd.prog w = .ok (Value.func (Fn.func 48) #[] #[]) w := by kernel_rfl
theorem ops_index3' (w : World) : (Instr.index 53 OPS (.int .i64 2)).run Tryd.prog w = .ok (Value.func (Fn.func 48) #[] #[]) w := by kernel_rfl
set_option maxHeartbeats 400000 in
theorem word_do3 (x y : Int) (w : World) :
    Calls Tryd.prog 25 #[.int .i64 3, .int .i64 x, .int .i64 y] w fun e w' => e = .returned (.tuple #[.int .i64 (wr (opv 3 (wr x) (wr y))), .int .i64 0]) ∧ Grown w w' := by
  have hi := ops_index3
  have hi' := ops_index3'
  have hk : knownB 3 = true := by decide
  go_enter Tryd.func25, Tryd.ntmps25
  go_wp2_with (go_at_call 40; refine (word_known _ _).mono ?_; rintro e w' ⟨rfl, rfl⟩)
  refine region_after (by kernel_rfl) (by kernel_rfl) ?_
  repeat (go_big_quiet_step (first | (exact quiet_grown (word_operators _)) | (exact quiet_same (word_wrap _ _)) | (exact quiet_same (word_op3 _ _ _ (wr_lo _) (wr_hi _) (wr_lo _) (wr_hi _)))))
  refine wpQuiet_nil ?_
  rintro _ ⟨n, rfl⟩
  go_wp2
  go_ret2
  exact ⟨rfl, n.grown⟩

theorem ops_index4 (w : World) : (Instr.index 53 OPS (.int .i64 (IntKind.i64.wrap 3))).run Tryd.prog w = .ok (Value.func (Fn.func 49) #[] #[]) w := by kernel_rfl
theorem ops_index4' (w : World) : (Instr.index 53 OPS (.int .i64 3)).run Tryd.prog w = .ok (Value.func (Fn.func 49) #[] #[]) w := by kernel_rfl
set_option maxHeartbeats 400000 in
theorem word_do4 (x y : Int) (w : World) :
    Calls Tryd.prog 25 #[.int .i64 4, .int .i64 x, .int .i64 y] w fun e w' => e = .returned (.tuple #[.int .i64 (wr (opv 4 (wr x) (wr y))), .int .i64 0]) ∧ Grown w w' := by
  have hi := ops_index4
  have hi' := ops_index4'
  have hk : knownB 4 = true := by decide
  go_enter Tryd.func25, Tryd.ntmps25
  go_wp2_with (go_at_call 40; refine (word_known _ _).mono ?_; rintro e w' ⟨rfl, rfl⟩)
  refine region_after (by kernel_rfl) (by kernel_rfl) ?_
  repeat (go_big_quiet_step (first | (exact quiet_grown (word_operators _)) | (exact quiet_same (word_wrap _ _)) | (exact quiet_same (word_op4 _ _ _ (wr_lo _) (wr_hi _) (wr_lo _) (wr_hi _)))))
  refine wpQuiet_nil ?_
  rintro _ ⟨n, rfl⟩
  go_wp2
  go_ret2
  exact ⟨rfl, n.grown⟩

theorem ops_index5 (w : World) : (Instr.index 53 OPS (.int .i64 (IntKind.i64.wrap 4))).run Tryd.prog w = .ok (Value.func (Fn.func 50) #[] #[]) w := by kernel_rfl
theorem ops_index5' (w : World) : (Instr.index 53 OPS (.int .i64 4)).run Tryd.prog w = .ok (Value.func (Fn.func 50) #[] #[]) w := by kernel_rfl
set_option maxHeartbeats 400000 in
theorem word_do5 (x y : Int) (w : World) :
    Calls Tryd.prog 25 #[.int .i64 5, .int .i64 x, .int .i64 y] w fun e w' => e = .returned (.tuple #[.int .i64 (wr (opv 5 (wr x) (wr y))), .int .i64 0]) ∧ Grown w w' := by
  have hi := ops_index5
  have hi' := ops_index5'
  have hk : knownB 5 = true := by decide
  go_enter Tryd.func25, Tryd.ntmps25
  go_wp2_with (go_at_call 40; refine (word_known _ _).mono ?_; rintro e w' ⟨rfl, rfl⟩)
  refine region_after (by kernel_rfl) (by kernel_rfl) ?_
  repeat (go_big_quiet_step (first | (exact quiet_grown (word_operators _)) | (exact quiet_same (word_wrap _ _)) | (exact quiet_same (word_op5 _ _ _ (wr_lo _) (wr_hi _) (wr_lo _) (wr_hi _)))))
  refine wpQuiet_nil ?_
  rintro _ ⟨n, rfl⟩
  go_wp2
  go_ret2
  exact ⟨rfl, n.grown⟩

theorem ops_index6 (w : World) : (Instr.index 53 OPS (.int .i64 (IntKind.i64.wrap 5))).run Tryd.prog w = .ok (Value.func (Fn.func 51) #[] #[]) w := by kernel_rfl
theorem ops_index6' (w : World) : (Instr.index 53 OPS (.int .i64 5)).run Tryd.prog w = .ok (Value.func (Fn.func 51) #[] #[]) w := by kernel_rfl
set_option maxHeartbeats 400000 in
theorem word_do6 (x y : Int) (w : World) :
    Calls Tryd.prog 25 #[.int .i64 6, .int .i64 x, .int .i64 y] w fun e w' => e = .returned (.tuple #[.int .i64 (wr (opv 6 (wr x) (wr y))), .int .i64 0]) ∧ Grown w w' := by
  have hi := ops_index6
  have hi' := ops_index6'
  have hk : knownB 6 = true := by decide
  go_enter Tryd.func25, Tryd.ntmps25
  go_wp2_with (go_at_call 40; refine (word_known _ _).mono ?_; rintro e w' ⟨rfl, rfl⟩)
  refine region_after (by kernel_rfl) (by kernel_rfl) ?_
  repeat (go_big_quiet_step (first | (exact quiet_grown (word_operators _)) | (exact quiet_same (word_wrap _ _)) | (exact quiet_same (word_op6 _ _ _ (wr_lo _) (wr_hi _) (wr_lo _) (wr_hi _)))))
  refine wpQuiet_nil ?_
  rintro _ ⟨n, rfl⟩
  go_wp2
  go_ret2
  exact ⟨rfl, n.grown⟩

theorem ops_index7 (w : World) : (Instr.index 53 OPS (.int .i64 (IntKind.i64.wrap 6))).run Tryd.prog w = .ok (Value.func (Fn.func 52) #[] #[]) w := by kernel_rfl
theorem ops_index7' (w : World) : (Instr.index 53 OPS (.int .i64 6)).run Tryd.prog w = .ok (Value.func (Fn.func 52) #[] #[]) w := by kernel_rfl
set_option maxHeartbeats 400000 in
theorem word_do7 (x y : Int) (w : World) :
    Calls Tryd.prog 25 #[.int .i64 7, .int .i64 x, .int .i64 y] w fun e w' => e = .returned (.tuple #[.int .i64 (wr (opv 7 (wr x) (wr y))), .int .i64 0]) ∧ Grown w w' := by
  have hi := ops_index7
  have hi' := ops_index7'
  have hk : knownB 7 = true := by decide
  go_enter Tryd.func25, Tryd.ntmps25
  go_wp2_with (go_at_call 40; refine (word_known _ _).mono ?_; rintro e w' ⟨rfl, rfl⟩)
  refine region_after (by kernel_rfl) (by kernel_rfl) ?_
  repeat (go_big_quiet_step (first | (exact quiet_grown (word_operators _)) | (exact quiet_same (word_wrap _ _)) | (exact quiet_same (word_op7 _ _ _ (wr_lo _) (wr_hi _) (wr_lo _) (wr_hi _)))))
  refine wpQuiet_nil ?_
  rintro _ ⟨n, rfl⟩
  go_wp2
  go_ret2
  exact ⟨rfl, n.grown⟩

theorem ops_index8 (w : World) : (Instr.index 53 OPS (.int .i64 (IntKind.i64.wrap 7))).run Tryd.prog w = .ok (Value.func (Fn.func 53) #[] #[]) w := by kernel_rfl
theorem ops_index8' (w : World) : (Instr.index 53 OPS (.int .i64 7)).run Tryd.prog w = .ok (Value.func (Fn.func 53) #[] #[]) w := by kernel_rfl
set_option maxHeartbeats 400000 in
theorem word_do8 (x y : Int) (w : World) :
    Calls Tryd.prog 25 #[.int .i64 8, .int .i64 x, .int .i64 y] w fun e w' => e = .returned (.tuple #[.int .i64 (wr (opv 8 (wr x) (wr y))), .int .i64 0]) ∧ Grown w w' := by
  have hi := ops_index8
  have hi' := ops_index8'
  have hk : knownB 8 = true := by decide
  go_enter Tryd.func25, Tryd.ntmps25
  go_wp2_with (go_at_call 40; refine (word_known _ _).mono ?_; rintro e w' ⟨rfl, rfl⟩)
  refine region_after (by kernel_rfl) (by kernel_rfl) ?_
  repeat (go_big_quiet_step (first | (exact quiet_grown (word_operators _)) | (exact quiet_same (word_wrap _ _)) | (exact quiet_same (word_op8 _ _ _ (wr_lo _) (wr_hi _) (wr_lo _) (wr_hi _)))))
  refine wpQuiet_nil ?_
  rintro _ ⟨n, rfl⟩
  go_wp2
  go_ret2
  exact ⟨rfl, n.grown⟩

theorem ops_index9 (w : World) : (Instr.index 53 OPS (.int .i64 (IntKind.i64.wrap 8))).run Tryd.prog w = .ok (Value.func (Fn.func 54) #[] #[]) w := by kernel_rfl
theorem ops_index9' (w : World) : (Instr.index 53 OPS (.int .i64 8)).run Tryd.prog w = .ok (Value.func (Fn.func 54) #[] #[]) w := by kernel_rfl
set_option maxHeartbeats 400000 in
theorem word_do9 (x y : Int) (w : World) :
    Calls Tryd.prog 25 #[.int .i64 9, .int .i64 x, .int .i64 y] w fun e w' => e = .returned (.tuple #[.int .i64 (wr (opv 9 (wr x) (wr y))), .int .i64 0]) ∧ Grown w w' := by
  have hi := ops_index9
  have hi' := ops_index9'
  have hk : knownB 9 = true := by decide
  go_enter Tryd.func25, Tryd.ntmps25
  go_wp2_with (go_at_call 40; refine (word_known _ _).mono ?_; rintro e w' ⟨rfl, rfl⟩)
  refine region_after (by kernel_rfl) (by kernel_rfl) ?_
  repeat (go_big_quiet_step (first | (exact quiet_grown (word_operators _)) | (exact quiet_same (word_wrap _ _)) | (exact quiet_same (word_op9 _ _ _ (wr_lo _) (wr_hi _) (wr_lo _) (wr_hi _)))))
  refine wpQuiet_nil ?_
  rintro _ ⟨n, rfl⟩
  go_wp2
  go_ret2
  exact ⟨rfl, n.grown⟩

theorem ops_index10 (w : World) : (Instr.index 53 OPS (.int .i64 (IntKind.i64.wrap 9))).run Tryd.prog w = .ok (Value.func (Fn.func 55) #[] #[]) w := by kernel_rfl
theorem ops_index10' (w : World) : (Instr.index 53 OPS (.int .i64 9)).run Tryd.prog w = .ok (Value.func (Fn.func 55) #[] #[]) w := by kernel_rfl
set_option maxHeartbeats 400000 in
theorem word_do10 (x y : Int) (w : World) :
    Calls Tryd.prog 25 #[.int .i64 10, .int .i64 x, .int .i64 y] w fun e w' => e = .returned (.tuple #[.int .i64 (wr (opv 10 (wr x) (wr y))), .int .i64 0]) ∧ Grown w w' := by
  have hi := ops_index10
  have hi' := ops_index10'
  have hk : knownB 10 = true := by decide
  go_enter Tryd.func25, Tryd.ntmps25
  go_wp2_with (go_at_call 40; refine (word_known _ _).mono ?_; rintro e w' ⟨rfl, rfl⟩)
  refine region_after (by kernel_rfl) (by kernel_rfl) ?_
  repeat (go_big_quiet_step (first | (exact quiet_grown (word_operators _)) | (exact quiet_same (word_wrap _ _)) | (exact quiet_same (word_op10 _ _ _ (wr_lo _) (wr_hi _) (wr_lo _) (wr_hi _)))))
  refine wpQuiet_nil ?_
  rintro _ ⟨n, rfl⟩
  go_wp2
  go_ret2
  exact ⟨rfl, n.grown⟩

theorem ops_index11 (w : World) : (Instr.index 53 OPS (.int .i64 (IntKind.i64.wrap 10))).run Tryd.prog w = .ok (Value.func (Fn.func 56) #[] #[]) w := by kernel_rfl
theorem ops_index11' (w : World) : (Instr.index 53 OPS (.int .i64 10)).run Tryd.prog w = .ok (Value.func (Fn.func 56) #[] #[]) w := by kernel_rfl
set_option maxHeartbeats 400000 in
theorem word_do11 (x y : Int) (w : World) :
    Calls Tryd.prog 25 #[.int .i64 11, .int .i64 x, .int .i64 y] w fun e w' => e = .returned (.tuple #[.int .i64 (wr (opv 11 (wr x) (wr y))), .int .i64 0]) ∧ Grown w w' := by
  have hi := ops_index11
  have hi' := ops_index11'
  have hk : knownB 11 = true := by decide
  go_enter Tryd.func25, Tryd.ntmps25
  go_wp2_with (go_at_call 40; refine (word_known _ _).mono ?_; rintro e w' ⟨rfl, rfl⟩)
  refine region_after (by kernel_rfl) (by kernel_rfl) ?_
  repeat (go_big_quiet_step (first | (exact quiet_grown (word_operators _)) | (exact quiet_same (word_wrap _ _)) | (exact quiet_same (word_op11 _ _ _ (wr_lo _) (wr_hi _) (wr_lo _) (wr_hi _)))))
  refine wpQuiet_nil ?_
  rintro _ ⟨n, rfl⟩
  go_wp2
  go_ret2
  exact ⟨rfl, n.grown⟩

theorem ops_index12 (w : World) : (Instr.index 53 OPS (.int .i64 (IntKind.i64.wrap 11))).run Tryd.prog w = .ok (Value.func (Fn.func 58) #[] #[]) w := by kernel_rfl
theorem ops_index12' (w : World) : (Instr.index 53 OPS (.int .i64 11)).run Tryd.prog w = .ok (Value.func (Fn.func 58) #[] #[]) w := by kernel_rfl
set_option maxHeartbeats 400000 in
theorem word_do12 (x y : Int) (w : World) :
    Calls Tryd.prog 25 #[.int .i64 12, .int .i64 x, .int .i64 y] w fun e w' => e = .returned (.tuple #[.int .i64 (wr (opv 12 (wr x) (wr y))), .int .i64 0]) ∧ Grown w w' := by
  have hi := ops_index12
  have hi' := ops_index12'
  have hk : knownB 12 = true := by decide
  go_enter Tryd.func25, Tryd.ntmps25
  go_wp2_with (go_at_call 40; refine (word_known _ _).mono ?_; rintro e w' ⟨rfl, rfl⟩)
  refine region_after (by kernel_rfl) (by kernel_rfl) ?_
  repeat (go_big_quiet_step (first | (exact quiet_grown (word_operators _)) | (exact quiet_same (word_wrap _ _)) | (exact quiet_same (word_op12 _ _ _ (wr_lo _) (wr_hi _) (wr_lo _) (wr_hi _)))))
  refine wpQuiet_nil ?_
  rintro _ ⟨n, rfl⟩
  go_wp2
  go_ret2
  exact ⟨rfl, n.grown⟩

theorem ops_index13 (w : World) : (Instr.index 53 OPS (.int .i64 (IntKind.i64.wrap 12))).run Tryd.prog w = .ok (Value.func (Fn.func 59) #[] #[]) w := by kernel_rfl
theorem ops_index13' (w : World) : (Instr.index 53 OPS (.int .i64 12)).run Tryd.prog w = .ok (Value.func (Fn.func 59) #[] #[]) w := by kernel_rfl
set_option maxHeartbeats 400000 in
theorem word_do13 (x y : Int) (w : World) :
    Calls Tryd.prog 25 #[.int .i64 13, .int .i64 x, .int .i64 y] w fun e w' => e = .returned (.tuple #[.int .i64 (wr (opv 13 (wr x) (wr y))), .int .i64 0]) ∧ Grown w w' := by
  have hi := ops_index13
  have hi' := ops_index13'
  have hk : knownB 13 = true := by decide
  go_enter Tryd.func25, Tryd.ntmps25
  go_wp2_with (go_at_call 40; refine (word_known _ _).mono ?_; rintro e w' ⟨rfl, rfl⟩)
  refine region_after (by kernel_rfl) (by kernel_rfl) ?_
  repeat (go_big_quiet_step (first | (exact quiet_grown (word_operators _)) | (exact quiet_same (word_wrap _ _)) | (exact quiet_same (word_op13 _ _ _ (wr_lo _) (wr_hi _) (wr_lo _) (wr_hi _)))))
  refine wpQuiet_nil ?_
  rintro _ ⟨n, rfl⟩
  go_wp2
  go_ret2
  exact ⟨rfl, n.grown⟩

theorem ops_index14 (w : World) : (Instr.index 53 OPS (.int .i64 (IntKind.i64.wrap 13))).run Tryd.prog w = .ok (Value.func (Fn.func 60) #[] #[]) w := by kernel_rfl
theorem ops_index14' (w : World) : (Instr.index 53 OPS (.int .i64 13)).run Tryd.prog w = .ok (Value.func (Fn.func 60) #[] #[]) w := by kernel_rfl
set_option maxHeartbeats 400000 in
theorem word_do14 (x y : Int) (w : World) :
    Calls Tryd.prog 25 #[.int .i64 14, .int .i64 x, .int .i64 y] w fun e w' => e = .returned (.tuple #[.int .i64 (wr (opv 14 (wr x) (wr y))), .int .i64 0]) ∧ Grown w w' := by
  have hi := ops_index14
  have hi' := ops_index14'
  have hk : knownB 14 = true := by decide
  go_enter Tryd.func25, Tryd.ntmps25
  go_wp2_with (go_at_call 40; refine (word_known _ _).mono ?_; rintro e w' ⟨rfl, rfl⟩)
  refine region_after (by kernel_rfl) (by kernel_rfl) ?_
  repeat (go_big_quiet_step (first | (exact quiet_grown (word_operators _)) | (exact quiet_same (word_wrap _ _)) | (exact quiet_same (word_op14 _ _ _ (wr_lo _) (wr_hi _) (wr_lo _) (wr_hi _)))))
  refine wpQuiet_nil ?_
  rintro _ ⟨n, rfl⟩
  go_wp2
  go_ret2
  exact ⟨rfl, n.grown⟩

theorem word_do (op x y : Int) (w : World) :
    Calls Tryd.prog 25 #[.int .i64 op, .int .i64 x, .int .i64 y] w fun e w' => e = .returned (.tuple #[.int .i64 (doV op x y), .int .i64 (doE op)]) ∧ Grown w w' := by
  by_cases h : 1 ≤ op ∧ op ≤ 14
  · rw [doV_in x y h.1 h.2, doE_in h.1 h.2]
    obtain rfl | rfl | rfl | rfl | rfl | rfl | rfl | rfl | rfl | rfl | rfl | rfl | rfl | rfl : op = 1 ∨ op = 2 ∨ op = 3 ∨ op = 4 ∨ op = 5 ∨ op = 6 ∨ op = 7 ∨ op = 8 ∨ op = 9 ∨ op = 10 ∨ op = 11 ∨ op = 12 ∨ op = 13 ∨ op = 14 := by omega
    · exact word_do1 x y w
    · exact word_do2 x y w
    · exact word_do3 x y w
    · exact word_do4 x y w
    · exact word_do5 x y w
    · exact word_do6 x y w
    · exact word_do7 x y w
    · exact word_do8 x y w
    · exact word_do9 x y w
    · exact word_do10 x y w
    · exact word_do11 x y w
    · exact word_do12 x y w
    · exact word_do13 x y w
    · exact word_do14 x y w
  · rw [doV_out x y h, doE_out h]
    have hk : knownB op = false := by simp only [knownB, decide_eq_false_iff_not]; exact h
    clear h
    go_enter Tryd.func25, Tryd.ntmps25
    go_wp2_with (go_at_call 40; refine (word_known _ _).mono ?_; rintro e w' ⟨rfl, rfl⟩)
    go_ret2
    exact ⟨rfl, Grown.refl _⟩
end Go.Proofs.YtbcoanbjhbppcaaDoor.W
