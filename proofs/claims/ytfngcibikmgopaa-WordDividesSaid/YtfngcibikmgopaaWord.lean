/- The walks of package word: what each function returns for any numbers. No condition. -/
import Derived.Test.YtfngcibikmgopaaChecked
import Derived.Test.YtfngcibikmgopaaBase
import Derived.Test.YtfngcibikmgopaaWordPure
namespace Go.Proofs.Ytfngcibikmgopaa
open Go.RowKit

def OPS : Value := .agg #[Value.func (Fn.func 21) #[] #[], Value.func (Fn.func 22) #[] #[], Value.func (Fn.func 23) #[] #[], Value.func (Fn.func 24) #[] #[], Value.func (Fn.func 25) #[] #[], Value.func (Fn.func 26) #[] #[], Value.func (Fn.func 27) #[] #[], Value.func (Fn.func 28) #[] #[], Value.func (Fn.func 29) #[] #[], Value.func (Fn.func 30) #[] #[], Value.func (Fn.func 31) #[] #[], Value.func (Fn.func 33) #[] #[], Value.func (Fn.func 34) #[] #[], Value.func (Fn.func 35) #[] #[]]
theorem word_wrap (n : Int) (w : World) :
    Calls Try.prog 13 #[.int .i64 n] w fun e w' => e = .returned (.int .i64 (wr n)) ∧ w = w' := by
  have h := Lib.hid (wr_u32 n)
  go_enter Try.func13, Try.ntmps13
  go_wp2
  go_ret
  exact ⟨by rw [← h.out]; rfl, rfl⟩
theorem word_operators (w : World) :
    Calls Try.prog 19 #[] w fun e w' => e = .returned OPS ∧ Grown w w' := by
  go_enter Try.func19, Try.ntmps19
  go_wp2
  refine bodyPost_ret (v := OPS) (by simp [results, Try.results19, go_sem, OPS]) rfl ⟨rfl, (Grown.refl _).alloc _ _⟩
def knownB (n : Int) : Bool := decide (1 ≤ n ∧ n ≤ 14)
theorem word_known (n : Int) (w : World) :
    Calls Try.prog 15 #[.int .i64 n] w fun e w' => e = .returned (.bool (knownB n)) ∧ w = w' := by
  by_cases h0 : 1 ≤ n
  · by_cases h1 : n ≤ 14
    · have hk : Hid (knownB n = true) := Lib.hid (by simp [knownB, h0, h1])
      go_enter Try.func15, Try.ntmps15
      go_wp2
      go_ret
      exact ⟨by rw [hk.out]; rfl, rfl⟩
    · have hk : Hid (knownB n = false) := Lib.hid (by simp [knownB, h1])
      go_enter Try.func15, Try.ntmps15
      go_wp2
      go_ret
      exact ⟨by rw [hk.out]; rfl, rfl⟩
  · have hk : Hid (knownB n = false) := Lib.hid (by simp [knownB, h0])
    go_enter Try.func15, Try.ntmps15
    go_wp2
    go_ret
    exact ⟨by rw [hk.out]; rfl, rfl⟩
theorem word_truth (b : Bool) (w : World) :
    Calls Try.prog 32 #[.bool b] w fun e w' => e = .returned (.int .i64 (truth b)) ∧ w = w' := by
  cases b
  · go_enter Try.func32, Try.ntmps32
    go_wp2
    go_ret
    exact ⟨rfl, rfl⟩
  · go_enter Try.func32, Try.ntmps32
    go_wp2
    go_ret
    exact ⟨rfl, rfl⟩

theorem word_op1 (x y : Int) (w : World) (_ : -2147483648 ≤ x) (_ : x ≤ 2147483647) (_ : -2147483648 ≤ y) (_ : y ≤ 2147483647) :
    Calls Try.prog 21 #[.int .i64 x, .int .i64 y] w fun e w' => e = .returned (.int .i64 (opv 1 x y)) ∧ w = w' := by
  go_enter Try.func21, Try.ntmps21
  go_wp2
  go_ret
  exact ⟨by simp [opv], rfl⟩

theorem word_op2 (x y : Int) (w : World) (_ : -2147483648 ≤ x) (_ : x ≤ 2147483647) (_ : -2147483648 ≤ y) (_ : y ≤ 2147483647) :
    Calls Try.prog 22 #[.int .i64 x, .int .i64 y] w fun e w' => e = .returned (.int .i64 (opv 2 x y)) ∧ w = w' := by
  go_enter Try.func22, Try.ntmps22
  go_wp2
  go_ret
  exact ⟨by simp [opv], rfl⟩

theorem word_op3 (x y : Int) (w : World) (_ : -2147483648 ≤ x) (_ : x ≤ 2147483647) (_ : -2147483648 ≤ y) (_ : y ≤ 2147483647) :
    Calls Try.prog 23 #[.int .i64 x, .int .i64 y] w fun e w' => e = .returned (.int .i64 (opv 3 x y)) ∧ w = w' := by
  go_enter Try.func23, Try.ntmps23
  go_wp2
  go_ret
  exact ⟨by simp [opv], rfl⟩

theorem word_op4 (x y : Int) (w : World) (_ : -2147483648 ≤ x) (_ : x ≤ 2147483647) (_ : -2147483648 ≤ y) (_ : y ≤ 2147483647) :
    Calls Try.prog 24 #[.int .i64 x, .int .i64 y] w fun e w' => e = .returned (.int .i64 (opv 4 x y)) ∧ w = w' := by
  by_cases hy : y = 0
  · subst hy
    go_enter Try.func24, Try.ntmps24
    go_wp2
    go_ret
    exact ⟨by simp [opv], rfl⟩
  · have hy' : Hid (y ≠ 0) := Lib.hid hy
    go_enter Try.func24, Try.ntmps24
    go_wp2
    go_ret
    exact ⟨by simp [opv, hy'.out], rfl⟩

theorem word_op5 (x y : Int) (w : World) (_ : -2147483648 ≤ x) (_ : x ≤ 2147483647) (_ : -2147483648 ≤ y) (_ : y ≤ 2147483647) :
    Calls Try.prog 25 #[.int .i64 x, .int .i64 y] w fun e w' => e = .returned (.int .i64 (opv 5 x y)) ∧ w = w' := by
  by_cases hy : y = 0
  · subst hy
    go_enter Try.func25, Try.ntmps25
    go_wp2
    go_ret
    exact ⟨by simp [opv], rfl⟩
  · have hy' : Hid (y ≠ 0) := Lib.hid hy
    go_enter Try.func25, Try.ntmps25
    go_wp2
    go_ret
    exact ⟨by simp [opv, hy'.out], rfl⟩

theorem word_op6 (x y : Int) (w : World) (_ : -2147483648 ≤ x) (_ : x ≤ 2147483647) (_ : -2147483648 ≤ y) (_ : y ≤ 2147483647) :
    Calls Try.prog 26 #[.int .i64 x, .int .i64 y] w fun e w' => e = .returned (.int .i64 (opv 6 x y)) ∧ w = w' := by
  go_enter Try.func26, Try.ntmps26
  go_wp2
  go_ret
  exact ⟨by simp [opv], rfl⟩

theorem word_op7 (x y : Int) (w : World) (_ : -2147483648 ≤ x) (_ : x ≤ 2147483647) (_ : -2147483648 ≤ y) (_ : y ≤ 2147483647) :
    Calls Try.prog 27 #[.int .i64 x, .int .i64 y] w fun e w' => e = .returned (.int .i64 (opv 7 x y)) ∧ w = w' := by
  go_enter Try.func27, Try.ntmps27
  go_wp2
  go_ret
  exact ⟨by simp [opv], rfl⟩

theorem word_op8 (x y : Int) (w : World) (_ : -2147483648 ≤ x) (_ : x ≤ 2147483647) (_ : -2147483648 ≤ y) (_ : y ≤ 2147483647) :
    Calls Try.prog 28 #[.int .i64 x, .int .i64 y] w fun e w' => e = .returned (.int .i64 (opv 8 x y)) ∧ w = w' := by
  go_enter Try.func28, Try.ntmps28
  go_wp2
  go_ret
  exact ⟨by simp [opv], rfl⟩

theorem word_op9 (x y : Int) (w : World) (_ : -2147483648 ≤ x) (_ : x ≤ 2147483647) (_ : -2147483648 ≤ y) (_ : y ≤ 2147483647) :
    Calls Try.prog 29 #[.int .i64 x, .int .i64 y] w fun e w' => e = .returned (.int .i64 (opv 9 x y)) ∧ w = w' := by
  have hb := and31 y
  have hb1 : 0 ≤ y % 32 := by omega
  go_enter Try.func29, Try.ntmps29
  go_wp2
  go_ret
  exact ⟨by simp [opv], rfl⟩

theorem word_op10 (x y : Int) (w : World) (_ : -2147483648 ≤ x) (_ : x ≤ 2147483647) (_ : -2147483648 ≤ y) (_ : y ≤ 2147483647) :
    Calls Try.prog 30 #[.int .i64 x, .int .i64 y] w fun e w' => e = .returned (.int .i64 (opv 10 x y)) ∧ w = w' := by
  have hb := and31 y
  have hb1 : 0 ≤ y % 32 := by omega
  go_enter Try.func30, Try.ntmps30
  go_wp2
  go_ret
  exact ⟨by simp [opv], rfl⟩

theorem word_op11 (x y : Int) (w : World) (_ : -2147483648 ≤ x) (_ : x ≤ 2147483647) (_ : -2147483648 ≤ y) (_ : y ≤ 2147483647) :
    Calls Try.prog 31 #[.int .i64 x, .int .i64 y] w fun e w' => e = .returned (.int .i64 (opv 11 x y)) ∧ w = w' := by
  go_enter Try.func31, Try.ntmps31
  go_wp2_with (go_at_call 32; refine (word_truth _ _).mono ?_; rintro e w' ⟨rfl, rfl⟩)
  go_ret
  exact ⟨by simp [opv], rfl⟩

theorem word_op12 (x y : Int) (w : World) (_ : -2147483648 ≤ x) (_ : x ≤ 2147483647) (_ : -2147483648 ≤ y) (_ : y ≤ 2147483647) :
    Calls Try.prog 33 #[.int .i64 x, .int .i64 y] w fun e w' => e = .returned (.int .i64 (opv 12 x y)) ∧ w = w' := by
  go_enter Try.func33, Try.ntmps33
  go_wp2_with (go_at_call 32; refine (word_truth _ _).mono ?_; rintro e w' ⟨rfl, rfl⟩)
  go_ret
  exact ⟨by simp [opv], rfl⟩

theorem word_op13 (x y : Int) (w : World) (_ : -2147483648 ≤ x) (_ : x ≤ 2147483647) (_ : -2147483648 ≤ y) (_ : y ≤ 2147483647) :
    Calls Try.prog 34 #[.int .i64 x, .int .i64 y] w fun e w' => e = .returned (.int .i64 (opv 13 x y)) ∧ w = w' := by
  go_enter Try.func34, Try.ntmps34
  go_wp2_with (go_at_call 32; refine (word_truth _ _).mono ?_; rintro e w' ⟨rfl, rfl⟩)
  go_ret
  exact ⟨by simp [opv], rfl⟩

theorem word_op14 (x y : Int) (w : World) (_ : -2147483648 ≤ x) (_ : x ≤ 2147483647) (_ : -2147483648 ≤ y) (_ : y ≤ 2147483647) :
    Calls Try.prog 35 #[.int .i64 x, .int .i64 y] w fun e w' => e = .returned (.int .i64 (opv 14 x y)) ∧ w = w' := by
  go_enter Try.func35, Try.ntmps35
  go_wp2_with (go_at_call 32; refine (word_truth _ _).mono ?_; rintro e w' ⟨rfl, rfl⟩)
  go_ret
  exact ⟨by simp [opv], rfl⟩

theorem ops_index1 (w : World) : (Instr.index 37 OPS (.int .i64 (IntKind.i64.wrap 0))).run Try.prog w = .ok (Value.func (Fn.func 21) #[] #[]) w := by kernel_rfl
theorem ops_index1' (w : World) : (Instr.index 37 OPS (.int .i64 0)).run Try.prog w = .ok (Value.func (Fn.func 21) #[] #[]) w := by kernel_rfl
set_option maxHeartbeats 400000 in
theorem word_do1 (x y : Int) (w : World) :
    Calls Try.prog 9 #[.int .i64 1, .int .i64 x, .int .i64 y] w fun e w' => e = .returned (.tuple #[.int .i64 (wr (opv 1 (wr x) (wr y))), .int .i64 0]) ∧ Grown w w' := by
  have hi := ops_index1
  have hi' := ops_index1'
  have hk : knownB 1 = true := by decide
  go_enter Try.func9, Try.ntmps9
  go_wp2_with (go_at_call 15; refine (word_known _ _).mono ?_; rintro e w' ⟨rfl, rfl⟩)
  refine region_after (by kernel_rfl) (by kernel_rfl) ?_
  repeat (go_big_quiet_step (first | (exact quiet_grown (word_operators _)) | (exact quiet_same (word_wrap _ _)) | (exact quiet_same (word_op1 _ _ _ (wr_lo _) (wr_hi _) (wr_lo _) (wr_hi _)))))
  refine wpQuiet_nil ?_
  rintro _ ⟨n, rfl⟩
  go_wp2
  go_ret2
  exact ⟨rfl, n.grown⟩

theorem ops_index2 (w : World) : (Instr.index 37 OPS (.int .i64 (IntKind.i64.wrap 1))).run Try.prog w = .ok (Value.func (Fn.func 22) #[] #[]) w := by kernel_rfl
theorem ops_index2' (w : World) : (Instr.index 37 OPS (.int .i64 1)).run Try.prog w = .ok (Value.func (Fn.func 22) #[] #[]) w := by kernel_rfl
set_option maxHeartbeats 400000 in
theorem word_do2 (x y : Int) (w : World) :
    Calls Try.prog 9 #[.int .i64 2, .int .i64 x, .int .i64 y] w fun e w' => e = .returned (.tuple #[.int .i64 (wr (opv 2 (wr x) (wr y))), .int .i64 0]) ∧ Grown w w' := by
  have hi := ops_index2
  have hi' := ops_index2'
  have hk : knownB 2 = true := by decide
  go_enter Try.func9, Try.ntmps9
  go_wp2_with (go_at_call 15; refine (word_known _ _).mono ?_; rintro e w' ⟨rfl, rfl⟩)
  refine region_after (by kernel_rfl) (by kernel_rfl) ?_
  repeat (go_big_quiet_step (first | (exact quiet_grown (word_operators _)) | (exact quiet_same (word_wrap _ _)) | (exact quiet_same (word_op2 _ _ _ (wr_lo _) (wr_hi _) (wr_lo _) (wr_hi _)))))
  refine wpQuiet_nil ?_
  rintro _ ⟨n, rfl⟩
  go_wp2
  go_ret2
  exact ⟨rfl, n.grown⟩

theorem ops_index3 (w : World) : (Instr.index 37 OPS (.int .i64 (IntKind.i64.wrap 2))).run Try.prog w = .ok (Value.func (Fn.func 23) #[] #[]) w := by kernel_rfl
theorem ops_index3' (w : World) : (Instr.index 37 OPS (.int .i64 2)).run Try.prog w = .ok (Value.func (Fn.func 23) #[] #[]) w := by kernel_rfl
set_option maxHeartbeats 400000 in
theorem word_do3 (x y : Int) (w : World) :
    Calls Try.prog 9 #[.int .i64 3, .int .i64 x, .int .i64 y] w fun e w' => e = .returned (.tuple #[.int .i64 (wr (opv 3 (wr x) (wr y))), .int .i64 0]) ∧ Grown w w' := by
  have hi := ops_index3
  have hi' := ops_index3'
  have hk : knownB 3 = true := by decide
  go_enter Try.func9, Try.ntmps9
  go_wp2_with (go_at_call 15; refine (word_known _ _).mono ?_; rintro e w' ⟨rfl, rfl⟩)
  refine region_after (by kernel_rfl) (by kernel_rfl) ?_
  repeat (go_big_quiet_step (first | (exact quiet_grown (word_operators _)) | (exact quiet_same (word_wrap _ _)) | (exact quiet_same (word_op3 _ _ _ (wr_lo _) (wr_hi _) (wr_lo _) (wr_hi _)))))
  refine wpQuiet_nil ?_
  rintro _ ⟨n, rfl⟩
  go_wp2
  go_ret2
  exact ⟨rfl, n.grown⟩

theorem ops_index4 (w : World) : (Instr.index 37 OPS (.int .i64 (IntKind.i64.wrap 3))).run Try.prog w = .ok (Value.func (Fn.func 24) #[] #[]) w := by kernel_rfl
theorem ops_index4' (w : World) : (Instr.index 37 OPS (.int .i64 3)).run Try.prog w = .ok (Value.func (Fn.func 24) #[] #[]) w := by kernel_rfl
set_option maxHeartbeats 400000 in
theorem word_do4 (x y : Int) (w : World) :
    Calls Try.prog 9 #[.int .i64 4, .int .i64 x, .int .i64 y] w fun e w' => e = .returned (.tuple #[.int .i64 (wr (opv 4 (wr x) (wr y))), .int .i64 0]) ∧ Grown w w' := by
  have hi := ops_index4
  have hi' := ops_index4'
  have hk : knownB 4 = true := by decide
  go_enter Try.func9, Try.ntmps9
  go_wp2_with (go_at_call 15; refine (word_known _ _).mono ?_; rintro e w' ⟨rfl, rfl⟩)
  refine region_after (by kernel_rfl) (by kernel_rfl) ?_
  repeat (go_big_quiet_step (first | (exact quiet_grown (word_operators _)) | (exact quiet_same (word_wrap _ _)) | (exact quiet_same (word_op4 _ _ _ (wr_lo _) (wr_hi _) (wr_lo _) (wr_hi _)))))
  refine wpQuiet_nil ?_
  rintro _ ⟨n, rfl⟩
  go_wp2
  go_ret2
  exact ⟨rfl, n.grown⟩

theorem ops_index5 (w : World) : (Instr.index 37 OPS (.int .i64 (IntKind.i64.wrap 4))).run Try.prog w = .ok (Value.func (Fn.func 25) #[] #[]) w := by kernel_rfl
theorem ops_index5' (w : World) : (Instr.index 37 OPS (.int .i64 4)).run Try.prog w = .ok (Value.func (Fn.func 25) #[] #[]) w := by kernel_rfl
set_option maxHeartbeats 400000 in
theorem word_do5 (x y : Int) (w : World) :
    Calls Try.prog 9 #[.int .i64 5, .int .i64 x, .int .i64 y] w fun e w' => e = .returned (.tuple #[.int .i64 (wr (opv 5 (wr x) (wr y))), .int .i64 0]) ∧ Grown w w' := by
  have hi := ops_index5
  have hi' := ops_index5'
  have hk : knownB 5 = true := by decide
  go_enter Try.func9, Try.ntmps9
  go_wp2_with (go_at_call 15; refine (word_known _ _).mono ?_; rintro e w' ⟨rfl, rfl⟩)
  refine region_after (by kernel_rfl) (by kernel_rfl) ?_
  repeat (go_big_quiet_step (first | (exact quiet_grown (word_operators _)) | (exact quiet_same (word_wrap _ _)) | (exact quiet_same (word_op5 _ _ _ (wr_lo _) (wr_hi _) (wr_lo _) (wr_hi _)))))
  refine wpQuiet_nil ?_
  rintro _ ⟨n, rfl⟩
  go_wp2
  go_ret2
  exact ⟨rfl, n.grown⟩

theorem ops_index6 (w : World) : (Instr.index 37 OPS (.int .i64 (IntKind.i64.wrap 5))).run Try.prog w = .ok (Value.func (Fn.func 26) #[] #[]) w := by kernel_rfl
theorem ops_index6' (w : World) : (Instr.index 37 OPS (.int .i64 5)).run Try.prog w = .ok (Value.func (Fn.func 26) #[] #[]) w := by kernel_rfl
set_option maxHeartbeats 400000 in
theorem word_do6 (x y : Int) (w : World) :
    Calls Try.prog 9 #[.int .i64 6, .int .i64 x, .int .i64 y] w fun e w' => e = .returned (.tuple #[.int .i64 (wr (opv 6 (wr x) (wr y))), .int .i64 0]) ∧ Grown w w' := by
  have hi := ops_index6
  have hi' := ops_index6'
  have hk : knownB 6 = true := by decide
  go_enter Try.func9, Try.ntmps9
  go_wp2_with (go_at_call 15; refine (word_known _ _).mono ?_; rintro e w' ⟨rfl, rfl⟩)
  refine region_after (by kernel_rfl) (by kernel_rfl) ?_
  repeat (go_big_quiet_step (first | (exact quiet_grown (word_operators _)) | (exact quiet_same (word_wrap _ _)) | (exact quiet_same (word_op6 _ _ _ (wr_lo _) (wr_hi _) (wr_lo _) (wr_hi _)))))
  refine wpQuiet_nil ?_
  rintro _ ⟨n, rfl⟩
  go_wp2
  go_ret2
  exact ⟨rfl, n.grown⟩

theorem ops_index7 (w : World) : (Instr.index 37 OPS (.int .i64 (IntKind.i64.wrap 6))).run Try.prog w = .ok (Value.func (Fn.func 27) #[] #[]) w := by kernel_rfl
theorem ops_index7' (w : World) : (Instr.index 37 OPS (.int .i64 6)).run Try.prog w = .ok (Value.func (Fn.func 27) #[] #[]) w := by kernel_rfl
set_option maxHeartbeats 400000 in
theorem word_do7 (x y : Int) (w : World) :
    Calls Try.prog 9 #[.int .i64 7, .int .i64 x, .int .i64 y] w fun e w' => e = .returned (.tuple #[.int .i64 (wr (opv 7 (wr x) (wr y))), .int .i64 0]) ∧ Grown w w' := by
  have hi := ops_index7
  have hi' := ops_index7'
  have hk : knownB 7 = true := by decide
  go_enter Try.func9, Try.ntmps9
  go_wp2_with (go_at_call 15; refine (word_known _ _).mono ?_; rintro e w' ⟨rfl, rfl⟩)
  refine region_after (by kernel_rfl) (by kernel_rfl) ?_
  repeat (go_big_quiet_step (first | (exact quiet_grown (word_operators _)) | (exact quiet_same (word_wrap _ _)) | (exact quiet_same (word_op7 _ _ _ (wr_lo _) (wr_hi _) (wr_lo _) (wr_hi _)))))
  refine wpQuiet_nil ?_
  rintro _ ⟨n, rfl⟩
  go_wp2
  go_ret2
  exact ⟨rfl, n.grown⟩

theorem ops_index8 (w : World) : (Instr.index 37 OPS (.int .i64 (IntKind.i64.wrap 7))).run Try.prog w = .ok (Value.func (Fn.func 28) #[] #[]) w := by kernel_rfl
theorem ops_index8' (w : World) : (Instr.index 37 OPS (.int .i64 7)).run Try.prog w = .ok (Value.func (Fn.func 28) #[] #[]) w := by kernel_rfl
set_option maxHeartbeats 400000 in
theorem word_do8 (x y : Int) (w : World) :
    Calls Try.prog 9 #[.int .i64 8, .int .i64 x, .int .i64 y] w fun e w' => e = .returned (.tuple #[.int .i64 (wr (opv 8 (wr x) (wr y))), .int .i64 0]) ∧ Grown w w' := by
  have hi := ops_index8
  have hi' := ops_index8'
  have hk : knownB 8 = true := by decide
  go_enter Try.func9, Try.ntmps9
  go_wp2_with (go_at_call 15; refine (word_known _ _).mono ?_; rintro e w' ⟨rfl, rfl⟩)
  refine region_after (by kernel_rfl) (by kernel_rfl) ?_
  repeat (go_big_quiet_step (first | (exact quiet_grown (word_operators _)) | (exact quiet_same (word_wrap _ _)) | (exact quiet_same (word_op8 _ _ _ (wr_lo _) (wr_hi _) (wr_lo _) (wr_hi _)))))
  refine wpQuiet_nil ?_
  rintro _ ⟨n, rfl⟩
  go_wp2
  go_ret2
  exact ⟨rfl, n.grown⟩

theorem ops_index9 (w : World) : (Instr.index 37 OPS (.int .i64 (IntKind.i64.wrap 8))).run Try.prog w = .ok (Value.func (Fn.func 29) #[] #[]) w := by kernel_rfl
theorem ops_index9' (w : World) : (Instr.index 37 OPS (.int .i64 8)).run Try.prog w = .ok (Value.func (Fn.func 29) #[] #[]) w := by kernel_rfl
set_option maxHeartbeats 400000 in
theorem word_do9 (x y : Int) (w : World) :
    Calls Try.prog 9 #[.int .i64 9, .int .i64 x, .int .i64 y] w fun e w' => e = .returned (.tuple #[.int .i64 (wr (opv 9 (wr x) (wr y))), .int .i64 0]) ∧ Grown w w' := by
  have hi := ops_index9
  have hi' := ops_index9'
  have hk : knownB 9 = true := by decide
  go_enter Try.func9, Try.ntmps9
  go_wp2_with (go_at_call 15; refine (word_known _ _).mono ?_; rintro e w' ⟨rfl, rfl⟩)
  refine region_after (by kernel_rfl) (by kernel_rfl) ?_
  repeat (go_big_quiet_step (first | (exact quiet_grown (word_operators _)) | (exact quiet_same (word_wrap _ _)) | (exact quiet_same (word_op9 _ _ _ (wr_lo _) (wr_hi _) (wr_lo _) (wr_hi _)))))
  refine wpQuiet_nil ?_
  rintro _ ⟨n, rfl⟩
  go_wp2
  go_ret2
  exact ⟨rfl, n.grown⟩

theorem ops_index10 (w : World) : (Instr.index 37 OPS (.int .i64 (IntKind.i64.wrap 9))).run Try.prog w = .ok (Value.func (Fn.func 30) #[] #[]) w := by kernel_rfl
theorem ops_index10' (w : World) : (Instr.index 37 OPS (.int .i64 9)).run Try.prog w = .ok (Value.func (Fn.func 30) #[] #[]) w := by kernel_rfl
set_option maxHeartbeats 400000 in
theorem word_do10 (x y : Int) (w : World) :
    Calls Try.prog 9 #[.int .i64 10, .int .i64 x, .int .i64 y] w fun e w' => e = .returned (.tuple #[.int .i64 (wr (opv 10 (wr x) (wr y))), .int .i64 0]) ∧ Grown w w' := by
  have hi := ops_index10
  have hi' := ops_index10'
  have hk : knownB 10 = true := by decide
  go_enter Try.func9, Try.ntmps9
  go_wp2_with (go_at_call 15; refine (word_known _ _).mono ?_; rintro e w' ⟨rfl, rfl⟩)
  refine region_after (by kernel_rfl) (by kernel_rfl) ?_
  repeat (go_big_quiet_step (first | (exact quiet_grown (word_operators _)) | (exact quiet_same (word_wrap _ _)) | (exact quiet_same (word_op10 _ _ _ (wr_lo _) (wr_hi _) (wr_lo _) (wr_hi _)))))
  refine wpQuiet_nil ?_
  rintro _ ⟨n, rfl⟩
  go_wp2
  go_ret2
  exact ⟨rfl, n.grown⟩

theorem ops_index11 (w : World) : (Instr.index 37 OPS (.int .i64 (IntKind.i64.wrap 10))).run Try.prog w = .ok (Value.func (Fn.func 31) #[] #[]) w := by kernel_rfl
theorem ops_index11' (w : World) : (Instr.index 37 OPS (.int .i64 10)).run Try.prog w = .ok (Value.func (Fn.func 31) #[] #[]) w := by kernel_rfl
set_option maxHeartbeats 400000 in
theorem word_do11 (x y : Int) (w : World) :
    Calls Try.prog 9 #[.int .i64 11, .int .i64 x, .int .i64 y] w fun e w' => e = .returned (.tuple #[.int .i64 (wr (opv 11 (wr x) (wr y))), .int .i64 0]) ∧ Grown w w' := by
  have hi := ops_index11
  have hi' := ops_index11'
  have hk : knownB 11 = true := by decide
  go_enter Try.func9, Try.ntmps9
  go_wp2_with (go_at_call 15; refine (word_known _ _).mono ?_; rintro e w' ⟨rfl, rfl⟩)
  refine region_after (by kernel_rfl) (by kernel_rfl) ?_
  repeat (go_big_quiet_step (first | (exact quiet_grown (word_operators _)) | (exact quiet_same (word_wrap _ _)) | (exact quiet_same (word_op11 _ _ _ (wr_lo _) (wr_hi _) (wr_lo _) (wr_hi _)))))
  refine wpQuiet_nil ?_
  rintro _ ⟨n, rfl⟩
  go_wp2
  go_ret2
  exact ⟨rfl, n.grown⟩

theorem ops_index12 (w : World) : (Instr.index 37 OPS (.int .i64 (IntKind.i64.wrap 11))).run Try.prog w = .ok (Value.func (Fn.func 33) #[] #[]) w := by kernel_rfl
theorem ops_index12' (w : World) : (Instr.index 37 OPS (.int .i64 11)).run Try.prog w = .ok (Value.func (Fn.func 33) #[] #[]) w := by kernel_rfl
set_option maxHeartbeats 400000 in
theorem word_do12 (x y : Int) (w : World) :
    Calls Try.prog 9 #[.int .i64 12, .int .i64 x, .int .i64 y] w fun e w' => e = .returned (.tuple #[.int .i64 (wr (opv 12 (wr x) (wr y))), .int .i64 0]) ∧ Grown w w' := by
  have hi := ops_index12
  have hi' := ops_index12'
  have hk : knownB 12 = true := by decide
  go_enter Try.func9, Try.ntmps9
  go_wp2_with (go_at_call 15; refine (word_known _ _).mono ?_; rintro e w' ⟨rfl, rfl⟩)
  refine region_after (by kernel_rfl) (by kernel_rfl) ?_
  repeat (go_big_quiet_step (first | (exact quiet_grown (word_operators _)) | (exact quiet_same (word_wrap _ _)) | (exact quiet_same (word_op12 _ _ _ (wr_lo _) (wr_hi _) (wr_lo _) (wr_hi _)))))
  refine wpQuiet_nil ?_
  rintro _ ⟨n, rfl⟩
  go_wp2
  go_ret2
  exact ⟨rfl, n.grown⟩

theorem ops_index13 (w : World) : (Instr.index 37 OPS (.int .i64 (IntKind.i64.wrap 12))).run Try.prog w = .ok (Value.func (Fn.func 34) #[] #[]) w := by kernel_rfl
theorem ops_index13' (w : World) : (Instr.index 37 OPS (.int .i64 12)).run Try.prog w = .ok (Value.func (Fn.func 34) #[] #[]) w := by kernel_rfl
set_option maxHeartbeats 400000 in
theorem word_do13 (x y : Int) (w : World) :
    Calls Try.prog 9 #[.int .i64 13, .int .i64 x, .int .i64 y] w fun e w' => e = .returned (.tuple #[.int .i64 (wr (opv 13 (wr x) (wr y))), .int .i64 0]) ∧ Grown w w' := by
  have hi := ops_index13
  have hi' := ops_index13'
  have hk : knownB 13 = true := by decide
  go_enter Try.func9, Try.ntmps9
  go_wp2_with (go_at_call 15; refine (word_known _ _).mono ?_; rintro e w' ⟨rfl, rfl⟩)
  refine region_after (by kernel_rfl) (by kernel_rfl) ?_
  repeat (go_big_quiet_step (first | (exact quiet_grown (word_operators _)) | (exact quiet_same (word_wrap _ _)) | (exact quiet_same (word_op13 _ _ _ (wr_lo _) (wr_hi _) (wr_lo _) (wr_hi _)))))
  refine wpQuiet_nil ?_
  rintro _ ⟨n, rfl⟩
  go_wp2
  go_ret2
  exact ⟨rfl, n.grown⟩

theorem ops_index14 (w : World) : (Instr.index 37 OPS (.int .i64 (IntKind.i64.wrap 13))).run Try.prog w = .ok (Value.func (Fn.func 35) #[] #[]) w := by kernel_rfl
theorem ops_index14' (w : World) : (Instr.index 37 OPS (.int .i64 13)).run Try.prog w = .ok (Value.func (Fn.func 35) #[] #[]) w := by kernel_rfl
set_option maxHeartbeats 400000 in
theorem word_do14 (x y : Int) (w : World) :
    Calls Try.prog 9 #[.int .i64 14, .int .i64 x, .int .i64 y] w fun e w' => e = .returned (.tuple #[.int .i64 (wr (opv 14 (wr x) (wr y))), .int .i64 0]) ∧ Grown w w' := by
  have hi := ops_index14
  have hi' := ops_index14'
  have hk : knownB 14 = true := by decide
  go_enter Try.func9, Try.ntmps9
  go_wp2_with (go_at_call 15; refine (word_known _ _).mono ?_; rintro e w' ⟨rfl, rfl⟩)
  refine region_after (by kernel_rfl) (by kernel_rfl) ?_
  repeat (go_big_quiet_step (first | (exact quiet_grown (word_operators _)) | (exact quiet_same (word_wrap _ _)) | (exact quiet_same (word_op14 _ _ _ (wr_lo _) (wr_hi _) (wr_lo _) (wr_hi _)))))
  refine wpQuiet_nil ?_
  rintro _ ⟨n, rfl⟩
  go_wp2
  go_ret2
  exact ⟨rfl, n.grown⟩

theorem word_do (op x y : Int) (w : World) :
    Calls Try.prog 9 #[.int .i64 op, .int .i64 x, .int .i64 y] w fun e w' => e = .returned (.tuple #[.int .i64 (doV op x y), .int .i64 (doE op)]) ∧ Grown w w' := by
  by_cases h : 1 ≤ op ∧ op ≤ 14
  · rw [doV_in x y h.1 h.2, doE_in h.1 h.2]
    obtain rfl | rfl | rfl | rfl | rfl | rfl | rfl | rfl | rfl | rfl | rfl | rfl | rfl | rfl : op = 1 ∨ op = 2 ∨ op = 3 ∨ op = 4 ∨ op = 5 ∨ op = 6 ∨ op = 7 ∨ op = 8 ∨ op = 9 ∨ op = 10 ∨ op = 11 ∨ op = 12 ∨ op = 13 ∨ op = 14 := by omega
    · exact word_do1 x y w
    · exact word_do2 x y w
    · exact word_do3 x y w
    · exact word_do4 x y w
    · exact word_do5 x y w
    · exact word_do6 x y w
    · exact word_do7 x y w
    · exact word_do8 x y w
    · exact word_do9 x y w
    · exact word_do10 x y w
    · exact word_do11 x y w
    · exact word_do12 x y w
    · exact word_do13 x y w
    · exact word_do14 x y w
  · rw [doV_out x y h, doE_out h]
    have hk : knownB op = false := by simp only [knownB, decide_eq_false_iff_not]; exact h
    clear h
    go_enter Try.func9, Try.ntmps9
    go_wp2_with (go_at_call 15; refine (word_known _ _).mono ?_; rintro e w' ⟨rfl, rfl⟩)
    go_ret2
    exact ⟨rfl, Grown.refl _⟩
end Go.Proofs.Ytfngcibikmgopaa
