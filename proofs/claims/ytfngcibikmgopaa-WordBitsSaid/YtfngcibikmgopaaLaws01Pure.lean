/- The laws of words in plain numbers. No condition but that the numbers are words where it is said. -/
import Derived.Test.YtfngcibikmgopaaWordPure
namespace Go.Proofs.Ytfngcibikmgopaa
open Go.RowKit
def B32 (n : Int) : BitVec 32 := BitVec.ofInt 32 n
theorem wr_bv (n : Int) : wr n = (B32 n).toInt := by
  unfold B32
  rw [BitVec.toInt_ofInt]
  unfold wr Int.bmod
  have : ((2 ^ 32 : Nat) : Int) = 4294967296 := by decide
  rw [this]
  simp only []
  split <;> omega
theorem B32_wr (n : Int) : B32 (wr n) = B32 n := by
  apply BitVec.eq_of_toInt_eq; rw [← wr_bv, ← wr_bv, wr_wr]
theorem B32_congr {a b : Int} (h : a % 4294967296 = b % 4294967296) : B32 a = B32 b := by
  apply BitVec.eq_of_toInt_eq; rw [← wr_bv, ← wr_bv]; exact wr_congr h
theorem B32_add (a b : Int) : B32 (a + b) = B32 a + B32 b := by
  unfold B32; exact BitVec.ofInt_add _ _
theorem B32_mul (a b : Int) : B32 (a * b) = B32 a * B32 b := by
  unfold B32; exact BitVec.ofInt_mul _ _
theorem B32_sub (a b : Int) : B32 (a - b) = B32 a - B32 b := by
  have : a = (a - b) + b := by omega
  have h : B32 a = B32 (a - b) + B32 b := by rw [← B32_add]; congr 1
  rw [h, BitVec.add_sub_cancel]
theorem B32_wrap64 (n : Int) : B32 (wrap64 n) = B32 n := by
  rw [← B32_wr, wr_wrap64, B32_wr]
theorem B32_nat (m : Nat) : (B32 (m : Int)).toNat = m % 2 ^ 32 := by
  unfold B32; rw [BitVec.toNat_ofInt]; omega
theorem B32_toNat (n : Int) : (B32 n).toNat = (BitVec.ofInt 64 n).toNat % 2 ^ 32 := by
  unfold B32; rw [BitVec.toNat_ofInt, BitVec.toNat_ofInt]
  have h1 : ((2 ^ 32 : Nat) : Int) = 4294967296 := by decide
  have h2 : ((2 ^ 64 : Nat) : Int) = 18446744073709551616 := by decide
  have h3 : (2 ^ 32 : Nat) = 4294967296 := by decide
  rw [h1, h2, h3]; omega
theorem wrap_i64_bv (m : Nat) : B32 (IntKind.i64.wrap (m : Int)) = B32 (m : Int) := by
  apply B32_congr
  simp [IntKind.wrap, IntKind.bits, IntKind.signed]; split <;> omega
theorem B32_and (x y : Int) : B32 (bits BinOp.and IntKind.i64 x y) = B32 x &&& B32 y := by
  show B32 (IntKind.i64.wrap ((BitVec.ofInt 64 x &&& BitVec.ofInt 64 y).toNat : Int)) = _
  rw [wrap_i64_bv]; apply BitVec.eq_of_toNat_eq
  rw [B32_nat, BitVec.toNat_and, BitVec.toNat_and, B32_toNat, B32_toNat, Nat.and_mod_two_pow]
theorem B32_or (x y : Int) : B32 (bits BinOp.or IntKind.i64 x y) = B32 x ||| B32 y := by
  show B32 (IntKind.i64.wrap ((BitVec.ofInt 64 x ||| BitVec.ofInt 64 y).toNat : Int)) = _
  rw [wrap_i64_bv]; apply BitVec.eq_of_toNat_eq
  rw [B32_nat, BitVec.toNat_or, BitVec.toNat_or, B32_toNat, B32_toNat, Nat.or_mod_two_pow]
theorem B32_xor (x y : Int) : B32 (bits BinOp.xor IntKind.i64 x y) = B32 x ^^^ B32 y := by
  show B32 (IntKind.i64.wrap ((BitVec.ofInt 64 x ^^^ BitVec.ofInt 64 y).toNat : Int)) = _
  rw [wrap_i64_bv]; apply BitVec.eq_of_toNat_eq
  rw [B32_nat, BitVec.toNat_xor, BitVec.toNat_xor, B32_toNat, B32_toNat, Nat.xor_mod_two_pow]

theorem doV_add (a b : Int) : doV 1 a b = (B32 a + B32 b).toInt := by
  rw [doV_in _ _ (by decide) (by decide)]; simp only [opv, if_true]; rw [wr_bv, B32_add, B32_wr, B32_wr]
theorem doV_sub (a b : Int) : doV 2 a b = (B32 a - B32 b).toInt := by
  rw [doV_in _ _ (by decide) (by decide)]; simp only [opv, if_true, Int.reduceEq, if_false]; rw [wr_bv, B32_sub, B32_wr, B32_wr]
theorem doV_mul (a b : Int) : doV 3 a b = (B32 a * B32 b).toInt := by
  rw [doV_in _ _ (by decide) (by decide)]; simp only [opv, if_true, Int.reduceEq, if_false]; rw [wr_bv, B32_wrap64, B32_mul, B32_wr, B32_wr]
theorem doV_and (a b : Int) : doV 6 a b = (B32 a &&& B32 b).toInt := by
  rw [doV_in _ _ (by decide) (by decide)]; simp only [opv, if_true, Int.reduceEq, if_false]; rw [wr_bv, B32_and, B32_wr, B32_wr]
theorem doV_or (a b : Int) : doV 7 a b = (B32 a ||| B32 b).toInt := by
  rw [doV_in _ _ (by decide) (by decide)]; simp only [opv, if_true, Int.reduceEq, if_false]; rw [wr_bv, B32_or, B32_wr, B32_wr]
theorem doV_xor (a b : Int) : doV 8 a b = (B32 a ^^^ B32 b).toInt := by
  rw [doV_in _ _ (by decide) (by decide)]; simp only [opv, if_true, Int.reduceEq, if_false]; rw [wr_bv, B32_xor, B32_wr, B32_wr]
theorem B32_toInt (v : BitVec 32) : B32 v.toInt = v := by unfold B32; exact BitVec.ofInt_toInt
theorem B32_id {x : Int} (a : -2147483648 ≤ x) (b : x ≤ 2147483647) : (B32 x).toInt = x := by rw [← wr_bv, wr_id a b]

/-! ### The ring -/
theorem ring1 (x y : Int) : (doV 1 x y == doV 1 y x) = true := by
  simp only [doV_add]; rw [BitVec.add_comm, beq_self_eq_true]
theorem ring2 (x y z : Int) : (doV 1 x (doV 1 y z) == doV 1 (doV 1 x y) z) = true := by
  simp only [doV_add, B32_toInt]; rw [BitVec.add_assoc, beq_self_eq_true]
theorem ring3 (x y z : Int) : (doV 3 x (doV 1 y z) == doV 1 (doV 3 x y) (doV 3 x z)) = true := by
  simp only [doV_add, doV_mul, B32_toInt]; rw [BitVec.mul_add, beq_self_eq_true]
theorem ring4 {x : Int} (y : Int) (a : -2147483648 ≤ x) (b : x ≤ 2147483647) : (doV 2 (doV 1 x y) y == x) = true := by
  simp only [doV_add, doV_sub, B32_toInt]; rw [BitVec.add_sub_cancel, B32_id a b, beq_self_eq_true]
theorem ring5 {x y x' y' : Int} (a : x % 4294967296 = x' % 4294967296) (b : y % 4294967296 = y' % 4294967296) : (doV 3 x y == doV 3 x' y') = true := by
  simp only [doV_mul]; rw [B32_congr a, B32_congr b, beq_self_eq_true]
theorem ring6 {x : Int} (y : Int) (a : -2147483648 ≤ x) (b : x ≤ 2147483647) : (doV 8 (doV 8 x y) y == x) = true := by
  simp only [doV_xor, B32_toInt]; rw [BitVec.xor_assoc, BitVec.xor_self, BitVec.xor_zero, B32_id a b, beq_self_eq_true]

/-! ### Bits -/
theorem bits1 (x y : Int) : (doV 8 (doV 6 x y) (-1) == doV 7 (doV 8 x (-1)) (doV 8 y (-1))) = true := by
  simp only [doV_xor, doV_and, doV_or, B32_toInt]
  have : B32 (-1) = BitVec.allOnes 32 := by decide
  rw [this]
  simp only [BitVec.xor_allOnes]
  rw [BitVec.not_and, beq_self_eq_true]
theorem bits2 {x : Int} (y : Int) (a : -2147483648 ≤ x) (b : x ≤ 2147483647) : (doV 7 x (doV 6 x y) == x) = true := by
  simp only [doV_and, doV_or, B32_toInt]
  have : B32 x ||| (B32 x &&& B32 y) = B32 x := by
    ext i hi; simp; cases (B32 x)[i] <;> simp
  rw [this, B32_id a b, beq_self_eq_true]
theorem bits3 (x y z : Int) : (doV 6 x (doV 7 y z) == doV 7 (doV 6 x y) (doV 6 x z)) = true := by
  simp only [doV_and, doV_or, B32_toInt]
  have : B32 x &&& (B32 y ||| B32 z) = B32 x &&& B32 y ||| B32 x &&& B32 z := by
    ext i hi; simp; cases (B32 x)[i] <;> simp
  rw [this, beq_self_eq_true]
theorem add_of_apart {a b : BitVec 32} (h : a &&& b = 0#32) : a + b = a ||| b := BitVec.add_eq_or_of_and_eq_zero a b h
theorem bits4 (x y : Int) : (doV 1 (doV 6 x y) (doV 8 x y) == doV 7 x y) = true := by
  simp only [doV_add, doV_xor, doV_and, doV_or, B32_toInt]
  have : (B32 x &&& B32 y) + (B32 x ^^^ B32 y) = B32 x ||| B32 y := by
    rw [add_of_apart]
    · ext i hi; simp; cases (B32 x)[i] <;> cases (B32 y)[i] <;> decide
    · ext i hi; simp; cases (B32 x)[i] <;> cases (B32 y)[i] <;> decide
  rw [this, beq_self_eq_true]
theorem bits5 (x y : Int) : (doV 1 (doV 7 x y) (doV 6 x y) == doV 1 x y) = true := by
  simp only [doV_add, doV_and, doV_or, B32_toInt]
  have h1 : B32 x ||| B32 y = B32 x + (~~~ B32 x &&& B32 y) := by
    rw [add_of_apart]
    · ext i hi; simp; cases (B32 x)[i] <;> cases (B32 y)[i] <;> decide
    · ext i hi; simp; cases (B32 x)[i] <;> cases (B32 y)[i] <;> decide
  have h2 : (~~~ B32 x &&& B32 y) + (B32 x &&& B32 y) = B32 y := by
    rw [add_of_apart]
    · ext i hi; simp; cases (B32 x)[i] <;> cases (B32 y)[i] <;> decide
    · ext i hi; simp; cases (B32 x)[i] <;> cases (B32 y)[i] <;> decide
  rw [h1, BitVec.add_assoc, h2, beq_self_eq_true]

/-! ### Division -/
theorem doV_div {a b : Int} (a0 : -2147483648 ≤ a) (a1 : a ≤ 2147483647) (b0 : -2147483648 ≤ b) (b1 : b ≤ 2147483647) (h : b ≠ 0) : doV 4 a b = wr (a.tdiv b) := by
  rw [doV_in _ _ (by decide) (by decide), wr_id a0 a1, wr_id b0 b1]; simp only [opv, if_true, Int.reduceEq, if_false, h]; rw [wr_wrap64]
theorem tmod_bounds {a b : Int} (h : b ≠ 0) : (a.tmod b).natAbs < b.natAbs ∧ 0 ≤ a.tmod b * a := by
  constructor
  · rw [Int.natAbs_tmod]; exact Nat.mod_lt _ (by omega)
  · rcases Int.le_total 0 a with ha | ha
    · exact Int.mul_nonneg (Int.tmod_nonneg b ha) ha
    · have : 0 ≤ (-a).tmod b := Int.tmod_nonneg b (by omega)
      rw [Int.neg_tmod] at this
      exact Int.mul_nonneg_of_nonpos_of_nonpos (by omega) ha
theorem doV_rem {a b : Int} (a0 : -2147483648 ≤ a) (a1 : a ≤ 2147483647) (b0 : -2147483648 ≤ b) (b1 : b ≤ 2147483647) (h : b ≠ 0) : doV 5 a b = a.tmod b := by
  rw [doV_in _ _ (by decide) (by decide), wr_id a0 a1, wr_id b0 b1]; simp only [opv, if_true, Int.reduceEq, if_false, h]
  have := (tmod_bounds (a := a) h).1
  exact wr_id (by omega) (by omega)
theorem div0 (a : Int) : doV 4 a 0 = 0 := by
  rw [doV_in _ _ (by decide) (by decide)]; simp only [opv, if_true, Int.reduceEq, if_false, wr_zero]
theorem rem0 (a : Int) : doV 5 a 0 = 0 := by
  rw [doV_in _ _ (by decide) (by decide)]; simp only [opv, if_true, Int.reduceEq, if_false, wr_zero]
theorem div0' (a : Int) {y : Int} (h : (y == 0) = true) : (doV 4 a y == 0) = true := by
  have e : y = 0 := by simpa using h
  rw [e, div0]; rfl
theorem rem0' (a : Int) {y : Int} (h : (y == 0) = true) : (doV 5 a y == 0) = true := by
  have e : y = 0 := by simpa using h
  rw [e, rem0]; rfl
theorem div1 {a b : Int} (a0 : -2147483648 ≤ a) (a1 : a ≤ 2147483647) (b0 : -2147483648 ≤ b) (b1 : b ≤ 2147483647) (h : b ≠ 0) : doV 1 (doV 3 (doV 4 a b) b) (doV 5 a b) = a := by
  rw [doV_div a0 a1 b0 b1 h, doV_rem a0 a1 b0 b1 h, doV_add, doV_mul, B32_toInt, B32_wr, ← B32_mul, ← B32_add]
  rw [Int.mul_comm, Int.mul_tdiv_add_tmod]
  exact B32_id a0 a1
theorem div2 {a b : Int} (a0 : -2147483648 ≤ a) (a1 : a ≤ 2147483647) (b0 : -2147483648 ≤ b) (b1 : b ≤ 2147483647) (h : b ≠ 0) : doV 5 a b * doV 5 a b < b * b := by
  rw [doV_rem a0 a1 b0 b1 h]
  have h1 := (tmod_bounds (a := a) h).1
  rw [← Int.natAbs_mul_self, ← Int.natAbs_mul_self (a := b)]
  have : (a.tmod b).natAbs * (a.tmod b).natAbs < b.natAbs * b.natAbs := Nat.mul_self_lt_mul_self h1
  exact_mod_cast this
theorem div3 {a b : Int} (a0 : -2147483648 ≤ a) (a1 : a ≤ 2147483647) (b0 : -2147483648 ≤ b) (b1 : b ≤ 2147483647) (h : b ≠ 0) : 0 ≤ doV 5 a b * a := by
  rw [doV_rem a0 a1 b0 b1 h]
  exact (tmod_bounds (a := a) h).2
theorem sq_bound {a b : Int} (a0 : -2147483648 ≤ a) (a1 : a ≤ 2147483648) (b0 : -2147483648 ≤ b) (b1 : b ≤ 2147483648) : -4611686018427387904 ≤ a * b ∧ a * b ≤ 4611686018427387904 := by
  have h : (a * b).natAbs ≤ 4611686018427387904 := by
    rw [Int.natAbs_mul]
    calc a.natAbs * b.natAbs ≤ 2147483648 * 2147483648 := Nat.mul_le_mul (by omega) (by omega)
      _ = 4611686018427387904 := by decide
  omega
theorem shr1 {x k : Int} (a0 : -2147483648 ≤ x) (a1 : x ≤ 2147483647) (k0 : 0 ≤ k) (k1 : k ≤ 30) : doV 10 x k = x / 2 ^ k.toNat := by
  rw [doV_in _ _ (by decide) (by decide), wr_id a0 a1, wr_id (n := k) (by omega) (by omega)]
  simp only [opv, if_true, Int.reduceEq, if_false]
  have e : k % 32 = k := by omega
  rw [e]
  have hp : (0 : Int) < 2 ^ k.toNat := Int.pow_pos (by decide)
  have h1 : (1 : Int) ≤ 2 ^ k.toNat := by omega
  apply wr_id
  · rw [Int.le_ediv_iff_mul_le hp]
    have : (2 : Int) ^ k.toNat * 2147483648 ≥ 1 * 2147483648 := Int.mul_le_mul_of_nonneg_right h1 (by decide)
    omega
  · apply Int.ediv_le_of_le_mul hp
    have : (2147483647 : Int) * 1 ≤ 2147483647 * 2 ^ k.toNat := Int.mul_le_mul_of_nonneg_left h1 (by decide)
    omega
theorem shr2 (x : Int) (n : Nat) : x / 2 ^ n * 2 ^ n ≤ x ∧ x < (x / 2 ^ n + 1) * 2 ^ n := by
  have hp : (0 : Int) < 2 ^ n := Int.pow_pos (by decide)
  exact ⟨Int.ediv_mul_le x (by omega), Int.lt_ediv_add_one_mul_self x hp⟩
theorem pow_le {k : Int} (k0 : 0 ≤ k) (k1 : k ≤ 30) : (1 : Int) ≤ 2 ^ k.toNat ∧ (2 : Int) ^ k.toNat ≤ 1073741824 := by
  have hp : (0 : Int) < 2 ^ k.toNat := Int.pow_pos (by decide)
  refine ⟨by omega, ?_⟩
  have : (2 : Nat) ^ k.toNat ≤ 2 ^ 30 := Nat.pow_le_pow_right (by decide) (by omega)
  have h2 : ((2 ^ k.toNat : Nat) : Int) ≤ ((2 ^ 30 : Nat) : Int) := by exact_mod_cast this
  simpa using h2
theorem shl1 {x k : Int} (k0 : 0 ≤ k) (k1 : k ≤ 30) : doV 9 x k = doV 3 x (2 ^ k.toNat) := by
  have hk := pow_le k0 k1
  rw [doV_in _ _ (by decide) (by decide), doV_in _ _ (by decide) (by decide), wr_id (n := k) (by omega) (by omega), wr_id (n := 2 ^ k.toNat) (by omega) (by omega)]
  simp only [opv, if_true, Int.reduceEq, if_false]
  have e : k % 32 = k := by omega
  rw [e]

/-! ### Comparisons -/
theorem truth_wr (b : Bool) : wr (truth b) = truth b := by cases b <;> decide
theorem doV_lt {a b : Int} (a0 : -2147483648 ≤ a) (a1 : a ≤ 2147483647) (b0 : -2147483648 ≤ b) (b1 : b ≤ 2147483647) : doV 11 a b = truth (decide (a < b)) := by
  rw [doV_in _ _ (by decide) (by decide), wr_id a0 a1, wr_id b0 b1]; simp only [opv, if_true, Int.reduceEq, if_false, truth_wr]
theorem doV_le {a b : Int} (a0 : -2147483648 ≤ a) (a1 : a ≤ 2147483647) (b0 : -2147483648 ≤ b) (b1 : b ≤ 2147483647) : doV 12 a b = truth (decide (a ≤ b)) := by
  rw [doV_in _ _ (by decide) (by decide), wr_id a0 a1, wr_id b0 b1]; simp only [opv, if_true, Int.reduceEq, if_false, truth_wr]
theorem doV_eq {a b : Int} (a0 : -2147483648 ≤ a) (a1 : a ≤ 2147483647) (b0 : -2147483648 ≤ b) (b1 : b ≤ 2147483647) : doV 13 a b = truth (a == b) := by
  rw [doV_in _ _ (by decide) (by decide), wr_id a0 a1, wr_id b0 b1]; simp only [opv, if_true, Int.reduceEq, if_false, truth_wr]
theorem doV_ne {a b : Int} (a0 : -2147483648 ≤ a) (a1 : a ≤ 2147483647) (b0 : -2147483648 ≤ b) (b1 : b ≤ 2147483647) : doV 14 a b = truth (a != b) := by
  rw [doV_in _ _ (by decide) (by decide), wr_id a0 a1, wr_id b0 b1]; simp only [opv, Int.reduceEq, if_false, truth_wr]

/-! ### In the walk's own spelling -/
theorem wrap64_id {n : Int} (a : -9223372036854775808 ≤ n) (b : n ≤ 9223372036854775807) : wrap64 n = n := by unfold wrap64; omega
theorem cmp1 {a b : Int} (a0 : -2147483648 ≤ a) (a1 : a ≤ 2147483647) (b0 : -2147483648 ≤ b) (b1 : b ≤ 2147483647) : (wrap64 (wrap64 (doV 11 a b + doV 11 b a) + doV 13 a b) == 1) = true := by
  rw [doV_lt a0 a1 b0 b1, doV_lt b0 b1 a0 a1, doV_eq a0 a1 b0 b1, beq_iff_eq]
  rcases Int.lt_trichotomy a b with h | h | h
  · have h1 : ¬ b < a := by omega
    have h2 : ¬ a = b := by omega
    simp [truth, h, h1, h2, wrap64]
  · subst h; simp [truth, wrap64]
  · have h1 : ¬ a < b := by omega
    have h2 : ¬ a = b := by omega
    simp [truth, h, h1, h2, wrap64]
theorem cmp2 {a b : Int} (a0 : -2147483648 ≤ a) (a1 : a ≤ 2147483647) (b0 : -2147483648 ≤ b) (b1 : b ≤ 2147483647) : (doV 12 a b == wrap64 (doV 11 a b + doV 13 a b)) = true := by
  rw [doV_lt a0 a1 b0 b1, doV_le a0 a1 b0 b1, doV_eq a0 a1 b0 b1, beq_iff_eq]
  rcases Int.lt_trichotomy a b with h | h | h
  · have h1 : a ≤ b := by omega
    have h2 : ¬ a = b := by omega
    simp [truth, h, h1, h2, wrap64]
  · subst h; simp [truth, wrap64]
  · have h1 : ¬ a < b := by omega
    have h2 : ¬ a = b := by omega
    have h3 : ¬ a ≤ b := by omega
    simp [truth, h1, h2, h3, wrap64]
theorem cmp3 {a b : Int} (a0 : -2147483648 ≤ a) (a1 : a ≤ 2147483647) (b0 : -2147483648 ≤ b) (b1 : b ≤ 2147483647) : (doV 14 a b == wrap64 (1 - doV 13 a b)) = true := by
  rw [doV_ne a0 a1 b0 b1, doV_eq a0 a1 b0 b1, beq_iff_eq, bne]
  cases (a == b) <;> simp [truth, wrap64]
theorem cmp4 {a b : Int} (a0 : -2147483648 ≤ a) (a1 : a ≤ 2147483647) (b0 : -2147483648 ≤ b) (b1 : b ≤ 2147483647) : (doV 11 a b == 1) = decide (a < b) := by
  rw [doV_lt a0 a1 b0 b1]
  cases (decide (a < b)) <;> decide
theorem dv1 {a b : Int} (a0 : -2147483648 ≤ a) (a1 : a ≤ 2147483647) (b0 : -2147483648 ≤ b) (b1 : b ≤ 2147483647) (h : b ≠ 0) : (doV 1 (doV 3 (doV 4 a b) b) (doV 5 a b) != a) = false := by
  rw [div1 a0 a1 b0 b1 h]; simp
theorem dv2 {a b : Int} (a0 : -2147483648 ≤ a) (a1 : a ≤ 2147483647) (b0 : -2147483648 ≤ b) (b1 : b ≤ 2147483647) (h : b ≠ 0) : wrap64 (doV 5 a b * doV 5 a b) < wrap64 (b * b) := by
  have l := doV_lo 5 a b
  have u := doV_hi 5 a b
  have s1 := sq_bound l (by omega) l (by omega)
  have s2 := sq_bound b0 (by omega) b0 (by omega)
  rw [wrap64_id (by omega) (by omega), wrap64_id (by omega) (by omega)]
  exact div2 a0 a1 b0 b1 h
theorem dv3 {a b : Int} (a0 : -2147483648 ≤ a) (a1 : a ≤ 2147483647) (b0 : -2147483648 ≤ b) (b1 : b ≤ 2147483647) (h : b ≠ 0) : 0 ≤ wrap64 (doV 5 a b * a) := by
  have s1 := sq_bound (doV_lo 5 a b) (by have := doV_hi 5 a b; omega) a0 (by omega)
  rw [wrap64_id (by omega) (by omega)]
  exact div3 a0 a1 b0 b1 h
theorem dv4 {a k : Int} (a0 : -2147483648 ≤ a) (a1 : a ≤ 2147483647) (k0 : 0 ≤ k) (k1 : k ≤ 30) : wrap64 (doV 10 a k * wrap64 (2 ^ k.toNat)) ≤ a := by
  have hp := pow_le k0 k1
  have s1 := sq_bound (doV_lo 10 a k) (by have := doV_hi 10 a k; omega) (b := 2 ^ k.toNat) (by omega) (by omega)
  rw [wrap64_id (n := 2 ^ k.toNat) (by omega) (by omega), wrap64_id (by omega) (by omega), shr1 a0 a1 k0 k1]
  exact (shr2 a k.toNat).1
theorem dv5 {a k : Int} (a0 : -2147483648 ≤ a) (a1 : a ≤ 2147483647) (k0 : 0 ≤ k) (k1 : k ≤ 30) : a < wrap64 (wrap64 (doV 10 a k + 1) * wrap64 (2 ^ k.toNat)) := by
  have hp := pow_le k0 k1
  have l := doV_lo 10 a k
  have u := doV_hi 10 a k
  have s1 := sq_bound (a := doV 10 a k + 1) (by omega) (by omega) (b := 2 ^ k.toNat) (by omega) (by omega)
  rw [wrap64_id (n := 2 ^ k.toNat) (by omega) (by omega), wrap64_id (n := doV 10 a k + 1) (by omega) (by omega), wrap64_id (by omega) (by omega), shr1 a0 a1 k0 k1]
  exact (shr2 a k.toNat).2
theorem dv6 {a k : Int} (k0 : 0 ≤ k) (k1 : k ≤ 30) : (doV 9 a k == doV 3 a (wrap64 (2 ^ k.toNat))) = true := by
  have hp := pow_le k0 k1
  rw [wrap64_id (n := 2 ^ k.toNat) (by omega) (by omega), shl1 k0 k1, beq_self_eq_true]
end Go.Proofs.Ytfngcibikmgopaa
