/- What the operators of words compute, in plain numbers, and the laws that these numbers obey. No condition. -/
import Derived.WalkKit
namespace Go.Proofs.Ytonjbhdfimcedaa
open Go.RowKit

/-- The word of a number. -/
def wr (n : Int) : Int := (n + 2147483648) % 4294967296 - 2147483648
theorem wr_lo (n : Int) : -2147483648 ≤ wr n := by unfold wr; omega
theorem wr_hi (n : Int) : wr n ≤ 2147483647 := by unfold wr; omega
theorem wr_u32 (n : Int) : wrap64 (wrap32 (n % 4294967296)) = wr n := by unfold wr wrap32 wrap64; omega
theorem wr_u64 (n : Int) : wrap64 (wrap32 (IntKind.u64.wrap n % 4294967296)) = wr n := by
  unfold wr wrap32 wrap64; simp [IntKind.wrap, IntKind.bits, IntKind.signed]; omega
theorem wr_id {n : Int} (a : -2147483648 ≤ n) (b : n ≤ 2147483647) : wr n = n := by unfold wr; omega
theorem wr_zero : wr 0 = 0 := by decide
theorem wr_wr (n : Int) : wr (wr n) = wr n := wr_id (wr_lo n) (wr_hi n)
theorem wr_wrap64 (n : Int) : wr (wrap64 n) = wr n := by unfold wr wrap64; omega
theorem wr_congr {a b : Int} (h : a % 4294967296 = b % 4294967296) : wr a = wr b := by unfold wr; omega
theorem wr_mod (a : Int) : wr a % 4294967296 = a % 4294967296 := by unfold wr; omega
theorem wr_add (a b : Int) : wr (wr a + wr b) = wr (a + b) := by unfold wr; omega
theorem wr_sub (a b : Int) : wr (wr a - wr b) = wr (a - b) := by unfold wr; omega
theorem wr_mul (a b : Int) : wr (wr a * wr b) = wr (a * b) := by
  apply wr_congr
  rw [Int.mul_emod, wr_mod, wr_mod, ← Int.mul_emod]

theorem and31 (y : Int) : bits BinOp.and IntKind.i64 y 31 = y % 32 := by
  have h : (BitVec.ofInt 64 y &&& BitVec.ofInt 64 31).toNat = (y % 32).toNat := by
    rw [BitVec.toNat_and]
    have e : (BitVec.ofInt 64 31).toNat = 2 ^ 5 - 1 := by decide
    rw [e, Nat.and_two_pow_sub_one_eq_mod, BitVec.toNat_ofInt]
    have : ((2 ^ 64 : Nat) : Int) = 18446744073709551616 := by decide
    rw [this]; omega
  show IntKind.i64.wrap ((BitVec.ofInt 64 y &&& BitVec.ofInt 64 31).toNat : Int) = _
  rw [h]
  simp [IntKind.wrap, IntKind.bits, IntKind.signed]
  omega

def truth (b : Bool) : Int := if b then 1 else 0
/-- An operator over words, before the result is made a word. -/
def opv (op x y : Int) : Int :=
  if op = 1 then x + y else if op = 2 then x - y else if op = 3 then wrap64 (x * y)
  else if op = 4 then (if y = 0 then 0 else wrap64 (x.tdiv y)) else if op = 5 then (if y = 0 then 0 else x.tmod y)
  else if op = 6 then bits BinOp.and IntKind.i64 x y else if op = 7 then bits BinOp.or IntKind.i64 x y else if op = 8 then bits BinOp.xor IntKind.i64 x y
  else if op = 9 then wrap64 (x * 2 ^ (y % 32).toNat) else if op = 10 then x / 2 ^ (y % 32).toNat
  else if op = 11 then truth (decide (x < y)) else if op = 12 then truth (decide (x ≤ y)) else if op = 13 then truth (x == y) else truth (x != y)
/-- What 'Do' returns: the number, and the error. -/
def doV (op a b : Int) : Int := if 1 ≤ op ∧ op ≤ 14 then wr (opv op (wr a) (wr b)) else 0
def doE (op : Int) : Int := if 1 ≤ op ∧ op ≤ 14 then 0 else 6
theorem doV_in {op : Int} (a b : Int) (h0 : 1 ≤ op) (h1 : op ≤ 14) : doV op a b = wr (opv op (wr a) (wr b)) := if_pos ⟨h0, h1⟩
theorem doV_out {op : Int} (a b : Int) (h : ¬ (1 ≤ op ∧ op ≤ 14)) : doV op a b = 0 := if_neg h
theorem doE_in {op : Int} (h0 : 1 ≤ op) (h1 : op ≤ 14) : doE op = 0 := if_pos ⟨h0, h1⟩
theorem doE_out {op : Int} (h : ¬ (1 ≤ op ∧ op ≤ 14)) : doE op = 6 := if_neg h
theorem doV_lo (op a b : Int) : -2147483648 ≤ doV op a b := by unfold doV; split; exact wr_lo _; omega
theorem doV_hi (op a b : Int) : doV op a b ≤ 2147483647 := by unfold doV; split; exact wr_hi _; omega
end Go.Proofs.Ytonjbhdfimcedaa
