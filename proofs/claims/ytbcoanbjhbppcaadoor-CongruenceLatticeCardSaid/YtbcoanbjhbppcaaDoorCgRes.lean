/- Residues of words, in plain Lean: what the functions of layer 8 compute, and that its reference computes the same. No condition on any program. -/
import Derived.Test.YtbcoanbjhbppcaaDoorCgPure
import Derived.Test.YtbcoanbjhbppcaaDoorSym13
namespace Go.Proofs.YtbcoanbjhbppcaaDoor
open Go
set_option linter.unusedVariables false
set_option linter.unusedSimpArgs false
set_option linter.unusedSectionVars false

def shlI (m n : Int) : Int := m * 2 ^ n.toNat
def shrI (m n : Int) : Int := m.fdiv (2 ^ n.toNat)
theorem shl_one (k : Int) : shlI 1 k = 2 ^ k.toNat := by unfold shlI; omega
theorem pow_le31 {n : Nat} (h : n ≤ 31) : (1 : Int) ≤ 2 ^ n ∧ (2 : Int) ^ n ≤ 2147483648 := by
  have h1 : (2 : Nat) ^ n ≤ 2 ^ 31 := Nat.pow_le_pow_right (by omega) h
  have h2 : 0 < (2 : Nat) ^ n := Nat.pow_pos (by omega)
  have e : (((2 : Nat) ^ n : Nat) : Int) = (2 : Int) ^ n := by rw [Int.natCast_pow]; rfl
  have e31 : (2 : Nat) ^ 31 = 2147483648 := by decide
  rw [e31] at h1
  rw [← e]
  omega
theorem mul_bd {x y : Int} (a : -2147483648 ≤ x) (b : x ≤ 2147483648) (c : -2147483648 ≤ y) (d : y ≤ 2147483648) : -4611686018427387904 ≤ x * y ∧ x * y ≤ 4611686018427387904 := by
  have h1 : 0 ≤ (x + 2147483648) * (y + 2147483648) := Int.mul_nonneg (by omega) (by omega)
  have h2 : 0 ≤ (2147483648 - x) * (2147483648 - y) := Int.mul_nonneg (by omega) (by omega)
  have h3 : 0 ≤ (x + 2147483648) * (2147483648 - y) := Int.mul_nonneg (by omega) (by omega)
  have h4 : 0 ≤ (2147483648 - x) * (y + 2147483648) := Int.mul_nonneg (by omega) (by omega)
  simp only [Int.add_mul, Int.mul_add, Int.sub_mul, Int.mul_sub] at h1 h2 h3 h4
  constructor <;> omega
theorem shl_val {m n : Int} (h0 : 0 ≤ n) (h1 : n ≤ 31) (h2 : -2147483648 ≤ m) (h3 : m ≤ 2147483647) : IntKind.i64.wrap (m * 2 ^ (min n.toNat IntKind.i64.bits)) = shlI m n := by
  have e : min n.toNat IntKind.i64.bits = n.toNat := by show min n.toNat 64 = _; omega
  rw [e]
  have hp := pow_le31 (n := n.toNat) (by omega)
  have := mul_bd h2 (by omega : m ≤ 2147483648) (by omega) hp.2
  exact w64 (by omega) (by omega)
theorem shl_bd {m n : Int} (h0 : 0 ≤ n) (h1 : n ≤ 31) (h2 : -2147483648 ≤ m) (h3 : m ≤ 2147483647) : -4611686018427387904 ≤ shlI m n ∧ shlI m n ≤ 4611686018427387904 := by
  have hp := pow_le31 (n := n.toNat) (by omega)
  exact mul_bd h2 (by omega : m ≤ 2147483648) (by omega) hp.2
theorem shr_val {m n : Int} (h1 : n ≤ 64) : m.fdiv (2 ^ (min n.toNat IntKind.i64.bits)) = shrI m n := by
  have e : min n.toNat IntKind.i64.bits = n.toNat := by show min n.toNat 64 = _; omega
  rw [e]
  rfl
theorem tdiv_bd {p r lo hi : Int} (h1 : lo ≤ p) (h2 : p ≤ hi) (h3 : lo ≤ 0) (h4 : 0 ≤ hi) (h5 : 1 ≤ r) : lo ≤ p.tdiv r ∧ p.tdiv r ≤ hi := by
  by_cases h : 0 ≤ p
  · have e : p.tdiv r = p / r := Int.tdiv_eq_ediv_of_nonneg h
    rw [e]
    have a : 0 ≤ p / r := Int.ediv_nonneg h (by omega)
    have b : p / r ≤ p := Int.ediv_le_self _ h
    omega
  · have e : p.tdiv r = -((-p).tdiv r) := by rw [Int.neg_tdiv]; omega
    have e2 : (-p).tdiv r = (-p) / r := Int.tdiv_eq_ediv_of_nonneg (by omega)
    rw [e, e2]
    have a : 0 ≤ (-p) / r := Int.ediv_nonneg (by omega) (by omega)
    have b : (-p) / r ≤ -p := Int.ediv_le_self _ (by omega)
    omega
theorem tmod_bd (a : Int) {n : Int} (hn : 0 < n) : -n < a.tmod n ∧ a.tmod n < n := by
  by_cases h : 0 ≤ a
  · rw [Int.tmod_eq_emod_of_nonneg h]
    have := Int.emod_nonneg a (by omega : n ≠ 0)
    have := Int.emod_lt_of_pos a hn
    omega
  · have e : a.tmod n = -((-a).tmod n) := by rw [Int.neg_tmod]; omega
    rw [e, Int.tmod_eq_emod_of_nonneg (by omega : 0 ≤ -a)]
    have := Int.emod_nonneg (-a) (by omega : n ≠ 0)
    have := Int.emod_lt_of_pos (-a) hn
    omega
/-- Low bits: how '&' with 2^k - 1 and '%' tell them. -/
theorem bit_and_nat (x y : Int) : bitI .and .i64 x y = IntKind.i64.wrap (((x % 18446744073709551616).toNat &&& (y % 18446744073709551616).toNat : Nat) : Int) := by
  show IntKind.i64.wrap ((BitVec.ofInt 64 x &&& BitVec.ofInt 64 y).toNat : Int) = _
  rw [BitVec.toNat_and, BitVec.toNat_ofInt, BitVec.toNat_ofInt]
  rfl
theorem bit_or_nat (x y : Int) : bitI .or .i64 x y = IntKind.i64.wrap (((x % 18446744073709551616).toNat ||| (y % 18446744073709551616).toNat : Nat) : Int) := by
  show IntKind.i64.wrap ((BitVec.ofInt 64 x ||| BitVec.ofInt 64 y).toNat : Int) = _
  rw [BitVec.toNat_or, BitVec.toNat_ofInt, BitVec.toNat_ofInt]
  rfl
theorem bit_xor_nat (x y : Int) : bitI .xor .i64 x y = IntKind.i64.wrap (((x % 18446744073709551616).toNat ^^^ (y % 18446744073709551616).toNat : Nat) : Int) := by
  show IntKind.i64.wrap ((BitVec.ofInt 64 x ^^^ BitVec.ofInt 64 y).toNat : Int) = _
  rw [BitVec.toNat_xor, BitVec.toNat_ofInt, BitVec.toNat_ofInt]
  rfl
theorem emod_cast (n : Int) (k : Nat) (h : k ≤ 64) : ((n % 18446744073709551616).toNat % 2 ^ k : Nat) = ((n % 2 ^ k).toNat : Nat) := by
  have hp := ipow_pos k
  have e : (((n % 18446744073709551616).toNat % 2 ^ k : Nat) : Int) = n % 2 ^ k := by
    rw [Int.natCast_emod, cast_pow, Int.toNat_of_nonneg (by omega)]
    exact Int.emod_emod_of_dvd _ (two64 ▸ ipow_dvd h)
  have := Int.emod_nonneg n (by omega : (2 : Int) ^ k ≠ 0)
  omega
theorem wrap_emod (n : Int) (k : Nat) (h : k ≤ 64) : IntKind.i64.wrap n % 2 ^ k = n % 2 ^ k := by
  have hd : (2 : Int) ^ k ∣ 18446744073709551616 := two64 ▸ ipow_dvd h
  have e4 : IntKind.i64.wrap n = if (true && decide (n % 18446744073709551616 ≥ 9223372036854775808)) = true then n % 18446744073709551616 - 18446744073709551616 else n % 18446744073709551616 := rfl
  rw [e4]
  simp only [Bool.true_and, decide_eq_true_eq]
  split
  · rw [Int.sub_emod, Int.emod_emod_of_dvd _ hd, Int.emod_eq_zero_of_dvd hd, Int.sub_zero, Int.emod_emod_of_dvd _ (Int.dvd_refl _)]
  · exact Int.emod_emod_of_dvd _ hd
theorem and_mask (n : Int) {k : Nat} (hk : k ≤ 62) : bitI .and .i64 n (2 ^ k - 1) = n % 2 ^ k := by
  have hp := ipow_pos k
  have hle : (2 : Int) ^ k ≤ 2 ^ 62 := ipow_le hk
  have e62 : (2 : Int) ^ 62 = 4611686018427387904 := by decide
  rw [e62] at hle
  rw [bit_and_nat]
  have e : ((2 ^ k - 1 : Int) % 18446744073709551616).toNat = 2 ^ k - 1 := by
    rw [Int.emod_eq_of_lt (by omega) (by omega)]
    have := cast_pow k
    omega
  rw [e, Nat.and_two_pow_sub_one_eq_mod, emod_cast n k (by omega)]
  have := Int.emod_nonneg n (by omega : (2 : Int) ^ k ≠ 0)
  have := Int.emod_lt_of_pos n hp
  rw [Int.toNat_of_nonneg (by omega)]
  exact w64 (by omega) (by omega)
theorem and_isP {m : Int} (h1 : 1 ≤ m) (h2 : m ≤ 1073741824) : (bitI .and .i64 m (m - 1) == 0) = isP m := by
  rw [Bool.eq_iff_iff, isP_iff, beq_iff_eq, bit_and_nat]
  have e1 : (m % 18446744073709551616).toNat = m.toNat := by omega
  have e2 : ((m - 1) % 18446744073709551616).toNat = m.toNat - 1 := by omega
  rw [e1, e2]
  have hlt : m.toNat &&& (m.toNat - 1) < 2 ^ 31 := Nat.and_lt_two_pow _ (by omega)
  rw [w64 (by omega) (by omega)]
  have hc := and_pred m.toNat (by omega)
  constructor
  · intro h
    obtain ⟨k, hk⟩ := hc.1 (by omega)
    have hk30 : k ≤ 30 := by
      apply Classical.byContradiction
      intro hn
      have h31 : 2 ^ 31 ≤ 2 ^ k := Nat.pow_le_pow_right (by decide) (by omega : 31 ≤ k)
      omega
    refine ⟨k, hk30, ?_⟩
    rw [← cast_pow, ← hk]; exact (Int.toNat_of_nonneg (by omega)).symm
  · rintro ⟨k, hk, e⟩
    have h0 : m.toNat &&& (m.toNat - 1) = 0 := hc.2 ⟨k, by rw [e, ← cast_pow, Int.toNat_natCast]⟩
    rw [h0]; rfl
end Go.Proofs.YtbcoanbjhbppcaaDoor
