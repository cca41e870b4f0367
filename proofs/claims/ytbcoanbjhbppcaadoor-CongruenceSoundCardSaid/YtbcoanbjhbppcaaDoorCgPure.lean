/- Plain arithmetic of residues: powers of two, trailing zeros, and low bits. No condition on any program. -/
import Derived.Lib.TrailingZeros
import Derived.IntWalk
namespace Go.Proofs.YtbcoanbjhbppcaaDoor
open Go
set_option linter.unusedVariables false
set_option linter.unusedSimpArgs false
set_option linter.unusedSectionVars false

theorem pow_dvd_odd {k c m : Nat} : 2 ^ k ∣ 2 ^ c * (2 * m + 1) ↔ k ≤ c := by
  constructor
  · intro h
    apply Classical.byContradiction
    intro hk
    obtain ⟨e, rfl⟩ : ∃ e, k = c + 1 + e := ⟨k - (c + 1), by omega⟩
    have h1 : 2 ^ (c + 1) ∣ 2 ^ c * (2 * m + 1) := Nat.dvd_trans (Nat.pow_dvd_pow 2 (by omega)) h
    rw [Nat.pow_succ] at h1
    have h2 : 2 ∣ 2 * m + 1 := Nat.dvd_of_mul_dvd_mul_left (Nat.pow_pos (by decide)) h1
    omega
  · intro h
    exact Nat.dvd_trans (Nat.pow_dvd_pow 2 h) (Nat.dvd_mul_right _ _)
def tzI (n : Int) : Int := ((Lib.ctz 64 (n % 18446744073709551616).toNat : Nat) : Int)
theorem cast_pow (k : Nat) : (((2 : Nat) ^ k : Nat) : Int) = (2 : Int) ^ k := by rw [Int.natCast_pow]; rfl
theorem ipow_pos (k : Nat) : (0 : Int) < 2 ^ k := Int.pow_pos (by decide)
theorem ipow_dvd {a b : Nat} (h : a ≤ b) : (2 : Int) ^ a ∣ 2 ^ b := by
  rw [← cast_pow, ← cast_pow]; exact Int.natCast_dvd_natCast.2 (Nat.pow_dvd_pow 2 h)
theorem ipow_le {a b : Nat} (h : a ≤ b) : (2 : Int) ^ a ≤ 2 ^ b := by
  rw [← cast_pow, ← cast_pow]; exact Int.ofNat_le.2 (Nat.pow_le_pow_right (by decide) h)
theorem two64 : (18446744073709551616 : Int) = 2 ^ 64 := by decide
theorem two32 : (4294967296 : Int) = 2 ^ 32 := by decide
theorem tz_some {n : Int} (h0 : n % 18446744073709551616 ≠ 0) : ∃ c m : Nat, c < 64 ∧ tzI n = c ∧ (n % 18446744073709551616).toNat = 2 ^ c * (2 * m + 1) := by
  have hx : (n % 18446744073709551616).toNat ≠ 0 := by omega
  obtain ⟨m, hm, hc⟩ := Lib.ctzFrom_spec 64 (n % 18446744073709551616).toNat (by omega) (by omega)
  refine ⟨Lib.ctzFrom 64 (n % 18446744073709551616).toNat, m, hc, ?_, hm⟩
  unfold tzI Lib.ctz
  rw [if_neg hx]
theorem tz_zero : tzI 0 = 64 := by decide
theorem tz_nn (n : Int) : 0 ≤ tzI n := by unfold tzI; omega
theorem tz_le (n : Int) : tzI n ≤ 64 := by
  by_cases h0 : n % 18446744073709551616 = 0
  · unfold tzI Lib.ctz; rw [if_pos (by omega)]; omega
  · obtain ⟨c, m, hc, he, hm⟩ := tz_some h0; omega
/-- A power of two divides a number just up to its trailing zeros. -/
theorem tz_dvd {n : Int} {k : Nat} (hk : k ≤ 63) : (2 : Int) ^ k ∣ n ↔ (k : Int) ≤ tzI n := by
  have e : (2 : Int) ^ k ∣ n ↔ (2 : Int) ^ k ∣ n % 18446744073709551616 := by
    have : (2 : Int) ^ k ∣ 18446744073709551616 := two64 ▸ ipow_dvd (by omega)
    rw [Int.dvd_iff_emod_eq_zero, Int.dvd_iff_emod_eq_zero, Int.emod_emod_of_dvd _ this]
  rw [e]
  by_cases h0 : n % 18446744073709551616 = 0
  · rw [h0]
    have : tzI n = 64 := by unfold tzI Lib.ctz; rw [if_pos (by omega)]; rfl
    rw [this]
    exact ⟨fun _ => by omega, fun _ => Int.dvd_zero _⟩
  · obtain ⟨c, m, hc, he, hm⟩ := tz_some h0
    rw [he]
    have e2 : n % 18446744073709551616 = (((n % 18446744073709551616).toNat : Nat) : Int) := by omega
    rw [e2, hm, ← cast_pow, Int.natCast_dvd_natCast, pow_dvd_odd]
    omega
theorem tz_pow {k : Nat} (hk : k ≤ 30) : tzI (2 ^ k) = k := by
  have h : ∀ k : Fin 31, tzI (2 ^ k.val) = (k.val : Int) := by decide
  exact h ⟨k, by omega⟩
def isP (m : Int) : Bool := (List.range 31).any fun k => m == 2 ^ k
theorem isP_iff {m : Int} : isP m = true ↔ ∃ k : Nat, k ≤ 30 ∧ m = 2 ^ k := by
  unfold isP
  simp only [List.any_eq_true, List.mem_range, beq_iff_eq]
  exact ⟨fun ⟨k, h, e⟩ => ⟨k, by omega, e⟩, fun ⟨k, h, e⟩ => ⟨k, by omega, e⟩⟩
theorem and_pred : ∀ (m : Nat), 1 ≤ m → (m &&& (m - 1) = 0 ↔ ∃ k, m = 2 ^ k) := by
  intro m
  induction m using Nat.strongRecOn with
  | ind m ih =>
    intro h1
    rcases Nat.mod_two_eq_zero_or_one m with hm | hm
    · obtain ⟨q, rfl⟩ : ∃ q, m = 2 * q := ⟨m / 2, by omega⟩
      have ihq := ih q (by omega) (by omega)
      have e : 2 * q &&& (2 * q - 1) = 2 * (q &&& (q - 1)) := by
        apply Nat.eq_of_testBit_eq
        intro i
        have e1 : 2 * q - 1 = 2 * (q - 1) + 1 := by omega
        rw [e1]
        cases i with
        | zero => simp
        | succ i =>
          have a1 : 2 * q / 2 = q := by omega
          have a2 : (2 * (q - 1) + 1) / 2 = q - 1 := by omega
          have a3 : 2 * (q &&& (q - 1)) / 2 = q &&& (q - 1) := by omega
          rw [Nat.testBit_and, Nat.testBit_succ, Nat.testBit_succ, Nat.testBit_succ, a1, a2, a3, Nat.testBit_and]
      rw [e]
      constructor
      · intro h
        obtain ⟨k, rfl⟩ := ihq.1 (by omega)
        exact ⟨k + 1, by rw [Nat.pow_succ]; omega⟩
      · intro ⟨k, hk⟩
        cases k with
        | zero => simp at hk; omega
        | succ k =>
          have : q &&& (q - 1) = 0 := ihq.2 ⟨k, by rw [Nat.pow_succ] at hk; omega⟩
          omega
    · obtain ⟨q, rfl⟩ : ∃ q, m = 2 * q + 1 := ⟨m / 2, by omega⟩
      have e : (2 * q + 1) &&& (2 * q + 1 - 1) = 2 * q := by
        apply Nat.eq_of_testBit_eq
        intro i
        rw [Nat.add_sub_cancel]
        cases i with
        | zero => simp
        | succ i =>
          have a1 : 2 * q / 2 = q := by omega
          have a2 : (2 * q + 1) / 2 = q := by omega
          rw [Nat.testBit_and, Nat.testBit_succ, Nat.testBit_succ, a1, a2, Bool.and_self]
      rw [e]
      constructor
      · intro h
        exact ⟨0, by simp; omega⟩
      · intro ⟨k, hk⟩
        cases k with
        | zero => simp at hk; omega
        | succ k => rw [Nat.pow_succ] at hk; omega

/-- The least k with m at most 2^k, from k on. -/
def clogN (m : Int) : Nat → Nat → Nat
  | 0, k => k
  | f + 1, k => if (2 : Int) ^ k < m then clogN m f (k + 1) else k
def bitsR (m : Int) : Int := if m = 0 then 32 else ((clogN m 30 0 : Nat) : Int)
theorem clog_le (m : Int) : ∀ f k, clogN m f k ≤ k + f
  | 0, k => by simp [clogN]
  | f + 1, k => by unfold clogN; split; (have := clog_le m f (k + 1); omega); omega
theorem clog_pow {j : Nat} : ∀ (f k : Nat), k ≤ j → j ≤ k + f → clogN (2 ^ j) f k = j
  | 0, k, h1, h2 => by simp [clogN]; omega
  | f + 1, k, h1, h2 => by
    unfold clogN
    by_cases h : k = j
    · subst h; rw [if_neg (by omega)]
    · have : (2 : Int) ^ (k + 1) ≤ 2 ^ j := ipow_le (by omega)
      rw [Int.pow_succ] at this
      have := ipow_pos k
      rw [if_pos (by omega)]
      exact clog_pow f (k + 1) (by omega) (by omega)
theorem clog_is {m : Int} (h : m ≤ 2 ^ 30) : ∀ (f k : Nat), k + f = 30 → m ≤ 2 ^ clogN m f k
  | 0, k, h2 => by simp only [clogN]; obtain rfl : k = 30 := by omega
                   exact h
  | f + 1, k, h2 => by
    unfold clogN
    split
    · exact clog_is h f (k + 1) (by omega)
    · omega
theorem bits_pow {k : Nat} (hk : k ≤ 30) : bitsR (2 ^ k) = k := by
  unfold bitsR
  have := ipow_pos k
  rw [if_neg (by omega), clog_pow 30 0 (by omega) (by omega)]
theorem bits_bd {m : Int} (h : 1 ≤ m) : 0 ≤ bitsR m ∧ bitsR m ≤ 30 := by
  unfold bitsR
  rw [if_neg (by omega)]
  have := clog_le m 30 0
  omega
theorem bits_isP {m : Int} (h : 1 ≤ m) : ((2 : Int) ^ (bitsR m).toNat == m) = isP m := by
  rw [Bool.eq_iff_iff, isP_iff, beq_iff_eq]
  constructor
  · intro e
    have := bits_bd h
    exact ⟨(bitsR m).toNat, by omega, e.symm⟩
  · rintro ⟨k, hk, rfl⟩
    rw [bits_pow hk]; rfl
def downN (d : Int) : Nat → Nat
  | 0 => 0
  | k + 1 => if d.tmod (2 ^ (k + 1)) = 0 then k + 1 else downN d k
theorem tmod_iff {d m : Int} : d.tmod m = 0 ↔ m ∣ d := ⟨Int.dvd_of_tmod_eq_zero, Int.tmod_eq_zero_of_dvd⟩
theorem down_eq {d : Int} : ∀ {k : Nat}, k ≤ 63 → (downN d k : Int) = min (k : Int) (tzI d)
  | 0, _ => by have := tz_nn d; simp [downN]; omega
  | k + 1, hk => by
    unfold downN
    have e : d.tmod (2 ^ (k + 1)) = 0 ↔ ((k + 1 : Nat) : Int) ≤ tzI d := tmod_iff.trans (tz_dvd hk)
    split
    · rename_i h; have := e.1 h; omega
    · rename_i h
      have h' : ¬ ((k + 1 : Nat) : Int) ≤ tzI d := fun x => h (e.2 x)
      rw [down_eq (by omega)]
      omega
end Go.Proofs.YtbcoanbjhbppcaaDoor
