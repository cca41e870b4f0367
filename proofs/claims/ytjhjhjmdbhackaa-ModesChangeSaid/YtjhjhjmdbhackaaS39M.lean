/- Facts on rates. -/
import Derived.Test.YtjhjhjmdbhackaaWE
namespace Go.Proofs.Ytjhjhjmdbhackaa
open Go.RowKit
set_option linter.unusedVariables false
set_option linter.unusedSimpArgs false
set_option linter.unusedSectionVars false
theorem rate_bd {d de p pa wi er : Int} (h : RateOk d de p pa wi er) : (0 ≤ d ∧ d ≤ 259) ∧ (0 ≤ de ∧ de ≤ 7) ∧ (0 ≤ p ∧ p ≤ 279) ∧ (0 ≤ pa ∧ pa ≤ 3) ∧ (0 ≤ wi ∧ wi ≤ 299) ∧ 0 ≤ er ∧ er ≤ 2 := by
  obtain ⟨_, _, _, _, _, _, _, _, _, _⟩ := h
  omega
theorem times_zero (d : Int) : timesI 0 d = 0 := by
  unfold timesI
  split
  · rfl
  · simp [imin, imax]
theorem times_mono {t d : Int} (h0 : 0 ≤ t) : timesI t d ≤ timesI (t + 1) d := by
  by_cases hd : d ≤ 0
  · unfold timesI; rw [if_pos hd, if_pos hd]; omega
  · rw [← timesI_ceil h0 (by omega), ← timesI_ceil (by omega) (by omega)]
    exact Int.ediv_le_ediv (by omega) (by omega)
theorem times_sub {t s d : Int} (h0 : 0 ≤ t) (h1 : 0 ≤ s) : timesI (t + s) d ≤ timesI t d + timesI s d := by
  by_cases hd : d ≤ 0
  · unfold timesI; rw [if_pos hd, if_pos hd, if_pos hd]; omega
  · have hd' : 0 < d := by omega
    rw [← timesI_ceil h0 hd', ← timesI_ceil h1 hd', ← timesI_ceil (by omega) hd']
    have e1 := Int.mul_ediv_add_emod (t + d - 1) d
    have e2 := Int.mul_ediv_add_emod (s + d - 1) d
    have m1 := Int.emod_lt_of_pos (t + d - 1) hd'
    have m2 := Int.emod_lt_of_pos (s + d - 1) hd'
    generalize (t + d - 1) / d = a at *
    generalize (s + d - 1) / d = b at *
    have key : (t + s + d - 1) / d < a + b + 1 := by
      apply Int.ediv_lt_of_lt_mul hd'
      have : (a + b + 1) * d = d * a + d * b + d := by rw [Int.add_mul, Int.add_mul, Int.one_mul, Int.mul_comm a, Int.mul_comm b]
      rw [this]
      omega
    omega
theorem most_zero (de d pa p er wi m : Int) : mostI de d pa p er wi m 0 = 0 := by
  unfold mostI
  rw [times_zero, times_zero, times_zero]
  simp
theorem most_mono {de d pa p er wi m t : Int} (h0 : 0 ≤ t) (h1 : 0 ≤ de) (h2 : 0 ≤ pa) (h3 : 0 ≤ er) (h4 : 0 ≤ m) : mostI de d pa p er wi m t ≤ mostI de d pa p er wi m (t + 1) := by
  unfold mostI
  have a := Int.mul_le_mul_of_nonneg_left (times_mono (d := d) h0) h1
  have b := Int.mul_le_mul_of_nonneg_left (times_mono (d := p) h0) h2
  have c := Int.mul_le_mul_of_nonneg_left (times_mono (d := wi) h0) (Int.mul_nonneg h4 h3)
  omega
theorem most_sub {de d pa p er wi m t s : Int} (h0 : 0 ≤ t) (hs : 0 ≤ s) (h1 : 0 ≤ de) (h2 : 0 ≤ pa) (h3 : 0 ≤ er) (h4 : 0 ≤ m) : mostI de d pa p er wi m (t + s) ≤ mostI de d pa p er wi m t + mostI de d pa p er wi m s := by
  unfold mostI
  have a := Int.mul_le_mul_of_nonneg_left (times_sub (d := d) h0 hs) h1
  have b := Int.mul_le_mul_of_nonneg_left (times_sub (d := p) h0 hs) h2
  have c := Int.mul_le_mul_of_nonneg_left (times_sub (d := wi) h0 hs) (Int.mul_nonneg h4 h3)
  rw [Int.mul_add] at a b c
  omega
theorem most_bd {de d pa p er wi m t : Int} (_ : 0 ≤ t) (_ : t ≤ 1073741824) (_ : 0 ≤ de) (_ : de ≤ 16777216) (_ : 0 ≤ pa) (_ : pa ≤ 16777216) (_ : 0 ≤ er) (_ : er ≤ 200) (_ : 0 ≤ m) (_ : m ≤ 16777216) : 0 ≤ mostI de d pa p er wi m t ∧ mostI de d pa p er wi m t ≤ 4000000000000000000 := by
  have b1 := timesI_bd (t := t) (d := d) (by omega)
  have b2 := timesI_bd (t := t) (d := p) (by omega)
  have b3 := timesI_bd (t := t) (d := wi) (by omega)
  have q1 := mul_le_of (a := de) (b := timesI t d) (A := 16777216) (B := 1073741825) (by omega) (by omega) (by omega) (by omega)
  have q2 := mul_le_of (a := pa) (b := timesI t p) (A := 16777216) (B := 1073741825) (by omega) (by omega) (by omega) (by omega)
  have q0 := mul_le_of (a := m) (b := er) (A := 16777216) (B := 200) (by omega) (by omega) (by omega) (by omega)
  have q3 := mul_le_of (a := m * er) (b := timesI t wi) (A := 3355443200) (B := 1073741825) (by omega) (by omega) (by omega) (by omega)
  unfold mostI
  omega
end Go.Proofs.Ytjhjhjmdbhackaa
