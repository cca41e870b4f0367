/- Residues of words, in plain Lean: what the functions of layer 8 compute, and what holds of it. No condition on any program. -/
import Derived.Test.YtbcoanbjhbppcaaDoorCgRes
namespace Go.Proofs.YtbcoanbjhbppcaaDoor
open Go
set_option linter.unusedVariables false
set_option linter.unusedSimpArgs false
set_option linter.unusedSectionVars false

def wr (n : Int) : Int := (n + 2147483648) % 4294967296 - 2147483648
theorem wr_lo (n : Int) : -2147483648 ≤ wr n := by unfold wr; omega
theorem wr_hi (n : Int) : wr n ≤ 2147483647 := by unfold wr; omega
theorem wr_id {n : Int} (a : -2147483648 ≤ n) (b : n ≤ 2147483647) : wr n = n := by unfold wr; omega
theorem wr_dvd (n : Int) {k : Nat} (h : k ≤ 32) : (2 : Int) ^ k ∣ wr n - n := by
  have hd : (2 : Int) ^ k ∣ 4294967296 := two32 ▸ ipow_dvd h
  have e : wr n - n = 4294967296 * (-((n + 2147483648) / 4294967296)) := by unfold wr; omega
  rw [e]
  exact Int.dvd_trans hd (Int.dvd_mul_right _ _)
def isWd (n : Int) : Bool := decide (-2147483648 ≤ n) && decide (n ≤ 2147483647)
theorem isWd_iff {n : Int} : isWd n = true ↔ -2147483648 ≤ n ∧ n ≤ 2147483647 := by unfold isWd; simp
theorem isWd_wr (n : Int) : isWd (wr n) = true := isWd_iff.2 ⟨wr_lo n, wr_hi n⟩
def trI (b : Bool) : Int := if b then 1 else 0
def opW (op x y : Int) : Int :=
  if op = 1 then x + y else if op = 2 then x - y else if op = 3 then x * y
  else if op = 4 then (if y = 0 then 0 else x.tdiv y) else if op = 5 then (if y = 0 then 0 else x.tmod y)
  else if op = 6 then bitI .and .i64 x y else if op = 7 then bitI .or .i64 x y else if op = 8 then bitI .xor .i64 x y
  else if op = 9 then shlI x (y % 32) else if op = 10 then shrI x (y % 32)
  else if op = 11 then trI (decide (x < y)) else if op = 12 then trI (decide (x ≤ y)) else if op = 13 then trI (x == y) else trI (x != y)
def dow (op a b : Int) : Int := if 1 ≤ op ∧ op ≤ 14 then wr (opW op (wr a) (wr b)) else 0
def doeW (op : Int) : Int := if 1 ≤ op ∧ op ≤ 14 then 0 else 6
theorem isWd_dow (op a b : Int) : isWd (dow op a b) = true := by unfold dow; split; exact isWd_wr _; decide

def validR (m r : Int) : Bool := if m = -1 then r == 0 else if m = 0 then isWd r else isP m && decide (0 ≤ r) && decide (r < m)
def fixR (m r : Int) : Int × Int := if validR m r then (m, r) else (1, 0)
def modR (n k : Int) : Int × Int := (2 ^ (imin k 30).toNat, n % 2 ^ (imin k 30).toNat)
def hasR (p q n : Int) : Bool := isWd n && !(p == -1 && q == 0) && (if p = 0 then n == q else (n - q).tmod p == 0)
def leqR (p q r s : Int) : Bool := if p = -1 ∧ q = 0 then true else if p = 0 then hasR r s q else decide (1 ≤ r) && decide (r ≤ p) && (q - s).tmod r == 0
def joinR (p q r s : Int) : Int × Int :=
  if (p = -1 ∧ q = 0) ∨ (p = r ∧ q = s) then (r, s) else if r = -1 ∧ s = 0 then (p, q) else modR q (imin (imin (tzI (q - s)) (tzI p)) (tzI r))
def meetR (p q r s : Int) : Int × Int := if leqR p q r s then (p, q) else if leqR r s p q then (r, s) else (-1, 0)
def wdR (p : Int) : Int := if p = 0 then 32 else tzI p
def doR (op p q r s : Int) : Int × Int :=
  if (p = -1 ∧ q = 0) ∨ (r = -1 ∧ s = 0) then (-1, 0)
  else if ¬ (1 ≤ op ∧ op ≤ 14) then (1, 0)
  else if p = 0 ∧ r = 0 then (0, wr (dow op q s))
  else if op = 1 ∨ op = 2 ∨ op = 3 ∨ op = 6 ∨ op = 7 ∨ op = 8 then modR (dow op q s) (imin (wdR p) (wdR r))
  else if op = 9 ∧ r = 0 then modR (shlI q (s % 32)) (wdR p + s % 32)
  else if (op = 13 ∨ op = 14) ∧ (q - s).tmod (2 ^ (imin (wdR p) (wdR r)).toNat) ≠ 0 then (0, op - 13)
  else (1, 0)

/-- A valid residue. -/
inductive Rs : Int → Int → Prop where
  | none : Rs (-1) 0
  | word {n : Int} (h1 : -2147483648 ≤ n) (h2 : n ≤ 2147483647) : Rs 0 n
  | res {k : Nat} {r : Int} (hk : k ≤ 30) (h1 : 0 ≤ r) (h2 : r < 2 ^ k) : Rs (2 ^ k) r
theorem rs_of_valid {m r : Int} (h : validR m r = true) : Rs m r := by
  unfold validR at h
  split at h
  · rename_i e; subst e
    obtain rfl : r = 0 := by simpa using h
    exact .none
  · split at h
    · rename_i e; subst e
      have := isWd_iff.1 h
      exact .word this.1 this.2
    · simp only [Bool.and_eq_true, decide_eq_true_eq] at h
      obtain ⟨k, hk, rfl⟩ := isP_iff.1 h.1.1
      exact .res hk h.1.2 h.2
theorem valid_of_rs {m r : Int} (h : Rs m r) : validR m r = true := by
  unfold validR
  cases h with
  | none => rfl
  | word h1 h2 => exact isWd_iff.2 ⟨h1, h2⟩
  | @res k r hk h1 h2 =>
    have := ipow_pos k
    rw [if_neg (by omega), if_neg (by omega)]
    simp only [Bool.and_eq_true, decide_eq_true_eq]
    exact ⟨⟨isP_iff.2 ⟨k, hk, rfl⟩, h1⟩, h2⟩
theorem rs_all : Rs 1 0 := .res (k := 0) (by omega) (by omega) (by decide)
theorem rs_fix (m r : Int) : Rs (fixR m r).1 (fixR m r).2 := by
  unfold fixR
  split
  · rename_i h; exact rs_of_valid h
  · exact rs_all
theorem fix_rs {m r : Int} (h : Rs m r) : fixR m r = (m, r) := by unfold fixR; rw [if_pos (valid_of_rs h)]
theorem imin_le (a b : Int) : imin a b ≤ a ∧ imin a b ≤ b ∧ (imin a b = a ∨ imin a b = b) := by unfold imin; split <;> omega
theorem mod_rs (n : Int) {k : Int} (h : 0 ≤ k) : Rs (modR n k).1 (modR n k).2 := by
  unfold modR
  have := imin_le k 30
  have hp := ipow_pos (imin k 30).toNat
  exact .res (by omega) (Int.emod_nonneg _ (by omega)) (Int.emod_lt_of_pos _ hp)
theorem wd_pow {k : Nat} (h : k ≤ 30) : wdR (2 ^ k) = k := by
  have := ipow_pos k
  unfold wdR; rw [if_neg (by omega), tz_pow h]
theorem wd_zero : wdR 0 = 32 := rfl
/-- What is known of a valid residue's numbers, for a walk. -/
theorem rs_bd {p q : Int} (h : Rs p q) : -1 ≤ p ∧ p ≤ 1073741824 ∧ -2147483648 ≤ q ∧ q ≤ 2147483647 ∧ (p = -1 → q = 0) ∧ 0 ≤ wdR p ∧ (0 ≤ p → wdR p ≤ 32) ∧ (1 ≤ p → wdR p ≤ 30) := by
  cases h with
  | none => exact ⟨by omega, by omega, by omega, by omega, fun _ => rfl, by decide, fun h => absurd h (by omega), fun h => absurd h (by omega)⟩
  | word h1 h2 => rw [wd_zero]; omega
  | @res k r hk h1 h2 =>
    have := ipow_pos k
    have := ipow_le hk
    have e : (2 : Int) ^ 30 = 1073741824 := by decide
    rw [wd_pow hk]
    omega
theorem has_none (n : Int) : hasR (-1) 0 n = false := by unfold hasR; simp
theorem has_word {q n : Int} : hasR 0 q n = true ↔ isWd n = true ∧ n = q := by unfold hasR; simp
theorem has_res {k : Nat} {r n : Int} : hasR (2 ^ k) r n = true ↔ isWd n = true ∧ (2 : Int) ^ k ∣ n - r := by
  have := ipow_pos k
  unfold hasR
  rw [if_neg (by omega)]
  have e : ((2 : Int) ^ k == -1) = false := by simp; omega
  rw [e]
  simp [tmod_iff]
theorem has_isWd {p q n : Int} (h : hasR p q n = true) : isWd n = true := by unfold hasR at h; simp only [Bool.and_eq_true] at h; exact h.1.1
/-- A word of a residue is alike to its remainder in all bits that are known. -/
theorem has_dvd {p q n : Int} (h : Rs p q) (hn : hasR p q n = true) {k : Nat} (hk : (k : Int) ≤ wdR p) : (2 : Int) ^ k ∣ n - q := by
  cases h with
  | none => rw [has_none] at hn; cases hn
  | word h1 h2 => rw [(has_word.1 hn).2, Int.sub_self]; exact Int.dvd_zero _
  | @res c r hc h1 h2 =>
    rw [wd_pow hc] at hk
    exact Int.dvd_trans (ipow_dvd (by omega)) (has_res.1 hn).2
theorem has_self {p q : Int} (h : Rs p q) (hn : p ≠ -1) : hasR p q q = true := by
  have hb := rs_bd h
  have hw : isWd q = true := isWd_iff.2 ⟨hb.2.2.1, hb.2.2.2.1⟩
  cases h with
  | none => exact absurd rfl hn
  | word h1 h2 => exact has_word.2 ⟨hw, rfl⟩
  | res hk h1 h2 => exact has_res.2 ⟨hw, by rw [Int.sub_self]; exact Int.dvd_zero _⟩
theorem has_other {k : Nat} {r : Int} (hk : k ≤ 30) (h1 : 0 ≤ r) (h2 : r < 2 ^ k) : hasR (2 ^ k) r (r + 2 ^ k) = true := by
  have := ipow_le hk
  have e : (2 : Int) ^ 30 = 1073741824 := by decide
  refine has_res.2 ⟨isWd_iff.2 ⟨by omega, by omega⟩, ?_⟩
  have e : r + 2 ^ k - r = 2 ^ k := by omega
  rw [e]; exact Int.dvd_refl _
theorem pow_inj {a b : Nat} (h : (2 : Int) ^ a ∣ 2 ^ b) : a ≤ b := by
  rw [← cast_pow, ← cast_pow, Int.natCast_dvd_natCast] at h
  have := pow_dvd_odd (k := a) (c := b) (m := 0)
  simp at this
  exact this.1 h
theorem pow_le_inj {a b : Nat} (h : (2 : Int) ^ a ≤ 2 ^ b) : a ≤ b := by
  apply Classical.byContradiction
  intro hn
  have h1 : (2 : Int) ^ (b + 1) ≤ 2 ^ a := ipow_le (by omega)
  have := ipow_pos b
  rw [Int.pow_succ] at h1
  omega
theorem dvd_left {a b c : Int} (h : a ∣ b) : a ∣ c + b ↔ a ∣ c :=
  ⟨fun x => by have e : c = (c + b) - b := by omega
               rw [e]; exact Int.dvd_sub x h, fun x => Int.dvd_add x h⟩
theorem leq_iff {p q r s : Int} (h : Rs p q) (g : Rs r s) : leqR p q r s = true ↔ ∀ n, hasR p q n = true → hasR r s n = true := by
  unfold leqR
  cases h with
  | none => rw [if_pos ⟨rfl, rfl⟩]; exact ⟨(fun _ n hn => by rw [has_none] at hn; cases hn), fun _ => rfl⟩
  | word h1 h2 =>
    rw [if_neg (by omega), if_pos rfl]
    constructor
    · intro h n hn
      rw [(has_word.1 hn).2]; exact h
    · intro h; exact h _ (has_word.2 ⟨isWd_iff.2 ⟨h1, h2⟩, rfl⟩)
  | @res k _ hk h1 h2 =>
    have hp := ipow_pos k
    rw [if_neg (by omega), if_neg (by omega)]
    simp only [Bool.and_eq_true, decide_eq_true_eq, beq_iff_eq, tmod_iff]
    constructor
    · rintro ⟨⟨a1, a2⟩, a3⟩ n hn
      cases g with
      | none => omega
      | word g1 g2 => omega
      | @res c _ hc g1 g2 =>
        have hck := pow_le_inj a2
        have hn' := has_res.1 hn
        refine has_res.2 ⟨hn'.1, ?_⟩
        have e : n - s = (n - q) + (q - s) := by omega
        rw [e]
        exact Int.dvd_add (Int.dvd_trans (ipow_dvd hck) hn'.2) a3
    · intro h
      have b1 := h _ (has_self (.res hk h1 h2) (by omega))
      have b2 := h _ (has_other hk h1 h2)
      cases g with
      | none => rw [has_none] at b1; cases b1
      | word g1 g2 =>
        have c1 := (has_word.1 b1).2
        have c2 := (has_word.1 b2).2
        omega
      | @res c _ hc g1 g2 =>
        have c1 := (has_res.1 b1).2
        have c2 := (has_res.1 b2).2
        have e : q + 2 ^ k - s = 2 ^ k + (q - s) := by omega
        rw [e] at c2
        have c3 : (2 : Int) ^ c ∣ 2 ^ k := (dvd_left c1).1 c2
        exact ⟨⟨by have := ipow_pos c; omega, ipow_le (pow_inj c3)⟩, c1⟩
theorem leq_refl {p q : Int} (h : Rs p q) : leqR p q p q = true := (leq_iff h h).2 fun _ h => h
theorem leq_all {p q : Int} (h : Rs p q) : leqR p q 1 0 = true := (leq_iff h rs_all).2 fun n hn => (has_res (k := 0)).2 ⟨has_isWd hn, by rw [Int.pow_zero]; exact Int.one_dvd _⟩
theorem has_mod {n k : Int} (h : 0 ≤ k) (m : Int) : hasR (modR n k).1 (modR n k).2 m = true ↔ isWd m = true ∧ (2 : Int) ^ (imin k 30).toNat ∣ m - n := by
  unfold modR
  rw [has_res]
  have e : m - n % 2 ^ (imin k 30).toNat = (m - n) + 2 ^ (imin k 30).toNat * (n / 2 ^ (imin k 30).toNat) := by
    have := Int.mul_ediv_add_emod n (2 ^ (imin k 30).toNat); omega
  rw [e]
  have hd : (2 : Int) ^ (imin k 30).toNat ∣ 2 ^ (imin k 30).toNat * (n / 2 ^ (imin k 30).toNat) := Int.dvd_mul_right _ _
  exact and_congr_right fun _ => dvd_left hd
theorem mod_eq {n m k : Int} (h : (2 : Int) ^ (imin k 30).toNat ∣ m - n) : modR n k = modR m k := by
  unfold modR
  rw [Int.emod_eq_emod_iff_emod_sub_eq_zero.2 (Int.emod_eq_zero_of_dvd h)]
end Go.Proofs.YtbcoanbjhbppcaaDoor
