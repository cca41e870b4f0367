/- Residues of words, in plain Lean: the laws of Do. No condition on any program. -/
import Derived.Test.YtbcoanbjhbppcaaDoorCgLaw2
namespace Go.Proofs.YtbcoanbjhbppcaaDoor
open Go
set_option linter.unusedVariables false
set_option linter.unusedSimpArgs false
set_option linter.unusedSectionVars false

theorem emod_of_dvd {m a b : Int} (h : m ∣ a - b) : a % m = b % m := Int.emod_eq_emod_iff_emod_sub_eq_zero.2 (Int.emod_eq_zero_of_dvd h)
theorem dvd_of_emod {m a b : Int} (h : a % m = b % m) : m ∣ a - b := Int.dvd_of_emod_eq_zero (Int.emod_eq_emod_iff_emod_sub_eq_zero.1 h)
theorem bit_low {op : BinOp} (hop : op = .and ∨ op = .or ∨ op = .xor) {k : Nat} (hk : k ≤ 64) {i j q s : Int} (h1 : (2 : Int) ^ k ∣ i - q) (h2 : (2 : Int) ^ k ∣ j - s) :
    (2 : Int) ^ k ∣ bitI op .i64 i j - bitI op .i64 q s := by
  apply dvd_of_emod
  have a1 := emod_of_dvd h1
  have a2 := emod_of_dvd h2
  have hp := ipow_pos k
  have c1 : (i % 18446744073709551616).toNat % 2 ^ k = (q % 18446744073709551616).toNat % 2 ^ k := by rw [emod_cast i k hk, emod_cast q k hk, a1]
  have c2 : (j % 18446744073709551616).toNat % 2 ^ k = (s % 18446744073709551616).toNat % 2 ^ k := by rw [emod_cast j k hk, emod_cast s k hk, a2]
  have key : ∀ a b : Nat, a % 2 ^ k = b % 2 ^ k → ((a : Nat) : Int) % 2 ^ k = ((b : Nat) : Int) % 2 ^ k := fun a b h => by
    rw [← cast_pow, ← Int.natCast_emod, ← Int.natCast_emod, h]
  have tb : ∀ {a b : Nat}, a % 2 ^ k = b % 2 ^ k → ∀ x, x < k → a.testBit x = b.testBit x := fun {a b} h x hx => by
    have := congrArg (fun n => Nat.testBit n x) h
    simpa [Nat.testBit_mod_two_pow, hx] using this
  rcases hop with rfl | rfl | rfl
  · rw [bit_and_nat, bit_and_nat, wrap_emod _ k hk, wrap_emod _ k hk]
    apply key
    apply Nat.eq_of_testBit_eq
    intro x
    by_cases hx : x < k
    · simp [Nat.testBit_mod_two_pow, Nat.testBit_and, hx, tb c1 x hx, tb c2 x hx]
    · simp [Nat.testBit_mod_two_pow, hx]
  · rw [bit_or_nat, bit_or_nat, wrap_emod _ k hk, wrap_emod _ k hk]
    apply key
    apply Nat.eq_of_testBit_eq
    intro x
    by_cases hx : x < k
    · simp [Nat.testBit_mod_two_pow, Nat.testBit_or, hx, tb c1 x hx, tb c2 x hx]
    · simp [Nat.testBit_mod_two_pow, hx]
  · rw [bit_xor_nat, bit_xor_nat, wrap_emod _ k hk, wrap_emod _ k hk]
    apply key
    apply Nat.eq_of_testBit_eq
    intro x
    by_cases hx : x < k
    · simp [Nat.testBit_mod_two_pow, Nat.testBit_xor, hx, tb c1 x hx, tb c2 x hx]
    · simp [Nat.testBit_mod_two_pow, hx]
def ring (op : Int) : Prop := op = 1 ∨ op = 2 ∨ op = 3 ∨ op = 6 ∨ op = 7 ∨ op = 8
theorem op_low {op : Int} (hop : ring op) {k : Nat} (hk : k ≤ 64) {i j q s : Int} (h1 : (2 : Int) ^ k ∣ i - q) (h2 : (2 : Int) ^ k ∣ j - s) : (2 : Int) ^ k ∣ opW op i j - opW op q s := by
  rcases hop with rfl | rfl | rfl | rfl | rfl | rfl
  · show (2 : Int) ^ k ∣ (i + j) - (q + s)
    have e : (i + j) - (q + s) = (i - q) + (j - s) := by omega
    rw [e]; exact Int.dvd_add h1 h2
  · show (2 : Int) ^ k ∣ (i - j) - (q - s)
    have e : (i - j) - (q - s) = (i - q) - (j - s) := by omega
    rw [e]; exact Int.dvd_sub h1 h2
  · show (2 : Int) ^ k ∣ i * j - q * s
    have e : i * j - q * s = (i - q) * j + (j - s) * q := by rw [Int.sub_mul, Int.sub_mul, Int.mul_comm j q, Int.mul_comm s q]; omega
    rw [e]; exact Int.dvd_add (Int.dvd_mul_of_dvd_left h1) (Int.dvd_mul_of_dvd_left h2)
  · exact bit_low (.inl rfl) hk h1 h2
  · exact bit_low (.inr (.inl rfl)) hk h1 h2
  · exact bit_low (.inr (.inr rfl)) hk h1 h2
theorem wr_word {n : Int} (h : isWd n = true) : wr n = n := by have := isWd_iff.1 h; exact wr_id this.1 this.2
theorem wr_wr (n : Int) : wr (wr n) = wr n := wr_id (wr_lo n) (wr_hi n)
theorem wr_low {k : Nat} (hk : k ≤ 32) {a b : Int} (h : (2 : Int) ^ k ∣ a - b) : (2 : Int) ^ k ∣ wr a - wr b := by
  have e : wr a - wr b = (wr a - a) + (a - b) - (wr b - b) := by omega
  rw [e]; exact Int.dvd_sub (Int.dvd_add (wr_dvd a hk) h) (wr_dvd b hk)
theorem dow_in {op a b : Int} (h : 1 ≤ op ∧ op ≤ 14) : dow op a b = wr (opW op (wr a) (wr b)) := by unfold dow; rw [if_pos h]
theorem ring_in {op : Int} (h : ring op) : 1 ≤ op ∧ op ≤ 14 := by unfold ring at h; omega
theorem dow_low {op : Int} (hop : ring op) {k : Nat} (hk : k ≤ 32) {i j q s : Int} (h1 : (2 : Int) ^ k ∣ i - q) (h2 : (2 : Int) ^ k ∣ j - s) : (2 : Int) ^ k ∣ dow op i j - dow op q s := by
  rw [dow_in (ring_in hop), dow_in (ring_in hop)]
  exact wr_low hk (op_low hop (by omega) (wr_low hk h1) (wr_low hk h2))
theorem shl_low {a : Nat} {c : Int} {i q : Int} (h0 : 0 ≤ c) (h : (2 : Int) ^ a ∣ i - q) : (2 : Int) ^ (a + c.toNat) ∣ shlI i c - shlI q c := by
  unfold shlI
  rw [← Int.sub_mul, Int.pow_add]
  exact Int.mul_dvd_mul h (Int.dvd_refl _)

/-- The ways of Do. -/
inductive Way (op p q r s : Int) : Int × Int → Prop where
  | words (h1 : p = 0) (h2 : r = 0) : Way op p q r s (0, wr (dow op q s))
  | ring (h : ring op) (hn : ¬ (p = 0 ∧ r = 0)) : Way op p q r s (modR (dow op q s) (imin (wdR p) (wdR r)))
  | shl (h : op = 9) (hp : p ≠ 0) (hr : r = 0) : Way op p q r s (modR (shlI q (s % 32)) (wdR p + s % 32))
  | eq (h : op = 13 ∨ op = 14) (hn : ¬ (p = 0 ∧ r = 0)) (hd : ¬ (2 : Int) ^ (imin (wdR p) (wdR r)).toNat ∣ q - s) : Way op p q r s (0, op - 13)
  | all (hn : ¬ (p = 0 ∧ r = 0)) (hr : ¬ ring op) (hs : ¬ (op = 9 ∧ r = 0)) (hd : op = 13 ∨ op = 14 → (2 : Int) ^ (imin (wdR p) (wdR r)).toNat ∣ q - s) : Way op p q r s (1, 0)
theorem do_way {op p q r s : Int} (h : Rs p q) (g : Rs r s) (hp : p ≠ -1) (hr : r ≠ -1) (ho : 1 ≤ op ∧ op ≤ 14) : Way op p q r s (doR op p q r s) := by
  unfold doR
  rw [if_neg (by omega), if_neg (by omega)]
  by_cases h0 : p = 0 ∧ r = 0
  · rw [if_pos h0]; exact .words h0.1 h0.2
  · rw [if_neg h0]
    by_cases h1 : op = 1 ∨ op = 2 ∨ op = 3 ∨ op = 6 ∨ op = 7 ∨ op = 8
    · rw [if_pos h1]; exact .ring h1 h0
    · rw [if_neg h1]
      by_cases h2 : op = 9 ∧ r = 0
      · rw [if_pos h2]; exact .shl h2.1 (by omega) h2.2
      · rw [if_neg h2]
        by_cases h3 : (op = 13 ∨ op = 14) ∧ (q - s).tmod (2 ^ (imin (wdR p) (wdR r)).toNat) ≠ 0
        · rw [if_pos h3]; exact .eq h3.1 h0 (fun x => h3.2 (tmod_iff.2 x))
        · rw [if_neg h3]
          exact .all h0 h1 h2 fun x => Classical.byContradiction fun y => h3 ⟨x, fun z => y (tmod_iff.1 z)⟩
theorem wd_nn {p q : Int} (h : Rs p q) : 0 ≤ wdR p := (rs_bd h).2.2.2.2.2.1
theorem do_rs {op p q r s : Int} (h : Rs p q) (g : Rs r s) : Rs (doR op p q r s).1 (doR op p q r s).2 := by
  by_cases hp : p = -1
  · have := rs_bd h
    unfold doR; rw [if_pos (.inl ⟨hp, this.2.2.2.2.1 hp⟩)]; exact .none
  · by_cases hr : r = -1
    · have := rs_bd g
      unfold doR; rw [if_pos (.inr ⟨hr, this.2.2.2.2.1 hr⟩)]; exact .none
    · by_cases ho : 1 ≤ op ∧ op ≤ 14
      · have w := do_way h g hp hr ho
        generalize doR op p q r s = z at w
        have := wd_nn h
        have := wd_nn g
        have := imin_le (wdR p) (wdR r)
        cases w with
        | words _ _ => exact .word (wr_lo _) (wr_hi _)
        | ring _ _ => exact mod_rs _ (by omega)
        | shl _ _ _ => exact mod_rs _ (by omega)
        | eq _ _ _ => exact .word (by simp only; omega) (by simp only; omega)
        | all _ _ _ _ => exact rs_all
      · unfold doR; rw [if_neg (by omega), if_pos ho]; exact rs_all
theorem has_all {n : Int} (h : isWd n = true) : hasR 1 0 n = true := (has_res (k := 0)).2 ⟨h, by rw [Int.pow_zero]; exact Int.one_dvd _⟩
/-- What two words yield lies in what their residues yield. -/
theorem do_sound {op p q r s i j : Int} (h : Rs p q) (g : Rs r s) (ho : 1 ≤ op ∧ op ≤ 14) (hi : hasR p q i = true) (hj : hasR r s j = true) : hasR (doR op p q r s).1 (doR op p q r s).2 (dow op i j) = true := by
  have hp : p ≠ -1 := fun e => by have := (rs_bd h).2.2.2.2.1 e; subst e this; rw [has_none] at hi; cases hi
  have hr : r ≠ -1 := fun e => by have := (rs_bd g).2.2.2.2.1 e; subst e this; rw [has_none] at hj; cases hj
  have w := do_way h g hp hr ho
  generalize doR op p q r s = z at w
  have n1 := wd_nn h
  have n2 := wd_nn g
  have n3 := imin_le (wdR p) (wdR r)
  have hw := isWd_dow op i j
  cases w with
  | words h1 h2 =>
    subst h1 h2
    rw [(has_word.1 hi).2, (has_word.1 hj).2]
    exact has_word.2 ⟨isWd_dow _ _ _, (wr_word (isWd_dow _ _ _)).symm⟩
  | ring ho' hn =>
    refine (has_mod (by omega) _).2 ⟨hw, ?_⟩
    have := imin_le (imin (wdR p) (wdR r)) 30
    exact dow_low ho' (by omega) (has_dvd h hi (by omega)) (has_dvd g hj (by omega))
  | shl e h1 h2 =>
    subst e h2
    have c := imin_le (wdR p + s % 32) 30
    refine (has_mod (by omega) _).2 ⟨hw, ?_⟩
    have ej := (has_word.1 hj).2
    subst ej
    have wi := wr_word (has_isWd hi)
    have wj := wr_word (has_isWd hj)
    rw [dow_in ho, wi, wj]
    have e9 : opW 9 i j = shlI i (j % 32) := rfl
    rw [e9]
    have l1 := shl_low (a := (wdR p).toNat) (c := j % 32) (by omega) (has_dvd h hi (k := (wdR p).toNat) (by omega))
    have e : wr (shlI i (j % 32)) - shlI q (j % 32) = (wr (shlI i (j % 32)) - shlI i (j % 32)) + (shlI i (j % 32) - shlI q (j % 32)) := by omega
    rw [e]
    exact Int.dvd_add (wr_dvd _ (by omega)) (Int.dvd_trans (ipow_dvd (by omega)) l1)
  | eq e hn hd =>
    have wi := wr_word (has_isWd hi)
    have wj := wr_word (has_isWd hj)
    have hne : i ≠ j := fun e => hd (by
      subst e
      have a := has_dvd h hi (k := (imin (wdR p) (wdR r)).toNat) (by omega)
      have b := has_dvd g hj (k := (imin (wdR p) (wdR r)).toNat) (by omega)
      have e : q - s = (i - s) - (i - q) := by omega
      rw [e]; exact Int.dvd_sub b a)
    have e1 : dow op i j = op - 13 := by
      rw [dow_in ho, wi, wj]
      rcases e with rfl | rfl
      · have : opW 13 i j = trI (i == j) := rfl
        rw [this]
        have : (i == j) = false := by simp [hne]
        rw [this]; rfl
      · have : opW 14 i j = trI (i != j) := rfl
        rw [this]
        have : (i != j) = true := by simp [hne]
        rw [this]; rfl
    exact has_word.2 ⟨hw, e1⟩
  | all _ _ _ _ => exact has_all hw
/-- Fewer words of the operands: fewer words of the result. -/
theorem do_mono {op p q r s p' q' r' s' : Int} (h : Rs p q) (g : Rs r s) (h' : Rs p' q') (g' : Rs r' s') (hp : p' ≠ -1) (hr : r' ≠ -1) (ho : 1 ≤ op ∧ op ≤ 14)
    (l1 : leqR p' q' p q = true) (l2 : leqR r' s' r s = true) : leqR (doR op p' q' r' s').1 (doR op p' q' r' s').2 (doR op p q r s).1 (doR op p q r s).2 = true := by
  have i1 := (leq_iff h' h).1 l1
  have i2 := (leq_iff g' g).1 l2
  have hq := i1 _ (has_self h' hp)
  have hs := i2 _ (has_self g' hr)
  have hp0 : p ≠ -1 := fun e => by have := (rs_bd h).2.2.2.2.1 e; subst e this; rw [has_none] at hq; cases hq
  have hr0 : r ≠ -1 := fun e => by have := (rs_bd g).2.2.2.2.1 e; subst e this; rw [has_none] at hs; cases hs
  have ndo := do_rs (op := op) h g
  have ndo' := do_rs (op := op) h' g'
  -- what is known of the operands
  have w1 : wdR p ≤ wdR p' := by
    rcases above h' hp h i1 with ⟨a, b, _⟩ | ⟨c, hc, e, a, _, _, _⟩
    · rw [a, b]; omega
    · rw [e, wd_pow hc]; unfold wdR; split <;> omega
  have w2 : wdR r ≤ wdR r' := by
    rcases above g' hr g i2 with ⟨a, b, _⟩ | ⟨c, hc, e, a, _, _, _⟩
    · rw [a, b]; omega
    · rw [e, wd_pow hc]; unfold wdR; split <;> omega
  have z1 : p = 0 → p' = 0 ∧ q' = q := fun e => by subst e; rcases above h' hp h i1 with ⟨a, b, c⟩ | ⟨c, hc, e, _⟩; exact ⟨a, c.symm⟩; (have := ipow_pos c; omega)
  have z2 : r = 0 → r' = 0 ∧ s' = s := fun e => by subst e; rcases above g' hr g i2 with ⟨a, b, c⟩ | ⟨c, hc, e, _⟩; exact ⟨a, c.symm⟩; (have := ipow_pos c; omega)
  have n1 := wd_nn h
  have n2 := wd_nn g
  have n1' := wd_nn h'
  have n2' := wd_nn g'
  have n3 := imin_le (wdR p) (wdR r)
  have n3' := imin_le (wdR p') (wdR r')
  have w := do_way h g hp0 hr0 ho
  have w' := do_way h' g' hp hr ho
  by_cases hb : p' = 0 ∧ r' = 0
  · -- two words
    have e' : doR op p' q' r' s' = (0, wr (dow op q' s')) := by
      generalize doR op p' q' r' s' = z at w'
      cases w' <;> first | rfl | (exfalso; omega)
    rw [e']
    refine (leq_iff (by rw [e'] at ndo'; exact ndo') ndo).2 fun n hn => ?_
    rw [(has_word.1 hn).2, wr_word (isWd_dow _ _ _)]
    exact do_sound h g ho hq hs
  · generalize hz : doR op p q r s = z at w ndo
    generalize hz' : doR op p' q' r' s' = z' at w' ndo'
    have hAll : leqR z'.1 z'.2 1 0 = true := leq_all ndo'
    cases w with
    | words a b => exfalso; exact hb ⟨(z1 a).1, (z2 b).1⟩
    | all _ _ _ _ => exact hAll
    | ring ho' hn =>
      cases w' with
      | words a b => exact absurd ⟨a, b⟩ hb
      | ring _ _ =>
        refine (leq_iff ndo' ndo).2 fun n hn => ?_
        obtain ⟨hw, hd⟩ := (has_mod (by omega) _).1 hn
        have c1 := imin_le (imin (wdR p) (wdR r)) 30
        have c2 := imin_le (imin (wdR p') (wdR r')) 30
        refine (has_mod (by omega) _).2 ⟨hw, ?_⟩
        have e : n - dow op q s = (n - dow op q' s') + (dow op q' s' - dow op q s) := by omega
        rw [e]
        exact Int.dvd_add (Int.dvd_trans (ipow_dvd (by omega)) hd) (dow_low ho' (by omega) (has_dvd h hq (by omega)) (has_dvd g hs (by omega)))
      | shl e _ _ => exfalso; unfold ring at ho'; omega
      | eq e _ _ => exfalso; unfold ring at ho'; omega
      | all _ x _ _ => exact absurd ho' x
    | shl e hp1 hr1 =>
      obtain ⟨y1, y2⟩ := z2 hr1
      subst y1 y2
      cases w' with
      | words a b => exact absurd ⟨a, b⟩ hb
      | ring x _ => exfalso; unfold ring at x; omega
      | eq x _ _ => exfalso; omega
      | all _ _ x _ => exfalso; exact x ⟨e, rfl⟩
      | shl _ _ _ =>
        refine (leq_iff ndo' ndo).2 fun n hn => ?_
        have c1 := imin_le (wdR p + s' % 32) 30
        have c2 := imin_le (wdR p' + s' % 32) 30
        obtain ⟨hw, hd⟩ := (has_mod (by omega) _).1 hn
        refine (has_mod (by omega) _).2 ⟨hw, ?_⟩
        have l1 := shl_low (a := (wdR p).toNat) (c := s' % 32) (by omega) (has_dvd h hq (k := (wdR p).toNat) (by omega))
        have e : n - shlI q (s' % 32) = (n - shlI q' (s' % 32)) + (shlI q' (s' % 32) - shlI q (s' % 32)) := by omega
        rw [e]
        exact Int.dvd_add (Int.dvd_trans (ipow_dvd (by omega)) hd) (Int.dvd_trans (ipow_dvd (by omega)) l1)
    | eq e hn hd =>
      have hd' : ¬ (2 : Int) ^ (imin (wdR p') (wdR r')).toNat ∣ q' - s' := fun x => hd (by
        have a := has_dvd h hq (k := (imin (wdR p) (wdR r)).toNat) (by omega)
        have b := has_dvd g hs (k := (imin (wdR p) (wdR r)).toNat) (by omega)
        have e : q - s = (q' - s') - (q' - q) + (s' - s) := by omega
        rw [e]
        exact Int.dvd_add (Int.dvd_sub (Int.dvd_trans (ipow_dvd (by omega)) x) a) b)
      cases w' with
      | words a b => exact absurd ⟨a, b⟩ hb
      | ring x _ => exfalso; unfold ring at x; omega
      | shl x _ _ => exfalso; omega
      | eq _ _ _ => exact leq_refl ndo
      | all _ _ _ x => exact absurd (x e) hd'
/-- Adding and subtracting the same word leads back. -/
theorem do_back {p q c : Int} (h : Rs p q) (hp : p ≠ -1) (hc : isWd c = true) : doR 2 (doR 1 p q 0 c).1 (doR 1 p q 0 c).2 0 c = (p, q) := by
  have hcw := isWd_iff.1 hc
  have wc := wr_word hc
  cases h with
  | none => exact absurd rfl hp
  | word h1 h2 =>
    have e1 : doR 1 0 q 0 c = (0, wr (dow 1 q c)) := by unfold doR; simp
    rw [e1]
    have e2 : ∀ x, doR 2 0 x 0 c = (0, wr (dow 2 x c)) := fun x => by unfold doR; simp
    rw [e2]
    have wq : wr q = q := wr_id h1 h2
    have a1 : dow 1 q c = wr (q + c) := by rw [dow_in (by omega), wq, wc]; rfl
    rw [a1, wr_wr]
    have a2 : dow 2 (wr (q + c)) c = wr (wr (q + c) - c) := by rw [dow_in (by omega), wr_wr, wc]; rfl
    rw [a2, wr_wr]
    have : wr (wr (q + c) - c) = q := by unfold wr; omega
    rw [this]
  | @res k _ hk h1 h2 =>
    have hpos := ipow_pos k
    have hle := ipow_le hk
    have e30 : (2 : Int) ^ 30 = 1073741824 := by decide
    have hne : (2 : Int) ^ k ≠ 0 := by omega
    have hne1 : (2 : Int) ^ k ≠ -1 := by omega
    have kk : imin (imin (wdR (2 ^ k)) (wdR 0)) 30 = k := by rw [wd_pow hk, wd_zero]; unfold imin; split <;> split <;> omega
    have ed : ∀ o x, o = 1 ∨ o = 2 → doR o (2 ^ k) x 0 c = (2 ^ k, dow o x c % 2 ^ k) := fun o x ho => by
      unfold doR
      rw [if_neg (by omega), if_neg (by omega), if_neg (by omega), if_pos (by omega)]
      unfold modR
      rw [kk, Int.toNat_natCast]
    rw [ed 1 q (.inl rfl)]
    simp only
    rw [ed 2 _ (.inr rfl)]
    have wq : wr q = q := wr_id (by omega) (by omega)
    have a1 : dow 1 q c = wr (q + c) := by rw [dow_in (by omega), wq, wc]; rfl
    rw [a1]
    have b0 := Int.emod_nonneg (wr (q + c)) hne
    have b1 := Int.emod_lt_of_pos (wr (q + c)) hpos
    have a2 : dow 2 (wr (q + c) % 2 ^ k) c = wr (wr (q + c) % 2 ^ k - c) := by rw [dow_in (by omega), wr_id (n := wr (q + c) % 2 ^ k) (by omega) (by omega), wc]; rfl
    rw [a2]
    have d1 := wr_dvd (wr (q + c) % 2 ^ k - c) (k := k) (by omega)
    have d2 := wr_dvd (q + c) (k := k) (by omega)
    have d3 : (2 : Int) ^ k ∣ wr (q + c) % 2 ^ k - wr (q + c) := by
      have e : wr (q + c) % 2 ^ k - wr (q + c) = 2 ^ k * (-(wr (q + c) / 2 ^ k)) := by
        have := Int.mul_ediv_add_emod (wr (q + c)) (2 ^ k); rw [Int.mul_neg]; omega
      rw [e]; exact Int.dvd_mul_right _ _
    have d : (2 : Int) ^ k ∣ wr (wr (q + c) % 2 ^ k - c) - q := by
      have e : wr (wr (q + c) % 2 ^ k - c) - q = (wr (wr (q + c) % 2 ^ k - c) - (wr (q + c) % 2 ^ k - c)) + (wr (q + c) % 2 ^ k - wr (q + c)) + (wr (q + c) - (q + c)) := by omega
      rw [e]; exact Int.dvd_add (Int.dvd_add d1 d3) d2
    rw [emod_of_dvd d, Int.emod_eq_of_lt h1 h2]
end Go.Proofs.YtbcoanbjhbppcaaDoor
