/- Plain facts: narrower intervals have narrower results. No condition on any program. -/
import Derived.Test.YtbcoanbjhbppcaaIvSound
namespace Go.Proofs.Ytbcoanbjhbppcaa
set_option linter.unusedVariables false
theorem le_min4 {l a b c d : Int} (h1 : l ≤ a) (h2 : l ≤ b) (h3 : l ≤ c) (h4 : l ≤ d) : l ≤ minL a [b, c, d] := by
  simp only [minL, List.foldl, imin]
  repeat' split
  all_goals omega
theorem max4_le {l a b c d : Int} (h1 : a ≤ l) (h2 : b ≤ l) (h3 : c ≤ l) (h4 : d ≤ l) : maxL a [b, c, d] ≤ l := by
  simp only [maxL, List.foldl, imax]
  repeat' split
  all_goals omega
theorem around_mono {x y : Int} {xs ys : List Int} (h1 : minL y ys ≤ minL x xs) (h2 : maxL x xs ≤ maxL y ys) (h3 : minL x xs ≤ maxL x xs) : (aroundI y ys).1 ≤ (aroundI x xs).1 ∧ (aroundI x xs).2 ≤ (aroundI y ys).2 := by
  have b := around_bd x xs
  by_cases h : (isW (minL y ys) && isW (maxL y ys)) = true
  · have h' := h
    simp only [Bool.and_eq_true] at h'
    have i1 := isW_of h'.1
    have i2 := isW_of h'.2
    have k : (isW (minL x xs) && isW (maxL x xs)) = true := by
      simp only [isW, Bool.and_eq_true, decide_eq_true_eq]; omega
    unfold aroundI
    rw [if_pos h, if_pos k]
    exact ⟨h1, h2⟩
  · have e : aroundI y ys = (-2147483648, 2147483647) := by unfold aroundI; rw [if_neg h]
    rw [e]; exact b
theorem maskN_mono {n n' : Int} (h : n ≤ n') : ∀ (k : Nat) (m : Int), 0 ≤ m → maskN n k m ≤ maskN n' k m ∧ m ≤ maskN n' k m
  | 0, m, h0 => by unfold maskN; omega
  | k + 1, m, h0 => by
    have a := maskN_mono h k (2 * m + 1) (by omega)
    unfold maskN
    by_cases c : m < n
    · rw [if_pos c, if_pos (by omega)]; omega
    · rw [if_neg c]
      by_cases c' : m < n'
      · rw [if_pos c']; omega
      · rw [if_neg c']; omega
theorem mask_mono {n n' : Int} (h : n ≤ n') : maskI n ≤ maskI n' := (maskN_mono h 32 0 (by decide)).1
theorem truth_mono {a n a' n' : Bool} (h1 : a = true → a' = true) (h2 : n = true → n' = true) (h3 : a' = true → n' = true → False) : (truthI a n).1 ≤ (truthI a' n').1 ∧ (truthI a' n').2 ≤ (truthI a n).2 := by
  cases a <;> cases n <;> cases a' <;> cases n' <;> simp_all [truthI]
theorem corners {f : Int → Int → Int} {P Q R S p q r s : Int}
    (h : ∀ x y, P ≤ x → x ≤ Q → R ≤ y → y ≤ S → minL (f P R) [f P S, f Q R, f Q S] ≤ f x y ∧ f x y ≤ maxL (f P R) [f P S, f Q R, f Q S])
    (a1 : P ≤ p) (a2 : p ≤ q) (a3 : q ≤ Q) (b1 : R ≤ r) (b2 : r ≤ s) (b3 : s ≤ S) :
    (aroundI (f P R) [f P S, f Q R, f Q S]).1 ≤ (aroundI (f p r) [f p s, f q r, f q s]).1 ∧ (aroundI (f p r) [f p s, f q r, f q s]).2 ≤ (aroundI (f P R) [f P S, f Q R, f Q S]).2 := by
  have e1 := h p r a1 (by omega) b1 (by omega)
  have e2 := h p s a1 (by omega) (by omega) b3
  have e3 := h q r (by omega) a3 b1 (by omega)
  have e4 := h q s (by omega) a3 (by omega) b3
  refine around_mono (le_min4 e1.1 e2.1 e3.1 e4.1) (max4_le e1.2 e2.2 e3.2 e4.2) ?_
  simp only [minL, maxL, List.foldl, imin, imax]
  repeat' split
  all_goals omega
theorem dd {p q r s : Int} (h1 : -2147483648 ≤ p) (h2 : p ≤ q) (h3 : q ≤ 2147483647) (h4 : -2147483648 ≤ r) (h5 : r ≤ s) (h6 : s ≤ 2147483647) : disj p q r s = true ↔ (q < r ∨ s < p) := by
  have f1 := vI_fix (p := p) (q := q) (.inr ⟨by omega, by omega, by omega⟩)
  have f2 := vI_fix (p := r) (q := s) (.inr ⟨by omega, by omega, by omega⟩)
  have e : meetI p q r s = madeI (imax p r) (imin q s) := by
    unfold meetI emptyB
    rw [if_neg (by simp only [Bool.or_eq_true, decide_eq_true_eq]; omega)]
    rfl
  unfold disj
  rw [f1, f2]
  simp only [decide_eq_true_eq]
  rw [e]
  unfold madeI imin imax
  constructor
  · intro h
    (repeat' split at h) <;> simp only at h <;> omega
  · intro h
    (repeat' split) <;> simp only <;> omega
theorem mono {op P Q R S p q r s : Int} (o1 : 1 ≤ op) (o2 : op ≤ 14) (hP : -2147483648 ≤ P) (a1 : P ≤ p) (a2 : p ≤ q) (a3 : q ≤ Q) (hQ : Q ≤ 2147483647) (hR : -2147483648 ≤ R) (b1 : R ≤ r) (b2 : r ≤ s) (b3 : s ≤ S) (hS : S ≤ 2147483647) :
    (doF op P Q R S).1 ≤ (doF op p q r s).1 ∧ (doF op p q r s).2 ≤ (doF op P Q R S).2 := by
  have n1 : ¬ (Q < P ∨ S < R) := by omega
  have n2 : ¬ (q < p ∨ s < r) := by omega
  have bd := do_bd (op := op) (p := p) (q := q) (r := r) (s := s) o1 o2 (by omega) (by omega) (by omega) (by omega) a2 b2
  have two : ∀ {x y u v : Int}, x ≤ y → u ≤ x → y ≤ v → (aroundI u [v]).1 ≤ (aroundI x [y]).1 ∧ (aroundI x [y]).2 ≤ (aroundI u [v]).2 := by
    intro x y u v h1 h2 h3
    refine around_mono ?_ ?_ ?_ <;> simp only [minL, maxL, List.foldl, imin, imax] <;> repeat' split
    all_goals omega
  have E : ∀ P Q R S p q r s : Int, ¬ (Q < P ∨ S < R) → ¬ (q < p ∨ s < r) → P ≤ p → q ≤ Q → R ≤ r → s ≤ S → eqA P Q R S = true → eqA p q r s = true := by
    intro P Q R S p q r s n1 n2 a1 a3 b1 b3 h
    simp only [eqA, Bool.and_eq_true, beq_iff_eq] at h ⊢
    omega
  have D : disj P Q R S = true → disj p q r s = true := by
    rw [dd hP (by omega) hQ hR (by omega) hS, dd (by omega) a2 (by omega) (by omega) b2 (by omega)]
    omega
  have X : eqA p q r s = true → disj p q r s = true → False := by
    rw [dd (by omega) a2 (by omega) (by omega) b2 (by omega)]
    simp only [eqA, Bool.and_eq_true, beq_iff_eq]
    omega
  have cs : op = 1 ∨ op = 2 ∨ op = 3 ∨ op = 4 ∨ op = 5 ∨ op = 6 ∨ op = 7 ∨ op = 8 ∨ op = 9 ∨ op = 10 ∨ op = 11 ∨ op = 12 ∨ op = 13 ∨ op = 14 := by omega
  rcases cs with rfl | rfl | rfl | rfl | rfl | rfl | rfl | rfl | rfl | rfl | rfl | rfl | rfl | rfl
  · rw [d1 n1, d1 n2]; exact two (by omega) (by omega) (by omega)
  · rw [d2 n1, d2 n2]; exact two (by omega) (by omega) (by omega)
  · rw [d3 n1, d3 n2]; exact corners (f := fun x y => x * y) (fun x y c1 c2 c3 c4 => mul_between c1 c2 c3 c4) a1 a2 a3 b1 b2 b3
  · rw [d4 n1]
    by_cases c : 1 ≤ R
    · rw [d4 n2, if_pos c, if_pos (by omega)]
      exact corners (f := fun x y => x.tdiv y) (fun x y c1 c2 c3 c4 => div_between c1 c2 c3 c4 c) a1 a2 a3 b1 b2 b3
    · rw [if_neg c]; exact bd
  · rw [d5 n1]
    by_cases c : 1 ≤ R
    · rw [d5 n2, if_pos c, if_pos (by omega)]
      unfold remI imax imin
      simp only
      constructor <;> repeat' split
      all_goals omega
    · rw [if_neg c]; exact bd
  · rw [d6 n1]
    have m2 : imin q s ≤ imin Q S ∧ imin q s ≤ q ∧ imin q s ≤ s := by unfold imin; ((repeat' split) <;> omega)
    by_cases c : 0 ≤ P <;> by_cases c' : 0 ≤ R
    · rw [d6 n2, if_pos ⟨c, c'⟩, if_pos (by omega)]; simp only; omega
    · rw [d6 n2, if_neg (by omega), if_pos c]; split
      · simp only; omega
      · rw [if_pos (by omega)]; simp only; omega
    · rw [d6 n2, if_neg (by omega), if_neg c, if_pos c']; split
      · simp only; omega
      · rw [if_neg (by omega), if_pos (by omega)]; simp only; omega
    · rw [if_neg (by omega), if_neg c, if_neg c']; exact bd
  · rw [d7 n1]
    by_cases c : 0 ≤ P ∧ 0 ≤ R
    · rw [d7 n2, if_pos c, if_pos (by omega)]
      exact ⟨by simp only [imax]; ((repeat' split) <;> omega), mask_mono (by unfold imax; ((repeat' split) <;> omega))⟩
    · rw [if_neg c]; exact bd
  · rw [d8 n1]
    by_cases c : 0 ≤ P ∧ 0 ≤ R
    · rw [d8 n2, if_pos c, if_pos (by omega)]
      exact ⟨by simp only; omega, mask_mono (by unfold imax; ((repeat' split) <;> omega))⟩
    · rw [if_neg c]; exact bd
  · rw [d9 n1]
    by_cases c : R = S ∧ 0 ≤ R ∧ R ≤ 31 ∧ 0 ≤ P ∧ isW (shlI Q R) = true
    · obtain ⟨c1, c2, c3, c4, c5⟩ := c
      have er : r = R := by omega
      have es : s = R := by omega
      subst er es
      have pp := pow_pos' s.toNat
      have w := isW_of c5
      have m1 : shlI P s ≤ shlI p s := Int.mul_le_mul_of_nonneg_right a1 (by omega)
      have m2 : shlI p s ≤ shlI q s := Int.mul_le_mul_of_nonneg_right a2 (by omega)
      have m3 : shlI q s ≤ shlI Q s := Int.mul_le_mul_of_nonneg_right a3 (by omega)
      have m4 : 0 ≤ shlI P s := Int.mul_nonneg c4 (by omega)
      rw [d9 n2, if_pos ⟨c1, c2, c3, c4, c5⟩, if_pos ⟨rfl, c2, c3, by omega, by simp only [isW, Bool.and_eq_true, decide_eq_true_eq]; omega⟩]
      exact ⟨m1, m3⟩
    · rw [if_neg c]; exact bd
  · rw [d10 n1]
    by_cases c : 0 ≤ R ∧ S ≤ 31
    · rw [d10 n2, if_pos c, if_pos (by omega)]
      exact corners (f := fun x y => shrI x y) (fun x y c1 c2 c3 c4 => shr_between c1 c2 c3 c4 c.1) a1 a2 a3 b1 b2 b3
    · rw [if_neg c, d10 n2]
      by_cases c' : 0 ≤ r ∧ s ≤ 31
      · rw [if_pos c']
        have k1 := shr_any (p := P) (q := Q) (x := p) r (by omega) (by omega)
        have k2 := shr_any (p := P) (q := Q) (x := p) s (by omega) (by omega)
        have k3 := shr_any (p := P) (q := Q) (x := q) r (by omega) (by omega)
        have k4 := shr_any (p := P) (q := Q) (x := q) s (by omega) (by omega)
        have u1 := le_min4 k1.1 k2.1 k3.1 k4.1
        have u2 := max4_le k1.2 k2.2 k3.2 k4.2
        have lo : -2147483648 ≤ imin P 0 := by unfold imin; split <;> omega
        have hi : imax Q 0 ≤ 2147483647 := by unfold imax; split <;> omega
        have mm : minL (shrI p r) [shrI p s, shrI q r, shrI q s] ≤ maxL (shrI p r) [shrI p s, shrI q r, shrI q s] := by
          simp only [minL, maxL, List.foldl, imin, imax]
          repeat' split
          all_goals omega
        unfold aroundI
        rw [if_pos (by simp only [isW, Bool.and_eq_true, decide_eq_true_eq]; omega)]
        exact ⟨u1, u2⟩
      · rw [if_neg c']
        simp only [imin, imax]
        constructor <;> repeat' split
        all_goals omega
  · rw [d11 n1, d11 n2]; refine truth_mono ?_ ?_ ?_ <;> simp only [decide_eq_true_eq] <;> omega
  · rw [d12 n1, d12 n2]; refine truth_mono ?_ ?_ ?_ <;> simp only [decide_eq_true_eq] <;> omega
  · rw [d13 n1, d13 n2]; exact truth_mono (E P Q R S p q r s n1 n2 a1 a3 b1 b3) D X
  · rw [d14 n1, d14 n2]; exact truth_mono D (E P Q R S p q r s n1 n2 a1 a3 b1 b3) (fun u v => X v u)
end Go.Proofs.Ytbcoanbjhbppcaa
