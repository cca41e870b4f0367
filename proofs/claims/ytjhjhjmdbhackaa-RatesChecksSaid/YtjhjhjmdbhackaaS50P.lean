/- Plain facts on lists of disturbances: form, distances, checks. No condition on any program. -/
import Derived.Test.YtjhjhjmdbhackaaS49P
namespace Go.Proofs.Ytjhjhjmdbhackaa
set_option linter.unusedSimpArgs false
set_option linter.unusedSectionVars false
set_option linter.unusedVariables false
open Go.RowKit
/-- The time of the one before. -/
def preD (l : List Dist) : Nat → Int
  | 0 => 0
  | n + 1 => (gt (c := .dist) l n).tm
def frmD (l : List Dist) : Nat → Bool
  | 0 => true
  | n + 1 => frmD l n && formD (preD l n) (gt (c := .dist) l n)
theorem frm_zero {l : List Dist} : frmD l 0 = true := rfl
theorem pre_zero {l : List Dist} : preD l 0 = 0 := rfl
theorem frm_yes {l : List Dist} {n : Nat} (h : frmD l n = true) (g : formD (preD l n) (gt (c := .dist) l n) = true) : frmD l (n + 1) = true := by
  show (frmD l n && _) = true
  rw [h, g]; rfl
theorem frm_at {l : List Dist} : ∀ {m n : Nat}, frmD l m = true → n < m → formD (preD l n) (gt (c := .dist) l n) = true
  | 0, _, _, h => absurd h (Nat.not_lt_zero _)
  | m + 1, n, h, hn => by
    have h' : (frmD l m && formD (preD l m) (gt (c := .dist) l m)) = true := h
    rw [Bool.and_eq_true] at h'
    rcases Nat.lt_succ_iff_lt_or_eq.1 hn with h1 | h1
    · exact frm_at h'.1 h1
    · subst h1; exact h'.2
theorem frm_no {l : List Dist} {n m : Nat} (hn : n < m) (h : formD (preD l n) (gt (c := .dist) l n) = false) : frmD l m = false := by
  cases hf : frmD l m with
  | false => rfl
  | true => rw [frm_at hf hn] at h; cases h
theorem formD_bd {b : Int} {d : Dist} (h : formD b d = true) : 0 ≤ d.tm ∧ d.tm ≤ 16777216 ∧ 1 ≤ d.kind ∧ d.kind ≤ 3 := by
  unfold formD at h
  rw [Bool.and_eq_true, decide_eq_true_eq] at h
  omega
theorem pre_or {l : List Dist} {n : Nat} : (n = 0 ∧ preD l n = 0) ∨ (0 < n ∧ preD l n = (gt (c := .dist) l ((n : Int) - 1).toNat).tm) := by
  cases n with
  | zero => exact .inl ⟨rfl, rfl⟩
  | succ n => exact .inr ⟨Nat.succ_pos _, by rw [show (((n + 1 : Nat) : Int) - 1).toNat = n by omega]; rfl⟩
theorem formD_bad {b : Int} {d : Dist} (h : d.tm < 0 ∨ 16777216 < d.tm ∨ d.tm < b ∨ d.kind < 1 ∨ 3 < d.kind ∨ d.set < 0 ∨ d.place < 0 ∨ (d.kind ≠ 3 ∧ (d.set ≠ 0 ∨ d.place ≠ 0))) : formD b d = false := by
  unfold formD
  by_cases h1 : 0 ≤ d.tm ∧ d.tm ≤ 16777216 ∧ b ≤ d.tm ∧ 1 ≤ d.kind ∧ d.kind ≤ 3
  · rw [decide_eq_true h1, Bool.true_and]
    split
    · rw [decide_eq_false_iff_not]; omega
    · rw [decide_eq_false_iff_not]; omega
  · rw [decide_eq_false h1, Bool.false_and]
theorem formD_good {b : Int} {d : Dist} (h : 0 ≤ d.tm ∧ d.tm ≤ 16777216 ∧ b ≤ d.tm ∧ 1 ≤ d.kind ∧ d.kind ≤ 3 ∧ 0 ≤ d.set ∧ 0 ≤ d.place ∧ (d.kind = 3 ∨ (d.set = 0 ∧ d.place = 0))) : formD b d = true := by
  unfold formD
  rw [decide_eq_true (by omega), Bool.true_and]
  split
  · rw [decide_eq_true_eq]; omega
  · rw [decide_eq_true_eq]; omega
/-- So many times, from place n back, are so far apart. -/
def farN (m : Nat) (d : Int) (l : List Int) : Nat → Bool
  | 0 => true
  | n + 1 => farN m d l n && (decide (l.length ≤ n + m) || decide (d ≤ gt (c := .int) l (n + m) - gt (c := .int) l n))
def refN (m : Nat) (d : Int) (l : List Int) : Nat → Bool
  | 0 => true
  | n + 1 => refN m d l n && (decide (n < m) || decide (d ≤ gt (c := .int) l n - gt (c := .int) l (n - m)))
theorem farN_zero {m : Nat} {d : Int} {l : List Int} : farN m d l 0 = true := rfl
theorem refN_zero {m : Nat} {d : Int} {l : List Int} : refN m d l 0 = true := rfl
def farP (m d : Int) (l : List Int) : Bool := if d = 0 ∨ m = 0 then decide (l.length = 0) else farN m.toNat d l l.length
theorem farN_iff {m : Nat} {d : Int} {l : List Int} : ∀ {k : Nat}, farN m d l k = true ↔ ∀ i, i < k → l.length ≤ i + m ∨ d ≤ gt (c := .int) l (i + m) - gt (c := .int) l i
  | 0 => by simp [farN]
  | k + 1 => by
    have ih := farN_iff (m := m) (d := d) (l := l) (k := k)
    show (farN m d l k && _) = true ↔ _
    rw [Bool.and_eq_true, Bool.or_eq_true, decide_eq_true_eq, decide_eq_true_eq, ih]
    constructor
    · rintro ⟨h1, h2⟩ i hi
      rcases Nat.lt_succ_iff_lt_or_eq.1 hi with h3 | h3
      · exact h1 i h3
      · subst h3; exact h2
    · intro h
      exact ⟨fun i hi => h i (by omega), h k (by omega)⟩
theorem refN_iff {m : Nat} {d : Int} {l : List Int} : ∀ {k : Nat}, refN m d l k = true ↔ ∀ i, i < k → i < m ∨ d ≤ gt (c := .int) l i - gt (c := .int) l (i - m)
  | 0 => by simp [refN]
  | k + 1 => by
    have ih := refN_iff (m := m) (d := d) (l := l) (k := k)
    show (refN m d l k && _) = true ↔ _
    rw [Bool.and_eq_true, Bool.or_eq_true, decide_eq_true_eq, decide_eq_true_eq, ih]
    constructor
    · rintro ⟨h1, h2⟩ i hi
      rcases Nat.lt_succ_iff_lt_or_eq.1 hi with h3 | h3
      · exact h1 i h3
      · subst h3; exact h2
    · intro h
      exact ⟨fun i hi => h i (by omega), h k (by omega)⟩
theorem far_ref {m : Nat} {d : Int} {l : List Int} : farN m d l l.length = refN m d l l.length := by
  apply Bool.eq_iff_iff.2
  rw [farN_iff, refN_iff]
  constructor
  · intro h i hi
    by_cases h1 : i < m
    · exact .inl h1
    · rcases h (i - m) (by omega) with h2 | h2
      · omega
      · rw [show i - m + m = i by omega] at h2; exact .inr h2
  · intro h i hi
    by_cases h1 : l.length ≤ i + m
    · exact .inl h1
    · rcases h (i + m) (by omega) with h2 | h2
      · omega
      · rw [show i + m - m = i by omega] at h2; exact .inr h2
theorem farN_no {m : Nat} {d : Int} {l : List Int} {i k : Nat} (hi : i < k) (h1 : i + m < l.length) (h2 : ¬ d ≤ gt (c := .int) l (i + m) - gt (c := .int) l i) : farN m d l k = false := by
  cases h : farN m d l k with
  | false => rfl
  | true => rcases farN_iff.1 h i hi with h3 | h3 <;> omega
theorem farN_yes {m : Nat} {d : Int} {l : List Int} {n : Nat} (h : farN m d l n = true) (g : l.length ≤ n + m ∨ d ≤ gt (c := .int) l (n + m) - gt (c := .int) l n) : farN m d l (n + 1) = true := farN_iff.2 fun i hi => by
  rcases Nat.lt_succ_iff_lt_or_eq.1 hi with h3 | h3
  · exact farN_iff.1 h i h3
  · subst h3; exact g
theorem refN_no {m : Nat} {d : Int} {l : List Int} {i k : Nat} (hi : i < k) (h1 : m ≤ i) (h2 : ¬ d ≤ gt (c := .int) l i - gt (c := .int) l (i - m)) : refN m d l k = false := by
  cases h : refN m d l k with
  | false => rfl
  | true => rcases refN_iff.1 h i hi with h3 | h3 <;> omega
theorem refN_yes {m : Nat} {d : Int} {l : List Int} {n : Nat} (h : refN m d l n = true) (g : n < m ∨ d ≤ gt (c := .int) l n - gt (c := .int) l (n - m)) : refN m d l (n + 1) = true := refN_iff.2 fun i hi => by
  rcases Nat.lt_succ_iff_lt_or_eq.1 hi with h3 | h3
  · exact refN_iff.1 h i h3
  · subst h3; exact g
def refP (m d : Int) (l : List Int) : Bool := if d = 0 then decide (l.length = 0) else refN m.toNat d l l.length
theorem refP_eq {m d : Int} {l : List Int} (h : 0 < m) : refP m d l = farP m d l := by
  unfold refP farP
  by_cases h1 : d = 0
  · rw [if_pos h1, if_pos (.inl h1)]
  · rw [if_neg h1, if_neg (by omega), far_ref]
theorem farP_nil {m d : Int} {l : List Int} (h : d = 0 ∨ m = 0) : farP m d l = decide (l.length = 0) := if_pos h
theorem farP_far {m d : Int} {l : List Int} (h : ¬ (d = 0 ∨ m = 0)) : farP m d l = farN m.toNat d l l.length := if_neg h
theorem refP_nil {m d : Int} {l : List Int} (h : d = 0) : refP m d l = decide (l.length = 0) := if_pos h
theorem refP_far {m d : Int} {l : List Int} (h : ¬ d = 0) : refP m d l = refN m.toNat d l l.length := if_neg h
theorem far_z {m d : Int} {l : List Int} (h : m = 0) (h2 : l.length = 0) : farP m d l = true := by rw [farP_nil (.inr h), decide_eq_true h2]
theorem far_n {m d : Int} {l : List Int} (h : m = 0) (h2 : 0 < l.length) : farP m d l = false := by rw [farP_nil (.inr h), decide_eq_false (by omega)]
/-- The times of a kind among the first n. -/
def timD (k : Int) (l : List Dist) : Nat → List Int
  | 0 => []
  | n + 1 => if (gt (c := .dist) l n).kind = k then timD k l n ++ [(gt (c := .dist) l n).tm] else timD k l n
theorem tim_zero {k : Int} {l : List Dist} : timD k l 0 = [] := rfl
theorem tim_yes {k : Int} {l : List Dist} {n : Nat} (h : (gt (c := .dist) l n).kind = k) : timD k l n ++ [(gt (c := .dist) l n).tm] = timD k l (n + 1) := (if_pos h).symm
theorem tim_no {k : Int} {l : List Dist} {n : Nat} (h : ¬ (gt (c := .dist) l n).kind = k) : timD k l n = timD k l (n + 1) := (if_neg h).symm
theorem tim_len {k : Int} {l : List Dist} : ∀ n, (timD k l n).length ≤ n
  | 0 => Nat.le_refl _
  | n + 1 => by
    have := tim_len (k := k) (l := l) n
    show (if _ then _ else _ : List Int).length ≤ _
    split
    · rw [List.length_append, List.length_singleton]; omega
    · omega
theorem tim_bd {k : Int} {l : List Dist} {m : Nat} (h : frmD l m = true) : ∀ n, n ≤ m → ∀ x ∈ timD k l n, (0 : Int) ≤ x ∧ x ≤ 16777216
  | 0, _, x, hx => by cases hx
  | n + 1, hn, x, hx => by
    have ih := tim_bd (k := k) h n (by omega)
    by_cases hk : (gt (c := .dist) l n).kind = k
    · rw [← tim_yes hk] at hx
      rcases List.mem_append.1 hx with hx | hx
      · exact ih x hx
      · rw [List.mem_singleton] at hx
        subst hx
        have := formD_bd (frm_at h (show n < m by omega))
        exact ⟨this.1, this.2.1⟩
    · rw [← tim_no hk] at hx
      exact ih x hx
theorem gt_bd {xs : List Int} (h : ∀ x ∈ xs, (0 : Int) ≤ x ∧ x ≤ 16777216) (i : Nat) : @LE.le Int _ 0 (gt (c := .int) xs i) ∧ @LE.le Int _ (gt (c := .int) xs i) 16777216 := by
  by_cases hi : i < xs.length
  · have := gt_at (c := .int) hi
    exact h _ (List.mem_of_getElem? this)
  · have e : gt (c := .int) xs i = (0 : Int) := by
      unfold gt
      rw [List.getD_eq_getElem?_getD, List.getElem?_eq_none (by omega)]
      rfl
    rw [e]
    exact ⟨Int.le_refl _, by show (0 : Int) ≤ 16777216; omega⟩
/-- The answer of a check. -/
def chkD (v : Bool) (d p wi er : Int) (l : List Dist) : Int :=
  if v = false ∨ 200 < l.length then 10 else if frmD l l.length = false then 10 else if farP 1 d (timD 1 l l.length) = true ∧ farP 1 p (timD 2 l l.length) = true ∧ farP er wi (timD 3 l l.length) = true then 0 else 39
theorem chk_v {v : Bool} {d p wi er : Int} {l : List Dist} (h : v = false ∨ 200 < l.length) : chkD v d p wi er l = 10 := if_pos h
theorem chk_f {v : Bool} {d p wi er : Int} {l : List Dist} (h : frmD l l.length = false) : chkD v d p wi er l = 10 := by
  unfold chkD
  by_cases h0 : v = false ∨ 200 < l.length
  · rw [if_pos h0]
  · rw [if_neg h0, if_pos h]
theorem chk_ok {v : Bool} {d p wi er : Int} {l : List Dist} (h0 : ¬ (v = false ∨ 200 < l.length)) (h : frmD l l.length = true) (h1 : farP 1 d (timD 1 l l.length) = true) (h2 : farP 1 p (timD 2 l l.length) = true) (h3 : farP er wi (timD 3 l l.length) = true) : chkD v d p wi er l = 0 := by
  unfold chkD
  rw [if_neg h0, if_neg (by rw [h]; simp), if_pos ⟨h1, h2, h3⟩]
theorem chk_no {v : Bool} {d p wi er : Int} {l : List Dist} (h0 : ¬ (v = false ∨ 200 < l.length)) (h : frmD l l.length = true) (h1 : farP 1 d (timD 1 l l.length) = false ∨ farP 1 p (timD 2 l l.length) = false ∨ farP er wi (timD 3 l l.length) = false) : chkD v d p wi er l = 39 := by
  unfold chkD
  rw [if_neg h0, if_neg (by rw [h]; simp), if_neg]
  rintro ⟨g1, g2, g3⟩
  rcases h1 with h1 | h1 | h1
  · rw [g1] at h1; cases h1
  · rw [g2] at h1; cases h1
  · rw [g3] at h1; cases h1
end Go.Proofs.Ytjhjhjmdbhackaa
