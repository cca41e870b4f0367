/- Plain facts on terms, rows and models. No condition on any program. -/
import Derived.Test.YtkageldgmkajbaaVP
namespace Go.Proofs.Ytkageldgmkajbaa
set_option linter.unusedSimpArgs false
set_option linter.unusedSectionVars false
set_option linter.unusedVariables false
open Go.RowKit
/-- The column of the term before. -/
def prT (l : List Term) : Nat → Int
  | 0 => -1
  | n + 1 => (gt (c := .term) l n).of_
def tm1 (c m p : Int) (t : Term) : Bool := decide (0 ≤ t.of_ ∧ t.of_ < c ∧ t.co ≠ 0 ∧ -m ≤ t.co ∧ t.co ≤ m ∧ p < t.of_)
/-- Terms ascend and keep to limits. -/
def tmB (c m : Int) (l : List Term) : Bool := allN (fun i => tm1 c m (prT l i) (gt (c := .term) l i)) l.length
theorem tm1_t {c m p : Int} {t : Term} (h : 0 ≤ t.of_ ∧ t.of_ < c ∧ t.co ≠ 0 ∧ -m ≤ t.co ∧ t.co ≤ m ∧ p < t.of_) : tm1 c m p t = true := decide_eq_true h
theorem tm1_f {c m p : Int} {t : Term} (h : ¬ (0 ≤ t.of_ ∧ t.of_ < c ∧ t.co ≠ 0 ∧ -m ≤ t.co ∧ t.co ≤ m ∧ p < t.of_)) : tm1 c m p t = false := decide_eq_false h
theorem tm1_is {c m p : Int} {t : Term} (h : tm1 c m p t = true) : 0 ≤ t.of_ ∧ t.of_ < c ∧ t.co ≠ 0 ∧ -m ≤ t.co ∧ t.co ≤ m ∧ p < t.of_ := of_decide_eq_true h
theorem pr_or {l : List Term} {n : Nat} : (n = 0 ∧ prT l n = -1) ∨ (0 < n ∧ prT l n = (gt (c := .term) l ((n : Int) - 1).toNat).of_) := by
  cases n with
  | zero => exact .inl ⟨rfl, rfl⟩
  | succ n => exact .inr ⟨Nat.succ_pos _, by rw [show (((n + 1 : Nat) : Int) - 1).toNat = n by omega]; rfl⟩
theorem tmB_at {c m : Int} {l : List Term} (h : tmB c m l = true) {i : Nat} (hi : i < l.length) : 0 ≤ (gt (c := .term) l i).of_ ∧ (gt (c := .term) l i).of_ < c ∧ (gt (c := .term) l i).co ≠ 0 ∧ -m ≤ (gt (c := .term) l i).co ∧ (gt (c := .term) l i).co ≤ m ∧ prT l i < (gt (c := .term) l i).of_ := tm1_is (allN_at h hi)
theorem tmB_iff {c m : Int} {l : List Term} : tmB c m l = true ↔ ∀ i, i < l.length → 0 ≤ (gt (c := .term) l i).of_ ∧ (gt (c := .term) l i).of_ < c ∧ (gt (c := .term) l i).co ≠ 0 ∧ -m ≤ (gt (c := .term) l i).co ∧ (gt (c := .term) l i).co ≤ m ∧ prT l i < (gt (c := .term) l i).of_ :=
  ⟨fun h i hi => tmB_at h hi, fun h => allN_iff.2 fun i hi => tm1_t (h i hi)⟩
theorem tmB_nil {c m : Int} : tmB c m [] = true := rfl
theorem tmB_mono {c m c' m' : Int} {l : List Term} (h : tmB c m l = true) (hc : c ≤ c') (hm : m ≤ m') : tmB c' m' l = true := tmB_iff.2 fun i hi => by
  have := tmB_at h hi
  omega
/-- The terms ascend, so their number is at most that of columns. -/
theorem tmB_len {c m : Int} {l : List Term} (h : tmB c m l = true) : (l.length : Int) ≤ c ∨ l = [] := by
  have key : ∀ i, i < l.length → (i : Int) ≤ (gt (c := .term) l i).of_ := by
    intro i
    induction i with
    | zero => intro hi; have := tmB_at h hi; exact this.1
    | succ i ih =>
      intro hi
      have h1 := ih (by omega)
      have h2 := (tmB_at h hi).2.2.2.2.2
      have e : prT l (i + 1) = (gt (c := .term) l i).of_ := rfl
      omega
  cases hl : l.length with
  | zero => exact .inr (List.length_eq_zero_iff.1 hl)
  | succ n =>
    have h1 := key n (by omega)
    have h2 := tmB_at h (i := n) (by omega)
    left; omega
/-- Behind the last term. -/
def lstT (l : List Term) : Int := prT l l.length
theorem lst_nil : lstT [] = -1 := rfl
theorem pr_app {l m : List Term} {i : Nat} (h : i ≤ l.length) : prT (l ++ m) i = prT l i := by
  cases i with
  | zero => rfl
  | succ i => show (gt (c := .term) (l ++ m) i).of_ = _; rw [gt_app1 (c := .term) (by omega)]; rfl
theorem lst_snoc {l : List Term} {t : Term} : lstT (l ++ [t]) = t.of_ := by
  unfold lstT
  rw [List.length_append, List.length_singleton]
  show (gt (c := .term) (l ++ [t]) l.length).of_ = _
  rw [gt_snoc (c := .term)]
theorem tmB_snoc {c m : Int} {l : List Term} {t : Term} (h : tmB c m l = true) (ht : 0 ≤ t.of_ ∧ t.of_ < c ∧ t.co ≠ 0 ∧ -m ≤ t.co ∧ t.co ≤ m ∧ lstT l < t.of_) : tmB c m (l ++ [t]) = true := tmB_iff.2 fun i hi => by
  rw [List.length_append, List.length_singleton] at hi
  rcases Nat.lt_succ_iff_lt_or_eq.1 hi with h1 | h1
  · rw [gt_app1 (c := .term) h1, pr_app (by omega)]; exact tmB_at h h1
  · subst h1
    rw [gt_snoc (c := .term), pr_app (Nat.le_refl _)]; exact ht
theorem pr_set {l : List Term} {k i : Nat} {t : Term} (h : t.of_ = (gt (c := .term) l k).of_) : prT (l.set k t) i = prT l i := by
  cases i with
  | zero => rfl
  | succ i =>
    show (gt (c := .term) (l.set k t) i).of_ = (gt (c := .term) l i).of_
    by_cases e : i = k
    · subst e
      by_cases hi : i < l.length
      · rw [gt_set_eq (c := .term) hi, h]
      · rw [List.set_eq_of_length_le (by omega)]
    · rw [gt_set_ne (c := .term) e]
theorem tmB_set {c m : Int} {l : List Term} {k : Nat} {t : Term} (h : tmB c m l = true) (hk : k < l.length) (ht : t.of_ = (gt (c := .term) l k).of_) (hc : t.co ≠ 0 ∧ -m ≤ t.co ∧ t.co ≤ m) : tmB c m (l.set k t) = true := tmB_iff.2 fun i hi => by
  rw [List.length_set] at hi
  rw [pr_set ht]
  have h1 := tmB_at h hi
  by_cases e : i = k
  · subst e
    rw [gt_set_eq (c := .term) hi, ht]
    omega
  · rw [gt_set_ne (c := .term) e]; exact h1
/-- A row keeps to limits. -/
def rwB (c e m : Int) (r : Row) : Bool := tmB c e r.te && decide (-m ≤ r.mo ∧ r.mo ≤ m)
def rwsB (c e m : Int) (l : List Row) : Bool := allN (fun i => rwB c e m (gt (c := .row) l i)) l.length
theorem rwB_is {c e m : Int} {r : Row} (h : rwB c e m r = true) : tmB c e r.te = true ∧ -m ≤ r.mo ∧ r.mo ≤ m := by
  unfold rwB at h
  rw [Bool.and_eq_true, decide_eq_true_eq] at h
  exact h
theorem rwB_t {c e m : Int} {r : Row} (h : tmB c e r.te = true) (h2 : -m ≤ r.mo ∧ r.mo ≤ m) : rwB c e m r = true := by
  unfold rwB; rw [h, decide_eq_true h2]; rfl
theorem rwsB_at {c e m : Int} {l : List Row} (h : rwsB c e m l = true) {i : Nat} (hi : i < l.length) : rwB c e m (gt (c := .row) l i) = true := allN_at h hi
theorem rwsB_iff {c e m : Int} {l : List Row} : rwsB c e m l = true ↔ ∀ r ∈ l, rwB c e m r = true := by
  unfold rwsB
  rw [allN_iff]
  constructor
  · intro h r hr
    obtain ⟨i, hi, rfl⟩ := gt_mem (c := .row) hr
    exact h i hi
  · intro h i hi
    exact h _ (mem_gt (c := .row) hi)
theorem rwsB_nil {c e m : Int} : rwsB c e m [] = true := rfl
theorem rwsB_snoc {c e m : Int} {l : List Row} {r : Row} (h : rwsB c e m l = true) (hr : rwB c e m r = true) : rwsB c e m (l ++ [r]) = true := rwsB_iff.2 fun q hq => by
  rcases List.mem_append.1 hq with hq | hq
  · exact rwsB_iff.1 h q hq
  · rw [List.mem_singleton] at hq; subst hq; exact hr
/-- A model. -/
structure Mdl where
  cols : Int
  rows : List Row
  goal : List Term
  cst : Int
/-- A model that is made, or made and boxed. -/
structure Gd (m : Mdl) : Prop where
  c : 0 ≤ m.cols ∧ m.cols ≤ 6
  g : tmB m.cols 9 m.goal = true
  k : -9 ≤ m.cst ∧ m.cst ≤ 9
  n : m.rows.length ≤ 16
  r : rwsB m.cols 9 50 m.rows = true
end Go.Proofs.Ytkageldgmkajbaa
