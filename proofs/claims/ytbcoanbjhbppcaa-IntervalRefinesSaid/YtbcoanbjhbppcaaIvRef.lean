/- Plain facts: what Refine keeps, within what it lies, and that its ends have partners. No condition on any program. -/
import Derived.Test.YtbcoanbjhbppcaaIvF
import Derived.Test.YtbcoanbjhbppcaaIvSound
namespace Go.Proofs.Ytbcoanbjhbppcaa
set_option linter.unusedVariables false
def cmB (o a b : Int) : Bool := if o = 11 then decide (a < b) else if o = 12 then decide (a ≤ b) else if o = 13 then a == b else a != b
theorem wr_trI (b : Bool) : wr (trI b) = trI b := by cases b <;> rfl
theorem trI_one (b : Bool) : (trI b == 1) = b := by cases b <;> rfl
theorem dow_cm {o a b : Int} (h1 : 11 ≤ o) (h2 : o ≤ 14) (a1 : -2147483648 ≤ a) (a2 : a ≤ 2147483647) (b1 : -2147483648 ≤ b) (b2 : b ≤ 2147483647) : dow o a b = trI (cmB o a b) := by
  unfold dow
  rw [if_pos (by omega), wr_id a1 a2, wr_id b1 b2]
  have h : o = 11 ∨ o = 12 ∨ o = 13 ∨ o = 14 := by omega
  rcases h with rfl | rfl | rfl | rfl
  · show wr (trI (decide (a < b))) = _; rw [wr_trI]; rfl
  · show wr (trI (decide (a ≤ b))) = _; rw [wr_trI]; rfl
  · show wr (trI (a == b)) = _; rw [wr_trI]; rfl
  · show wr (trI (a != b)) = _; rw [wr_trI]; rfl
/-- Some of five numbers lies between 'r' and 's' and compares with 'n' as said. -/
def pgI (o : Int) (t : Bool) (n r s m : Int) : Bool := decide (r ≤ m) && decide (m ≤ s) && (cmB o n m == t)
def pgAny (o : Int) (t : Bool) (n r s : Int) : Prop := pgI o t n r s r = true ∨ pgI o t n r s s = true ∨ pgI o t n r s n = true ∨ pgI o t n r s (n + 1) = true ∨ pgI o t n r s (n - 1) = true
structure RefOk (o : Int) (t : Bool) (p q r s i k : Int) (X : (Int × Int) × (Int × Int)) : Prop where
  v1 : -2147483648 ≤ X.1.1 ∧ X.1.1 ≤ X.1.2 ∧ X.1.2 ≤ 2147483647
  v2 : -2147483648 ≤ X.2.1 ∧ X.2.1 ≤ X.2.2 ∧ X.2.2 ≤ 2147483647
  i1 : X.1.1 ≤ i ∧ i ≤ X.1.2
  i2 : X.2.1 ≤ k ∧ k ≤ X.2.2
  l1 : p ≤ X.1.1 ∧ X.1.2 ≤ q
  l2 : r ≤ X.2.1 ∧ X.2.2 ≤ s
  g1 : pgAny o t X.1.1 r s
  g2 : pgAny o t X.1.2 r s
theorem fix_in {p q : Int} (hp : -2147483648 ≤ p) (hpq : p ≤ q) (hq : q ≤ 2147483647) : fixI p q = (p, q) := vI_fix (.inr ⟨hp, hpq, hq⟩)
theorem made_le {p q : Int} (h : p ≤ q) : madeI p q = (p, q) := by unfold madeI; rw [if_neg (by omega)]
theorem nn_le {a b c d : Int} (h1 : a ≤ b) (h2 : c ≤ d) : nnI ((a, b), (c, d)) = ((a, b), (c, d)) := by
  unfold nnI
  rw [if_neg]
  simp only
  omega
theorem imin_cases (a b : Int) : (imin a b = a ∧ a ≤ b) ∨ (imin a b = b ∧ b ≤ a) := by unfold imin; split <;> omega
theorem imax_cases (a b : Int) : (imax a b = a ∧ b ≤ a) ∨ (imax a b = b ∧ a ≤ b) := by unfold imax; split <;> omega
theorem pg_iff {o n r s m : Int} {t : Bool} : pgI o t n r s m = true ↔ r ≤ m ∧ m ≤ s ∧ cmB o n m = t := by
  simp only [pgI, Bool.and_eq_true, decide_eq_true_eq, beq_iff_eq]; exact and_assoc
theorem without_of {a b n i : Int} (h1 : a ≤ i) (h2 : i ≤ b) (h3 : i ≠ n) : ∃ c d, withoutI a b n = (c, d) ∧ a ≤ c ∧ c ≤ i ∧ i ≤ d ∧ d ≤ b ∧ (a ≤ n → n ≤ b → c ≤ n → n ≤ d → c ≠ n ∧ d ≠ n) ∧ c ≠ n ∧ d ≠ n := by
  unfold withoutI
  split
  · exact ⟨_, _, made_le (by omega), by omega, by omega, by omega, by omega, by omega, by omega, by omega⟩
  · split
    · exact ⟨_, _, made_le (by omega), by omega, by omega, by omega, by omega, by omega, by omega, by omega⟩
    · exact ⟨_, _, rfl, by omega, by omega, by omega, by omega, by omega, by omega, by omega⟩
section
variable {p q r s i k : Int} (hp : -2147483648 ≤ p) (hi1 : p ≤ i) (hi2 : i ≤ q) (hq : q ≤ 2147483647) (hr : -2147483648 ≤ r) (hk1 : r ≤ k) (hk2 : k ≤ s) (hs : s ≤ 2147483647)
include hp hi1 hi2 hq hr hk1 hk2 hs
theorem ref_lt (t : Bool) (h : decide (i < k) = t) : RefOk 11 t p q r s i k (refF 11 t p q r s) := by
  unfold refF
  rw [if_neg (by omega), if_neg (by omega), if_neg (by omega)]
  cases t
  · have h := of_decide_eq_false h
    show RefOk 11 false p q r s i k (nnI (madeI (imax p r) q, madeI r (imin s q)))
    have c1 := imax_cases p r
    have c2 := imin_cases s q
    rw [made_le (by omega), made_le (by omega), nn_le (by omega) (by omega)]
    refine ⟨by simp only; omega, by simp only; omega, by simp only; omega, by simp only; omega, by simp only; omega, by simp only; omega, ?_, ?_⟩
    · refine .inl (pg_iff.2 ⟨by omega, by omega, ?_⟩)
      show decide (imax p r < r) = false
      exact decide_eq_false (by omega)
    · refine .inl (pg_iff.2 ⟨by omega, by omega, ?_⟩)
      show decide (q < r) = false
      exact decide_eq_false (by omega)
  · have h := of_decide_eq_true h
    show RefOk 11 true p q r s i k (nnI (madeI p (imin q (s - 1)), madeI (imax r (p + 1)) s))
    have c1 := imin_cases q (s - 1)
    have c2 := imax_cases r (p + 1)
    rw [made_le (by omega), made_le (by omega), nn_le (by omega) (by omega)]
    refine ⟨by simp only; omega, by simp only; omega, by simp only; omega, by simp only; omega, by simp only; omega, by simp only; omega, ?_, ?_⟩
    · refine .inr (.inl (pg_iff.2 ⟨by omega, by omega, ?_⟩))
      show decide (p < s) = true
      exact decide_eq_true (by omega)
    · refine .inr (.inl (pg_iff.2 ⟨by omega, by omega, ?_⟩))
      show decide (imin q (s - 1) < s) = true
      exact decide_eq_true (by omega)
theorem ref_le (t : Bool) (h : decide (i ≤ k) = t) : RefOk 12 t p q r s i k (refF 12 t p q r s) := by
  unfold refF
  rw [if_neg (by omega), if_neg (by omega), if_neg (by omega)]
  cases t
  · have h := of_decide_eq_false h
    show RefOk 12 false p q r s i k (nnI (madeI (imax p (r + 1)) q, madeI r (imin s (q - 1))))
    have c1 := imax_cases p (r + 1)
    have c2 := imin_cases s (q - 1)
    rw [made_le (by omega), made_le (by omega), nn_le (by omega) (by omega)]
    refine ⟨by simp only; omega, by simp only; omega, by simp only; omega, by simp only; omega, by simp only; omega, by simp only; omega, ?_, ?_⟩
    · refine .inl (pg_iff.2 ⟨by omega, by omega, ?_⟩)
      show decide (imax p (r + 1) ≤ r) = false
      exact decide_eq_false (by omega)
    · refine .inl (pg_iff.2 ⟨by omega, by omega, ?_⟩)
      show decide (q ≤ r) = false
      exact decide_eq_false (by omega)
  · have h := of_decide_eq_true h
    show RefOk 12 true p q r s i k (nnI (madeI p (imin q s), madeI (imax r p) s))
    have c1 := imin_cases q s
    have c2 := imax_cases r p
    rw [made_le (by omega), made_le (by omega), nn_le (by omega) (by omega)]
    refine ⟨by simp only; omega, by simp only; omega, by simp only; omega, by simp only; omega, by simp only; omega, by simp only; omega, ?_, ?_⟩
    · refine .inr (.inl (pg_iff.2 ⟨by omega, by omega, ?_⟩))
      show decide (p ≤ s) = true
      exact decide_eq_true (by omega)
    · refine .inr (.inl (pg_iff.2 ⟨by omega, by omega, ?_⟩))
      show decide (imin q s ≤ s) = true
      exact decide_eq_true (by omega)
theorem ref_same (h : i = k) : ∀ o t, (∀ a b, cmB o a b = t ↔ a = b) → RefOk o t p q r s i k (nnI (refX 13 true p q r s)) := by
  intro o t ho
  have e1 := fix_in hp (by omega : p ≤ q) hq
  have e2 := fix_in hr (by omega : r ≤ s) hs
  have c1 := imax_cases p r
  have c2 := imin_cases q s
  have m : meetI p q r s = (imax p r, imin q s) := by
    unfold meetI emptyB
    rw [if_neg (by simp only [Bool.or_eq_true, decide_eq_true_eq]; omega)]
    show madeI (imax p r) (imin q s) = _
    exact made_le (by omega)
  show RefOk o t p q r s i k (nnI (meetI (fixI p q).1 (fixI p q).2 (fixI r s).1 (fixI r s).2, meetI (fixI p q).1 (fixI p q).2 (fixI r s).1 (fixI r s).2))
  rw [e1, e2]
  show RefOk o t p q r s i k (nnI (meetI p q r s, meetI p q r s))
  rw [m, nn_le (by omega) (by omega)]
  refine ⟨by simp only; omega, by simp only; omega, by simp only; omega, by simp only; omega, by simp only; omega, by simp only; omega, ?_, ?_⟩
  · exact .inr (.inr (.inl (pg_iff.2 ⟨by simp only; omega, by simp only; omega, (ho _ _).2 rfl⟩)))
  · exact .inr (.inr (.inl (pg_iff.2 ⟨by simp only; omega, by simp only; omega, (ho _ _).2 rfl⟩)))
theorem ref_diff (h : i ≠ k) : ∀ o t, (∀ a b, cmB o a b = t ↔ a ≠ b) → RefOk o t p q r s i k (nnI (refX 13 false p q r s)) := by
  intro o t ho
  show RefOk o t p q r s i k (nnI (if r = s then withoutI p q r else (p, q), if p = q then withoutI r s p else (r, s)))
  obtain ⟨c, d, e1, a1, a2, a3, a4, a5⟩ : ∃ c d, (if r = s then withoutI p q r else (p, q)) = (c, d) ∧ p ≤ c ∧ c ≤ i ∧ i ≤ d ∧ d ≤ q ∧ (r = s → c ≠ r ∧ d ≠ r) := by
    by_cases hrs : r = s
    · rw [if_pos hrs]
      obtain ⟨c, d, h1, h2, h3, h4, h5, _, h6, h7⟩ := without_of (n := r) hi1 hi2 (by omega)
      exact ⟨c, d, h1, h2, h3, h4, h5, fun _ => ⟨h6, h7⟩⟩
    · rw [if_neg hrs]; exact ⟨p, q, rfl, by omega, by omega, by omega, by omega, fun h => absurd h hrs⟩
  obtain ⟨c', d', e2, b1, b2, b3, b4⟩ : ∃ c d, (if p = q then withoutI r s p else (r, s)) = (c, d) ∧ r ≤ c ∧ c ≤ k ∧ k ≤ d ∧ d ≤ s := by
    by_cases hpq : p = q
    · rw [if_pos hpq]
      obtain ⟨c, d, h1, h2, h3, h4, h5, _⟩ := without_of (n := p) hk1 hk2 (by omega)
      exact ⟨c, d, h1, h2, h3, h4, h5⟩
    · rw [if_neg hpq]; exact ⟨r, s, rfl, by omega, by omega, by omega, by omega⟩
  rw [e1, e2, nn_le (by omega) (by omega)]
  have key : ∀ n, (r = s → n ≠ r) → pgAny o t n r s := by
    intro n hn
    by_cases h1 : n = r
    · exact .inr (.inl (pg_iff.2 ⟨by omega, by omega, (ho _ _).2 (by omega)⟩))
    · exact .inl (pg_iff.2 ⟨by omega, by omega, (ho _ _).2 h1⟩)
  exact ⟨by simp only; omega, by simp only; omega, by simp only; omega, by simp only; omega, by simp only; omega, by simp only; omega, key _ fun e => (a5 e).1, key _ fun e => (a5 e).2⟩
theorem ref_ok {o : Int} (o1 : 11 ≤ o) (o2 : o ≤ 14) (t : Bool) (h : cmB o i k = t) : RefOk o t p q r s i k (refF o t p q r s) := by
  have hh : o = 11 ∨ o = 12 ∨ o = 13 ∨ o = 14 := by omega
  rcases hh with rfl | rfl | rfl | rfl
  · exact ref_lt hp hi1 hi2 hq hr hk1 hk2 hs t h
  · exact ref_le hp hi1 hi2 hq hr hk1 hk2 hs t h
  · have e : refF 13 t p q r s = nnI (refX 13 t p q r s) := by
      unfold refF
      rw [if_neg (by omega), if_neg (by omega), if_neg (by omega)]
    rw [e]
    have h' : (i == k) = t := h
    cases t
    · exact ref_diff hp hi1 hi2 hq hr hk1 hk2 hs (by simpa using h') 13 false fun a b => by show (a == b) = false ↔ _; simp
    · exact ref_same hp hi1 hi2 hq hr hk1 hk2 hs (by simpa using h') 13 true fun a b => by show (a == b) = true ↔ _; simp
  · have e : refF 14 t p q r s = nnI (refX 13 (!t) p q r s) := by
      unfold refF
      rw [if_neg (by omega), if_neg (by omega), if_pos rfl]
    rw [e]
    have h' : (i != k) = t := h
    cases t
    · exact ref_same hp hi1 hi2 hq hr hk1 hk2 hs (by simpa using h') 14 false fun a b => by show (a != b) = false ↔ _; simp
    · exact ref_diff hp hi1 hi2 hq hr hk1 hk2 hs (by simpa using h') 14 true fun a b => by show (a != b) = true ↔ _; simp
end
end Go.Proofs.Ytbcoanbjhbppcaa
