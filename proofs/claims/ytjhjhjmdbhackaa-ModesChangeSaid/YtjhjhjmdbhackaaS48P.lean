/- Plain facts on releases: a part of those that keep to periods keeps to them. No condition on any program. -/
import Derived.Test.YtjhjhjmdbhackaaS47P
namespace Go.Proofs.Ytjhjhjmdbhackaa
set_option linter.unusedSimpArgs false
set_option linter.unusedSectionVars false
set_option linter.unusedVariables false
open Go.RowKit
theorem hd_part {p j a : Int} (hp : 0 ≤ p) {m l : List Int} (h : m.Sublist l) : ∀ {k k' : Int}, k' ≤ k → hdR p j a k l = true → hdR p j a k' m = true := by
  induction h with
  | slnil => intro k k' _ _; rfl
  | cons b _ ih =>
    intro k k' hk h
    unfold hdR at h
    rw [Bool.and_eq_true] at h
    exact ih (by omega) h.2
  | cons_cons b _ ih =>
    intro k k' hk h
    unfold hdR at h ⊢
    rw [Bool.and_eq_true, decide_eq_true_eq] at h ⊢
    have := Int.mul_le_mul_of_nonneg_right hk hp
    exact ⟨by omega, ih (by omega) h.2⟩
theorem rate_part {p j : Int} (hp : 0 ≤ p) {m l : List Int} (h : m.Sublist l) : rateR p j l = true → rateR p j m = true := by
  induction h with
  | slnil => intro _; rfl
  | cons b _ ih =>
    intro h
    unfold rateR at h
    rw [Bool.and_eq_true] at h
    exact ih h.2
  | cons_cons b hs ih =>
    intro h
    unfold rateR at h ⊢
    rw [Bool.and_eq_true] at h ⊢
    exact ⟨hd_part hp hs (Int.le_refl _) h.1, ih h.2⟩
theorem ins_all {F T : Int} {z : Release} (h : F ≤ z.tm ∧ z.tm < T) : insB F T z = true := by
  unfold insB; rw [decide_eq_true h.1, decide_eq_true h.2]; rfl
theorem unit_part {F T f t : Int} {u : Nat} {m l : List Release} (h : m.Sublist l) : (∀ z ∈ l, F ≤ z.tm ∧ z.tm < T) → (unitL f t u m).Sublist (unitL F T u l) := by
  induction h with
  | slnil => intro _; exact List.Sublist.slnil
  | cons b _ ih =>
    intro hb
    have i := ih fun z hz => hb z (List.mem_cons_of_mem _ hz)
    rw [unitL_cons]
    split
    · exact i.cons _
    · exact i
  | cons_cons b _ ih =>
    intro hb
    have i := ih fun z hz => hb z (List.mem_cons_of_mem _ hz)
    rw [unitL_cons, unitL_cons, ins_all (hb b List.mem_cons_self), Bool.true_and]
    by_cases e : (b.un == (u : Int)) = true
    · rw [e, Bool.and_true, if_pos rfl]
      split
      · exact i.cons_cons _
      · exact i.cons _
    · have e : (b.un == (u : Int)) = false := by simpa using e
      rw [e, Bool.and_false]
      exact i
theorem form_part {F T f t n : Int} {m l : List Release} (h : m.Sublist l) : ∀ {b b' : Int}, b' ≤ b → (∀ z ∈ l, F ≤ z.tm ∧ z.tm < T) → formB F T n b l = true → formB f t n b' m = true := by
  induction h with
  | slnil => intro b b' _ _ _; rfl
  | cons c _ ih =>
    intro b b' hb hl h
    unfold formB at h
    simp only [Bool.and_eq_true, decide_eq_true_eq] at h
    exact ih (by omega) (fun z hz => hl z (List.mem_cons_of_mem _ hz)) h.2
  | cons_cons c _ ih =>
    intro b b' hb hl h
    have hi := ins_all (hl c List.mem_cons_self)
    unfold formB at h ⊢
    rw [hi] at h
    simp only [Bool.and_eq_true, decide_eq_true_eq, Bool.not_true, Bool.false_or] at h
    obtain ⟨⟨⟨h1, h2⟩, h3⟩, h4⟩ := h
    rw [h3, Bool.or_true, Bool.and_true, decide_eq_true (show b' ≤ c.tm by omega), decide_eq_true h2, ih (Int.le_refl _) (fun z hz => hl z (List.mem_cons_of_mem _ hz)) h4]
    rfl
theorem rel_zero {xs : List Job} {zs : List Release} {f t : Int} : relJ xs zs f t = 0 ↔ formB f t (xs.length : Int) 0 zs = true ∧ ∀ u, u < xs.length → rateR (gt (c := .job) xs u).pd (gt (c := .job) xs u).ji (unitL f t u zs) = true := by
  rw [rel_ref]
  constructor
  · intro h
    by_cases h1 : formB f t (xs.length : Int) 0 zs = true
    · rw [if_pos h1] at h
      by_cases h2 : refB xs f t zs = true
      · exact ⟨h1, (ref_eq h1).1 h2⟩
      · rw [if_neg h2] at h; cases h
    · rw [if_neg h1] at h; cases h
  · rintro ⟨h1, h2⟩
    rw [if_pos h1, if_pos ((ref_eq h1).2 h2)]
theorem form_low {F T n : Int} : ∀ {b : Int} {l : List Release}, 0 ≤ b → formB F T n b l = true → ∀ z ∈ l, 0 ≤ z.tm
  | _, [], _, _, z, hz => by simp at hz
  | b, y :: l, hb, h, z, hz => by
    unfold formB at h
    simp only [Bool.and_eq_true, decide_eq_true_eq] at h
    rcases List.mem_cons.1 hz with rfl | hz
    · omega
    · exact form_low (b := y.tm) (by omega) h.2 z hz
/-- **Parts.** -/
theorem rel_part {xs : List Job} {l m : List Release} {T f t : Int} (hp : ∀ u : Nat, u < xs.length → 0 ≤ (gt (c := .job) xs u).pd) (h : relJ xs l 0 T = 0) (hT : ∀ z ∈ l, z.tm < T) (hm : m.Sublist l) : relJ xs m f t = 0 := by
  obtain ⟨h1, h2⟩ := rel_zero.1 h
  have hb : ∀ z ∈ l, 0 ≤ z.tm ∧ z.tm < T := fun z hz => ⟨form_low (Int.le_refl 0) h1 z hz, hT z hz⟩
  exact rel_zero.2 ⟨form_part hm (Int.le_refl 0) hb h1, fun u hu => rate_part (hp u hu) (unit_part hm hb) (h2 u hu)⟩
end Go.Proofs.Ytjhjhjmdbhackaa
