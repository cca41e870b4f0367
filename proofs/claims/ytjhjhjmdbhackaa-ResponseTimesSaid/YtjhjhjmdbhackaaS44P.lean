/- Plain facts: raised costs, the search for the slack. No condition on any program. -/
import Derived.Test.YtjhjhjmdbhackaaS42P
namespace Go.Proofs.Ytjhjhjmdbhackaa
set_option linter.unusedSimpArgs false
set_option linter.unusedSectionVars false
set_option linter.unusedVariables false
open Go.RowKit
def upJ (j : Job) (c : Int) : Job := ⟨j.pd, j.dl, j.ji, j.pr, j.co + c, j.se, j.ev⟩
/-- The jobs with the cost of one raised. -/
def raiseJ (l : List Job) (i c : Int) : List Job := l.set i.toNat (upJ (jobAt l i) c)
theorem raise_len (l : List Job) (i c : Int) : (raiseJ l i c).length = l.length := List.length_set
theorem jobAt_get {l : List Job} {i : Int} {a : Job} (h : l[i.toNat]? = some a) : jobAt l i = a := by
  exact gt_eq (c := .job) h
theorem upJ_zero (j : Job) : upJ j 0 = j := by cases j; simp [upJ]
theorem raise_zero {l : List Job} {i : Int} {a : Job} (h : l[i.toNat]? = some a) : raiseJ l i 0 = l := by
  unfold raiseJ
  rw [jobAt_get h, upJ_zero]
  obtain ⟨h1, h2⟩ := List.getElem?_eq_some_iff.1 h
  rw [← h2]
  exact List.set_getElem_self h1
theorem raise_get {l : List Job} {i c : Int} {a : Job} (h : l[i.toNat]? = some a) : (raiseJ l i c)[i.toNat]? = some (upJ a c) := by
  unfold raiseJ
  rw [jobAt_get h]
  exact List.getElem?_set_self (List.getElem?_eq_some_iff.1 h).1
theorem raise_small {l : List Job} {i c : Int} {a : Job} (h : Small l) (ha : l[i.toNat]? = some a) : Small (raiseJ l i c) :=
  ⟨by rw [raise_len]; exact h.n, fun j hj => by
    unfold raiseJ at hj
    rcases List.mem_or_eq_of_mem_set hj with h1 | h1
    · exact h.s j h1
    · subst h1; rw [jobAt_get ha]; exact h.s a (List.mem_of_getElem? ha)⟩
/-- All jobs end in time. -/
def okJ (l : List Job) (x : Par) : Bool := goodB l x && (List.range l.length).all fun k => (leastJ l x k).isSome
theorem okJ_true {l : List Job} {x : Par} (h : okJ l x = true) : goodB l x = true ∧ ∀ k : Nat, k < l.length → (leastJ l x k).isSome = true := by
  unfold okJ at h
  rw [Bool.and_eq_true, List.all_eq_true] at h
  exact ⟨h.1, fun k hk => h.2 k (List.mem_range.2 hk)⟩
theorem okJ_is {l : List Job} {x : Par} (h1 : goodB l x = true) (h2 : ∀ k : Nat, k < l.length → (leastJ l x k).isSome = true) : okJ l x = true := by
  unfold okJ
  rw [h1, Bool.true_and, List.all_eq_true]
  exact fun k hk => h2 k (List.mem_range.1 hk)
theorem okJ_false {l : List Job} {x : Par} (h : okJ l x = false) : goodB l x = false ∨ goodB l x = true ∧ ∃ k : Nat, k < l.length ∧ leastJ l x k = none := by
  cases hg : goodB l x with
  | false => exact .inl rfl
  | true =>
    refine .inr ⟨rfl, Classical.byContradiction fun g => ?_⟩
    have := okJ_is hg fun k hk => by
      cases e : leastJ l x k with
      | none => exact absurd ⟨k, hk, e⟩ g
      | some r => rfl
    rw [this] at h; cases h
/-- The search: low fits, high does not. -/
def slackF (p : Int → Bool) : Nat → Int → Int → Int
  | 0, low, _ => low
  | f + 1, low, high => if 1 < high - low then (if p ((low + high) / 2) then slackF p f ((low + high) / 2) high else slackF p f low ((low + high) / 2)) else low
theorem slackF_end {p : Int → Bool} {low high : Int} {f : Nat} (h : ¬ 1 < high - low) : slackF p f low high = low := by
  cases f with
  | zero => rfl
  | succ f => unfold slackF; rw [if_neg h]
theorem slackF_yes {p : Int → Bool} {low high : Int} {f : Nat} (h : 1 < high - low) (hf : high - low ≤ f) (hp : p ((low + high) / 2) = true) : slackF p f low high = slackF p (f - 1) ((low + high) / 2) high := by
  cases f with
  | zero => omega
  | succ f => conv => lhs; unfold slackF
              rw [if_pos h, if_pos hp]; rfl
theorem slackF_no {p : Int → Bool} {low high : Int} {f : Nat} (h : 1 < high - low) (hf : high - low ≤ f) (hp : p ((low + high) / 2) = false) : slackF p f low high = slackF p (f - 1) low ((low + high) / 2) := by
  cases f with
  | zero => omega
  | succ f => conv => lhs; unfold slackF
              rw [if_pos h, hp]; rfl
theorem slackF_spec {p : Int → Bool} : ∀ (f : Nat) (low high : Int), low < high → high - low ≤ f → p low = true → p high = false → low ≤ slackF p f low high ∧ slackF p f low high < high ∧ p (slackF p f low high) = true ∧ p (slackF p f low high + 1) = false
  | 0, low, high, h1, h2, _, _ => by omega
  | f + 1, low, high, h1, h2, h3, h4 => by
    by_cases h : 1 < high - low
    · cases hp : p ((low + high) / 2) with
      | true =>
        rw [slackF_yes h h2 hp]
        obtain ⟨a, b, c, d⟩ := slackF_spec f ((low + high) / 2) high (by omega) (by omega) hp h4
        exact ⟨by show low ≤ slackF p f _ _; omega, b, c, d⟩
      | false =>
        rw [slackF_no h h2 hp]
        obtain ⟨a, b, c, d⟩ := slackF_spec f low ((low + high) / 2) (by omega) (by omega) h3 hp
        exact ⟨a, by show slackF p f _ _ < high; omega, c, d⟩
    · rw [slackF_end h]
      have : high = low + 1 := by omega
      exact ⟨by omega, h1, h3, by rw [← this]; exact h4⟩
/-- By how much the cost of a job can be raised, and the error. -/
def slackJ (l : List Job) (x : Par) (i : Int) : Int × Int :=
  if goodB l x = true ∧ 0 ≤ i ∧ i < (l.length : Int) then
    (if okJ l x then (slackF (fun c => okJ (raiseJ l i c) x) (16777216 - (jobAt l i).co + 1).toNat 0 (16777216 - (jobAt l i).co + 1), 0) else (0, 38))
  else (0, 40)
end Go.Proofs.Ytjhjhjmdbhackaa
