/- What made jobs and answers are like. -/
import Derived.Test.YtjhjhjmdbhackaaWB
import Derived.Test.YtjhjhjmdbhackaaWI
import Derived.Test.YtjhjhjmdbhackaaS43P
namespace Go.Proofs.Ytjhjhjmdbhackaa
open Go.RowKit
set_option linter.unusedVariables false
set_option linter.unusedSimpArgs false
set_option linter.unusedSectionVars false
theorem made_nums {j : Job} (h : JobM j) : badJ j = false := by
  obtain ⟨h1, h2, h3, h4, h5, h6, h7, h8⟩ := h
  have a : numsB j = true := by unfold numsB; exact decide_eq_true (by omega)
  unfold badJ
  rw [a, Bool.not_true, Bool.false_or, List.any_eq_false]
  intro g hg
  have e := h8 g hg
  have b : holdB g = true := by unfold holdB; exact decide_eq_true (by omega)
  unfold badH
  rw [b]; simp
theorem made_small {l : List Job} (h : MadeJ l) (hl : (l.length : Int) ≤ 4) : Small l := ⟨by omega, fun j hj => by have := (h j hj).sn; omega⟩
theorem made_jobs {l : List Job} (h : MadeJ l) (hl : (l.length : Int) ≤ 4) : jobsB l = true := by
  unfold jobsB
  rw [Bool.and_eq_true, Bool.not_eq_true', List.any_eq_false]
  exact ⟨decide_eq_true (by omega), fun j hj => by rw [made_nums (h j hj)]; simp⟩
theorem made_good {l : List Job} {d de p pa wi er ins miss : Int} (h : MadeJ l) (hl : (l.length : Int) ≤ 4) (hr : RateOk d de p pa wi er) (h1 : 0 ≤ ins) (h2 : ins ≤ 16777216) (h3 : 0 ≤ miss) (h4 : miss ≤ 100) : goodB l ⟨d, de, p, pa, wi, er, ins, miss⟩ = true := by
  obtain ⟨a, b, c, e, f, g, i, j, k, m⟩ := hr
  refine good_all (made_jobs h hl) ?_ h1 h2 h3 h4
  unfold validR
  exact decide_eq_true (by dsimp only; omega)
theorem late_of {n : Nat} {f : Nat → Option Int} (h : ¬ ∀ k, k < n → (f k).isSome = true) : ∃ k, k < n ∧ f k = none :=
  Classical.byContradiction fun g => h fun k hk => by
    cases e : f k with
    | none => exact absurd ⟨k, hk, e⟩ g
    | some r => rfl
theorem ans_is {l : List Job} {x : Par} {n k : Nat} {a : Answer} (h : (ansTo l x n)[k]? = some a) : k < n ∧ a = ansAt l x k := by
  have hk : k < n := by have := (List.getElem?_eq_some_iff.1 h).1; rw [ansTo_len] at this; exact this
  rw [ansTo_get hk] at h
  exact ⟨hk, (Option.some.inj h).symm⟩
/-- What an answer of All is like. -/
theorem ans_facts {l : List Job} {x : Par} {n k : Nat} {a : Answer} (hx : Rok x) (hj : JobsOk l) (hn : ∀ k : Nat, k < n → (leastJ l x k).isSome = true) (h : (ansTo l x n)[k]? = some a) : a.bl = blockJ l k x.ins ∧ leastJ l x k = some a.re := by
  obtain ⟨hk, rfl⟩ := ans_is h
  have s := hn k hk
  unfold ansAt
  cases e : leastJ l x k with
  | none => rw [e] at s; cases s
  | some r => exact ⟨rfl, rfl⟩
theorem ans_right {l : List Job} {x : Par} {n k : Nat} {a : Answer} (hx : Rok x) (hj : JobsOk l) (hn : ∀ k : Nat, k < n → (leastJ l x k).isSome = true) (h : (ansTo l x n)[k]? = some a) : ¬ wrongA l x k a := by
  obtain ⟨h1, h2⟩ := ans_facts hx hj hn h
  obtain ⟨a1, a2, a3, a4⟩ := leastJ_some hx hj h2
  unfold wrongA
  omega
/-- A lesser time proves nothing. -/
theorem ans_less {l : List Job} {x : Par} {k : Nat} {b r s : Int} (hx : Rok x) (hj : JobsOk l) (h : leastJ l x k = some r) (hs : s < r) : wrongA l x k ⟨b, s⟩ := by
  obtain ⟨a1, a2, a3, a4⟩ := leastJ_some hx hj h
  unfold wrongA
  dsimp only
  by_cases h1 : s < 1
  · omega
  · have := a4 s (by omega) hs
    omega
end Go.Proofs.Ytjhjhjmdbhackaa
