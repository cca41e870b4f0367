/- Plain facts: demands grow with time, least times. No condition on any program. -/
import Derived.Test.YtjhjhjmdbhackaaS42P
namespace Go.Proofs.Ytjhjhjmdbhackaa
set_option linter.unusedSimpArgs false
set_option linter.unusedSectionVars false
set_option linter.unusedVariables false
open Go.RowKit
theorem times_up2 {t w : Int} (ht : 0 ≤ t) (hw : 0 < w) : t ≤ timesI t w * w ∧ 0 ≤ timesI t w := by
  have hb := timesI_bd (t := t) (d := w) ht
  refine ⟨?_, hb.1⟩
  unfold timesI
  rw [if_neg (by omega)]
  have e := Int.mul_ediv_add_emod t w
  have m0 := Int.emod_nonneg t (b := w) (by omega)
  have m1 := Int.emod_lt_of_pos t hw
  rw [Int.add_mul, Int.mul_comm (t / w) w]
  by_cases hr : t % w = 0
  · have : imin 1 (imax 0 (t % w)) = 0 := by rw [hr]; rfl
    rw [this]; omega
  · have : imin 1 (imax 0 (t % w)) = 1 := by unfold imin imax; split <;> split <;> omega
    rw [this]; omega
theorem up_by {a b : Int} (h : a ≤ b) {P : Int → Prop} (h0 : P a) (hs : ∀ t, a ≤ t → P t → P (t + 1)) : P b := by
  obtain ⟨n, hn⟩ : ∃ n : Nat, b = a + n := ⟨(b - a).toNat, by omega⟩
  subst hn
  clear h
  induction n with
  | zero => simpa using h0
  | succ n ih => rw [show a + ((n + 1 : Nat) : Int) = a + (n : Int) + 1 by omega]; exact hs _ (by omega) ih
theorem times_le {a b d : Int} (h0 : 0 ≤ a) (h : a ≤ b) : timesI a d ≤ timesI b d :=
  up_by (P := fun t => timesI a d ≤ timesI t d) h (Int.le_refl _) fun t ht ih => Int.le_trans ih (times_mono (by omega))
theorem pay_le {x : Par} {a b : Int} (hx : Rok x) (h0 : 0 ≤ a) (h : a ≤ b) : pay x a ≤ pay x b :=
  up_by (P := fun t => pay x a ≤ pay x t) h (Int.le_refl _) fun t ht ih => Int.le_trans ih (most_mono (by omega) hx.de.1 hx.pa.1 hx.er.1 hx.miss.1)
theorem once_le {j : Job} {a b : Int} (hj : JobOk j) (h0 : 0 ≤ a) (h : a ≤ b) : once j a ≤ once j b := by
  obtain ⟨b1, b2⟩ := hj.ji; obtain ⟨c1, c2⟩ := hj.co; obtain ⟨e1, e2⟩ := hj.ev
  exact Int.mul_le_mul_of_nonneg_right (times_le (by omega) (by omega)) (by omega)
theorem demTo_le {l : List Job} {x : Par} {i a b : Int} (hx : Rok x) (hj : JobsOk l) (h0 : 0 ≤ a) (h : a ≤ b) : ∀ k, k ≤ l.length → demTo l x i a k ≤ demTo l x i b k
  | 0, _ => by
    have := pay_le hx h0 h
    unfold demTo; omega
  | k + 1, hk => by
    have ih := demTo_le (i := i) hx hj h0 h k (by omega)
    have hg : l[k]? = some l[k] := List.getElem?_eq_getElem (by omega)
    have o := once_le (hj.all _ (List.getElem_mem (by omega : k < l.length))) h0 h
    rw [demTo_next hg rfl, demTo_next hg rfl]
    split <;> omega
theorem demJ_le {l : List Job} {x : Par} {i a b : Int} (hx : Rok x) (hj : JobsOk l) (h0 : 0 ≤ a) (h : a ≤ b) : demJ l x i a ≤ demJ l x i b :=
  demTo_le hx hj h0 h l.length (Nat.le_refl _)
theorem leastJ_spec {l : List Job} {x : Par} {i : Int} (hx : Rok x) (hj : JobsOk l) :
    match leastJ l x i with
    | some r => 1 ≤ r ∧ r ≤ limJ l i ∧ demJ l x i r ≤ r ∧ ∀ s, 1 ≤ s → s < r → ¬ demJ l x i s ≤ s
    | none => ∀ s, 1 ≤ s → s ≤ limJ l i → ¬ demJ l x i s ≤ s :=
  leastF_spec (fun a b h1 h2 _ => demJ_le hx hj (by omega) h2) (limJ l i + 1).toNat 1 (Int.le_refl _) (by omega) (fun s h1 h2 => by omega)
theorem leastJ_some {l : List Job} {x : Par} {i r : Int} (hx : Rok x) (hj : JobsOk l) (h : leastJ l x i = some r) : 1 ≤ r ∧ r ≤ limJ l i ∧ demJ l x i r ≤ r ∧ ∀ s, 1 ≤ s → s < r → ¬ demJ l x i s ≤ s := by
  have s := leastJ_spec (i := i) hx hj
  rw [h] at s
  exact s
theorem leastJ_none {l : List Job} {x : Par} {i : Int} (hx : Rok x) (hj : JobsOk l) (h : leastJ l x i = none) : ∀ s, 1 ≤ s → s ≤ limJ l i → ¬ demJ l x i s ≤ s := by
  have s := leastJ_spec (i := i) hx hj
  rw [h] at s
  exact s
theorem leastJ_is {l : List Job} {x : Par} {i r : Int} (hx : Rok x) (hj : JobsOk l) (h1 : 1 ≤ r) (h2 : r ≤ limJ l i) (h3 : demJ l x i r ≤ r) (h4 : ∀ s, 1 ≤ s → s < r → ¬ demJ l x i s ≤ s) : leastJ l x i = some r := by
  cases h : leastJ l x i with
  | none => exact absurd h3 (leastJ_none hx hj h r h1 h2)
  | some q =>
    obtain ⟨a1, a2, a3, a4⟩ := leastJ_some hx hj h
    have n1 : ¬ q < r := fun hq => h4 q a1 hq a3
    have n2 : ¬ r < q := fun hq => a4 r h1 hq h3
    rw [show q = r by omega]
/-! ### Two jobs -/
end Go.Proofs.Ytjhjhjmdbhackaa
