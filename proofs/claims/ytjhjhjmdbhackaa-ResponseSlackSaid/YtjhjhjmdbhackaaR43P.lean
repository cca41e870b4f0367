/- Plain facts: demands grow with time, least times. No condition on any program. -/
import Derived.Test.YtjhjhjmdbhackaaR42P
import Derived.Test.YtjhjhjmdbhackaaR39Q
namespace Go.Proofs.Ytjhjhjmdbhackaa
set_option linter.unusedSimpArgs false
set_option linter.unusedSectionVars false
set_option linter.unusedVariables false
open Go.RowKit
theorem up_by {a b : Int} (h : a ≤ b) {P : Int → Prop} (h0 : P a) (hs : ∀ t, a ≤ t → P t → P (t + 1)) : P b := by
  obtain ⟨n, hn⟩ : ∃ n : Nat, b = a + n := ⟨(b - a).toNat, by omega⟩
  subst hn
  clear h
  induction n with
  | zero => simpa using h0
  | succ n ih => rw [show a + ((n + 1 : Nat) : Int) = a + (n : Int) + 1 by omega]; exact hs _ (by omega) ih
theorem times_le {a b d : Int} (h0 : 0 ≤ a) (h : a ≤ b) : timesI a d ≤ timesI b d :=
  up_by (P := fun t => timesI a d ≤ timesI t d) h (Int.le_refl _) fun t ht ih => Int.le_trans ih (times_mono (by omega))
theorem pay_le {x : Par} {a b : Int} (hx : Rok x) (h0 : 0 ≤ a) (h : a ≤ b) : pay x a ≤ pay x b :=
  up_by (P := fun t => pay x a ≤ pay x t) h (Int.le_refl _) fun t ht ih => Int.le_trans ih (most_mono (by omega) hx.de.1 hx.pa.1 hx.er.1 hx.miss.1)
theorem once_le {j : Job} {a b : Int} (hj : JobOk j) (h0 : 0 ≤ a) (h : a ≤ b) : once j a ≤ once j b := by
  obtain ⟨b1, b2⟩ := hj.ji; obtain ⟨c1, c2⟩ := hj.co; obtain ⟨e1, e2⟩ := hj.ev
  exact Int.mul_le_mul_of_nonneg_right (times_le (by omega) (by omega)) (by omega)
theorem demTo_le {l : List Job} {x : Par} {i a b : Int} (hx : Rok x) (hj : JobsOk l) (h0 : 0 ≤ a) (h : a ≤ b) : ∀ k, k ≤ l.length → demTo l x i a k ≤ demTo l x i b k
  | 0, _ => by
    have := pay_le hx h0 h
    unfold demTo; omega
  | k + 1, hk => by
    have ih := demTo_le (i := i) hx hj h0 h k (by omega)
    have hg : l[k]? = some l[k] := List.getElem?_eq_getElem (by omega)
    have o := once_le (hj.all _ (List.getElem_mem (by omega : k < l.length))) h0 h
    rw [demTo_next hg rfl, demTo_next hg rfl]
    split <;> omega
theorem demJ_le {l : List Job} {x : Par} {i a b : Int} (hx : Rok x) (hj : JobsOk l) (h0 : 0 ≤ a) (h : a ≤ b) : demJ l x i a ≤ demJ l x i b :=
  demTo_le hx hj h0 h l.length (Nat.le_refl _)
theorem leastJ_spec {l : List Job} {x : Par} {i : Int} (hx : Rok x) (hj : JobsOk l) :
    match leastJ l x i with
    | some r => 1 ≤ r ∧ r ≤ limJ l i ∧ demJ l x i r ≤ r ∧ ∀ s, 1 ≤ s → s < r → ¬ demJ l x i s ≤ s
    | none => ∀ s, 1 ≤ s → s ≤ limJ l i → ¬ demJ l x i s ≤ s :=
  leastF_spec (fun a b h1 h2 _ => demJ_le hx hj (by omega) h2) (limJ l i + 1).toNat 1 (Int.le_refl _) (by omega) (fun s h1 h2 => by omega)
theorem leastJ_some {l : List Job} {x : Par} {i r : Int} (hx : Rok x) (hj : JobsOk l) (h : leastJ l x i = some r) : 1 ≤ r ∧ r ≤ limJ l i ∧ demJ l x i r ≤ r ∧ ∀ s, 1 ≤ s → s < r → ¬ demJ l x i s ≤ s := by
  have s := leastJ_spec (i := i) hx hj
  rw [h] at s
  exact s
theorem leastJ_none {l : List Job} {x : Par} {i : Int} (hx : Rok x) (hj : JobsOk l) (h : leastJ l x i = none) : ∀ s, 1 ≤ s → s ≤ limJ l i → ¬ demJ l x i s ≤ s := by
  have s := leastJ_spec (i := i) hx hj
  rw [h] at s
  exact s
theorem leastJ_is {l : List Job} {x : Par} {i r : Int} (hx : Rok x) (hj : JobsOk l) (h1 : 1 ≤ r) (h2 : r ≤ limJ l i) (h3 : demJ l x i r ≤ r) (h4 : ∀ s, 1 ≤ s → s < r → ¬ demJ l x i s ≤ s) : leastJ l x i = some r := by
  cases h : leastJ l x i with
  | none => exact absurd h3 (leastJ_none hx hj h r h1 h2)
  | some q =>
    obtain ⟨a1, a2, a3, a4⟩ := leastJ_some hx hj h
    have n1 : ¬ q < r := fun hq => h4 q a1 hq a3
    have n2 : ¬ r < q := fun hq => a4 r h1 hq h3
    rw [show q = r by omega]
/-! ### Two jobs -/
def z0 : Par := ⟨0, 0, 0, 0, 0, 0, 0, 0⟩
def twoJ (x y n : Int) : List Job := [⟨n, n, 0, 2, x, [], 0⟩, ⟨100000, 100000, 0, 1, y, [], 0⟩]
theorem two_good {x y n : Int} (hx : 1 ≤ x ∧ x ≤ 20) (hy : 1 ≤ y ∧ y ≤ 200) (hn : 21 ≤ n ∧ n ≤ 120) : goodB (twoJ x y n) z0 = true := by
  have a : numsB ⟨n, n, 0, 2, x, [], 0⟩ = true := by unfold numsB; exact decide_eq_true (by dsimp only; omega)
  have b : numsB ⟨100000, 100000, 0, 1, y, [], 0⟩ = true := by unfold numsB; exact decide_eq_true (by dsimp only; omega)
  have c : jobsB (twoJ x y n) = true := by unfold jobsB twoJ; simp [badJ, a, b]
  have d : ratesB z0 = true := by kernel_rfl
  unfold goodB
  rw [c, d]; rfl
theorem two_small (x y n : Int) : Small (twoJ x y n) := ⟨by simp [twoJ], fun j hj => by simp only [twoJ, List.mem_cons, List.not_mem_nil, or_false] at hj; rcases hj with rfl | rfl <;> simp⟩
theorem pay_z (t : Int) : pay z0 t = 0 := by simp [pay, z0, mostI]
theorem two_b0 (x y n : Int) : beforeJ (twoJ x y n) 0 1 = true ∧ beforeJ (twoJ x y n) 1 0 = false ∧ beforeJ (twoJ x y n) 0 0 = false ∧ beforeJ (twoJ x y n) 1 1 = false := by
  refine ⟨?_, ?_, ?_, ?_⟩ <;> simp [beforeJ, inB, jobAt, twoJ]
theorem two_bl0 (x y n : Int) : blockJ (twoJ x y n) 0 0 = 0 := by
  obtain ⟨h1, h2, h3, h4⟩ := two_b0 x y n
  show blockR (twoJ x y n) 0 0 (blockR (twoJ x y n) 0 0 0 0) 1 = 0
  unfold blockR
  rw [show ((0 : Nat) : Int) = 0 from rfl, show ((1 : Nat) : Int) = 1 from rfl, h1, h3]
  rfl
theorem two_bl1 (x y n : Int) : blockJ (twoJ x y n) 1 0 = 0 := by
  obtain ⟨h1, h2, h3, h4⟩ := two_b0 x y n
  show blockR (twoJ x y n) 1 0 (blockR (twoJ x y n) 1 0 0 0) 1 = 0
  unfold blockR
  rw [show ((0 : Nat) : Int) = 0 from rfl, show ((1 : Nat) : Int) = 1 from rfl, h2, h4]
  rfl
theorem two_dem0 (x y n t : Int) : demJ (twoJ x y n) z0 0 t = x := by
  obtain ⟨h1, h2, h3, h4⟩ := two_b0 x y n
  show demTo (twoJ x y n) z0 0 t 2 = x
  simp only [demTo]
  rw [show ((0 : Nat) : Int) = 0 from rfl, show ((1 : Nat) : Int) = 1 from rfl, h2, h3, pay_z, show z0.ins = 0 from rfl, two_bl0]
  show 0 + x + 0 = x
  omega
theorem two_dem1 (x y n t : Int) : demJ (twoJ x y n) z0 1 t = y + timesI t n * x := by
  obtain ⟨h1, h2, h3, h4⟩ := two_b0 x y n
  show demTo (twoJ x y n) z0 1 t 2 = _
  simp only [demTo]
  rw [show ((0 : Nat) : Int) = 0 from rfl, show ((1 : Nat) : Int) = 1 from rfl, h1, h4, pay_z, show z0.ins = 0 from rfl, two_bl1]
  show 0 + y + 0 + timesI (t + 0) n * (x + 0) = _
  rw [Int.add_zero, Int.add_zero, Int.add_zero, Int.zero_add]
theorem two_t0 {x y n : Int} (hx : 1 ≤ x ∧ x ≤ 20) (hy : 1 ≤ y ∧ y ≤ 200) (hn : 21 ≤ n ∧ n ≤ 120) : leastJ (twoJ x y n) z0 0 = some x := by
  obtain ⟨o, j⟩ := rok_of (two_good hx hy hn)
  refine leastJ_is o j (by omega) ?_ ?_ fun s h1 h2 => ?_
  · show x ≤ n - 0; omega
  · rw [two_dem0]; omega
  · rw [two_dem0]; omega
theorem two_t1 {x y n k : Int} (hx : 1 ≤ x ∧ x ≤ 20) (hy : 1 ≤ y ∧ y ≤ 200) (hn : 21 ≤ n ∧ n ≤ 120) (k1 : 1 ≤ k) (k2 : k ≤ 201) (h : ¬ k * n < y + k * x) (hb : (k - 1) * n < y + (k - 1) * x) : leastJ (twoJ x y n) z0 1 = some (y + k * x) := by
  obtain ⟨o, j⟩ := rok_of (two_good hx hy hn)
  have m := mul_le_of (a := k) (b := x) (A := 201) (B := 20) (by omega) (by omega) (by omega) (by omega)
  refine leastJ_is o j (by omega) ?_ ?_ fun s h1 h2 h3 => ?_
  · show y + k * x ≤ 100000 - 0; omega
  · rw [two_dem1]
    have u : timesI (y + k * x) n ≤ k := by
      rw [← timesI_ceil (by omega) (by omega)]
      refine Int.le_of_lt_add_one (Int.ediv_lt_of_lt_mul (by omega) ?_)
      rw [Int.add_mul, Int.one_mul]
      omega
    have := Int.mul_le_mul_of_nonneg_right u (show 0 ≤ x by omega)
    omega
  · rw [two_dem1] at h3
    obtain ⟨u1, u2⟩ := times_up (t := s) (w := n) (by omega) (by omega)
    have c : ¬ k ≤ timesI s n := fun q => by
      have := Int.mul_le_mul_of_nonneg_right q (show 0 ≤ x by omega)
      omega
    have d : timesI s n ≤ k - 1 := by omega
    have e := Int.mul_le_mul_of_nonneg_right d (show 0 ≤ n - x by omega)
    rw [Int.mul_sub, Int.mul_sub] at e
    omega
/-- The counter stays small. -/
theorem two_bd {x y n k : Int} (hx : 1 ≤ x ∧ x ≤ 20) (hy : 1 ≤ y ∧ y ≤ 200) (hn : 21 ≤ n ∧ n ≤ 120) (k1 : 1 ≤ k) (h : k * n < y + k * x) : k ≤ 200 := by
  have e := Int.mul_le_mul_of_nonneg_left (show 1 ≤ n - x by omega) (show 0 ≤ k by omega)
  rw [Int.mul_sub, Int.mul_one] at e
  omega
end Go.Proofs.Ytjhjhjmdbhackaa
