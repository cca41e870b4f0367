/- Plain facts on lists, and on what holds up to a place. No condition on any program. -/
import Derived.Test.YtonjbhdfimcedaaVC
namespace Go.Proofs.Ytonjbhdfimcedaa
set_option linter.unusedSimpArgs false
set_option linter.unusedSectionVars false
set_option linter.unusedVariables false
open Go.RowKit
theorem any_gt_t {c : Ty} {p : El c → Bool} {l : List (El c)} {i : Nat} (h : i < l.length) (hp : p (gt l i) = true) : l.any p = true := List.any_eq_true.2 ⟨_, List.mem_of_getElem? (gt_at h), hp⟩
theorem any_gt_f {c : Ty} {p : El c → Bool} {l : List (El c)} {n : Nat} (h : ∀ k, k < n → p (gt l k) = false) (hn : l.length ≤ n) : l.any p = false := by
  rw [List.any_eq_false]
  intro x hx
  obtain ⟨i, hi, rfl⟩ := List.mem_iff_getElem.1 hx
  have := h i (by omega)
  rw [gt_eq (List.getElem?_eq_getElem hi)] at this
  rw [this]; simp
theorem found_gt {c : Ty} {p : El c → Bool} {l : List (El c)} {i : Nat} (h : i < l.length) (hp : p (gt l i) = true) : decide ((0 : Int) ≤ (i : Int)) = l.any p := by
  rw [any_gt_t h hp]; simp
theorem none_gt {c : Ty} {p : El c → Bool} {l : List (El c)} {n : Nat} (h : ∀ k, k < n → p (gt l k) = false) (hn : l.length ≤ n) : decide ((0 : Int) ≤ -1) = l.any p := by
  rw [any_gt_f h hn]; decide
theorem gt_next {c : Ty} {p : El c → Bool} {l : List (El c)} {n : Nat} (h : ∀ k, k < n → p (gt l k) = false) (hp : p (gt l n) = false) : ∀ k, k < n + 1 → p (gt l k) = false := fun k hk => by
  rcases Nat.lt_succ_iff_lt_or_eq.1 hk with h1 | rfl
  · exact h k h1
  · exact hp
theorem mem_gt {c : Ty} {l : List (El c)} {i : Nat} (h : i < l.length) : gt l i ∈ l := List.mem_of_getElem? (gt_at h)
theorem gt_mem {c : Ty} {l : List (El c)} {x : El c} (h : x ∈ l) : ∃ i, i < l.length ∧ gt l i = x := by
  obtain ⟨i, hi, rfl⟩ := List.mem_iff_getElem.1 h
  exact ⟨i, hi, gt_eq (List.getElem?_eq_getElem hi)⟩
theorem gt_out {c : Ty} {l : List (El c)} {i : Nat} (h : l.length ≤ i) : gt l i = dflt c := by
  unfold gt
  rw [List.getD_eq_getElem?_getD, List.getElem?_eq_none h]; rfl
theorem gt_app1 {c : Ty} {l m : List (El c)} {i : Nat} (h : i < l.length) : gt (l ++ m) i = gt l i := by
  unfold gt
  rw [List.getD_eq_getElem?_getD, List.getD_eq_getElem?_getD, List.getElem?_append_left h]
theorem gt_app2 {c : Ty} {l m : List (El c)} {i : Nat} (h : l.length ≤ i) : gt (l ++ m) i = gt m (i - l.length) := by
  unfold gt
  rw [List.getD_eq_getElem?_getD, List.getD_eq_getElem?_getD, List.getElem?_append_right h]
theorem gt_snoc {c : Ty} {l : List (El c)} {x : El c} : gt (l ++ [x]) l.length = x := by
  rw [gt_app2 (Nat.le_refl _), Nat.sub_self]; rfl
theorem gt_set_eq {c : Ty} {l : List (El c)} {i : Nat} {x : El c} (h : i < l.length) : gt (l.set i x) i = x := by
  apply gt_eq
  rw [List.getElem?_set_self h]
theorem gt_set_ne {c : Ty} {l : List (El c)} {i j : Nat} {x : El c} (h : j ≠ i) : gt (l.set i x) j = gt l j := by
  unfold gt
  rw [List.getD_eq_getElem?_getD, List.getD_eq_getElem?_getD, List.getElem?_set_ne (Ne.symm h)]
theorem gt_ext {c : Ty} {l m : List (El c)} (h : l.length = m.length) (g : ∀ i, i < l.length → gt l i = gt m i) : l = m := by
  apply List.ext_getElem? 
  intro i
  by_cases hi : i < l.length
  · rw [gt_at hi, gt_at (h ▸ hi), g i hi]
  · rw [List.getElem?_eq_none (by omega), List.getElem?_eq_none (by omega)]
theorem take_snoc {c : Ty} {l : List (El c)} {n : Nat} (h : n < l.length) : l.take (n + 1) = l.take n ++ [gt l n] := by
  rw [List.take_add_one, gt_at h]; rfl
theorem take_all {α : Type} {l : List α} : l.take l.length = l := List.take_length
/-- What holds at each of the first n places. -/
def allN (p : Nat → Bool) : Nat → Bool
  | 0 => true
  | n + 1 => allN p n && p n
theorem allN_zero {p : Nat → Bool} : allN p 0 = true := rfl
theorem allN_yes {p : Nat → Bool} {n : Nat} (h : allN p n = true) (g : p n = true) : allN p (n + 1) = true := by
  show (allN p n && p n) = true
  rw [h, g]; rfl
theorem allN_iff {p : Nat → Bool} : ∀ {n : Nat}, allN p n = true ↔ ∀ i, i < n → p i = true
  | 0 => by simp [allN]
  | n + 1 => by
    have ih := allN_iff (p := p) (n := n)
    show (allN p n && p n) = true ↔ _
    rw [Bool.and_eq_true, ih]
    constructor
    · rintro ⟨h1, h2⟩ i hi
      rcases Nat.lt_succ_iff_lt_or_eq.1 hi with h3 | h3
      · exact h1 i h3
      · subst h3; exact h2
    · intro h
      exact ⟨fun i hi => h i (by omega), h n (by omega)⟩
theorem allN_at {p : Nat → Bool} {n i : Nat} (h : allN p n = true) (hi : i < n) : p i = true := allN_iff.1 h i hi
theorem allN_no {p : Nat → Bool} {n i : Nat} (hi : i < n) (h : p i = false) : allN p n = false := by
  cases hf : allN p n with
  | false => rfl
  | true => rw [allN_at hf hi] at h; cases h
theorem allN_congr {p q : Nat → Bool} {n : Nat} (h : ∀ i, i < n → p i = q i) : allN p n = allN q n := by
  apply Bool.eq_iff_iff.2
  rw [allN_iff, allN_iff]
  exact ⟨fun g i hi => by rw [← h i hi]; exact g i hi, fun g i hi => by rw [h i hi]; exact g i hi⟩
/-- A sum over the first n places. -/
def sumN (f : Nat → Int) : Nat → Int
  | 0 => 0
  | n + 1 => sumN f n + f n
theorem sumN_zero {f : Nat → Int} : sumN f 0 = 0 := rfl
theorem sumN_succ {f : Nat → Int} {n : Nat} : sumN f (n + 1) = sumN f n + f n := rfl
theorem sumN_bd {f : Nat → Int} {B : Int} : ∀ {n : Nat}, (∀ i, i < n → -B ≤ f i ∧ f i ≤ B) → -(B * n) ≤ sumN f n ∧ sumN f n ≤ B * n
  | 0, _ => by simp [sumN]
  | n + 1, h => by
    have ih := sumN_bd (f := f) (B := B) (n := n) fun i hi => h i (by omega)
    have h1 := h n (by omega)
    rw [sumN_succ]
    have e : B * ((n + 1 : Nat) : Int) = B * n + B := by rw [Int.natCast_add, Int.mul_add]; simp
    rw [e]; omega
theorem sumN_congr {f g : Nat → Int} : ∀ {n : Nat}, (∀ i, i < n → f i = g i) → sumN f n = sumN g n
  | 0, _ => rfl
  | n + 1, h => by rw [sumN_succ, sumN_succ, sumN_congr fun i hi => h i (by omega), h n (by omega)]
theorem sumN_nn {f : Nat → Int} : ∀ {n : Nat}, (∀ i, i < n → 0 ≤ f i) → 0 ≤ sumN f n
  | 0, _ => Int.le_refl _
  | n + 1, h => by
    have ih := sumN_nn (f := f) (n := n) fun i hi => h i (by omega)
    have := h n (by omega)
    rw [sumN_succ]; omega
theorem ex_i2 {Z : Type} {A B : Z → Prop} (z : Z) (hb : B z) (ha : A z) : ∃ z, A z ∧ B z := ⟨z, ha, hb⟩
theorem ex_i3 {Z : Type} {A C B : Z → Prop} (z : Z) (hb : B z) (ha : A z) (hc : C z) : ∃ z, A z ∧ C z ∧ B z := ⟨z, ha, hc, hb⟩
end Go.Proofs.Ytonjbhdfimcedaa
