/- Plain facts: all columns within a box, in the order of lists; the greatest value. No condition on any program. -/
import Derived.Test.YtkageldgmkajbaaJF
namespace Go.Proofs.Ytkageldgmkajbaa
set_option linter.unusedSimpArgs false
set_option linter.unusedSectionVars false
set_option linter.unusedVariables false
open Go.RowKit
/-- The best so far. -/
structure Bs where
  f : Bool
  b : Int
  a : List Int
def upd (M : Mdl) (s : Bs) (x : List Int) : Bs := if okX M x = true ∧ (s.f = false ∨ s.b < valR M x) then ⟨true, valR M x, x⟩ else s
theorem upd_y {M : Mdl} {s : Bs} {x : List Int} (h : okX M x = true ∧ (s.f = false ∨ s.b < valR M x)) : upd M s x = ⟨true, valR M x, x⟩ := if_pos h
theorem upd_n {M : Mdl} {s : Bs} {x : List Int} (h : ¬ (okX M x = true ∧ (s.f = false ∨ s.b < valR M x))) : upd M s x = s := if_neg h
def tops (m : Int) : List Int := (List.range (m.toNat + 1)).map fun a : Nat => (a : Int)
/-- All columns within a box. -/
def allX : List Int → List (List Int)
  | [] => [[]]
  | m :: ms => (tops m).flatMap fun a => (allX ms).map (a :: ·)
/-- What is done for all columns that begin so. -/
def visX (M : Mdl) (most : List Int) (k : Nat) (p : List Int) (s : Bs) : Bs := ((allX (most.drop k)).map (p ++ ·)).foldl (upd M) s
def visL (M : Mdl) (most : List Int) (k : Nat) (p : List Int) (s : Bs) : Nat → Bs
  | 0 => s
  | j + 1 => visX M most (k + 1) (p ++ [(j : Int)]) (visL M most k p s j)
theorem vis_end {M : Mdl} {most : List Int} {k : Nat} {p : List Int} {s : Bs} (h : k = most.length) : visX M most k p s = upd M s p := by
  unfold visX
  rw [List.drop_of_length_le (by omega)]
  simp [allX]
theorem foldl_flat {α β σ : Type} (g : σ → β → σ) (f : α → List β) : ∀ (l : List α) (s : σ), (l.flatMap f).foldl g s = l.foldl (fun s a => (f a).foldl g s) s
  | [], s => rfl
  | a :: l, s => by rw [List.flatMap_cons, List.foldl_append, foldl_flat g f l]; rfl
theorem visL_eq {M : Mdl} {most : List Int} {k : Nat} {p : List Int} {s : Bs} : ∀ j, (((List.range j).map fun a : Nat => (a : Int)).flatMap fun a => (allX (most.drop (k + 1))).map fun r => p ++ (a :: r)).foldl (upd M) s = visL M most k p s j
  | 0 => rfl
  | j + 1 => by
    rw [List.range_succ, List.map_append, List.flatMap_append, List.foldl_append, visL_eq j]
    show List.foldl (upd M) (visL M most k p s j) (List.flatMap _ [(j : Int)]) = visX M most (k + 1) (p ++ [(j : Int)]) (visL M most k p s j)
    unfold visX
    congr 1
    rw [List.flatMap_singleton]
    apply List.map_congr_left
    intro r _
    rw [List.append_assoc]; rfl
theorem vis_step {M : Mdl} {most : List Int} {k : Nat} {p : List Int} {s : Bs} (h : k < most.length) (h0 : @LE.le Int _ 0 (gt (c := .int) most k)) : visX M most k p s = visL M most k p s ((gt (c := .int) most k : Int).toNat + 1) := by
  rw [← visL_eq]
  unfold visX
  have e : most.drop k = gt (c := .int) most k :: most.drop (k + 1) := by
    rw [List.drop_eq_getElem_cons h, gt_eq (c := .int) (List.getElem?_eq_getElem h)]
  rw [e]
  show List.foldl (upd M) s (List.map _ (List.flatMap _ (tops (gt (c := .int) most k)))) = _
  rw [List.map_flatMap]
  congr 1
  unfold tops
  congr 1
  funext a
  rw [List.map_map]; rfl
theorem visL_zero {M : Mdl} {most : List Int} {k : Nat} {p : List Int} {s : Bs} : visL M most k p s 0 = s := rfl
theorem visL_succ {M : Mdl} {most : List Int} {k j : Nat} {p : List Int} {s : Bs} : visL M most k p s (j + 1) = visX M most (k + 1) (p ++ [(j : Int)]) (visL M most k p s j) := rfl
/-- The best within a box. -/
def solB (M : Mdl) (most : List Int) : Bs := (allX most).foldl (upd M) ⟨false, 0, []⟩
theorem sol_vis {M : Mdl} {most : List Int} : visX M most 0 [] ⟨false, 0, []⟩ = solB M most := by
  unfold visX solB
  congr 1
  simp
/-! ### One after the other -/
def inc : List Int → List Int → Option (List Int)
  | [], _ => none
  | _ :: _, [] => none
  | m :: ms, x :: xs => match inc ms xs with
    | some ys => some (x :: ys)
    | none => if x < m then some ((x + 1) :: List.replicate ms.length 0) else none
def rest (x m : Int) : List Int := (List.range (m - x).toNat).map fun k : Nat => x + 1 + (k : Int)
/-- All columns from some on. -/
def from_ : List Int → List Int → List (List Int)
  | [], _ => [[]]
  | _ :: _, [] => []
  | m :: ms, x :: xs => (from_ ms xs).map (x :: ·) ++ (rest x m).flatMap fun a => (allX ms).map (a :: ·)
theorem rest_step {x m : Int} (h : x < m) : rest x m = (x + 1) :: rest (x + 1) m := by
  unfold rest
  rw [show (m - x).toNat = (m - (x + 1)).toNat + 1 by omega, List.range_succ_eq_map, List.map_cons, List.map_map]
  congr 1
  · omega
  · apply List.map_congr_left
    intro k _
    simp only [Function.comp, Nat.succ_eq_add_one, Int.natCast_add]; omega
theorem rest_end {x m : Int} (h : ¬ x < m) : rest x m = [] := by
  unfold rest
  rw [show (m - x).toNat = 0 by omega]; rfl
theorem tops_eq {m : Int} (h : 0 ≤ m) : tops m = 0 :: rest 0 m := by
  unfold tops rest
  rw [List.range_succ_eq_map, List.map_cons, List.map_map, show (m - 0).toNat = m.toNat by omega]
  congr 1
  apply List.map_congr_left
  intro k _
  simp only [Function.comp, Nat.succ_eq_add_one, Int.natCast_add]; omega
theorem from_zero : ∀ {most : List Int}, (∀ m ∈ most, 0 ≤ m) → from_ most (List.replicate most.length 0) = allX most
  | [], _ => rfl
  | m :: ms, h => by
    show (from_ ms (List.replicate ms.length 0)).map _ ++ _ = _
    rw [from_zero fun q hq => h q (List.mem_cons_of_mem _ hq)]
    show _ = List.flatMap _ (tops m)
    rw [tops_eq (h m List.mem_cons_self), List.flatMap_cons]
theorem from_step : ∀ {most x : List Int}, (∀ m ∈ most, 0 ≤ m) → x.length = most.length → from_ most x = x :: (match inc most x with | some y => from_ most y | none => [])
  | [], x, _, h => by
    have : x = [] := List.eq_nil_of_length_eq_zero h
    subst this; rfl
  | m :: ms, [], _, h => by simp at h
  | m :: ms, x :: xs, hm, h => by
    have hms : ∀ q ∈ ms, 0 ≤ q := fun q hq => hm q (List.mem_cons_of_mem _ hq)
    have ih := from_step (most := ms) (x := xs) hms (by simpa using h)
    show (from_ ms xs).map _ ++ _ = _
    unfold inc
    cases hi : inc ms xs with
    | some ys =>
      rw [hi] at ih
      simp only at ih ⊢
      rw [ih]; rfl
    | none =>
      rw [hi] at ih
      simp only at ih ⊢
      rw [ih]
      by_cases hx : x < m
      · rw [if_pos hx, rest_step hx]
        simp only
        show (x :: xs) :: ([] ++ List.flatMap _ ((x + 1) :: rest (x + 1) m)) = (x :: xs) :: from_ (m :: ms) ((x + 1) :: List.replicate ms.length 0)
        congr 1
        show _ = (from_ ms (List.replicate ms.length 0)).map _ ++ _
        rw [from_zero hms, List.flatMap_cons]; rfl
      · rw [if_neg hx, rest_end hx]; rfl
theorem inc_len : ∀ {most x y : List Int}, x.length = most.length → inc most x = some y → y.length = most.length
  | [], _, _, _, h => by cases h
  | m :: ms, [], _, h, _ => by simp at h
  | m :: ms, x :: xs, y, h, hi => by
    unfold inc at hi
    split at hi
    · rename_i ys hys
      cases hi
      have := inc_len (most := ms) (by simpa using h) hys
      simp [this]
    · split at hi
      · cases hi; simp
      · cases hi
/-- Within a box. -/
def inBx : List Int → List Int → Prop
  | [], [] => True
  | m :: ms, x :: xs => 0 ≤ x ∧ x ≤ m ∧ inBx ms xs
  | _, _ => False
theorem inBx_at : ∀ {most x : List Int}, inBx most x → x.length = most.length ∧ ∀ i, i < x.length → @LE.le Int _ 0 (gt (c := .int) x i) ∧ @LE.le Int _ (gt (c := .int) x i) (gt (c := .int) most i)
  | [], [], _ => ⟨rfl, fun i hi => absurd hi (Nat.not_lt_zero _)⟩
  | m :: ms, x :: xs, h => by
    obtain ⟨h1, h2⟩ := inBx_at h.2.2
    refine ⟨by simp [h1], fun i hi => ?_⟩
    cases i with
    | zero => exact ⟨h.1, h.2.1⟩
    | succ i => exact h2 i (by simpa using hi)
  | [], _ :: _, h => h.elim
  | _ :: _, [], h => h.elim
theorem inBx_of : ∀ {most x : List Int}, x.length = most.length → (∀ i, i < x.length → @LE.le Int _ 0 (gt (c := .int) x i) ∧ @LE.le Int _ (gt (c := .int) x i) (gt (c := .int) most i)) → inBx most x
  | [], [], _, _ => trivial
  | m :: ms, x :: xs, h, g => ⟨(g 0 (by simp)).1, (g 0 (by simp)).2, inBx_of (by simpa using h) fun i hi => g (i + 1) (by simpa using hi)⟩
  | [], _ :: _, h, _ => by simp at h
  | _ :: _, [], h, _ => by simp at h
/-- All are at their ends. -/
theorem inc_none : ∀ {most x : List Int}, x.length = most.length → (∀ j, j < x.length → gt (c := .int) x j = gt (c := .int) most j) → inc most x = none
  | [], _, _, _ => rfl
  | m :: ms, [], h, _ => by simp at h
  | m :: ms, x :: xs, h, g => by
    have h0 : x = m := g 0 (by simp)
    have ih := inc_none (most := ms) (x := xs) (by simpa using h) fun j hj => g (j + 1) (by simpa using hj)
    unfold inc
    rw [ih]
    simp only
    rw [if_neg (by omega)]
theorem inc_some : ∀ {most x : List Int} {i : Nat}, x.length = most.length → i < x.length → @LT.lt Int _ (gt (c := .int) x i) (gt (c := .int) most i) → (∀ j, i < j → j < x.length → gt (c := .int) x j = gt (c := .int) most j) → inc most x = some (x.take i ++ ((gt (c := .int) x i : Int) + 1) :: List.replicate (x.length - i - 1) 0)
  | [], x, i, h, hi, _, _ => by simp at h; subst h; simp at hi
  | m :: ms, [], _, h, _, _, _ => by simp at h
  | m :: ms, x :: xs, 0, h, hi, hlt, g => by
    have hn := inc_none (most := ms) (x := xs) (by simpa using h) fun j hj => g (j + 1) (by omega) (by simpa using hj)
    unfold inc
    rw [hn]
    simp only
    have hx : x < m := hlt
    have hl : xs.length = ms.length := by simpa using h
    rw [if_pos hx]
    show some ((x + 1) :: List.replicate ms.length 0) = some ((x + 1) :: List.replicate (xs.length + 1 - 0 - 1) 0)
    rw [show xs.length + 1 - 0 - 1 = ms.length by omega]
  | m :: ms, x :: xs, i + 1, h, hi, hlt, g => by
    have ih := inc_some (most := ms) (x := xs) (i := i) (by simpa using h) (by simpa using hi) hlt fun j hj hl => g (j + 1) (by omega) (by simpa using hl)
    unfold inc
    rw [ih]
    simp only
    congr 1
    show _ = x :: (xs.take i ++ _)
    congr 2
    show ((gt (c := .int) xs i : Int) + 1) :: List.replicate (xs.length - i - 1) 0 = ((gt (c := .int) xs i : Int) + 1) :: List.replicate (xs.length + 1 - (i + 1) - 1) 0
    rw [show xs.length + 1 - (i + 1) - 1 = xs.length - i - 1 by omega]
end Go.Proofs.Ytkageldgmkajbaa
