/- Plain facts on releases: which keep to periods. No condition on any program. -/
import Derived.Test.YtjhjhjmdbhackaaS45P
namespace Go.Proofs.Ytjhjhjmdbhackaa
set_option linter.unusedSimpArgs false
set_option linter.unusedSectionVars false
set_option linter.unusedVariables false
open Go.RowKit
def insB (f t : Int) (z : Release) : Bool := decide (f ≤ z.tm) && decide (z.tm < t)
def unitB (n : Int) (z : Release) : Bool := decide (0 ≤ z.un) && decide (z.un < n)
/-- Times rise from b on, units are known. -/
def formB (f t n : Int) : Int → List Release → Bool
  | _, [] => true
  | b, z :: l => (decide (b ≤ z.tm) && decide (z.tm ≤ 16777216) && (!insB f t z || unitB n z)) && formB f t n z.tm l
def addU (f t : Int) (us : List (List Int)) (z : Release) : List (List Int) := if insB f t z then us.set z.un.toNat (gt (c := .ints) us z.un.toNat ++ [z.tm]) else us
def unitsTo (f t : Int) (L : Nat) (zs : List Release) : Nat → List (List Int)
  | 0 => List.replicate L []
  | n + 1 => addU f t (unitsTo f t L zs n) (gt (c := .release) zs n)
/-- From a on, the k-th behind it. -/
def hdR (p j a : Int) : Int → List Int → Bool
  | _, [] => true
  | k, b :: l => decide (k * p - j ≤ b - a) && hdR p j a (k + 1) l
def rateR (p j : Int) : List Int → Bool
  | [] => true
  | a :: l => hdR p j a 1 l && rateR p j l
def rateU (xs : List Job) (us : List (List Int)) : Bool := (List.range xs.length).all fun u => rateR (gt (c := .job) xs u).pd (gt (c := .job) xs u).ji (gt (c := .ints) us u)
/-- The releases of a time, checked. -/
def relJ (xs : List Job) (zs : List Release) (f t : Int) : Int := if formB f t (xs.length : Int) 0 zs then (if rateU xs (unitsTo f t xs.length zs zs.length) then 0 else 39) else 10
/-! ### As the document says it -/
def condB (f t : Int) (r s : Release) : Bool := decide (f ≤ r.tm) && decide (s.tm < t) && (s.un == r.un)
def hdRef (f t p j : Int) (r : Release) : Int → List Release → Bool
  | _, [] => true
  | k, s :: l => if condB f t r s then decide ((k + 1) * p - j ≤ s.tm - r.tm) && hdRef f t p j r (k + 1) l else hdRef f t p j r k l
def refB (xs : List Job) (f t : Int) : List Release → Bool
  | [] => true
  | r :: l => hdRef f t (gt (c := .job) xs r.un.toNat).pd (gt (c := .job) xs r.un.toNat).ji r 0 l && refB xs f t l
/-! ### Both are the same -/
def unitL (f t : Int) (u : Nat) (l : List Release) : List Int := (l.filter fun z => insB f t z && z.un == (u : Int)).map (·.tm)
theorem unitL_nil (f t : Int) (u : Nat) : unitL f t u [] = [] := rfl
theorem unitL_cons (f t : Int) (u : Nat) (z : Release) (l : List Release) : unitL f t u (z :: l) = if (insB f t z && z.un == (u : Int)) = true then z.tm :: unitL f t u l else unitL f t u l := by
  unfold unitL
  rw [List.filter_cons]
  split <;> rfl
theorem unitL_snoc (f t : Int) (u : Nat) (l : List Release) (z : Release) : unitL f t u (l ++ [z]) = unitL f t u l ++ (if (insB f t z && z.un == (u : Int)) = true then [z.tm] else []) := by
  unfold unitL
  rw [List.filter_append, List.map_append, List.filter_cons]
  split <;> rfl
theorem addU_len {f t : Int} {us : List (List Int)} {z : Release} : (addU f t us z).length = us.length := by
  unfold addU; split
  · rw [List.length_set]
  · rfl
theorem units_len {f t : Int} {L : Nat} {zs : List Release} : ∀ n, (unitsTo f t L zs n).length = L
  | 0 => List.length_replicate
  | n + 1 => by unfold unitsTo; rw [addU_len, units_len n]
theorem form_at {f t n : Int} : ∀ {b : Int} {l : List Release}, formB f t n b l = true → ∀ z ∈ l, b ≤ z.tm ∧ (insB f t z = true → unitB n z = true)
  | _, [], _, z, hz => by simp at hz
  | b, y :: l, h, z, hz => by
    unfold formB at h
    simp only [Bool.and_eq_true, Bool.or_eq_true, Bool.not_eq_true', decide_eq_true_eq] at h
    obtain ⟨⟨⟨h1, h2⟩, h3⟩, h4⟩ := h
    rcases List.mem_cons.1 hz with rfl | hz
    · refine ⟨h1, fun hi => ?_⟩
      rcases h3 with h3 | h3
      · rw [h3] at hi; cases hi
      · exact h3
    · obtain ⟨g1, g2⟩ := form_at h4 z hz
      exact ⟨by omega, g2⟩
theorem unitsTo_succ {f t : Int} {L : Nat} {zs : List Release} {n : Nat} : unitsTo f t L zs (n + 1) = addU f t (unitsTo f t L zs n) (gt (c := .release) zs n) := rfl
theorem gt_set_self {us : List (List Int)} {u : Nat} {x : List Int} (h : u < us.length) : gt (c := .ints) (us.set u x) u = x := gt_eq (c := .ints) (List.getElem?_set_self h)
theorem gt_set_ne {us : List (List Int)} {u v : Nat} {x : List Int} (h : v ≠ u) : gt (c := .ints) (us.set v x) u = gt (c := .ints) us u := by
  unfold gt
  rw [List.getD_eq_getElem?_getD, List.getD_eq_getElem?_getD, List.getElem?_set_ne h]
theorem gt_ints_rep (L u : Nat) : gt (c := .ints) (List.replicate L ([] : List Int)) u = [] := by
  unfold gt
  rw [List.getD_eq_getElem?_getD, List.getElem?_replicate]
  split <;> rfl
theorem units_eq {f t : Int} {L : Nat} {zs : List Release} (h : ∀ z ∈ zs, insB f t z = true → unitB (L : Int) z = true) : ∀ n, n ≤ zs.length → ∀ u, u < L → gt (c := .ints) (unitsTo f t L zs n) u = unitL f t u (zs.take n)
  | 0, _, u, _ => by rw [List.take_zero]; exact gt_ints_rep L u
  | n + 1, hn, u, hu => by
    have ih := units_eq h n (by omega) u hu
    have hz := gt_at (c := .release) (l := zs) (i := n) (by omega)
    rw [take_snoc hz, unitL_snoc, ← ih, unitsTo_succ]
    unfold addU
    cases hi : insB f t (gt (c := .release) zs n) with
    | false => simp
    | true =>
      have hu2 := h _ (List.mem_of_getElem? hz) hi
      unfold unitB at hu2
      simp only [Bool.and_eq_true, decide_eq_true_eq] at hu2
      have hl := units_len (f := f) (t := t) (L := L) (zs := zs) n
      simp only [Bool.true_and, if_true, beq_iff_eq]
      by_cases e : (gt (c := .release) zs n).un = (u : Int)
      · rw [if_pos e]
        have e2 : (gt (c := .release) zs n).un.toNat = u := by omega
        rw [e2]
        exact gt_set_self (by omega)
      · rw [if_neg e, List.append_nil]
        have e2 : (gt (c := .release) zs n).un.toNat ≠ u := by omega
        exact gt_set_ne e2
theorem hd_eq {f t p j : Int} {r : Release} {v : Nat} (hr : insB f t r = true) (hv : r.un = (v : Int)) : ∀ (l : List Release) (k : Int), (∀ s ∈ l, r.tm ≤ s.tm) → hdRef f t p j r k l = hdR p j r.tm (k + 1) (unitL f t v l)
  | [], k, _ => rfl
  | s :: l, k, hs => by
    have h1 := hs s List.mem_cons_self
    have ih := fun k => hd_eq (p := p) (j := j) hr hv l k (fun q hq => hs q (List.mem_cons_of_mem _ hq))
    unfold insB at hr
    simp only [Bool.and_eq_true, decide_eq_true_eq] at hr
    have e : condB f t r s = (insB f t s && s.un == (v : Int)) := by
      unfold condB insB
      rw [hv, decide_eq_true hr.1, decide_eq_true (show f ≤ s.tm by omega)]
    unfold hdRef
    rw [e, unitL_cons]
    split
    · rw [ih]; rfl
    · rw [ih]
theorem hd_out {f t p j : Int} {r : Release} (hr : insB f t r = false) : ∀ (l : List Release) (k : Int), (∀ s ∈ l, r.tm ≤ s.tm) → hdRef f t p j r k l = true
  | [], k, _ => rfl
  | s :: l, k, hs => by
    have h1 := hs s List.mem_cons_self
    have e : condB f t r s = false := by
      unfold insB at hr
      unfold condB
      rw [Bool.and_eq_false_iff] at hr ⊢
      rcases hr with h | h
      · left; rw [h]; rfl
      · left
        rw [decide_eq_false_iff_not] at h
        rw [decide_eq_false (show ¬ s.tm < t by omega), Bool.and_false]
    unfold hdRef
    rw [e]
    exact hd_out hr l k (fun q hq => hs q (List.mem_cons_of_mem _ hq))
theorem ref_eq {xs : List Job} {f t : Int} : ∀ {b : Int} {l : List Release}, formB f t (xs.length : Int) b l = true → (refB xs f t l = true ↔ ∀ u, u < xs.length → rateR (gt (c := .job) xs u).pd (gt (c := .job) xs u).ji (unitL f t u l) = true)
  | b, [], _ => ⟨fun _ u _ => rfl, fun _ => rfl⟩
  | b, r :: l, h => by
    have hall := form_at h
    have h0 := h
    unfold formB at h
    simp only [Bool.and_eq_true] at h
    have ih := ref_eq h.2
    have hs : ∀ s ∈ l, r.tm ≤ s.tm := fun s hs => (form_at h.2 s hs).1
    unfold refB
    rw [Bool.and_eq_true, ih]
    cases hi : insB f t r with
    | false =>
      rw [hd_out hi l 0 hs]
      refine ⟨fun g u hu => ?_, fun g => ⟨rfl, fun u hu => ?_⟩⟩
      · rw [unitL_cons, hi]; exact g.2 u hu
      · have := g u hu; rw [unitL_cons, hi] at this; exact this
    | true =>
      have hu := (hall r List.mem_cons_self).2 hi
      unfold unitB at hu
      simp only [Bool.and_eq_true, decide_eq_true_eq] at hu
      have hv : r.un = (r.un.toNat : Int) := by omega
      rw [hd_eq hi hv l 0 hs]
      have same : ∀ u, u ≠ r.un.toNat → unitL f t u (r :: l) = unitL f t u l := fun u hne => by
        rw [unitL_cons, if_neg]
        rw [hi, Bool.true_and, beq_iff_eq]; omega
      have self : unitL f t r.un.toNat (r :: l) = r.tm :: unitL f t r.un.toNat l := by
        rw [unitL_cons, if_pos]
        rw [hi, Bool.true_and, beq_iff_eq]; exact hv
      constructor
      · rintro ⟨g1, g2⟩ u hul
        by_cases e : u = r.un.toNat
        · subst e
          rw [self]
          unfold rateR
          rw [Bool.and_eq_true]
          exact ⟨g1, g2 _ hul⟩
        · rw [same u e]; exact g2 u hul
      · intro g
        have gv := g r.un.toNat (by omega)
        rw [self] at gv
        unfold rateR at gv
        rw [Bool.and_eq_true] at gv
        refine ⟨gv.1, fun u hul => ?_⟩
        by_cases e : u = r.un.toNat
        · subst e; exact gv.2
        · have := g u hul; rw [same u e] at this; exact this
theorem rateU_iff {xs : List Job} {us : List (List Int)} : rateU xs us = true ↔ ∀ u, u < xs.length → rateR (gt (c := .job) xs u).pd (gt (c := .job) xs u).ji (gt (c := .ints) us u) = true := by
  unfold rateU
  rw [List.all_eq_true]
  exact ⟨fun h u hu => h u (List.mem_range.2 hu), fun h u hu => h u (List.mem_range.1 hu)⟩
theorem rates_same {xs : List Job} {zs : List Release} {f t : Int} (h : formB f t (xs.length : Int) 0 zs = true) : rateU xs (unitsTo f t xs.length zs zs.length) = refB xs f t zs := by
  have e : rateU xs (unitsTo f t xs.length zs zs.length) = true ↔ refB xs f t zs = true := by
    rw [rateU_iff, ref_eq h]
    have hu := fun z hz => (form_at h z hz).2
    refine ⟨fun g u hul => ?_, fun g u hul => ?_⟩
    · have := g u hul; rw [units_eq hu _ (Nat.le_refl _) u hul, List.take_length] at this; exact this
    · rw [units_eq hu _ (Nat.le_refl _) u hul, List.take_length]; exact g u hul
  cases h1 : rateU xs (unitsTo f t xs.length zs zs.length) <;> cases h2 : refB xs f t zs <;> simp_all
theorem rel_ref (xs : List Job) (zs : List Release) (f t : Int) : relJ xs zs f t = if formB f t (xs.length : Int) 0 zs then (if refB xs f t zs then 0 else 39) else 10 := by
  unfold relJ
  by_cases h : formB f t (xs.length : Int) 0 zs = true
  · rw [if_pos h, if_pos h, rates_same h]
  · rw [if_neg h, if_neg h]
/-! ### Offsets -/
def mxTo (ys : List Answer) : Nat → Int
  | 0 => 0
  | n + 1 => imax (mxTo ys n) (gt (c := .answer) ys n).re
def offJ (xs : List Job) (ys : List Answer) : Int × Int := if jobsB xs = true ∧ ys.length = xs.length then (mxTo ys ys.length, 0) else (0, 40)
end Go.Proofs.Ytjhjhjmdbhackaa
