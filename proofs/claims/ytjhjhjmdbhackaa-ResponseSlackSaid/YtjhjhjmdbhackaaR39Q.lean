/- Plain facts on disturbances: how counts add up, and what a list that is accepted costs at most. No condition on any program. -/
import Derived.Test.YtjhjhjmdbhackaaA6
namespace Go.Proofs.Ytjhjhjmdbhackaa
set_option linter.unusedSimpArgs false
set_option linter.unusedSectionVars false
set_option linter.unusedVariables false
open Go.RowKit
theorem countI_add {k a b c : Int} (h1 : a ≤ b) (h2 : b ≤ c) : ∀ l : List Dist, countI k a b l + countI k b c l = countI k a c l
  | [] => rfl
  | d :: l => by
    have ih := countI_add h1 h2 l (k := k)
    simp only [countI, hitB]
    by_cases hk : d.kind = k
    · have e : (d.kind == k) = true := by simpa using hk
      simp only [e, Bool.true_and, Bool.and_eq_true, decide_eq_true_eq]
      split <;> split <;> split <;> omega
    · have e : (d.kind == k) = false := by simpa using hk
      simp only [e, Bool.false_and]
      simp only [Bool.false_eq_true, if_false]
      omega
theorem countI_none {k a b : Int} (h : b ≤ a) : ∀ l : List Dist, countI k a b l = 0
  | [] => rfl
  | d :: l => by
    have ih := countI_none h l (k := k)
    have e : hitB k a b d = false := by
      simp only [hitB, Bool.and_eq_false_iff, decide_eq_false_iff_not]
      by_cases h1 : a ≤ d.tm
      · exact .inr (.inr (by omega))
      · exact .inr (.inl h1)
    simp only [countI, e, ih]
    rfl
theorem countI_all : ∀ l : List Dist, (∀ d ∈ l, 1 ≤ d.kind ∧ d.kind ≤ 3 ∧ 0 ≤ d.tm ∧ d.tm < 16777217) → countI 1 0 16777217 l + countI 2 0 16777217 l + countI 3 0 16777217 l = l.length
  | [], _ => rfl
  | d :: l, h => by
    have ih := countI_all l (fun x hx => h x (List.mem_cons_of_mem _ hx))
    obtain ⟨h1, h2, h3, h4⟩ := h d List.mem_cons_self
    have e1 : decide (0 ≤ d.tm) = true := by simpa using h3
    have e2 : decide (d.tm < 16777217) = true := by simpa using h4
    simp only [countI, hitB, e1, e2, Bool.and_true, List.length_cons, beq_iff_eq]
    split <;> split <;> split <;> omega
def inW (a b t : Int) : Bool := decide (a ≤ t) && decide (t < b)
def cntW (a b : Int) (l : List Int) : Nat := (l.filter (inW a b)).length
theorem count_times {k a b : Int} : ∀ l : List Dist, countI k a b l = cntW a b (timesK k l)
  | [] => rfl
  | d :: l => by
    have ih := count_times l (k := k) (a := a) (b := b)
    simp only [countI, hitB]
    by_cases hk : d.kind = k
    · have e : (d.kind == k) = true := by simpa using hk
      have e2 : timesK k (d :: l) = d.tm :: timesK k l := by simp [timesK, hk]
      have e3 : cntW a b (d.tm :: timesK k l) = (if inW a b d.tm then 1 else 0) + cntW a b (timesK k l) := by
        simp only [cntW, List.filter_cons]
        split <;> simp <;> omega
      rw [e2, ih, e3]
      cases hi : inW a b d.tm
      · have hi' := hi
        unfold inW at hi'
        simp only [e, Bool.true_and, hi', Bool.false_eq_true, if_false]
        omega
      · have hi' := hi
        unfold inW at hi'
        simp only [e, Bool.true_and, hi', if_true]
        omega
    · have e : (d.kind == k) = false := by simpa using hk
      have e2 : timesK k (d :: l) = timesK k l := by simp [timesK, hk]
      rw [e2, ih]
      simp [e]
theorem sep_tail {t : Int} {r : List Int} {n : Nat} {w : Int} (h : sepP (t :: r) n w) : sepP r n w := fun i hi => by
  have := h (i + 1) (by simp; omega)
  have e : i + 1 + n = (i + n) + 1 := by omega
  rw [e] at this
  simpa using this
/-- In a window as long as the distance lie at most n. -/
theorem win {n : Nat} {w a : Int} : ∀ l : List Int, l.Pairwise (· ≤ ·) → sepP l n w → cntW a (a + w) l ≤ n
  | [], _, _ => by simp [cntW]
  | t :: r, hp, hs => by
    by_cases ht : t < a
    · have e : inW a (a + w) t = false := by simp [inW]; omega
      have := win r (List.pairwise_cons.1 hp).2 (sep_tail hs) (n := n) (w := w) (a := a)
      simp only [cntW, List.filter_cons, e] at this ⊢
      simpa using this
    · have hd : ∀ x ∈ (t :: r).drop n, inW a (a + w) x = false := fun x hx => by
        obtain ⟨j, hj⟩ := List.mem_iff_getElem?.1 hx
        rw [List.getElem?_drop] at hj
        have hlt := (List.getElem?_eq_some_iff.1 hj).1
        have h0 := hs 0 (by omega)
        have e0 : (t :: r).getD 0 0 = t := rfl
        have en : (t :: r)[0 + n]? = some ((t :: r).getD (0 + n) 0) := by rw [List.getD_eq_getElem?_getD, List.getElem?_eq_getElem (by omega)]; rfl
        have hle : (t :: r).getD (0 + n) 0 ≤ x := by
          rcases Nat.lt_or_ge 0 j with h1 | h1
          · have hpp := List.pairwise_iff_getElem.1 hp (0 + n) (n + j) (by omega) hlt (by omega)
            have x1 := (List.getElem?_eq_some_iff.1 hj).2
            rw [x1] at hpp
            rw [List.getElem?_eq_getElem (by omega)] at en
            have := Option.some.inj en
            omega
          · obtain rfl : j = 0 := by omega
            have : n + 0 = 0 + n := by omega
            rw [this, en] at hj
            have := Option.some.inj hj
            omega
        rw [e0] at h0
        simp [inW]; omega
      have e : (t :: r) = (t :: r).take n ++ (t :: r).drop n := (List.take_append_drop n _).symm
      have h2 : ((t :: r).drop n).filter (inW a (a + w)) = [] := List.filter_eq_nil_iff.2 fun x hx => by rw [hd x hx]; decide
      have h3 : (((t :: r).take n).filter (inW a (a + w))).length ≤ n := Nat.le_trans (List.length_filter_le _ _) (List.length_take_le _ _)
      unfold cntW
      rw [e, List.filter_append, h2, List.append_nil]
      exact h3
theorem countI_mono {k a b c : Int} (h : a ≤ b) (h2 : b ≤ c) (l : List Dist) : countI k a b l ≤ countI k a c l := by
  have := countI_add (k := k) h h2 l
  have := (countI_bd k b c l).1
  omega
theorem cover {k w f : Int} {n : Nat} {l : List Dist} (hw : 0 ≤ w) (h : ∀ a, countI k a (a + w) l ≤ n) : ∀ j : Nat, countI k f (f + j * w) l ≤ n * j
  | 0 => by have := countI_none (k := k) (a := f) (b := f + (0 : Nat) * w) (by omega) l; omega
  | j + 1 => by
    have ih := cover hw h j (f := f)
    have h0 : 0 ≤ (j : Int) * w := Int.mul_nonneg (by omega) hw
    have e : ((j + 1 : Nat) : Int) * w = j * w + w := by rw [Int.natCast_add, Int.add_mul]; simp
    have e2 : (n : Int) * ((j + 1 : Nat) : Int) = n * j + n := by rw [Int.natCast_add, Int.mul_add]; simp
    have ha := countI_add (k := k) (a := f) (b := f + j * w) (c := f + (j * w + w)) (by omega) (by omega) l
    have hx := h (f + j * w)
    have e3 : f + (j : Int) * w + w = f + (j * w + w) := by omega
    rw [e3] at hx
    rw [e, e2]
    omega
theorem times_up {t w : Int} (ht : 0 ≤ t) (hw : 0 < w) : t ≤ timesI t w * w ∧ 0 ≤ timesI t w := by
  have hb := timesI_bd (t := t) (d := w) ht
  refine ⟨?_, hb.1⟩
  unfold timesI
  rw [if_neg (by omega)]
  have e := Int.mul_ediv_add_emod t w
  have m0 := Int.emod_nonneg t (b := w) (by omega)
  have m1 := Int.emod_lt_of_pos t hw
  rw [Int.add_mul, Int.mul_comm (t / w) w]
  by_cases hr : t % w = 0
  · have : imin 1 (imax 0 (t % w)) = 0 := by rw [hr]; rfl
    rw [this]; omega
  · have : imin 1 (imax 0 (t % w)) = 1 := by unfold imin imax; split <;> split <;> omega
    rw [this]; omega
theorem sorted_tm {ds : List Dist} (h : formedAll ds) : ds.Pairwise (fun a b => a.tm ≤ b.tm) := by
  rw [List.pairwise_iff_getElem]
  intro i j hi hj hij
  have step : ∀ j (hj : j + 1 < ds.length), (ds[j]'(by omega)).tm ≤ ds[j + 1].tm := fun j hj => by
    have hb := h (j + 1) ds[j + 1] (List.getElem?_eq_getElem hj)
    have e : lastT ds (j + 1) = (ds[j]'(by omega)).tm := lastT_succ (List.getElem?_eq_getElem (by omega))
    rw [e] at hb
    simp only [formedB, Bool.and_eq_true, decide_eq_true_eq] at hb
    omega
  have key : ∀ k (hk : i + 1 + k < ds.length), ds[i].tm ≤ ds[i + 1 + k].tm := by
    intro k
    induction k with
    | zero => intro hk; exact step i hk
    | succ k ih =>
      intro hk
      have h1 := ih (by omega)
      have h2 := step (i + 1 + k) (by omega)
      exact Int.le_trans h1 h2
  have := key (j - (i + 1)) (by omega)
  have e : i + 1 + (j - (i + 1)) = j := by omega
  simpa only [e] using this
theorem sorted_times {ds : List Dist} (h : formedAll ds) (k : Int) : (timesK k ds).Pairwise (· ≤ ·) := by
  unfold timesK
  exact List.pairwise_map.2 ((sorted_tm h).filter _)
/-- One kind costs at most what is said. -/
theorem kind_bd {ds : List Dist} {k w n f t : Int} (hf : formedAll ds) (h : apartB (timesK k ds) w n = true) (hw : 0 ≤ w) (hn : 0 ≤ n) (ht : 0 ≤ t) : countI k f (f + t) ds ≤ n * timesI t w := by
  have hb := timesI_bd (t := t) (d := w) ht
  by_cases h0 : w = 0 ∨ n = 0
  · rw [apartB_zero h0, decide_eq_true_eq] at h
    have e : timesK k ds = [] := List.length_eq_zero_iff.1 (by omega)
    have hc := count_times (k := k) (a := f) (b := f + t) ds
    rw [e] at hc
    have : cntW f (f + t) [] = 0 := rfl
    have := Int.mul_nonneg hn hb.1
    omega
  · have hs : sepP (timesK k ds) n.toNat w := by
      unfold apartB at h
      rw [if_neg h0] at h
      exact of_decide_eq_true h
    have hwin : ∀ a, countI k a (a + w) ds ≤ n.toNat := fun a => by
      rw [count_times]
      have := win (timesK k ds) (sorted_times hf k) hs (a := a)
      omega
    obtain ⟨u1, u2⟩ := times_up (t := t) (w := w) ht (by omega)
    have hc := cover (f := f) hw hwin (timesI t w).toNat
    have e : (((timesI t w).toNat : Nat) : Int) = timesI t w := Int.toNat_of_nonneg u2
    have e2 : ((n.toNat : Nat) : Int) = n := Int.toNat_of_nonneg hn
    rw [e, e2] at hc
    have := countI_mono (k := k) (a := f) (b := f + t) (c := f + timesI t w * w) (by omega) (by omega) ds
    omega
theorem check_zero {d de p pa wi er : Int} {ds : List Dist} (h : checkI d de p pa wi er ds = 0) : validR d de p pa wi er = true ∧ formedAll ds ∧ apartB (timesK 1 ds) d 1 = true ∧ apartB (timesK 2 ds) p 1 = true ∧ apartB (timesK 3 ds) wi er = true := by
  unfold checkI at h
  split at h
  · rename_i h1
    split at h
    · rename_i h2; exact ⟨h1.1, h1.2.2, h2⟩
    · cases h
  · cases h
theorem bounds {d de p pa wi er f t m : Int} {ds : List Dist} (h : checkI d de p pa wi er ds = 0) (h1 : 0 ≤ d) (h2 : 0 ≤ de) (h3 : 0 ≤ p) (h4 : 0 ≤ pa) (h5 : 0 ≤ wi) (h6 : 0 ≤ er) (ht : 0 ≤ t) (hm : 0 ≤ m) :
    countI 1 f (f + t) ds * de + countI 2 f (f + t) ds * pa + countI 3 f (f + t) ds * m ≤ mostI de d pa p er wi m t := by
  obtain ⟨_, hf, a1, a2, a3⟩ := check_zero h
  have b1 := kind_bd (f := f) (t := t) hf a1 h1 (by omega) ht
  have b2 := kind_bd (f := f) (t := t) hf a2 h3 (by omega) ht
  have b3 := kind_bd (f := f) (t := t) hf a3 h5 h6 ht
  rw [Int.one_mul] at b1 b2
  have c1 := Int.mul_le_mul_of_nonneg_right b1 h2
  have c2 := Int.mul_le_mul_of_nonneg_right b2 h4
  have c3 := Int.mul_le_mul_of_nonneg_right b3 hm
  unfold mostI
  rw [Int.mul_comm de, Int.mul_comm pa]
  have e : m * er * timesI t wi = er * timesI t wi * m := by rw [Int.mul_comm m er, Int.mul_assoc, Int.mul_assoc, Int.mul_comm m]
  rw [e]
  omega
end Go.Proofs.Ytjhjhjmdbhackaa
