/- Plain facts on demands and response times. No condition on any program. -/
import Derived.Test.YtjhjhjmdbhackaaS41P
import Derived.Test.YtjhjhjmdbhackaaS39M
namespace Go.Proofs.Ytjhjhjmdbhackaa
set_option linter.unusedSimpArgs false
set_option linter.unusedSectionVars false
set_option linter.unusedVariables false
open Go.RowKit
/-- Rates, the greatest instruction, the cost of a miss. -/
structure Par where
  d : Int
  de : Int
  p : Int
  pa : Int
  wi : Int
  er : Int
  ins : Int
  miss : Int
def ratesB (x : Par) : Bool := validR x.d x.de x.p x.pa x.wi x.er
def goodB (l : List Job) (x : Par) : Bool := jobsB l && ratesB x && decide (0 ≤ x.ins ∧ x.ins ≤ 16777216 ∧ 0 ≤ x.miss ∧ x.miss ≤ 100)
/-- Plain bounds of rates. -/
structure Rok (x : Par) : Prop where
  d : 0 ≤ x.d ∧ x.d ≤ 16777216
  de : 0 ≤ x.de ∧ x.de ≤ 16777216
  p : 0 ≤ x.p ∧ x.p ≤ 16777216
  pa : 0 ≤ x.pa ∧ x.pa ≤ 16777216
  wi : 0 ≤ x.wi ∧ x.wi ≤ 16777216
  er : 0 ≤ x.er ∧ x.er ≤ 200
  ins : 0 ≤ x.ins ∧ x.ins ≤ 16777216
  miss : 0 ≤ x.miss ∧ x.miss ≤ 100
structure JobOk (j : Job) : Prop where
  pd : 1 ≤ j.pd ∧ j.pd ≤ 16777216
  dl : 1 ≤ j.dl ∧ j.dl ≤ j.pd
  ji : 0 ≤ j.ji ∧ j.ji ≤ j.pd
  co : 0 ≤ j.co ∧ j.co ≤ 16777216
  ev : 0 ≤ j.ev ∧ j.ev ≤ 16777216
  se : ∀ h ∈ j.se, h.cost ≤ 16777216
structure JobsOk (l : List Job) : Prop where
  n : l.length ≤ 6
  all : ∀ j ∈ l, JobOk j
theorem jobOk_of {j : Job} (h : badJ j = false) : JobOk j := by
  unfold badJ at h
  rw [Bool.or_eq_false_iff] at h
  obtain ⟨h1, h2⟩ := h
  have h1' : numsB j = true := by simpa using h1
  unfold numsB at h1'
  rw [decide_eq_true_eq] at h1'
  obtain ⟨a1, a2, a3, a4, a5, a6, a7, a8, a9, a10, a11, a12⟩ := h1'
  refine ⟨⟨a1, a2⟩, ⟨a3, a4⟩, ⟨a5, a6⟩, ⟨a9, a10⟩, ⟨a11, a12⟩, fun h hh => ?_⟩
  rw [List.any_eq_false] at h2
  have h3 := h2 h hh
  have h4 : badH h = false := by simpa using h3
  unfold badH holdB at h4
  rw [Bool.not_eq_false', decide_eq_true_eq] at h4
  exact h4.2.2.2
theorem jobsOk_of {l : List Job} (h : jobsB l = true) : JobsOk l := by
  unfold jobsB at h
  rw [Bool.and_eq_true, decide_eq_true_eq] at h
  refine ⟨by omega, fun j hj => jobOk_of ?_⟩
  have h2 : l.any badJ = false := by simpa using h.2
  rw [List.any_eq_false] at h2
  have h3 := h2 j hj
  simpa using h3
theorem rok_of {l : List Job} {x : Par} (h : goodB l x = true) : Rok x ∧ JobsOk l := by
  unfold goodB ratesB at h
  rw [Bool.and_eq_true, Bool.and_eq_true, decide_eq_true_eq] at h
  obtain ⟨⟨h1, h2⟩, h3⟩ := h
  unfold validR at h2
  rw [decide_eq_true_eq] at h2
  exact ⟨⟨by omega, by omega, by omega, by omega, by omega, by omega, by omega, by omega⟩, jobsOk_of h1⟩
def pay (x : Par) (t : Int) : Int := mostI x.de x.d x.pa x.p x.er x.wi x.miss t
def once (j : Job) (t : Int) : Int := timesI (t + j.ji) j.pd * (j.co + j.ev)
def demTo (l : List Job) (x : Par) (i t : Int) : Nat → Int
  | 0 => blockJ l i x.ins + (jobAt l i).co + pay x t
  | k + 1 => if beforeJ l k i then demTo l x i t k + once (jobAt l k) t else demTo l x i t k
def demJ (l : List Job) (x : Par) (i t : Int) : Int := demTo l x i t l.length
theorem demTo_next {l : List Job} {x : Par} {i t : Int} {k : Nat} {j : Job} {m : Int} (h : l[k]? = some j) (hm : demTo l x i t k = m) : demTo l x i t (k + 1) = if beforeJ l k i then m + once j t else m := by
  show (if beforeJ l k i then demTo l x i t k + once (jobAt l k) t else demTo l x i t k) = _
  rw [hm, jobAt_eq h]
theorem once_bd {j : Job} {t : Int} (h : JobOk j) (h0 : 0 ≤ t) (h1 : t ≤ 16777216) : 0 ≤ once j t ∧ once j t ≤ 1200000000000000 ∧ 0 ≤ timesI (t + j.ji) j.pd ∧ timesI (t + j.ji) j.pd ≤ 33554433 ∧ 0 ≤ j.co + j.ev ∧ j.co + j.ev ≤ 33554432 := by
  obtain ⟨a1, a2⟩ := h.pd; obtain ⟨b1, b2⟩ := h.ji; obtain ⟨c1, c2⟩ := h.co; obtain ⟨e1, e2⟩ := h.ev
  have t1 := timesI_bd (t := t + j.ji) (d := j.pd) (by omega)
  have m := mul_le_of (a := timesI (t + j.ji) j.pd) (b := j.co + j.ev) (A := 33554433) (B := 33554432) (by omega) (by omega) (by omega) (by omega)
  unfold once
  omega
theorem pay_bd {x : Par} {t : Int} (h : Rok x) (h0 : 0 ≤ t) (h1 : t ≤ 1073741824) : 0 ≤ pay x t ∧ pay x t ≤ 4000000000000000000 := by
  obtain ⟨_, hde, _, hpa, _, her, _, hm⟩ := h
  exact most_bd h0 h1 hde.1 hde.2 hpa.1 hpa.2 her.1 her.2 hm.1 (by omega)
theorem jobAt_ok {l : List Job} {i : Int} (h : JobsOk l) (h0 : 0 ≤ i) (h1 : i < l.length) : JobOk (jobAt l i) := by
  exact h.all _ (mem_gt (c := .job) (by omega))
theorem blockJ_bd {l : List Job} {x : Par} (i : Int) (hx : Rok x) (h : JobsOk l) : 0 ≤ blockJ l i x.ins ∧ blockJ l i x.ins ≤ 16777216 :=
  block_bd hx.ins.1 hx.ins.2 (fun j hj => (h.all j hj).se) l.length (Nat.le_refl _)
theorem demTo_bd {l : List Job} {x : Par} {i t : Int} (hx : Rok x) (h : JobsOk l) (hi0 : 0 ≤ i) (hi1 : i < l.length) (h0 : 0 ≤ t) (h1 : t ≤ 16777216) : ∀ k, k ≤ l.length → 0 ≤ demTo l x i t k ∧ demTo l x i t k ≤ 4000000000033554432 + k * 1200000000000000
  | 0, _ => by
    have a := blockJ_bd i hx h
    have b := (jobAt_ok h hi0 hi1).co
    have c := pay_bd hx h0 (by omega)
    unfold demTo
    omega
  | k + 1, hk => by
    have ih := demTo_bd hx h hi0 hi1 h0 h1 k (by omega)
    have hj : l[k]? = some l[k] := List.getElem?_eq_getElem (by omega)
    have o := once_bd (h.all _ (List.getElem_mem (by omega : k < l.length))) h0 h1
    rw [demTo_next hj rfl]
    split <;> omega
theorem demJ_bd {l : List Job} {x : Par} {i t : Int} (hx : Rok x) (h : JobsOk l) (hi0 : 0 ≤ i) (hi1 : i < l.length) (h0 : 0 ≤ t) (h1 : t ≤ 16777216) : 0 ≤ demJ l x i t ∧ demJ l x i t ≤ 4100000000000000000 := by
  have := demTo_bd hx h hi0 hi1 h0 h1 l.length (Nat.le_refl _)
  have hn := h.n
  unfold demJ
  omega
/-- The least time that is at least its demand, within a limit: so many rounds at most. -/
def leastF (D : Int → Int) (lim : Int) : Nat → Int → Option Int
  | 0, _ => none
  | f + 1, t => if t ≤ lim then (if D t ≤ t then some t else leastF D lim f (D t)) else none
def leastD (D : Int → Int) (lim : Int) : Option Int := leastF D lim (lim + 1).toNat 1
def limJ (l : List Job) (i : Int) : Int := (jobAt l i).dl - (jobAt l i).ji
def leastJ (l : List Job) (x : Par) (i : Int) : Option Int := leastD (demJ l x i) (limJ l i)
theorem leastF_no {D : Int → Int} {lim t : Int} {f : Nat} (h : lim < t) : leastF D lim f t = none := by
  cases f with
  | zero => rfl
  | succ f => unfold leastF; rw [if_neg (by omega)]
theorem leastF_yes {D : Int → Int} {lim t : Int} {f : Nat} (h : t ≤ lim) (hf : lim + 1 - t ≤ f) (hd : D t ≤ t) : leastF D lim f t = some t := by
  cases f with
  | zero => omega
  | succ f => unfold leastF; rw [if_pos h, if_pos hd]
theorem leastF_go {D : Int → Int} {lim t : Int} {f : Nat} (h : t ≤ lim) (hf : lim + 1 - t ≤ f) (hd : ¬ D t ≤ t) : leastF D lim f t = leastF D lim (f - 1) (D t) := by
  cases f with
  | zero => omega
  | succ f => conv => lhs; unfold leastF
              rw [if_pos h, if_neg hd]; rfl
theorem leastF_spec {D : Int → Int} {lim : Int} (mono : ∀ a b, 1 ≤ a → a ≤ b → b ≤ lim → D a ≤ D b) : ∀ (f : Nat) (t : Int), 1 ≤ t → lim + 1 - t ≤ f → (∀ s, 1 ≤ s → s < t → s ≤ lim → ¬ D s ≤ s) →
    match leastF D lim f t with
    | some r => 1 ≤ r ∧ r ≤ lim ∧ D r ≤ r ∧ ∀ s, 1 ≤ s → s < r → ¬ D s ≤ s
    | none => ∀ s, 1 ≤ s → s ≤ lim → ¬ D s ≤ s
  | 0, t, h1, hf, hs => fun s hs1 hs2 => hs s hs1 (by omega) hs2
  | f + 1, t, h1, hf, hs => by
    by_cases h : t ≤ lim
    · by_cases hd : D t ≤ t
      · rw [leastF_yes h hf hd]
        exact ⟨h1, h, hd, fun s hs1 hs2 => hs s hs1 hs2 (by omega)⟩
      · rw [leastF_go h hf hd]
        refine leastF_spec mono f (D t) (by omega) (by omega) fun s hs1 hs2 hs3 => ?_
        by_cases hst : s < t
        · exact hs s hs1 hst hs3
        · have := mono t s h1 (by omega) hs3
          omega
    · rw [leastF_no (by omega)]
      exact fun s hs1 hs2 => hs s hs1 (by omega) hs2
end Go.Proofs.Ytjhjhjmdbhackaa
