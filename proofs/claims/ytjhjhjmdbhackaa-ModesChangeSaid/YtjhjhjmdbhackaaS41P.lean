/- Plain facts on jobs: which are valid, which is before which, what a job waits for. No condition on any program. -/
import Derived.Test.YtjhjhjmdbhackaaWA
namespace Go.Proofs.Ytjhjhjmdbhackaa
set_option linter.unusedSimpArgs false
set_option linter.unusedSectionVars false
set_option linter.unusedVariables false
open Go.RowKit
def holdB (h : Hold) : Bool := decide (0 ≤ h.res ∧ h.res ≤ 3 ∧ 0 ≤ h.cost ∧ h.cost ≤ 16777216)
def numsB (j : Job) : Bool := decide (1 ≤ j.pd ∧ j.pd ≤ 16777216 ∧ 1 ≤ j.dl ∧ j.dl ≤ j.pd ∧ 0 ≤ j.ji ∧ j.ji ≤ j.pd ∧ 0 ≤ j.pr ∧ j.pr ≤ 15 ∧ 0 ≤ j.co ∧ j.co ≤ 16777216 ∧ 0 ≤ j.ev ∧ j.ev ≤ 16777216)
def badH (h : Hold) : Bool := !holdB h
def hitH (r : Int) (h : Hold) : Bool := h.res == r
def badJ (j : Job) : Bool := !numsB j || j.se.any badH
def jobsB (l : List Job) : Bool := decide ((l.length : Int) ≤ 6) && !l.any badJ
/-- What is asked of an index. -/
def inB (i n : Int) : Bool := decide (0 ≤ i) && decide (i < n)
abbrev jobAt (l : List Job) (i : Int) : Job := gt (c := .job) l i.toNat
def beforeJ (l : List Job) (i j : Int) : Bool :=
  inB i l.length && inB j l.length && (decide ((jobAt l j).pr < (jobAt l i).pr) || ((jobAt l i).pr == (jobAt l j).pr && decide (i < j)))
def usesB (r : Int) (j : Job) : Bool := j.se.any (hitH r)
/-- The first job with a section: one round. -/
def ceilS (l : List Job) (r : Int) (s : Int × Bool) (i : Nat) : Int × Bool := if usesB r (jobAt l i) && (!s.2 || beforeJ l i s.1) then ((i : Int), true) else s
def ceilTo (l : List Job) (r : Int) : Nat → Int × Bool
  | 0 => (0, false)
  | n + 1 => ceilS l r (ceilTo l r n) n
def ceilJ (l : List Job) (r : Int) : Int × Bool := ceilTo l r l.length
/-- What one section costs. -/
def secC (l : List Job) (i : Int) (m : Int) (h : Hold) : Int :=
  let c := ceilJ l h.res
  if c.2 && (c.1 == i || beforeJ l c.1 i) then imax m h.cost else m
def secTo (l : List Job) (i m : Int) (hs : List Hold) : Int := hs.foldl (secC l i) m
def blockR (l : List Job) (i ins m : Int) (k : Nat) : Int := if beforeJ l i k then secTo l i (imax m ins) (jobAt l k).se else m
def blockTo (l : List Job) (i ins : Int) : Nat → Int
  | 0 => 0
  | n + 1 => blockR l i ins (blockTo l i ins n) n
def blockJ (l : List Job) (i ins : Int) : Int := blockTo l i ins l.length
theorem gt_of {c : Ty} {l : List (El c)} {i : Nat} {x : El c} (h : l[i]? = some x) : gt l i = x := by
  have hi := (List.getElem?_eq_some_iff.1 h).1
  exact Option.some.inj ((gt_at hi).symm.trans h)
theorem take_snoc {α : Type} {l : List α} {n : Nat} {a : α} (h : l[n]? = some a) : l.take (n + 1) = l.take n ++ [a] := by
  rw [List.take_add_one, h]; rfl
theorem any_gt_t {c : Ty} {p : El c → Bool} {l : List (El c)} {i : Nat} (h : i < l.length) (hp : p (gt l i) = true) : l.any p = true := List.any_eq_true.2 ⟨_, List.mem_of_getElem? (gt_at h), hp⟩
theorem any_gt_f {c : Ty} {p : El c → Bool} {l : List (El c)} {n : Nat} (h : ∀ k, k < n → p (gt l k) = false) (hn : l.length ≤ n) : l.any p = false := by
  rw [List.any_eq_false]
  intro a ha
  obtain ⟨i, hi⟩ := List.mem_iff_getElem?.1 ha
  have hl := (List.getElem?_eq_some_iff.1 hi).1
  rw [← gt_of hi, h i (by omega)]; decide
theorem found_gt {c : Ty} {p : El c → Bool} {l : List (El c)} {i : Nat} (h : i < l.length) (hp : p (gt l i) = true) : decide ((0 : Int) ≤ (i : Int)) = l.any p := by
  rw [any_gt_t h hp]; simp
theorem none_gt {c : Ty} {p : El c → Bool} {l : List (El c)} {n : Nat} (h : ∀ k, k < n → p (gt l k) = false) (hn : l.length ≤ n) : decide ((0 : Int) ≤ -1) = l.any p := by
  rw [any_gt_f h hn]; decide
theorem gt_next {c : Ty} {p : El c → Bool} {l : List (El c)} {n : Nat} (h : ∀ k, k < n → p (gt l k) = false) (hp : p (gt l n) = false) : ∀ k, k < n + 1 → p (gt l k) = false := fun k hk => by
  rcases Nat.lt_succ_iff_lt_or_eq.1 hk with h1 | rfl
  · exact h k h1
  · exact hp
theorem mem_gt {c : Ty} {l : List (El c)} {i : Nat} (h : i < l.length) : gt l i ∈ l := List.mem_of_getElem? (gt_at h)
theorem any_of {α : Type} {p : α → Bool} {l : List α} {n : Nat} {a : α} (h : l[n]? = some a) (hp : p a = true) : l.any p = true := List.any_eq_true.2 ⟨a, List.mem_of_getElem? h, hp⟩
/-- Lists that are not too long for a counter. -/
structure Small (l : List Job) : Prop where
  n : l.length ≤ 1000
  s : ∀ j ∈ l, j.se.length ≤ 1000
theorem found_ok {α : Type} {xs : List α} {p : α → Bool} {i : Nat} {a : α} (ha : xs[i]? = some a) (hp : p a = true) : decide ((0 : Int) ≤ (i : Int)) = xs.any p := by
  rw [any_of ha hp]; simp
theorem none_ok {α : Type} {xs : List α} {p : α → Bool} (h : xs.any p = false) : decide ((0 : Int) ≤ -1) = xs.any p := by rw [h]; decide
theorem secTo_snoc (l : List Job) (i m : Int) {hs : List Hold} {n : Nat} {h : Hold} (e : hs[n]? = some h) : secTo l i m (hs.take (n + 1)) = secC l i (secTo l i m (hs.take n)) h := by
  rw [take_snoc e]; unfold secTo; rw [List.foldl_append]; rfl
theorem jobAt_eq {l : List Job} {i : Nat} {j : Job} (h : l[i]? = some j) : jobAt l i = j := by
  unfold jobAt; rw [Int.toNat_natCast]; exact gt_of h
theorem imax_bd {a b lo hi : Int} (h1 : lo ≤ a) (h2 : a ≤ hi) (h3 : b ≤ hi) : lo ≤ imax a b ∧ imax a b ≤ hi := by unfold imax; split <;> omega
theorem secC_bd (l : List Job) (i : Int) {m : Int} {h : Hold} (h1 : 0 ≤ m) (h2 : m ≤ 16777216) (h3 : h.cost ≤ 16777216) : m ≤ secC l i m h ∧ secC l i m h ≤ 16777216 := by
  unfold secC
  simp only
  split
  · unfold imax; split <;> omega
  · omega
theorem secTo_bd (l : List Job) (i : Int) : ∀ (hs : List Hold) {m : Int}, 0 ≤ m → m ≤ 16777216 → (∀ h ∈ hs, h.cost ≤ 16777216) → 0 ≤ secTo l i m hs ∧ secTo l i m hs ≤ 16777216
  | [], m, h1, h2, _ => ⟨h1, h2⟩
  | h :: hs, m, h1, h2, h3 => by
    have a := secC_bd l i h1 h2 (h3 h List.mem_cons_self)
    exact secTo_bd l i hs (m := secC l i m h) (by omega) a.2 (fun x hx => h3 x (List.mem_cons_of_mem _ hx))
theorem any_none {α : Type} {p : α → Bool} {l : List α} (h : ∀ (i : Nat) (a : α), l[i]? = some a → p a = false) : l.any p = false := by
  rw [List.any_eq_false]
  intro a ha
  obtain ⟨i, hi⟩ := List.mem_iff_getElem?.1 ha
  rw [h i a hi]; decide
theorem no_next {α : Type} {p : α → Bool} {l : List α} {n : Nat} {a : α} (h : ∀ (i : Nat) (a : α), i < n → l[i]? = some a → p a = false) (ha : l[n]? = some a) (hp : p a = false) : ∀ (i : Nat) (a : α), i < n + 1 → l[i]? = some a → p a = false := fun i b hi hb => by
  rcases Nat.lt_succ_iff_lt_or_eq.1 hi with h1 | rfl
  · exact h i b h1 hb
  · rw [ha] at hb; cases hb; exact hp
theorem no_all {α : Type} {p : α → Bool} {l : List α} {n : Nat} (h : ∀ (i : Nat) (a : α), i < n → l[i]? = some a → p a = false) (hn : l.length ≤ n) : l.any p = false :=
  any_none fun i a ha => h i a (by have := (List.getElem?_eq_some_iff.1 ha).1; omega) ha
theorem before_in {l : List Job} {i j : Int} {a b : Job} (h1 : 0 ≤ i) (h2 : 0 ≤ j) (ha : l[i.toNat]? = some a) (hb : l[j.toNat]? = some b) : beforeJ l i j = (decide (b.pr < a.pr) || (a.pr == b.pr && decide (i < j))) := by
  have x1 := (List.getElem?_eq_some_iff.1 ha).1
  have x2 := (List.getElem?_eq_some_iff.1 hb).1
  have e1 : inB i l.length = true := by simp only [inB, Bool.and_eq_true, decide_eq_true_eq]; omega
  have e2 : inB j l.length = true := by simp only [inB, Bool.and_eq_true, decide_eq_true_eq]; omega
  have e3 : jobAt l i = a := by exact gt_of ha
  have e4 : jobAt l j = b := by exact gt_of hb
  unfold beforeJ
  rw [e1, e2, e3, e4]
  rfl
theorem before_out {l : List Job} {i j : Int} (h : ¬ ((0 ≤ i ∧ i < l.length) ∧ 0 ≤ j ∧ j < l.length)) : beforeJ l i j = false := by
  unfold beforeJ
  have : (inB i l.length && inB j l.length) = false := by
    rw [Bool.eq_false_iff]
    intro e
    simp only [inB, Bool.and_eq_true, decide_eq_true_eq] at e
    exact h e
  rw [this]; rfl
theorem ceilTo_next {l : List Job} {r : Int} {i : Nat} {j : Job} {c : Int × Bool} (h : l[i]? = some j) (hc : ceilTo l r i = c) : ceilTo l r (i + 1) = if j.se.any (hitH r) && (!c.2 || beforeJ l i c.1) then ((i : Int), true) else c := by
  show ceilS l r (ceilTo l r i) i = _
  rw [hc]
  unfold ceilS usesB
  rw [jobAt_eq h]
theorem blockTo_next {l : List Job} {i ins : Int} {k : Nat} {j : Job} {m : Int} (h : l[k]? = some j) (hm : blockTo l i ins k = m) : blockTo l i ins (k + 1) = if beforeJ l i k then secTo l i (imax m ins) j.se else m := by
  show blockR l i ins (blockTo l i ins k) k = _
  rw [hm]
  unfold blockR
  rw [jobAt_eq h]
theorem secC_eq {l : List Job} {i m : Int} {h : Hold} {c : Int × Bool} (hc : ceilJ l h.res = c) : secC l i m h = if c.2 && (c.1 == i || beforeJ l c.1 i) then imax m h.cost else m := by
  unfold secC
  simp only [hc]
theorem block_bd {l : List Job} {i ins : Int} (hi : 0 ≤ ins) (h2 : ins ≤ 16777216) (hc : ∀ j ∈ l, ∀ h ∈ j.se, h.cost ≤ 16777216) : ∀ k, k ≤ l.length → 0 ≤ blockTo l i ins k ∧ blockTo l i ins k ≤ 16777216
  | 0, _ => by simp [blockTo]
  | k + 1, hk => by
    have ih := block_bd (i := i) hi h2 hc k (by omega)
    have hj : l[k]? = some l[k] := List.getElem?_eq_getElem (by omega)
    rw [blockTo_next hj rfl]
    split
    · have := imax_bd ih.1 ih.2 h2
      exact secTo_bd l i _ this.1 this.2 (hc _ (List.getElem_mem _))
    · exact ih
end Go.Proofs.Ytjhjhjmdbhackaa
