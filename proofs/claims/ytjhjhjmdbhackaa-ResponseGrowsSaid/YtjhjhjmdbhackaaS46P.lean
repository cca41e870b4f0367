/- Plain facts: blocking grows with sections. No condition on any program. -/
import Derived.Test.YtjhjhjmdbhackaaS43P
import Derived.Test.YtjhjhjmdbhackaaWI
namespace Go.Proofs.Ytjhjhjmdbhackaa
set_option linter.unusedSimpArgs false
set_option linter.unusedSectionVars false
set_option linter.unusedVariables false
open Go.RowKit
/-- One job goes ahead of another, in range. -/
theorem before_iff {l : List Job} {i j : Int} : beforeJ l i j = true ↔ (0 ≤ i ∧ i < l.length) ∧ (0 ≤ j ∧ j < l.length) ∧ ((jobAt l j).pr < (jobAt l i).pr ∨ (jobAt l i).pr = (jobAt l j).pr ∧ i < j) := by
  unfold beforeJ inB
  simp only [Bool.and_eq_true, Bool.or_eq_true, decide_eq_true_eq, beq_iff_eq, and_assoc]
theorem before_trans {l : List Job} {i j k : Int} (h : beforeJ l i j = true) (g : beforeJ l j k = true) : beforeJ l i k = true := by
  rw [before_iff] at *; omega
theorem before_total {l : List Job} {i j : Int} (h : 0 ≤ i ∧ i < l.length) (g : 0 ≤ j ∧ j < l.length) (hn : i ≠ j) (hb : beforeJ l i j = false) : beforeJ l j i = true := by
  have : ¬ beforeJ l i j = true := by rw [hb]; simp
  rw [before_iff] at *; omega
/-- The ceiling is the first user. -/
theorem ceil_spec {l : List Job} {r : Int} : ∀ n : Nat, n ≤ l.length → ((ceilTo l r n).2 = true → ∃ k : Nat, k < n ∧ (ceilTo l r n).1 = (k : Int) ∧ usesB r (jobAt l k) = true) ∧ ∀ u : Nat, u < n → usesB r (jobAt l u) = true → (ceilTo l r n).2 = true ∧ ((ceilTo l r n).1 = (u : Int) ∨ beforeJ l (ceilTo l r n).1 u = true)
  | 0, _ => ⟨fun h => absurd h (by simp [ceilTo]), fun u hu => absurd hu (by omega)⟩
  | n + 1, hn => by
    obtain ⟨h1, h2⟩ := ceil_spec (l := l) (r := r) n (by omega)
    show ((ceilS l r (ceilTo l r n) n).2 = true → ∃ k : Nat, k < n + 1 ∧ (ceilS l r (ceilTo l r n) n).1 = (k : Int) ∧ usesB r (jobAt l k) = true) ∧ ∀ u : Nat, u < n + 1 → usesB r (jobAt l u) = true → (ceilS l r (ceilTo l r n) n).2 = true ∧ ((ceilS l r (ceilTo l r n) n).1 = (u : Int) ∨ beforeJ l (ceilS l r (ceilTo l r n) n).1 u = true)
    generalize ceilTo l r n = c at h1 h2 ⊢
    obtain ⟨c1, c2⟩ := c
    dsimp only at h1 h2
    unfold ceilS
    dsimp only
    split
    · rename_i hc
      simp only [Bool.and_eq_true, Bool.or_eq_true, Bool.not_eq_true'] at hc
      refine ⟨fun _ => ⟨n, by omega, rfl, hc.1⟩, fun u hu hus => ⟨rfl, ?_⟩⟩
      by_cases hun : u = n
      · exact .inl (by rw [hun])
      · obtain ⟨k1, k2⟩ := h2 u (by omega) hus
        refine .inr ?_
        rcases hc.2 with q | q
        · rw [q] at k1; cases k1
        · rcases k2 with k2 | k2
          · rw [← k2]; exact q
          · exact before_trans q k2
    · rename_i hc
      have hc' : ¬ (usesB r (jobAt l n) = true ∧ (c2 = false ∨ beforeJ l n c1 = true)) := by simpa using hc
      refine ⟨fun h => ?_, fun u hu hus => ?_⟩
      · obtain ⟨k, k1, k2, k3⟩ := h1 h
        exact ⟨k, by omega, k2, k3⟩
      · by_cases hun : u = n
        · subst hun
          have q2 : c2 = true := by
            cases hq : c2 with
            | true => rfl
            | false => exact absurd ⟨hus, .inl hq⟩ hc'
          obtain ⟨k, k1, k2, k3⟩ := h1 q2
          refine ⟨q2, .inr ?_⟩
          have q3 : beforeJ l u c1 = false := by
            cases hq : beforeJ l u c1 with
            | false => rfl
            | true => exact absurd ⟨hus, .inr hq⟩ hc'
          exact before_total (by omega) (by omega) (by omega) q3
        · exact h2 u (by omega) hus
/-- Does a section of resource r block job i? -/
def ceilB (l : List Job) (i r : Int) : Bool := (ceilJ l r).2 && ((ceilJ l r).1 == i || beforeJ l (ceilJ l r).1 i)
theorem ceilB_iff {l : List Job} {i r : Int} : ceilB l i r = true ↔ ∃ u : Nat, u < l.length ∧ usesB r (jobAt l u) = true ∧ ((u : Int) = i ∨ beforeJ l u i = true) := by
  obtain ⟨h1, h2⟩ := ceil_spec (l := l) (r := r) l.length (Nat.le_refl _)
  unfold ceilB ceilJ
  simp only [Bool.and_eq_true, Bool.or_eq_true, beq_iff_eq]
  constructor
  · rintro ⟨a, b⟩
    obtain ⟨k, k1, k2, k3⟩ := h1 a
    rw [k2] at b
    exact ⟨k, k1, k3, b⟩
  · rintro ⟨u, u1, u2, u3⟩
    obtain ⟨k1, k2⟩ := h2 u u1 u2
    refine ⟨k1, ?_⟩
    rcases k2 with k2 | k2
    · rw [k2]; exact u3
    · rcases u3 with u3 | u3
      · rw [← u3]; exact .inr k2
      · exact .inr (before_trans k2 u3)
theorem secC_is (l : List Job) (i m : Int) (h : Hold) : secC l i m h = if ceilB l i h.res then imax m h.cost else m := rfl
theorem imax_ge (a b : Int) : a ≤ imax a b ∧ b ≤ imax a b := by unfold imax; split <;> omega
theorem imax_le {a b c : Int} (h : a ≤ c) (g : b ≤ c) : imax a b ≤ c := by unfold imax; split <;> omega
theorem secC_ge (l : List Job) (i m : Int) (h : Hold) : m ≤ secC l i m h ∧ (ceilB l i h.res = true → h.cost ≤ secC l i m h) := by
  rw [secC_is]
  cases ceilB l i h.res with
  | true => exact ⟨(imax_ge m h.cost).1, fun _ => (imax_ge m h.cost).2⟩
  | false => exact ⟨Int.le_refl _, fun e => by cases e⟩
theorem secC_le {l : List Job} {i m B : Int} {h : Hold} (h1 : m ≤ B) (h2 : ceilB l i h.res = true → h.cost ≤ B) : secC l i m h ≤ B := by
  rw [secC_is]
  cases e : ceilB l i h.res with
  | true => exact imax_le h1 (h2 e)
  | false => exact h1
theorem secTo_ge (l : List Job) (i : Int) : ∀ (hs : List Hold) (m : Int), m ≤ secTo l i m hs ∧ ∀ h ∈ hs, ceilB l i h.res = true → h.cost ≤ secTo l i m hs
  | [], m => ⟨Int.le_refl _, fun h hh => by cases hh⟩
  | a :: r, m => by
    obtain ⟨h1, h2⟩ := secTo_ge l i r (secC l i m a)
    obtain ⟨g1, g2⟩ := secC_ge l i m a
    have e : secTo l i m (a :: r) = secTo l i (secC l i m a) r := rfl
    rw [e]
    refine ⟨Int.le_trans g1 h1, fun h hh hc => ?_⟩
    rcases List.mem_cons.1 hh with q | q
    · rw [q] at hc ⊢; exact Int.le_trans (g2 hc) h1
    · exact h2 h q hc
theorem secTo_le {l : List Job} {i B : Int} : ∀ {hs : List Hold} {m : Int}, m ≤ B → (∀ h ∈ hs, ceilB l i h.res = true → h.cost ≤ B) → secTo l i m hs ≤ B
  | [], m, h1, _ => h1
  | a :: r, m, h1, h2 => secTo_le (hs := r) (secC_le h1 (h2 a List.mem_cons_self)) fun h hh => h2 h (List.mem_cons_of_mem _ hh)
theorem blockTo_step (l : List Job) (i ins : Int) (n : Nat) : blockTo l i ins n ≤ blockTo l i ins (n + 1) ∧ (beforeJ l i n = true → ins ≤ blockTo l i ins (n + 1) ∧ ∀ h ∈ (jobAt l n).se, ceilB l i h.res = true → h.cost ≤ blockTo l i ins (n + 1)) := by
  show blockTo l i ins n ≤ blockR l i ins (blockTo l i ins n) n ∧ (beforeJ l i n = true → ins ≤ blockR l i ins (blockTo l i ins n) n ∧ ∀ h ∈ (jobAt l n).se, ceilB l i h.res = true → h.cost ≤ blockR l i ins (blockTo l i ins n) n)
  unfold blockR
  cases e : beforeJ l i n with
  | false => exact ⟨Int.le_refl _, fun h => by cases h⟩
  | true =>
    rw [if_pos rfl]
    obtain ⟨h1, h2⟩ := secTo_ge l i (jobAt l n).se (imax (blockTo l i ins n) ins)
    obtain ⟨g1, g2⟩ := imax_ge (blockTo l i ins n) ins
    exact ⟨Int.le_trans g1 h1, fun _ => ⟨Int.le_trans g2 h1, h2⟩⟩
theorem blockTo_mono (l : List Job) (i ins : Int) {a : Nat} : ∀ {b : Nat}, a ≤ b → blockTo l i ins a ≤ blockTo l i ins b
  | 0, h => by rw [show a = 0 by omega]; exact Int.le_refl _
  | b + 1, h => by
    by_cases q : a = b + 1
    · rw [q]; exact Int.le_refl _
    · exact Int.le_trans (blockTo_mono l i ins (b := b) (by omega)) (blockTo_step l i ins b).1
theorem blockJ_ge {l : List Job} {i ins : Int} {k : Nat} (hk : k < l.length) (hb : beforeJ l i k = true) : ins ≤ blockJ l i ins ∧ ∀ h ∈ (jobAt l k).se, ceilB l i h.res = true → h.cost ≤ blockJ l i ins := by
  obtain ⟨h1, h2⟩ := (blockTo_step l i ins k).2 hb
  have m := blockTo_mono l i ins (a := k + 1) (b := l.length) (by omega)
  exact ⟨Int.le_trans h1 m, fun h hh hc => Int.le_trans (h2 h hh hc) m⟩
theorem blockJ_zero (l : List Job) (i ins : Int) : 0 ≤ blockJ l i ins := blockTo_mono l i ins (a := 0) (Nat.zero_le _)
theorem blockTo_le {l : List Job} {i ins B : Int} (h0 : 0 ≤ B) : ∀ n : Nat, (∀ k : Nat, k < n → beforeJ l i k = true → ins ≤ B ∧ ∀ h ∈ (jobAt l k).se, ceilB l i h.res = true → h.cost ≤ B) → blockTo l i ins n ≤ B
  | 0, _ => h0
  | n + 1, h => by
    have ih := blockTo_le h0 n fun k hk => h k (by omega)
    show blockR l i ins (blockTo l i ins n) n ≤ B
    unfold blockR
    cases e : beforeJ l i n with
    | false => exact ih
    | true =>
      rw [if_pos rfl]
      obtain ⟨h1, h2⟩ := h n (by omega) e
      exact secTo_le (imax_le ih h1) h2
/-- The jobs of m are those of l, with more. -/
structure Grow (l m : List Job) : Prop where
  len : m.length = l.length
  pd : ∀ k : Int, (jobAt m k).pd = (jobAt l k).pd
  dl : ∀ k : Int, (jobAt m k).dl = (jobAt l k).dl
  ji : ∀ k : Int, (jobAt m k).ji = (jobAt l k).ji
  pr : ∀ k : Int, (jobAt m k).pr = (jobAt l k).pr
  co : ∀ k : Int, (jobAt l k).co ≤ (jobAt m k).co
  ev : ∀ k : Int, (jobAt l k).ev ≤ (jobAt m k).ev
  se : ∀ k : Int, ∀ h ∈ (jobAt l k).se, h ∈ (jobAt m k).se
theorem Grow.before {l m : List Job} (g : Grow l m) (i j : Int) : beforeJ m i j = beforeJ l i j := by
  rw [Bool.eq_iff_iff, before_iff, before_iff, g.len, g.pr, g.pr]
theorem Grow.ceil {l m : List Job} (g : Grow l m) {i r : Int} (h : ceilB l i r = true) : ceilB m i r = true := by
  rw [ceilB_iff] at h ⊢
  obtain ⟨u, h1, h2, h3⟩ := h
  refine ⟨u, by rw [g.len]; exact h1, ?_, by rw [g.before]; exact h3⟩
  unfold usesB at h2 ⊢
  rw [List.any_eq_true] at h2 ⊢
  obtain ⟨q, q1, q2⟩ := h2
  exact ⟨q, g.se u q q1, q2⟩
theorem Grow.block {l m : List Job} (g : Grow l m) (i ins : Int) : blockJ l i ins ≤ blockJ m i ins := by
  refine blockTo_le (blockJ_zero m i ins) l.length fun k hk hb => ?_
  have hb' : beforeJ m i k = true := by rw [g.before]; exact hb
  obtain ⟨h1, h2⟩ := blockJ_ge (l := m) (ins := ins) (by rw [g.len]; exact hk) hb'
  exact ⟨h1, fun h hh hc => h2 h (g.se k h hh) (g.ceil hc)⟩
theorem Grow.once {l m : List Job} (g : Grow l m) (hj : JobsOk l) {k : Nat} {t : Int} (hk : k < l.length) (h0 : 0 ≤ t) : once (jobAt l k) t ≤ once (jobAt m k) t := by
  have ok := jobAt_ok (i := (k : Int)) hj (by omega) (by omega)
  have hc := g.co k; have he := g.ev k
  have b := timesI_bd (t := t + (jobAt l k).ji) (d := (jobAt l k).pd) (by have := ok.ji; omega)
  unfold Go.Proofs.Ytjhjhjmdbhackaa.once
  rw [g.ji, g.pd]
  exact Int.mul_le_mul_of_nonneg_left (by omega) b.1
theorem Grow.demTo {l m : List Job} {x y : Par} (g : Grow l m) (hj : JobsOk l) (hi : y.ins = x.ins) {i t : Int} (h0 : 0 ≤ t) (hp : pay x t ≤ pay y t) : ∀ k : Nat, k ≤ l.length → demTo l x i t k ≤ demTo m y i t k
  | 0, _ => by
    have b := g.block i x.ins
    have c := g.co i
    unfold Go.Proofs.Ytjhjhjmdbhackaa.demTo
    rw [hi]; omega
  | k + 1, hk => by
    have ih := Grow.demTo g hj hi (i := i) h0 hp k (by omega)
    have o := g.once hj (k := k) (by omega) h0
    unfold Go.Proofs.Ytjhjhjmdbhackaa.demTo
    rw [g.before]
    split <;> omega
theorem Grow.dem {l m : List Job} {x y : Par} (g : Grow l m) (hj : JobsOk l) (hi : y.ins = x.ins) {i t : Int} (h0 : 0 ≤ t) (hp : pay x t ≤ pay y t) : demJ l x i t ≤ demJ m y i t := by
  unfold demJ
  rw [g.len]
  exact g.demTo hj hi h0 hp l.length (Nat.le_refl _)
theorem Grow.lim {l m : List Job} (g : Grow l m) (i : Int) : limJ m i = limJ l i := by unfold limJ; rw [g.dl, g.ji]
/-- What ends in time with more, ends in time with less, and no later. -/
theorem Grow.least {l m : List Job} {x y : Par} (g : Grow l m) (hx : Rok x) (hj : JobsOk l) (hy : Rok y) (hm : JobsOk m) (hi : y.ins = x.ins) (hp : ∀ t, 0 ≤ t → pay x t ≤ pay y t) {i b : Int} (h : leastJ m y i = some b) : ∃ a, leastJ l x i = some a ∧ a ≤ b := by
  obtain ⟨h1, h2, h3, h4⟩ := leastJ_some hy hm h
  rw [g.lim] at h2
  have d := g.dem hj hi (i := i) (t := b) (by omega) (hp b (by omega))
  cases e : leastJ l x i with
  | none => exact absurd (show demJ l x i b ≤ b by omega) (leastJ_none hx hj e b h1 h2)
  | some a =>
    obtain ⟨a1, a2, a3, a4⟩ := leastJ_some hx hj e
    refine ⟨a, rfl, ?_⟩
    by_cases q : a ≤ b
    · exact q
    · exact absurd (show demJ l x i b ≤ b by omega) (a4 b h1 (by omega))
/-- The same, of Time. -/
theorem Grow.time {l m : List Job} {x y : Par} (g : Grow l m) (hg : goodB l x = true) (hi : y.ins = x.ins) (hp : ∀ t, 0 ≤ t → pay x t ≤ pay y t) {i : Int} (h0 : 0 ≤ i) (h1 : i < l.length) (h : (timeJ m y i).2 = 0) : (timeJ l x i).2 = 0 ∧ (timeJ l x i).1 ≤ (timeJ m y i).1 := by
  by_cases hg2 : goodB m y = true
  · obtain ⟨hx, hj⟩ := rok_of hg
    obtain ⟨hy, hm⟩ := rok_of hg2
    rw [time_in hg2 h0 (by rw [g.len]; exact h1)] at h ⊢
    rw [time_in hg h0 h1]
    cases e : leastJ m y i with
    | none => rw [e] at h; cases h
    | some b =>
      obtain ⟨a, e2, hab⟩ := g.least hx hj hy hm hi hp e
      rw [e2]
      exact ⟨rfl, hab⟩
  · rw [time_bad (.inl (by simpa using hg2))] at h; cases h
theorem Grow.refl (l : List Job) : Grow l l := ⟨rfl, fun _ => rfl, fun _ => rfl, fun _ => rfl, fun _ => rfl, fun _ => Int.le_refl _, fun _ => Int.le_refl _, fun _ _ h => h⟩
theorem jobAt_set {l : List Job} {n : Nat} {j : Job} (hn : n < l.length) (q : Int) : jobAt (l.set n j) q = if q.toNat = n then j else jobAt l q := by
  unfold jobAt gt
  rw [List.getD_eq_getElem?_getD, List.getD_eq_getElem?_getD]
  split
  · rename_i e; rw [e, List.getElem?_set_self hn]; rfl
  · rename_i e; rw [List.getElem?_set_ne (Ne.symm e)]
/-- One job with more. -/
theorem grow_set {l : List Job} {n : Nat} {a j : Job} (ha : l[n]? = some a) (h1 : j.pd = a.pd) (h2 : j.dl = a.dl) (h3 : j.ji = a.ji) (h4 : j.pr = a.pr) (h5 : a.co ≤ j.co) (h6 : a.ev ≤ j.ev) (h7 : ∀ h ∈ a.se, h ∈ j.se) : Grow l (l.set n j) := by
  have hn := (List.getElem?_eq_some_iff.1 ha).1
  have e : ∀ q : Int, q.toNat = n → jobAt l q = a := fun q hq => by unfold jobAt; rw [hq]; exact gt_eq (c := .job) ha
  refine ⟨List.length_set, ?_, ?_, ?_, ?_, ?_, ?_, ?_⟩ <;> intro q <;> rw [jobAt_set hn] <;> split
  all_goals first
    | (rename_i hq; rw [e q hq]; assumption)
    | exact rfl
    | exact Int.le_refl _
    | exact fun _ h => h
/-- A longer pause. -/
theorem pay_pause {x : Par} {pa t : Int} (h : x.pa ≤ pa) (h0 : 0 ≤ t) : pay x t ≤ pay ⟨x.d, x.de, x.p, pa, x.wi, x.er, x.ins, x.miss⟩ t := by
  have b := timesI_bd (t := t) (d := x.p) h0
  have m := Int.mul_le_mul_of_nonneg_right h b.1
  unfold pay mostI
  dsimp only
  omega
/-- A job alone. -/
theorem alone_dem (j : Job) (ins miss t : Int) : demJ [⟨j.pd, j.dl, j.ji, j.pr, j.co, [], j.ev⟩] ⟨0, 0, 0, 0, 0, 0, ins, miss⟩ 0 t = j.co := by
  have hb : beforeJ [⟨j.pd, j.dl, j.ji, j.pr, j.co, [], j.ev⟩] 0 0 = false := by
    cases e : beforeJ [⟨j.pd, j.dl, j.ji, j.pr, j.co, [], j.ev⟩] 0 0 with
    | false => rfl
    | true => rw [before_iff] at e; omega
  have hbl : blockJ [⟨j.pd, j.dl, j.ji, j.pr, j.co, [], j.ev⟩] 0 ins = 0 := by
    show blockR _ 0 ins 0 0 = 0
    unfold blockR
    rw [show ((0 : Nat) : Int) = 0 from rfl, hb]; rfl
  show demTo [⟨j.pd, j.dl, j.ji, j.pr, j.co, [], j.ev⟩] ⟨0, 0, 0, 0, 0, 0, ins, miss⟩ 0 t 1 = j.co
  unfold demTo
  rw [show ((0 : Nat) : Int) = 0 from rfl, hb]
  show demTo [⟨j.pd, j.dl, j.ji, j.pr, j.co, [], j.ev⟩] ⟨0, 0, 0, 0, 0, 0, ins, miss⟩ 0 t 0 = j.co
  unfold demTo
  dsimp only
  rw [hbl]
  simp [pay, mostI, jobAt, gt]
theorem alone_least {j : Job} {ins miss : Int} (hx : Rok ⟨0, 0, 0, 0, 0, 0, ins, miss⟩) (hj : JobsOk [⟨j.pd, j.dl, j.ji, j.pr, j.co, [], j.ev⟩]) : leastJ [⟨j.pd, j.dl, j.ji, j.pr, j.co, [], j.ev⟩] ⟨0, 0, 0, 0, 0, 0, ins, miss⟩ 0 = if imax 1 j.co ≤ j.dl - j.ji then some (imax 1 j.co) else none := by
  have hl : limJ [⟨j.pd, j.dl, j.ji, j.pr, j.co, [], j.ev⟩] 0 = j.dl - j.ji := rfl
  obtain ⟨g1, g2⟩ := imax_ge 1 j.co
  have g3 : imax 1 j.co = 1 ∨ imax 1 j.co = j.co := by unfold imax; split <;> simp
  split
  · rename_i h
    refine leastJ_is hx hj g1 (by rw [hl]; exact h) (by rw [alone_dem]; exact g2) fun s h1 h2 => ?_
    rw [alone_dem]; omega
  · rename_i h
    cases e : leastJ [⟨j.pd, j.dl, j.ji, j.pr, j.co, [], j.ev⟩] ⟨0, 0, 0, 0, 0, 0, ins, miss⟩ 0 with
    | none => rfl
    | some a =>
      obtain ⟨a1, a2, a3, a4⟩ := leastJ_some hx hj e
      rw [alone_dem] at a3
      rw [hl] at a2
      exact absurd (imax_le a1 a3) (by omega)
end Go.Proofs.Ytjhjhjmdbhackaa
