/- Symbolic walks, tenth part: a region that draws its order. No condition on any program. -/
import Derived.Test.YtbcoanbjhbppcaaSym9
namespace Go.Proofs.Ytbcoanbjhbppcaa
set_option linter.unusedVariables false
open Go.RowKit

def edgeL (i : Nat) : List Edge → Bool
  | [] => false
  | e :: l => match Nat.beq e.on i with
    | true => match e.ground with
      | .textOnly _ => edgeL i l
      | .gcOnly _ => edgeL i l
      | _ => true
    | false => edgeL i l
def waitsL (ops : List Oper) (j i : Nat) : Bool :=
  match nth ops j with
  | none => false
  | some o => edgeL i o.after.toList
theorem edgeL_spec {i : Nat} : ∀ {l : List Edge}, edgeL i l = true → ∃ e ∈ l, Region.binds .any e = true ∧ e.on = i
  | [], h => by cases h
  | e :: l, h => by
    have ih : edgeL i l = true → ∃ e' ∈ e :: l, Region.binds .any e' = true ∧ e'.on = i := fun h => by
      obtain ⟨e', h1, h2⟩ := edgeL_spec h
      exact ⟨e', List.mem_cons_of_mem _ h1, h2⟩
    unfold edgeL at h
    cases hb : Nat.beq e.on i with
    | false => simp only [hb] at h; exact ih h
    | true =>
      simp only [hb] at h
      have hi := Nat.eq_of_beq_eq_true hb
      cases hg : e.ground <;> simp only [hg] at h <;> first | exact ih h | exact ⟨e, List.mem_cons_self, by simp [Region.binds, hg], hi⟩
theorem waitsL_spec {ops : List Oper} {j i : Nat} (h : waitsL ops j i = true) : Region.waitsFor .any ops.toArray j i = true := by
  unfold waitsL at h
  unfold Region.waitsFor
  rw [nth_eq]
  cases ho : nth ops j with
  | none => simp [ho] at h
  | some o =>
    simp only [ho] at h ⊢
    obtain ⟨e, h1, h2, h3⟩ := edgeL_spec h
    exact Array.any_eq_true'.2 ⟨e, by simpa using h1, by simp [h2, h3]⟩
/-- The blocks that operation 'j' may look at: those from before the region, and those laid by operations for which it waits. -/
def vis (ops : List Oper) (j : Nat) (tags : List (Nat × Nat)) : List (Nat × List SV) → List (Nat × List SV)
  | [] => []
  | (k, c) :: m => match find tags k with
    | none => (k, c) :: vis ops j tags m
    | some i => match waitsL ops j i with
      | true => (k, c) :: vis ops j tags m
      | false => vis ops j tags m
theorem vis_find {ops : List Oper} {j : Nat} {tags : List (Nat × Nat)} : ∀ {m : List (Nat × List SV)} {k : Nat} {c : List SV}, find (vis ops j tags m) k = some c →
    find m k = some c ∧ (find tags k = none ∨ ∃ i, find tags k = some i ∧ waitsL ops j i = true)
  | [], k, c, h => by simp [vis, find] at h
  | (k0, c0) :: m, k, c, h => by
    have ih : find (vis ops j tags m) k = some c → k ≠ k0 → find ((k0, c0) :: m) k = some c ∧ (find tags k = none ∨ ∃ i, find tags k = some i ∧ waitsL ops j i = true) := by
      intro h1 hne
      obtain ⟨h2, h3⟩ := vis_find h1
      exact ⟨by rw [find_cons, if_neg (Ne.symm hne)]; exact h2, h3⟩
    unfold vis at h
    split at h
    · rename_i hn
      rw [find_cons] at h
      split at h
      · rename_i e; subst e; cases h
        exact ⟨by rw [find_cons, if_pos rfl], .inl hn⟩
      · rename_i e; exact ih h (Ne.symm e)
    · rename_i i hi
      split at h
      · rename_i hw
        rw [find_cons] at h
        split at h
        · rename_i e; subst e; cases h
          exact ⟨by rw [find_cons, if_pos rfl], .inr ⟨i, hi, hw⟩⟩
        · rename_i e; exact ih h (Ne.symm e)
      · rename_i hw
        by_cases e : k = k0
        · subst e
          exfalso
          obtain ⟨h2, h3⟩ := vis_find h
          rcases h3 with h3 | ⟨i', h3, h4⟩
          · rw [hi] at h3; cases h3
          · rw [hi] at h3; cases h3; rw [hw] at h4; cases h4
        · exact ih h e

def headOp (x : Cx) (ops : List Oper) (m0 : List (Nat × List SV)) (j : Nat) (o : Oper) (tags : List (Nat × Nat)) (s : St) (K : List (Nat × Nat) → St → Prop) : Prop :=
  match o.op with
  | .alloc t => evNew x.L s newK (.alloc t)
  | .box t y => evNew x.L s newK (.box t y)
  | .buildSlice t n ps => evNew x.L s newK (.buildSlice t n ps)
  | .store _ _ _ => False
  | .call c => match c.callee with
    | .value f => evCall x s ⟨s.env, vis ops j tags s.mem, s.nb⟩ f c.args fun v => putS x s o.dst v (K tags)
    | .builtin b => evBuiltin x.L ⟨s.env, m0, s.nb⟩ b c.args c.argTypes fun v => putS x s o.dst v (K tags)
    | _ => False
  | op => ev x.P x.L x.D x.w0 ⟨s.env, m0, s.nb⟩ (fun v => putS x s o.dst v (K tags)) op
where newK (c : List SV) (sh : Option (Nat × Nat)) : Prop :=
  match okL s.nb c with
  | true => putS x ⟨s.env, (s.nb, c) :: s.mem, s.nb + 1⟩ o.dst (svSh s.nb sh) (K ((s.nb, j) :: tags))
  | false => False
/-- The head of the region in the order 'L'. -/
def spHead (x : Cx) (ops : List Oper) (m0 : List (Nat × List SV)) : List Nat → List (Nat × Nat) → St → (St → Prop) → Prop
  | [], _, s, K => K s
  | j :: L, tags, s, K => match nth ops j with
    | none => False
    | some o => guardS ops o s fun s' y => match y with
      | true => headOp x ops m0 j o tags s' fun tags' s'' => spHead x ops m0 L tags' s'' K
      | false => putS x s' o.dst .undef fun s'' => spHead x ops m0 L tags s'' K

/-- What stands during the head: 'u': the world in which the region begins. -/
structure HI (x : Cx) (u : World) (m0 : List (Nat × List SV)) (tags : List (Nat × Nat)) (r : Nat → Nat) (s : St) (fs : List Fact) (a : Act) : Prop where
  defers : a.defers = []
  size : a.tmps.size = x.n
  env : EnvR r s a
  envOk : ∀ t v, find s.env t = some v → okV s.nb v = true
  memOk : ∀ k c, find s.mem k = some c → k < s.nb ∧ okL s.nb c = true
  inj : ∀ i j, i < s.nb → j < s.nb → r i = r j → i = j
  pre : ∀ k, k < s.nb → find tags k = none → r k < u.heap.size
  own : ∀ k, k < s.nb → x.w0.heap.size ≤ r k ∨ x.D (r k)
  pin : ∀ k, k < x.kb → k < s.nb ∧ r k = x.pin k
  gr : Gr x.D x.w0 u
  m0 : ∀ k c, find m0 k = some c → find tags k = none ∧ find s.mem k = some c
  old : ∀ k c, find s.mem k = some c → find tags k = none → ∃ t, u.heap[r k]? = some (.cells (denL r c).toArray t)
  new : ∀ k i, find tags k = some i → k < s.nb ∧ u.heap.size ≤ r k ∧ ∃ f ∈ fs, f.idx = i ∧ f.lo = r k ∧ f.hi = r k + 1 ∧ ∀ c, find s.mem k = some c → ∃ t, ∀ w : World, f.holds w → w.heap[r k]? = some (.cells (denL r c).toArray t)
theorem HI.mem0 {x : Cx} {u : World} {m0 : List (Nat × List SV)} {tags : List (Nat × Nat)} {r : Nat → Nat} {s : St} {fs : List Fact} {a : Act} (h : HI x u m0 tags r s fs a) {w : World} (g : Grown u w) :
    MemR x.D x.w0 r ⟨s.env, m0, s.nb⟩ w :=
  ⟨fun k c hk => by
    obtain ⟨h1, h2⟩ := h.m0 k c hk
    obtain ⟨t, ht⟩ := h.old k c h2 h1
    exact ⟨t, (grown_keeps g (Array.getElem?_eq_some_iff.1 ht).1).trans ht⟩, h.gr.grown g⟩
theorem HI.memVis {x : Cx} {u : World} {m0 : List (Nat × List SV)} {tags : List (Nat × Nat)} {r : Nat → Nat} {s : St} {fs : List Fact} {a : Act} (h : HI x u m0 tags r s fs a) {ops : List Oper} {j : Nat} {w : World} (g : Cls .any ops.toArray Grown u j fs w) :
    MemR x.D x.w0 r ⟨s.env, vis ops j tags s.mem, s.nb⟩ w :=
  ⟨fun k c hk => by
    obtain ⟨h1, h2⟩ := vis_find hk
    rcases h2 with h2 | ⟨i, h2, h3⟩
    · obtain ⟨t, ht⟩ := h.old k c h1 h2
      exact ⟨t, (grown_keeps g.1 (Array.getElem?_eq_some_iff.1 ht).1).trans ht⟩
    · obtain ⟨_, _, f, hf, e1, _, _, e4⟩ := h.new k i h2
      obtain ⟨t, ht⟩ := e4 c h1
      exact ⟨t, ht w (g.2 f hf (by rw [e1]; exact waitsL_spec h3))⟩, h.gr.grown g.1⟩
theorem HI.rep {x : Cx} {u : World} {m0 : List (Nat × List SV)} {tags : List (Nat × Nat)} {r : Nat → Nat} {s : St} {fs : List Fact} {a : Act} (h : HI x u m0 tags r s fs a) {w : World} (g : Wit Grown u fs w) : Rep x r s a w :=
  ⟨h.defers, h.size, h.env, h.envOk, ⟨fun k c hk => by
    cases ht : find tags k with
    | none =>
      obtain ⟨t, ht⟩ := h.old k c hk ht
      exact ⟨t, (grown_keeps g.1 (Array.getElem?_eq_some_iff.1 ht).1).trans ht⟩
    | some i =>
      obtain ⟨_, _, f, hf, e1, _, _, e4⟩ := h.new k i ht
      obtain ⟨t, ht⟩ := e4 c hk
      exact ⟨t, ht w (g.2 f hf).1⟩, h.gr.grown g.1⟩, h.memOk, h.inj, fun k hk => by
    cases ht : find tags k with
    | none => exact Nat.lt_of_lt_of_le (h.pre k hk ht) g.1.2.2
    | some i =>
      obtain ⟨_, _, f, hf, e1, e2, e3, e4⟩ := h.new k i ht
      have := (g.2 f hf).2
      omega, h.own, h.pin⟩
/-- A slot is written. -/
theorem putS_HI {x : Cx} {s : St} {d : Option Nat} {v : SV} {K : St → Prop} (h : putS x s d v K) : ∃ s', K s' ∧ ∀ u m0 tags r fs a, HI x u m0 tags r s fs a → HI x u m0 tags r s' fs (a.put d (den r v)) := by
  unfold putS at h
  cases d with
  | none => exact ⟨s, h, fun u m0 tags r fs a hr => hr⟩
  | some t =>
    cases h1 : Nat.blt t x.n with
    | false => simp [h1] at h
    | true =>
      cases h2 : okV s.nb v with
      | false => simp [h1, h2] at h
      | true =>
        simp only [h1, h2] at h
        refine ⟨_, h, fun u m0 tags r fs a hr => ?_⟩
        have hlt : t < a.tmps.size := by rw [hr.size]; simpa [Nat.blt_eq] using h1
        refine ⟨hr.defers, ?_, fun u z hu => ?_, fun u z hu => ?_, hr.memOk, hr.inj, hr.pre, hr.own, hr.pin, hr.gr, hr.m0, hr.old, hr.new⟩
        · show (a.tmps.setIfInBounds t _).size = _
          rw [Array.size_setIfInBounds, hr.size]
        · rw [put_getD _ _ _ _ hlt]
          rw [find_cons] at hu
          split at hu
          · rename_i e; subst e; cases hu; rw [if_pos rfl]
          · rename_i e; rw [if_neg e]; exact hr.env u z hu
        · rw [find_cons] at hu
          split at hu
          · cases hu; exact h2
          · exact hr.envOk u z hu
theorem HI.more {x : Cx} {u : World} {m0 : List (Nat × List SV)} {tags : List (Nat × Nat)} {r : Nat → Nat} {s : St} {fs : List Fact} {a : Act} (h : HI x u m0 tags r s fs a) (f : Fact) : HI x u m0 tags r s (f :: fs) a :=
  ⟨h.defers, h.size, h.env, h.envOk, h.memOk, h.inj, h.pre, h.own, h.pin, h.gr, h.m0, h.old, fun k i hk => by
    obtain ⟨h1, h2, g, hg, h3⟩ := h.new k i hk
    exact ⟨h1, h2, g, List.mem_cons_of_mem _ hg, h3⟩⟩
theorem HI.newB {x : Cx} {u : World} {m0 : List (Nat × List SV)} {tags : List (Nat × Nat)} {r : Nat → Nat} {s : St} {fs : List Fact} {a : Act} (h : HI x u m0 tags r s fs a) {c : List SV} (hc : okL s.nb c = true) {b j : Nat} {t : TypeId}
    (hb : u.heap.size ≤ b) (hfar : Far fs b (b + 1)) :
    HI x u m0 ((s.nb, j) :: tags) (upd r s.nb b) ⟨s.env, (s.nb, c) :: s.mem, s.nb + 1⟩ (⟨j, b, b + 1, fun w => w.heap[b]? = some (.cells (denL r c).toArray t)⟩ :: fs) a := by
  have tn : ∀ {k i}, find tags k = some i → k < s.nb := fun hk => (h.new _ _ hk).1
  have ne : ∀ k, k < s.nb → r k ≠ b := by
    intro k hk
    cases ht : find tags k with
    | none => have := h.pre k hk ht; omega
    | some i =>
      obtain ⟨_, _, f, hf, _, e2, e3, _⟩ := h.new k i ht
      have := hfar f hf
      omega
  refine ⟨h.defers, h.size, fun y v hu => ?_, fun y v hu => okV_mono (Nat.le_succ _) _ (h.envOk y v hu), fun k c' hk => ?_, fun i j hi hj hij => ?_, fun k hk ht => ?_, fun k hk => ?_, fun k hk => ⟨Nat.lt_succ_of_lt (h.pin k hk).1, (upd_lt k (h.pin k hk).1).trans (h.pin k hk).2⟩, h.gr, fun k c' hk => ?_, fun k c' hk ht => ?_, fun k i hk => ?_⟩
  · rw [den_upd (h.envOk y v hu)]; exact h.env y v hu
  · simp only [find_cons] at hk
    split at hk
    · rename_i e; subst e; cases hk; exact ⟨Nat.lt_succ_self _, okL_mono (Nat.le_succ _) _ hc⟩
    · obtain ⟨h1, h2⟩ := h.memOk k c' hk
      exact ⟨Nat.lt_succ_of_lt h1, okL_mono (Nat.le_succ _) _ h2⟩
  · by_cases e1 : i = s.nb
    · by_cases e2 : j = s.nb
      · rw [e1, e2]
      · exfalso
        have hj' : j < s.nb := by simp only at hj; omega
        rw [e1, upd_self, upd_lt j hj'] at hij
        exact ne j hj' hij.symm
    · have hi' : i < s.nb := by simp only at hi; omega
      by_cases e2 : j = s.nb
      · exfalso
        rw [e2, upd_self, upd_lt i hi'] at hij
        exact ne i hi' hij
      · have hj' : j < s.nb := by simp only at hj; omega
        rw [upd_lt i hi', upd_lt j hj'] at hij
        exact h.inj i j hi' hj' hij
  · rw [find_cons] at ht
    split at ht
    · cases ht
    · rename_i e
      have hk' : k < s.nb := by simp only at hk; omega
      rw [upd_lt k hk']
      exact h.pre k hk' ht
  · by_cases e1 : k = s.nb
    · rw [e1, upd_self]; exact .inl (Nat.le_trans h.gr.2.2 hb)
    · have hk' : k < s.nb := by simp only at hk; omega
      rw [upd_lt k hk']
      exact h.own k hk'
  · obtain ⟨h1, h2⟩ := h.m0 k c' hk
    have hk' := (h.memOk k c' h2).1
    have e : ¬ s.nb = k := by omega
    exact ⟨by rw [find_cons, if_neg e]; exact h1, by simp only [find_cons, if_neg e]; exact h2⟩
  · rw [find_cons] at ht
    split at ht
    · cases ht
    · rename_i e
      simp only [find_cons, if_neg e] at hk
      obtain ⟨h1, h2⟩ := h.memOk k c' hk
      rw [upd_lt k h1, denL_upd h2]
      exact h.old k c' hk ht
  · rw [find_cons] at hk
    split at hk
    · rename_i e; subst e; cases hk
      refine ⟨Nat.lt_succ_self _, by rw [upd_self]; exact hb, _, List.mem_cons_self, rfl, by rw [upd_self], by rw [upd_self], fun c' hc' => ?_⟩
      simp only [find_cons, if_true, Option.some.injEq] at hc'
      subst hc'
      exact ⟨t, fun w hw => by rw [upd_self, denL_upd hc]; exact hw⟩
    · rename_i e
      obtain ⟨h1, h2, f, hf, e1, e2, e3, e4⟩ := h.new k i hk
      refine ⟨Nat.lt_succ_of_lt h1, by rw [upd_lt k h1]; exact h2, f, List.mem_cons_of_mem _ hf, e1, by rw [upd_lt k h1]; exact e2, by rw [upd_lt k h1]; exact e3, fun c' hc' => ?_⟩
      simp only [find_cons, if_neg e] at hc'
      obtain ⟨t', ht'⟩ := e4 c' hc'
      exact ⟨t', fun w hw => by rw [upd_lt k h1, denL_upd (h.memOk k c' hc').2]; exact ht' w hw⟩
theorem HI.know {x : Cx} {u : World} {m0 : List (Nat × List SV)} {tags : List (Nat × Nat)} {r : Nat → Nat} {s s' : St} {fs : List Fact} {a : Act} (h : HI x u m0 tags r s fs a) (hm : s'.mem = s.mem) (hn : s'.nb = s.nb)
    (he : EnvR r s' a) (ho : ∀ t v, find s'.env t = some v → okV s.nb v = true) : HI x u m0 tags r s' fs a := by
  obtain ⟨e1, m1, n1⟩ := s'
  simp only at hm hn
  subst hm; subst hn
  exact ⟨h.defers, h.size, he, ho, h.memOk, h.inj, h.pre, h.own, h.pin, h.gr, h.m0, h.old, h.new⟩
end Go.Proofs.Ytbcoanbjhbppcaa
