/- Walks over lists, eleventh part: regions that draw their order. No condition on any program. -/
import Derived.Test.YtjhjhjmdbhackaaZ10
namespace Go.Proofs.Ytjhjhjmdbhackaa
set_option linter.unusedSimpArgs false
set_option linter.unusedSectionVars false
set_option linter.unusedVariables false
open Go.RowKit

/-- What a region's head may do: new blocks; decks may be drawn from. -/
structure Er (DK : Nat → Value → Prop) (w w' : World) : Prop where
  size : w.heap.size ≤ w'.heap.size
  same : ∀ b, b < w.heap.size → (∀ L, ¬ DK b L) → w'.heap[b]? = w.heap[b]?
  deck : ∀ b L, DK b L → DeckAt w b L → DeckAt w' b L
  io : SIO w w'
theorem Er.refl (DK : Nat → Value → Prop) (w : World) : Er DK w w := ⟨Nat.le_refl _, fun _ _ _ => rfl, fun _ _ _ h => h, ⟨rfl, rfl, rfl⟩⟩
theorem Er.trans {DK : Nat → Value → Prop} {a b c : World} (h : Er DK a b) (g : Er DK b c) : Er DK a c :=
  ⟨Nat.le_trans h.size g.size, fun k hk hd => (g.same k (Nat.lt_of_lt_of_le hk h.size) hd).trans (h.same k hk hd), fun k L hd hk => g.deck k L hd (h.deck k L hd hk), h.io.trans g.io⟩
theorem Er.of_same {DK : Nat → Value → Prop} {a b : World} (hs : a.heap.size ≤ b.heap.size) (h : ∀ k, k < a.heap.size → b.heap[k]? = a.heap[k]?) (io : SIO a b) : Er DK a b :=
  ⟨hs, fun k hk _ => h k hk, fun k L _ ⟨t, aa, n, c, p, h0, h1⟩ => ⟨t, aa, n, c, p, (h k (lt_of_heap h0)).trans h0, h1⟩, io⟩
theorem er_stays {DK : Nat → Value → Prop} {u : World} (hDK : ∀ b L, DK b L → b < u.heap.size) : Stays (Er DK) u :=
  ⟨Er.refl DK, fun _ _ _ h g => h.trans g, fun _ _ h => h.size, fun w c t => Er.of_same (by rw [alloc_size]; omega) (fun k hk => alloc_old w _ hk) ⟨rfl, rfl, rfl⟩, fun a b k h hk hka => h.same k hka fun L hd => by have := hDK k L hd; omega⟩
def DKof (V : Vl) (m0 : List (Nat × MB)) (b : Nat) (L : Value) : Prop := ∃ k m, find m0 k = some (.deck m) ∧ V.r k = b ∧ V.ro m = L

def edgeL (i : Nat) : List Edge → Bool
  | [] => false
  | e :: l => match Nat.beq e.on i with
    | true => match e.ground with
      | .textOnly _ => edgeL i l
      | .gcOnly _ => edgeL i l
      | _ => true
    | false => edgeL i l
def waitsL (ops : List Oper) (j i : Nat) : Bool :=
  match nth ops j with
  | none => false
  | some o => edgeL i o.after.toList
theorem edgeL_spec {i : Nat} : ∀ {l : List Edge}, edgeL i l = true → ∃ e ∈ l, Region.binds .any e = true ∧ e.on = i
  | [], h => by cases h
  | e :: l, h => by
    have ih : edgeL i l = true → ∃ e' ∈ e :: l, Region.binds .any e' = true ∧ e'.on = i := fun h => by
      obtain ⟨e', h1, h2⟩ := edgeL_spec h
      exact ⟨e', List.mem_cons_of_mem _ h1, h2⟩
    unfold edgeL at h
    cases hb : Nat.beq e.on i with
    | false => simp only [hb] at h; exact ih h
    | true =>
      simp only [hb] at h
      have hi := Nat.eq_of_beq_eq_true hb
      cases hg : e.ground <;> simp only [hg] at h <;> first | exact ih h | exact ⟨e, List.mem_cons_self, by simp [Region.binds, hg], hi⟩
theorem waitsL_spec {ops : List Oper} {j i : Nat} (h : waitsL ops j i = true) : Region.waitsFor .any ops.toArray j i = true := by
  unfold waitsL at h
  unfold Region.waitsFor
  rw [nth_eq]
  cases ho : nth ops j with
  | none => simp [ho] at h
  | some o =>
    simp only [ho] at h ⊢
    obtain ⟨e, h1, h2, h3⟩ := edgeL_spec h
    exact Array.any_eq_true'.2 ⟨e, by simpa using h1, by simp [h2, h3]⟩
/-- The blocks that operation 'j' may look at: those from before the region, and those laid by operations for which it waits. -/
def vis (ops : List Oper) (j : Nat) (tags : List (Nat × Nat)) : List (Nat × MB) → List (Nat × MB)
  | [] => []
  | (k, c) :: m => match find tags k with
    | none => (k, c) :: vis ops j tags m
    | some i => match waitsL ops j i with
      | true => (k, c) :: vis ops j tags m
      | false => vis ops j tags m
theorem vis_find {ops : List Oper} {j : Nat} {tags : List (Nat × Nat)} : ∀ {m : List (Nat × MB)} {k : Nat} {c : MB}, find (vis ops j tags m) k = some c →
    find m k = some c ∧ (find tags k = none ∨ ∃ i, find tags k = some i ∧ waitsL ops j i = true)
  | [], k, c, h => by simp [vis, find] at h
  | (k0, c0) :: m, k, c, h => by
    have ih : find (vis ops j tags m) k = some c → k ≠ k0 → find ((k0, c0) :: m) k = some c ∧ (find tags k = none ∨ ∃ i, find tags k = some i ∧ waitsL ops j i = true) := by
      intro h1 hne
      obtain ⟨h2, h3⟩ := vis_find h1
      exact ⟨by rw [find_cons, if_neg (Ne.symm hne)]; exact h2, h3⟩
    unfold vis at h
    split at h
    · rename_i hn
      rw [find_cons] at h
      split at h
      · rename_i e; subst e; cases h
        exact ⟨by rw [find_cons, if_pos rfl], .inl hn⟩
      · rename_i e; exact ih h (Ne.symm e)
    · rename_i i hi
      split at h
      · rename_i hw
        rw [find_cons] at h
        split at h
        · rename_i e; subst e; cases h
          exact ⟨by rw [find_cons, if_pos rfl], .inr ⟨i, hi, hw⟩⟩
        · rename_i e; exact ih h (Ne.symm e)
      · rename_i hw
        by_cases e : k = k0
        · subst e
          exfalso
          obtain ⟨h2, h3⟩ := vis_find h
          rcases h3 with h3 | ⟨i', h3, h4⟩
          · rw [hi] at h3; cases h3
          · rw [hi] at h3; cases h3; rw [hw] at h4; cases h4
        · exact ih h e

/-- What stands during the head: 'u': the world in which the region begins; 'm0': the blocks of then. -/
structure HI (x : Cx) (u : World) (m0 : List (Nat × MB)) (r0 : List (Nat × RO)) (tags : List (Nat × Nat)) (V : Vl) (env : List (Nat × SV)) (mem : List (Nat × MB)) (nb : Nat) (fs : List Fact) (a : Act) : Prop where
  defers : a.defers = []
  size : a.tmps.size = x.n
  envR : ∀ t v, find env t = some v → a.tmps.getD t Go.undef = den V v
  envOk : ∀ t v, find env t = some v → okV nb v = true
  memOk : ∀ k m, find mem k = some m → k < nb ∧ okM nb m = true
  ents : Ents x.D0 V ⟨env, m0, r0, nb⟩ u
  own : ∀ k, Lv V m0 k → x.w0.heap.size ≤ V.r k ∨ x.D (V.r k)
  pin : ∀ k, k < x.kb → k < nb ∧ Agr V x.pin k
  d0 : ∀ b, x.D0 b → b < x.w0.heap.size ∧ ¬ x.D b
  frame : Fr x.D x.w0 u
  keep0 : ∀ k c, find m0 k = some c → find tags k = none ∧ find mem k = some c
  old : ∀ k c, find mem k = some c → find tags k = none → find m0 k = some c
  new : ∀ k i, find tags k = some i → k < nb ∧ u.heap.size ≤ V.r k ∧ ∃ f ∈ fs, f.idx = i ∧ f.lo = V.r k ∧ f.hi = V.r k + 1 ∧ ∃ c, find mem k = some (.cells c) ∧ ∃ t, ∀ w : World, f.holds w → w.heap[V.r k]? = some (.cells (denL V c).toArray t)
  injT : ∀ i j a b, find tags i = some a → find tags j = some b → V.r i = V.r j → i = j
section
variable {x : Cx} {u : World} {m0 : List (Nat × MB)} {r0 : List (Nat × RO)} {tags : List (Nat × Nat)} {V : Vl} {env : List (Nat × SV)} {mem : List (Nat × MB)} {nb : Nat} {fs : List Fact} {a : Act}
/-- What is visible in a world behind. -/
theorem HI.see (h : HI x u m0 r0 tags V env mem nb fs a) {w : World} (he : Er (DKof V m0) u w) (e' : List (Nat × SV)) (M : List (Nat × MB)) (hM : ∀ k m, find M k = some m → find mem k = some m) (hF : ∀ k m i, find M k = some m → find tags k = some i → ∀ f ∈ fs, f.idx = i → f.holds w) :
    Ents x.D0 V ⟨e', M, r0, nb⟩ w := by
  have tagged : ∀ k m i, find M k = some m → find tags k = some i → u.heap.size ≤ V.r k ∧ ∃ c t, m = .cells c ∧ w.heap[V.r k]? = some (.cells (denL V c).toArray t) := by
    intro k m i hk hi
    have h1 := hM k m hk
    obtain ⟨g1, g2, f, hf, g3, g4, g5, c, g6, t, g7⟩ := h.new k i hi
    rw [h1] at g6
    cases g6
    exact ⟨g2, c, t, rfl, g7 w (hF k _ i hk hi f hf g3)⟩
  have lvM : ∀ k, Lv V M k → (find tags k = none ∧ Lv V m0 k) ∨ ∃ i, find tags k = some i ∧ u.heap.size ≤ V.r k ∧ V.r k < w.heap.size := by
    rintro k ⟨m, hm, ha⟩
    cases ht : find tags k with
    | none => exact .inl ⟨rfl, m, h.old k m (hM k m hm) ht, ha⟩
    | some i =>
      obtain ⟨g1, c, t, _, g2⟩ := tagged k m i hm ht
      exact .inr ⟨i, rfl, g1, lt_of_heap g2⟩
  have hD : ∀ b, b < u.heap.size → Dl V M b → Dl V m0 b := by
    rintro b hb ⟨k, hk, rfl⟩
    rcases lvM k hk with ⟨_, h2⟩ | ⟨i, _, h2, _⟩
    · exact ⟨k, h2, rfl⟩
    · omega
  have same0 : ∀ b, b < u.heap.size → ¬ Dl V m0 b → w.heap[b]? = u.heap[b]? := fun b hb hd => he.same b hb fun L ⟨k, m, h1, h2, _⟩ => hd ⟨k, ⟨_, h1, trivial⟩, h2⟩
  have hE := h.ents
  have ndk : ∀ k m, find m0 k = some m → aliveB V k m → (∀ md, m ≠ .deck md) → ∀ L, ¬ DKof V m0 (V.r k) L := by
    rintro k m hk ha hne L ⟨k2, m2, h1, h2, _⟩
    have := hE.inj k2 k ⟨_, h1, trivial⟩ ⟨_, hk, ha⟩ h2
    subst this
    exact hne m2 (Option.some.inj (hk.symm.trans h1))
  refine ⟨hE.one, fun k m hm => ?_, fun k m hm => h.memOk k m (hM k m hm), fun k q hq => hE.roMove (fun k _ => Agr.refl V k) same0 hD k q hq, hE.roOk, fun i j hi hj hij => ?_, fun k hk => ?_⟩
  · cases ht : find tags k with
    | some i =>
      obtain ⟨_, c, t, rfl, g2⟩ := tagged k m i hm ht
      exact ⟨t, g2⟩
    | none =>
      have h0 := h.old k m (hM k m hm) ht
      cases m with
      | deck md => exact he.deck _ _ ⟨k, md, h0, rfl, rfl⟩ (hE.mem k _ h0)
      | cells c => exact hE.memMove (fun k _ => Agr.refl V k) same0 hD k _ h0 fun ha => he.same _ (hE.lt k ⟨_, h0, ha⟩) (ndk k _ h0 ha (fun md h => by cases h))
      | rows es t xs => exact hE.memMove (fun k _ => Agr.refl V k) same0 hD k _ h0 fun ha => he.same _ (hE.lt k ⟨_, h0, ha⟩) (ndk k _ h0 ha (fun md h => by cases h))
      | dead => trivial
  · rcases lvM i hi with ⟨_, a2⟩ | ⟨ti, a1, a2, _⟩ <;> rcases lvM j hj with ⟨_, b2⟩ | ⟨tj, b1, b2, _⟩
    · exact hE.inj i j a2 b2 hij
    · exfalso; have := hE.lt i a2; omega
    · exfalso; have := hE.lt j b2; omega
    · exact h.injT i j ti tj a1 b1 hij
  · rcases lvM k hk with ⟨_, a2⟩ | ⟨_, _, _, a3⟩
    · exact Nat.lt_of_lt_of_le (hE.lt k a2) he.size
    · exact a3
theorem HI.put {t : Nat} {v : SV} (h : HI x u m0 r0 tags V env mem nb fs a) (ht : Nat.blt t x.n = true) (hv : okV nb v = true) : HI x u m0 r0 tags V ((t, v) :: env) mem nb fs (a.put (some t) (den V v)) := by
  have hlt : t < a.tmps.size := by rw [h.size]; simpa [Nat.blt_eq] using ht
  refine ⟨h.defers, by show (a.tmps.setIfInBounds t _).size = _; rw [Array.size_setIfInBounds, h.size], ?_, envOk_put h.envOk hv, h.memOk, h.ents.env, h.own, h.pin, h.d0, h.frame, h.keep0, h.old, h.new, h.injT⟩
  exact EnvR.put (s := ⟨env, mem, r0, nb⟩) h.envR hlt
theorem HI.more (h : HI x u m0 r0 tags V env mem nb fs a) (f : Fact) : HI x u m0 r0 tags V env mem nb (f :: fs) a :=
  ⟨h.defers, h.size, h.envR, h.envOk, h.memOk, h.ents, h.own, h.pin, h.d0, h.frame, h.keep0, h.old, fun k i hk => by
    obtain ⟨h1, h2, g, hg, h3⟩ := h.new k i hk
    exact ⟨h1, h2, g, List.mem_cons_of_mem _ hg, h3⟩, h.injT⟩
theorem HI.know {t : Nat} {p v : SV} (h : HI x u m0 r0 tags V env mem nb fs a) (hf : find env t = some p) (he : ∀ V, den V v = den V p) (hk : okV nb v = true) : HI x u m0 r0 tags V ((t, v) :: env) mem nb fs a := by
  refine ⟨h.defers, h.size, fun y z hy => ?_, envOk_put h.envOk hk, h.memOk, h.ents.env, h.own, h.pin, h.d0, h.frame, h.keep0, h.old, h.new, h.injT⟩
  rw [find_cons] at hy
  split at hy
  · rename_i e; subst e; cases hy; rw [he]; exact h.envR _ _ hf
  · exact h.envR _ _ hy
/-- Numbers that are not used may be valued anew. -/
theorem Ents.widen {D0 : Nat → Prop} {V V' : Vl} {e e' : List (Nat × SV)} {m : List (Nat × MB)} {r : List (Nat × RO)} {nb nb' : Nat} {w : World} (h : Ents D0 V ⟨e, m, r, nb⟩ w) (hone : V'.One) (ag : ∀ k, k < nb → Agr V' V k) (hn : nb ≤ nb') : Ents D0 V' ⟨e', m, r, nb'⟩ w := by
  have hD : ∀ b, b < w.heap.size → Dl V' m b → Dl V m b := by
    rintro b hb ⟨k, ⟨c, hc, ha⟩, rfl⟩
    have hk := (h.memOk k c hc).1
    exact ⟨k, ⟨c, hc, (aliveB_agr (ag k hk) c).1 ha⟩, (ag k hk).r.symm⟩
  have lv : ∀ k, Lv V' m k → Lv V m k ∧ V'.r k = V.r k := by
    rintro k ⟨c, hc, ha⟩
    have hk := (h.memOk k c hc).1
    exact ⟨⟨c, hc, (aliveB_agr (ag k hk) c).1 ha⟩, (ag k hk).r⟩
  refine ⟨hone, fun k c hk => h.memMove ag (fun _ _ _ => rfl) hD k c hk fun _ => rfl, fun k c hk => ?_, fun k q hq => h.roMove ag (fun _ _ _ => rfl) hD k q hq, fun k q hq => Nat.lt_of_lt_of_le (h.roOk k q hq) hn, fun i j hi hj hij => ?_, fun k hk => ?_⟩
  · obtain ⟨h1, h2⟩ := h.memOk k c hk
    refine ⟨Nat.lt_of_lt_of_le h1 hn, ?_⟩
    cases c <;> simp only [okM, Nat.blt_eq] at h2 ⊢
    · exact okL_mono hn _ h2
    · omega
  · obtain ⟨a1, a2⟩ := lv i hi
    obtain ⟨b1, b2⟩ := lv j hj
    rw [a2, b2] at hij
    exact h.inj i j a1 b1 hij
  · obtain ⟨a1, a2⟩ := lv k hk
    rw [a2]; exact h.lt k a1
theorem HI.newB (h : HI x u m0 r0 tags V env mem nb fs a) {c : List SV} (hc : okL nb c = true) {b j : Nat} {t : TypeId} (hb : u.heap.size ≤ b) (hfar : Far fs b (b + 1)) :
    HI x u m0 r0 ((nb, j) :: tags) (V.blk nb b) env ((nb, .cells c) :: mem) (nb + 1) (⟨j, b, b + 1, fun w => w.heap[b]? = some (.cells (denL V c).toArray t)⟩ :: fs) a := by
  have ag : ∀ k, k < nb → Agr (V.blk nb b) V k := Vl.blk_agr
  have hr : (V.blk nb b).r nb = b := upd_self
  have tn : ∀ {k i}, find tags k = some i → k < nb := fun hk => (h.new _ _ hk).1
  have ne : ∀ k i, find tags k = some i → V.r k ≠ b := by
    intro k i hk
    obtain ⟨_, _, f, hf, _, e2, e3, _⟩ := h.new k i hk
    have := hfar f hf
    omega
  refine ⟨h.defers, h.size, fun y v hu => ?_, fun y v hu => okV_mono (Nat.le_succ _) _ (h.envOk y v hu), fun k m hk => ?_, h.ents.widen h.ents.one ag (Nat.le_succ _), fun k hk => ?_, fun k hk => ⟨Nat.lt_succ_of_lt (h.pin k hk).1, (ag k (h.pin k hk).1).trans (h.pin k hk).2⟩, h.d0, h.frame, fun k c' hk => ?_, fun k c' hk ht => ?_, fun k i hk => ?_, fun i k a b' hi hk hik => ?_⟩
  · rw [den_agree ag v (h.envOk y v hu)]; exact h.envR y v hu
  · simp only [find_cons] at hk
    split at hk
    · rename_i e; subst e; cases hk; exact ⟨Nat.lt_succ_self _, okL_mono (Nat.le_succ _) _ hc⟩
    · obtain ⟨h1, h2⟩ := h.memOk k m hk
      refine ⟨Nat.lt_succ_of_lt h1, ?_⟩
      cases m <;> simp only [okM, Nat.blt_eq] at h2 ⊢
      · exact okL_mono (Nat.le_succ _) _ h2
      · omega
  · obtain ⟨c', hc', ha⟩ := hk
    have hk' := (h.ents.memOk k c' hc').1
    rw [(ag k hk').r]
    exact h.own k ⟨c', hc', (aliveB_agr (ag k hk') c').1 ha⟩
  · obtain ⟨h1, h2⟩ := h.keep0 k c' hk
    have hk' := (h.memOk k c' h2).1
    have e : ¬ nb = k := by omega
    exact ⟨by rw [find_cons, if_neg e]; exact h1, by rw [find_cons, if_neg e]; exact h2⟩
  · rw [find_cons] at ht hk
    split at ht
    · cases ht
    · rename_i e
      rw [if_neg e] at hk
      exact h.old k c' hk ht
  · rw [find_cons] at hk
    split at hk
    · rename_i e; subst e; cases hk
      refine ⟨Nat.lt_succ_self _, by rw [hr]; exact hb, _, List.mem_cons_self, rfl, by rw [hr], by rw [hr], c, by rw [find_cons, if_pos rfl], t, fun w hw => by rw [hr, denL_agree ag c hc]; exact hw⟩
    · rename_i e
      obtain ⟨h1, h2, f, hf, e1, e2, e3, c', e4, t', e5⟩ := h.new k i hk
      have a1 := ag k h1
      have hok := (h.memOk k _ e4).2
      exact ⟨Nat.lt_succ_of_lt h1, by rw [a1.r]; exact h2, f, List.mem_cons_of_mem _ hf, e1, by rw [a1.r]; exact e2, by rw [a1.r]; exact e3, c', by rw [find_cons, if_neg e]; exact e4, t', fun w hw => by rw [a1.r, denL_agree ag c' hok]; exact e5 w hw⟩
  · rw [find_cons] at hi hk
    split at hi
    · rename_i e1
      split at hk
      · rename_i e2; exact e1.symm.trans e2
      · exfalso
        rw [← e1, hr, (ag k (tn hk)).r] at hik
        exact ne k _ hk hik.symm
    · split at hk
      · rename_i e2
        exfalso
        rw [← e2, hr, (ag i (tn hi)).r] at hik
        exact ne i _ hi hik
      · rw [(ag i (tn hi)).r, (ag k (tn hk)).r] at hik
        exact h.injT i k a b' hi hk hik
/-- What operation 'j' may look at. -/
theorem HI.cls {ops : List Oper} {j : Nat} (h : HI x u m0 r0 tags V env mem nb fs a) {w : World} (hc : Cls .any ops.toArray (Er (DKof V m0)) u j fs w) (e' : List (Nat × SV)) : Ents x.D0 V ⟨e', vis ops j tags mem, r0, nb⟩ w :=
  h.see hc.1 e' _ (fun k m hk => (vis_find hk).1) (fun k m i hk hi f hf hfi => by
    rcases (vis_find hk).2 with h1 | ⟨i', h1, h2⟩
    · rw [hi] at h1; cases h1
    · rw [hi] at h1; cases h1
      exact hc.2 f hf (by rw [hfi]; exact waitsL_spec h2))
theorem HI.cls0 {ops : List Oper} {j : Nat} (h : HI x u m0 r0 tags V env mem nb fs a) {w : World} (hc : Cls .any ops.toArray (Er (DKof V m0)) u j fs w) (e' : List (Nat × SV)) : Ents x.D0 V ⟨e', m0, r0, nb⟩ w :=
  h.see hc.1 e' _ (fun k m hk => (h.keep0 k m hk).2) (fun k m i hk hi f hf hfi => by rw [(h.keep0 k m hk).1] at hi; cases hi)
theorem HI.rep (h : HI x u m0 r0 tags V env mem nb fs a) {w : World} (hw : Wit (Er (DKof V m0)) u fs w) : Rep x V ⟨env, mem, r0, nb⟩ a w := by
  refine ⟨h.defers, h.size, h.envR, h.envOk, h.see hw.1 env mem (fun k m hk => hk) (fun k m i _ _ f hf _ => (hw.2 f hf).1), ⟨Nat.le_trans h.frame.1 hw.1.size, fun b hb hd => ?_, h.frame.2.2.trans hw.1.io⟩, fun k hk => ?_, h.pin, h.d0⟩
  · refine (hw.1.same b (Nat.lt_of_lt_of_le hb h.frame.1) fun L ⟨k, m, h1, h2, _⟩ => ?_).trans (h.frame.2.1 b hb hd)
    rcases h.own k ⟨_, h1, trivial⟩ with h3 | h3
    · omega
    · exact hd (h2 ▸ h3)
  · obtain ⟨m, hm, ha⟩ := hk
    cases ht : find tags k with
    | none => exact h.own k ⟨m, h.old k m hm ht, ha⟩
    | some i => exact .inl (Nat.le_trans h.frame.1 (h.new k i ht).2.1)
end

/-! ### The head, step by step -/
theorem dk_agr {V V' : Vl} {m0 : List (Nat × MB)} {nb : Nat} (hm : ∀ k m, find m0 k = some m → k < nb ∧ okM nb m = true) (ag : ∀ k, k < nb → Agr V' V k) : DKof V' m0 = DKof V m0 := by
  funext b L
  apply propext
  constructor
  · rintro ⟨k, m, h1, h2, h3⟩
    obtain ⟨a, c⟩ := hm k _ h1
    simp only [okM, Nat.blt_eq] at c
    exact ⟨k, m, h1, (ag k a).r ▸ h2, (ag m c).ro ▸ h3⟩
  · rintro ⟨k, m, h1, h2, h3⟩
    obtain ⟨a, c⟩ := hm k _ h1
    simp only [okM, Nat.blt_eq] at c
    exact ⟨k, m, h1, by rw [(ag k a).r]; exact h2, by rw [(ag m c).ro]; exact h3⟩
/-- The head of a region in the order 'L'; 'm0': the blocks with which the region begins; behind it K holds. -/
structure Hd (x : Cx) (ops : List Oper) (m0 : List (Nat × MB)) (L : List Nat) (tags : List (Nat × Nat)) (s : St) (K : St → Prop) : Prop where
  run : LayOk x.P x.L → ∀ (u : World) (DK : Nat → Value → Prop) (Q : List Fact → Act → Prop) (V : Vl) (fs : List Fact) (a : Act), DKof V m0 = DK →
    (∀ tags' V' s' fs' a', K s' → DKof V' m0 = DK → HI x u m0 s'.ro tags' V' s'.env s'.mem s'.nb fs' a' → Q fs' a') → HI x u m0 s.ro tags V s.env s.mem s.nb fs a → wpM x.P .any ops.toArray (Er DK) u Q L fs a
section
variable {x : Cx} {ops : List Oper} {m0 : List (Nat × MB)} {L : List Nat} {tags : List (Nat × Nat)} {env : List (Nat × SV)} {mem : List (Nat × MB)} {ro : List (Nat × RO)} {nb t j : Nat} {K : St → Prop} {op : Op} {ty : TypeId} {pos : String} {after : Array Edge} {g : Option (Nat × Bool)} {v : SV}
theorem h_nil {s : St} (h : K s) : Hd x ops m0 [] tags s K := ⟨fun _ u DK Q V fs a hd hQ hi => hQ tags V s fs a h hd hi⟩
theorem h_ev (ho : nth ops j = some ⟨some t, op, ty, pos, after, g⟩) (hg : goes ops env g = some true) (he : EvTo x ⟨env, m0, ro, nb⟩ op v) (h1 : Nat.blt t x.n = true) (h2 : okV nb v = true) (hk : Hd x ops m0 L tags ⟨(t, v) :: env, mem, ro, nb⟩ K) : Hd x ops m0 (j :: L) tags ⟨env, mem, ro, nb⟩ K :=
  ⟨fun hL u DK Q V fs a hd hQ hi _ => by
    subst hd
    refine mOp_q ((nth_eq ops j).trans ho) (v := den V v) (.inl ⟨goes_wanted (o := ⟨some t, op, ty, pos, after, g⟩) hg hi.envR, fun w hcl => ?_⟩) (hk.run hL u _ Q V fs _ rfl hQ (hi.put h1 h2))
    unfold Oper.quietAt
    rw [he.run hL V a w hi.envR (hi.cls0 hcl env)]
    exact ⟨rfl, rfl⟩⟩
theorem h_skip (ho : nth ops j = some ⟨some t, op, ty, pos, after, g⟩) (hg : goes ops env g = some false) (h1 : Nat.blt t x.n = true) (hk : Hd x ops m0 L tags ⟨(t, .undef) :: env, mem, ro, nb⟩ K) : Hd x ops m0 (j :: L) tags ⟨env, mem, ro, nb⟩ K :=
  ⟨fun hL u DK Q V fs a hd hQ hi _ => by
    subst hd
    exact mOp_q ((nth_eq ops j).trans ho) (v := undef) (.inr ⟨goes_wanted (o := ⟨some t, op, ty, pos, after, g⟩) hg hi.envR, rfl⟩) (hk.run hL u _ Q V fs _ rfl hQ (hi.put (v := .undef) h1 rfl))⟩
theorem h_split {o : Oper} {i d : Nat} {b c : Bool} (ho : nth ops j = some o) (hg : o.guard = some (i, b)) (hj : (nth ops i).bind (·.dst) = some d) (hf : find env d = some (.bool c))
    (h1 : c = true → Hd x ops m0 (j :: L) tags ⟨(d, .tf true) :: env, mem, ro, nb⟩ K) (h2 : c = false → Hd x ops m0 (j :: L) tags ⟨(d, .tf false) :: env, mem, ro, nb⟩ K) : Hd x ops m0 (j :: L) tags ⟨env, mem, ro, nb⟩ K :=
  ⟨fun hL u DK Q V fs a hd hQ hi => by
    cases c with
    | true => exact (h1 rfl).run hL u DK Q V fs a hd hQ (hi.know hf (fun _ => rfl) rfl)
    | false => exact (h2 rfl).run hL u DK Q V fs a hd hQ (hi.know hf (fun _ => rfl) rfl)⟩
theorem h_new {sh : Option (Nat × Nat)} {c : List SV} (ho : nth ops j = some ⟨some t, op, ty, pos, after, g⟩) (hg : goes ops env g = some true) (hn : NewTo x ⟨env, mem, ro, nb⟩ op c sh) (h1 : Nat.blt t x.n = true) (hc : okL nb c = true)
    (hk : Hd x ops m0 L ((nb, j) :: tags) ⟨(t, svSh nb sh) :: env, (nb, .cells c) :: mem, ro, nb + 1⟩ K) : Hd x ops m0 (j :: L) tags ⟨env, mem, ro, nb⟩ K :=
  ⟨fun hL u DK Q V fs a hd hQ hi _ => by
    subst hd
    obtain ⟨tt, ht⟩ := hn.run hL V a hi.envR hi.ents.one
    refine mOp_a ((nth_eq ops j).trans ho) ⟨goes_wanted (o := ⟨some t, op, ty, pos, after, g⟩) hg hi.envR, (ht u _ _ _ _ _).1, fun w _ => (ht w _ _ _ _ _).2⟩ (fun b hb hfar _ => ?_)
    have hn' := (hi.newB hc (j := j) (t := tt) hb hfar).put (t := t) h1 (ok_svSh nb sh)
    rw [den_svSh] at hn'
    exact hk.run hL u _ Q _ _ _ (dk_agr (nb := nb) hi.ents.memOk Vl.blk_agr) hQ hn'⟩
theorem h_alloc {e : TypeId} {c : List SV} (ho : nth ops j = some ⟨some t, .alloc e, ty, pos, after, g⟩) (hg : goes ops env g = some true) (hn : NewTo x ⟨env, mem, ro, nb⟩ (.alloc e) c none) (h1 : Nat.blt t x.n = true) (hc : okL nb c = true)
    (hk : Hd x ops m0 L ((nb, j) :: tags) ⟨(t, .ptr nb 0) :: env, (nb, .cells c) :: mem, ro, nb + 1⟩ K) : Hd x ops m0 (j :: L) tags ⟨env, mem, ro, nb⟩ K := h_new ho hg hn h1 hc hk
theorem h_box {e : TypeId} {y : Operand} {c : List SV} (ho : nth ops j = some ⟨some t, .box e y, ty, pos, after, g⟩) (hg : goes ops env g = some true) (hn : NewTo x ⟨env, mem, ro, nb⟩ (.box e y) c none) (h1 : Nat.blt t x.n = true) (hc : okL nb c = true)
    (hk : Hd x ops m0 L ((nb, j) :: tags) ⟨(t, .ptr nb 0) :: env, (nb, .cells c) :: mem, ro, nb + 1⟩ K) : Hd x ops m0 (j :: L) tags ⟨env, mem, ro, nb⟩ K := h_new ho hg hn h1 hc hk
theorem h_slice {e : TypeId} {n a b : Nat} {ps : Array (Nat × Operand)} {c : List SV} (ho : nth ops j = some ⟨some t, .buildSlice e n ps, ty, pos, after, g⟩) (hg : goes ops env g = some true) (hn : NewTo x ⟨env, mem, ro, nb⟩ (.buildSlice e n ps) c (some (a, b))) (h1 : Nat.blt t x.n = true) (hc : okL nb c = true)
    (hk : Hd x ops m0 L ((nb, j) :: tags) ⟨(t, .slc nb 0 a b) :: env, (nb, .cells c) :: mem, ro, nb + 1⟩ K) : Hd x ops m0 (j :: L) tags ⟨env, mem, ro, nb⟩ K := h_new ho hg hn h1 hc hk
/-- Decks are all that the function writes, and it leaves them decks. -/
def deckB (post : List (Nat × MB)) : List (Nat × MB) → Bool
  | [] => true
  | (k, .deck m) :: l => match find post k with
    | some (.deck m') => match Nat.beq m m' with
      | true => deckB post l
      | false => false
    | _ => false
  | _ => false
theorem deckB_spec {post : List (Nat × MB)} : ∀ {l : List (Nat × MB)}, deckB post l = true → ∀ k m, find l k = some m → ∃ d, m = .deck d ∧ find post k = some (.deck d)
  | [], _, k, m, h => by simp [find] at h
  | (a, c) :: l, hb, k, m, h => by
    cases c <;> first | (simp [deckB] at hb; done) | skip
    case deck d =>
      unfold deckB at hb
      rw [find_cons] at h
      split at hb
      · rename_i d' hd'
        split at hb
        · rename_i he
          split at h
          · rename_i e; subst e; cases h
            have := Nat.eq_of_beq_eq_true he
            subst this
            exact ⟨d, rfl, hd'⟩
          · exact deckB_spec hb k m h
        · cases hb
      · cases hb
theorem h_trip {f : Operand} {as : Array Operand} {ts : Array TypeId} {gf : FuncId} {caps q aas : List SV} {pre : St} {Z : Type} {ψ : Z → Prop} {res : Z → SV} {post : Z → St} (lo : List (Nat × Nat)) (lr : List (Nat × SV)) {u : Z → SV} (T : Trip x.P gf aas pre ψ res post) (ho : nth ops j = some ⟨some t, .call ⟨.value f, as, ts⟩, ty, pos, after, g⟩) (hg : goes ops env g = some true) (hf : (⟨env, mem, ro, nb⟩ : St).get f = some (.clo gf caps)) (hq : argsS ⟨env, mem, ro, nb⟩ as.toList = some q)
    (haas : renL (Rn.of lo lr) aas = some (q ++ caps)) (hsub : HSub x (Rn.of lo lr) ⟨env, pre.mem, pre.ro, pre.nb⟩ ⟨env, vis ops j tags mem, ro, nb⟩) (hu : ∀ z, ren (Rn.of lo lr) (res z) = some (u z)) (hr0 : ∀ z, okV pre.nb (res z) = true) (hdk : ∀ z, deckB (post z).mem pre.mem = true) (h1 : Nat.blt t x.n = true) (hok : ∀ z, okV nb (u z) = true)
    (hk : ∀ z, ψ z → Hd x ops m0 L tags ⟨(t, u z) :: env, mem, ro, nb⟩ K) : Hd x ops m0 (j :: L) tags ⟨env, mem, ro, nb⟩ K :=
  ⟨fun hL u0 DK Q V fs a hd hQ hi _ => by
    subst hd
    refine mOp_c ((nth_eq ops j).trans ho) (S := fun v _ _ _ => ∃ z, ψ z ∧ v = den V (u z)) ⟨goes_wanted (o := ⟨some t, .call ⟨.value f, as, ts⟩, ty, pos, after, g⟩) hg hi.envR, rfl, fun _ _ _ _ _ h _ => h, fun w hcl => ?_⟩ (fun v' lo' hi' _ _ _ b4 => ?_)
    · have hE := hi.cls hcl env
      have hap : Apart x V (vis ops j tags mem) := by
        rintro k ⟨m, hm, ha⟩ h0
        obtain ⟨d1, d2⟩ := hi.d0 _ h0
        have hmm := (vis_find hm).1
        cases ht : find tags k with
        | none =>
          rcases hi.own k ⟨m, hi.old k m hmm ht, ha⟩ with h | h
          · omega
          · exact d2 h
        | some i =>
          have := (hi.new k i ht).2.1
          have := hi.frame.1
          omega
      obtain ⟨F, hF⟩ := hsub.ents hE hap (fun b => x.D0 b ∨ (Dl V (vis ops j tags mem) b ∧ ¬ Dl (V.comp (Rn.of lo lr)) pre.mem b)) (fun F b hb => hb)
      have e1 : a.eval f = .func (.func gf) #[] (denL V caps).toArray := EnvR.get (s := ⟨env, mem, ro, nb⟩) hi.envR hf
      have e2 : as.map a.eval = (denL V q).toArray := args_arr (s := ⟨env, mem, ro, nb⟩) hi.envR hq
      have hrun := run_call (P := x.P) (w := w) (dst := some t) (ts := ts) (ty := ty) (pos := pos) (after := after) (guard := g) T.can e1 e2
      have e3 : (denL V q).toArray ++ (denL V caps).toArray = (denL (V.compF (Rn.of lo lr) F) aas).toArray := by
        rw [denL_sub V _ F haas, denL_append]; simp
      rw [e3] at hrun
      unfold gives
      rw [hrun]
      refine ⟨rfl, ?_⟩
      have hwsz : x.w0.heap.size ≤ w.heap.size := Nat.le_trans hi.frame.1 hcl.1.size
      have hC := T.runs (V.compF (Rn.of lo lr) F) _ w hF.env (fun b hb => by
        rcases hb with hb | hb
        · exact Nat.lt_of_lt_of_le (hi.d0 b hb).1 hwsz
        · obtain ⟨k, hk, rfl⟩ := hb.1
          exact hE.lt k hk) (fun k hk hb => by
        obtain ⟨k', h1, h2, h3⟩ := hsub.lv V F k hk
        rcases hb with hb | hb
        · rw [h3] at hb; exact hap k' h2 hb
        · exact hb.2 ⟨k, hk, rfl⟩)
      have deckOf : ∀ k, Lv (V.compF (Rn.of lo lr) F) pre.mem k → ∃ d k' d', find pre.mem k = some (.deck d) ∧ (Rn.of lo lr).own k = some k' ∧ (Rn.of lo lr).ro d = some (.ro d') ∧ find m0 k' = some (.deck d') ∧ (∀ z, find (post z).mem k = some (.deck d)) ∧ Lv V (vis ops j tags mem) k' ∧ (V.compF (Rn.of lo lr) F).r k = V.r k' ∧ d < pre.nb := by
        rintro k hk
        obtain ⟨k', h1, h2, h3⟩ := hsub.lv V F k hk
        obtain ⟨m, hm, _⟩ := hk
        by_cases hz : Nonempty Z
        · obtain ⟨z0⟩ := hz
          obtain ⟨d, rfl, _⟩ := deckB_spec (hdk z0) k m hm
          obtain ⟨⟨_, hokd⟩, k2, m2, g1, g2, g3⟩ := hsub.mem k _ hm
          rw [h1] at g1
          cases g1
          simp only [renM] at g3
          split at g3
          · rename_i d' hd'
            cases g3
            have g2' := (vis_find g2).1
            cases ht : find tags k' with
            | some i =>
              obtain ⟨_, _, _, _, _, _, _, c, hc, _⟩ := hi.new k' i ht
              have : some (MB.cells c) = some (.deck d') := hc.symm.trans g2'
              cases this
            | none =>
              refine ⟨d, k', d', hm, h1, hd', hi.old k' _ g2' ht, fun z => ?_, h2, h3, by simpa [okM, Nat.blt_eq] using hokd⟩
              obtain ⟨d2, e, h⟩ := deckB_spec (hdk z) k _ hm
              cases e; exact h
          · cases g3
        · exfalso
          obtain ⟨e, w', _, ⟨z, _⟩, _⟩ := hC []
          exact hz ⟨z⟩
      exact hC.mono fun e w' ⟨z, V', hz, he, _, hag, hE', hfr, _⟩ => by
        refine ⟨den V (u z), ?_, ⟨hfr.1, fun b hb hnd => hfr.2.1 b hb fun ⟨k, hk, hrk⟩ => ?_, fun b L hdk' hat => ?_, hfr.2.2⟩, z, hz, rfl⟩
        · rw [he, den_agree (nb := pre.nb) (fun k hk => (hag k hk).2) (res z) (hr0 z), den_sub V _ F (hu z)]
        · obtain ⟨d, k', d', _, h2, h3, h4, _, _, h7, _⟩ := deckOf k hk
          exact hnd (V.ro d') ⟨k', d', h4, by rw [← h7]; exact hrk, rfl⟩
        · obtain ⟨tt, aa, n, c, p, q0, q1, q2, q3⟩ := hat
          by_cases hdl : Dl (V.compF (Rn.of lo lr) F) pre.mem b
          · obtain ⟨k, hk, hrk⟩ := hdl
            obtain ⟨d, k', d', h1, h2, h3, h4, h5, h6, h7, h8⟩ := deckOf k hk
            obtain ⟨k2, m2, g1, g2, g3⟩ := hdk'
            have : k2 = k' := hi.ents.inj k2 k' ⟨_, g1, trivial⟩ ⟨_, h4, trivial⟩ (g2.trans (hrk.symm.trans h7))
            subst this
            rw [h4] at g1
            cases g1
            have hdp := hE'.mem k _ (h5 z)
            have hkp := (hsub.mem k _ h1).1.1
            have er : V'.r k = b := by rw [(hag k hkp).2.r]; exact hrk
            have el : V'.ro d = L := by
              rw [(hag d h8).2.ro]
              simp only [Vl.compF, Vl.comp, h3]
              exact g3
            show DeckAt w' b L
            rw [← er, ← el]; exact hdp
          · exact ⟨tt, aa, n, c, p, (hfr.2.1 b (lt_of_heap q0) hdl).trans q0, q1, q2, q3⟩
    · obtain ⟨w, hw⟩ := b4
      obtain ⟨z, hz, rfl⟩ := (hw.2 _ List.mem_cons_self).1
      exact (hk z hz).run hL u0 _ Q V _ _ rfl hQ ((hi.put h1 (hok z)).more _)⟩
/-! ### The region -/
structure Dr (x : Cx) (ops : List Oper) (n : Nat) (L : List Nat) (s : St) (K : St → Prop) : Prop where
  run : Hd x ops s.mem L [] s fun s' => Sq x ops (ops.drop n) s' K
def dropO {α : Type} : Nat → List α → Option (List α)
  | 0, l => some l
  | _ + 1, [] => some []
  | n + 1, _ :: l => dropO n l
theorem dropO_eq {α : Type} : ∀ {n : Nat} {l q : List α}, dropO n l = some q → l.drop n = q
  | 0, l, q, h => by simp only [dropO, Option.some.injEq] at h; subst h; simp
  | n + 1, [], q, h => by simp only [dropO, Option.some.injEq] at h; subst h; simp
  | n + 1, _ :: l, q, h => by simpa using dropO_eq (l := l) h
theorem d_start {n : Nat} {L : List Nat} {m : List (Nat × MB)} {tail : List Oper} (ht : dropO n ops = some tail) (h : Hd x ops m L [] ⟨env, m, ro, nb⟩ fun s' => Sq x ops tail s' K) : Dr x ops n L ⟨env, m, ro, nb⟩ K := by
  have := dropO_eq ht
  subst this
  exact ⟨h⟩
/-- How many operations stand ahead of the first store. -/
def headLen : List Oper → Nat
  | [] => 0
  | o :: l => match o.op with
    | .store _ _ _ => 0
    | _ => headLen l + 1
theorem Ents.heap {D0 : Nat → Prop} {V : Vl} {s : St} {w w' : World} (h : Ents D0 V s w) (hs : w'.heap = w.heap) : Ents D0 V s w' :=
  ⟨h.one, fun k m hk => h.memMove (fun k _ => Agr.refl V k) (fun b _ _ => by rw [hs]) (fun b _ hd => hd) k m hk (fun _ => by rw [hs]), h.memOk, fun k q hk => h.roMove (fun k _ => Agr.refl V k) (fun b _ _ => by rw [hs]) (fun b _ hd => hd) k q hk, h.roOk, h.inj, fun k hk => by rw [hs]; exact h.lt k hk⟩
theorem k_draw {Q : Exit → St → Prop} {s : St} (hm : x.P.follows .mixedOrders = true) {id : Nat} {l : List Oper} (n : Nat) (L : List Nat) (_ : headLen l = n) (hB : regionB .any l.toArray n L = true) (h : Dr x l n L s fun s' => Q .normal s') : Tr x (.region id l.toArray true) Q s :=
  ⟨fun hL V a w hr => by
    refine wp_region_M n L hm hB (er_stays (DK := DKof V s.mem) fun b L ⟨k, m, h1, h2, _⟩ => ?_) ?_
    · subst h2; exact hr.ents.lt k ⟨_, h1, trivial⟩
    · refine h.run.run hL w.drew _ _ V [] a rfl (fun tags' V' s' fs' a' hs hd hi w' hw' => hs.run hL _ V' a' w' (fun s'' V'' a'' w'' hq hr'' => ⟨s'', V'', hq, hr''⟩) (hi.rep (by rw [hd]; exact hw'))) ?_
      exact ⟨hr.defers, hr.size, hr.env, hr.envOk, hr.ents.memOk, hr.ents.heap rfl, hr.own, hr.pin, hr.d0, ⟨hr.frame.1, hr.frame.2.1, ⟨hr.frame.2.2.os, hr.frame.2.2.tape, hr.frame.2.2.output⟩⟩, fun k c hk => ⟨rfl, hk⟩, fun k c hk _ => hk, (fun k i hk => by cases hk), (fun i j a b hi => by cases hi)⟩⟩
end
end Go.Proofs.Ytjhjhjmdbhackaa
