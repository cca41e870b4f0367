/- Symbolic walks, fourteenth part: a small region that draws its order, in every order. No condition on any program. -/
import Derived.Test.YtbcoanbjhbppcaaSym13
namespace Go.Proofs.Ytbcoanbjhbppcaa
set_option linter.unusedVariables false
open Go.RowKit

def nthB : List Bool → Nat → Bool
  | [], _ => false
  | b :: _, 0 => b
  | _ :: l, n + 1 => nthB l n
theorem nthB_eq : ∀ (l : List Bool) (n : Nat), nthB l n = l.toArray.getD n false
  | [], n => by simp [nthB]
  | b :: l, 0 => by simp [nthB]
  | b :: l, n + 1 => by have := nthB_eq l n; simp only [nthB, this]; simp [Array.getD_eq_getD_getElem?]
/-- Listed already, or no operation at all? -/
def nthT : List Bool → Nat → Bool
  | [], _ => true
  | b :: _, 0 => b
  | _ :: l, n + 1 => nthT l n
theorem nthT_eq : ∀ (l : List Bool) (n : Nat), nthT l n = l.toArray.getD n true
  | [], n => by simp [nthT]
  | b :: l, 0 => by simp [nthT]
  | b :: l, n + 1 => by have := nthT_eq l n; simp only [nthT, this]; simp [Array.getD_eq_getD_getElem?]
def okEdges (listed : List Bool) : List Edge → Bool
  | [] => true
  | e :: l => match e.ground with
    | .textOnly _ => okEdges listed l
    | .gcOnly _ => okEdges listed l
    | _ => match nthB listed e.on with
      | true => okEdges listed l
      | false => false
/-- The operations that may come up next. -/
def readyO (listed : List Bool) : Nat → List Oper → Option (List Nat)
  | _, [] => some []
  | i, o :: l => match readyO listed (i + 1) l with
    | none => none
    | some r => match nthT listed i with
      | true => some r
      | false => match okEdges listed o.after.toList with
        | true => some (i :: r)
        | false => some r
def setB : List Bool → Nat → Option (List Bool)
  | [], _ => none
  | _ :: l, 0 => some (true :: l)
  | b :: l, n + 1 => match setB l n with
    | some r => some (b :: r)
    | none => none
theorem setB_eq : ∀ {l : List Bool} {n : Nat} {r}, setB l n = some r → l.toArray.setIfInBounds n true = r.toArray
  | [], _, _, h => by cases h
  | b :: l, 0, r, h => by simp only [setB, Option.some.injEq] at h; subst h; simp
  | b :: l, n + 1, r, h => by
    unfold setB at h
    split at h
    · rename_i q hq
      cases h
      have := setB_eq hq
      simpa using this
    · cases h
theorem okEdges_of {listed : List Bool} : ∀ {l : List Edge}, (∀ e ∈ l, Region.binds .any e = true → listed.toArray.getD e.on false = true) → okEdges listed l = true
  | [], _ => rfl
  | e :: l, h => by
    have ih := okEdges_of (listed := listed) (l := l) (fun e' he => h e' (List.mem_cons_of_mem _ he))
    unfold okEdges
    split
    · exact ih
    · exact ih
    · rename_i h1 h2
      have hb : Region.binds .any e = true := by
        unfold Region.binds
        split
        · rename_i y hy; exact absurd hy (h1 y)
        · rename_i y hy; exact absurd hy (h2 y)
        · rfl
      have := h e List.mem_cons_self hb
      rw [← nthB_eq] at this
      rw [this]
      exact ih
theorem okEdges_spec {listed : List Bool} : ∀ {l : List Edge}, okEdges listed l = true → ∀ e ∈ l, Region.binds .any e = true → listed.toArray.getD e.on false = true
  | [], _, e, he, _ => by cases he
  | e0 :: l, h, e, he, hb => by
    unfold okEdges at h
    rcases List.mem_cons.1 he with rfl | he
    · unfold Region.binds at hb
      split at h
      · rename_i y hy; rw [hy] at hb; have hb' : (Region.Mode.any == Region.Mode.text) = true := hb; exact absurd hb' (by decide)
      · rename_i y hy; rw [hy] at hb; have hb' : (Region.Mode.any == Region.Mode.gc) = true := hb; exact absurd hb' (by decide)
      · split at h
        · rename_i h5; rw [← nthB_eq]; exact h5
        · cases h
    · split at h
      · exact okEdges_spec h e he hb
      · exact okEdges_spec h e he hb
      · split at h
        · exact okEdges_spec h e he hb
        · cases h
theorem readyO_iff {listed : List Bool} : ∀ {ops : List Oper} {k : Nat} {r : List Nat}, readyO listed k ops = some r → ∀ i, i ∈ r ↔ k ≤ i ∧ ∃ o, nth ops (i - k) = some o ∧ nthT listed i = false ∧ okEdges listed o.after.toList = true
  | [], k, r, hr, i => by
    simp only [readyO, Option.some.injEq] at hr
    subst hr
    simp [nth]
  | p :: ops, k, r, hr, i => by
    unfold readyO at hr
    cases hq : readyO listed (k + 1) ops with
    | none => simp [hq] at hr
    | some q =>
      simp only [hq] at hr
      have ih := readyO_iff hq i
      have late : i ∈ q ↔ k < i ∧ ∃ o, nth (p :: ops) (i - k) = some o ∧ nthT listed i = false ∧ okEdges listed o.after.toList = true := by
        rw [ih]
        constructor
        · rintro ⟨h1, o, h2, h3⟩
          refine ⟨by omega, o, ?_, h3⟩
          rw [show i - k = (i - (k + 1)) + 1 by omega]
          exact h2
        · rintro ⟨h1, o, h2, h3⟩
          refine ⟨by omega, o, ?_, h3⟩
          rw [show i - k = (i - (k + 1)) + 1 by omega] at h2
          exact h2
      have here : ∀ {r'}, r' = q → (nthT listed k = true ∨ okEdges listed p.after.toList = false) → (i ∈ r' ↔ k ≤ i ∧ ∃ o, nth (p :: ops) (i - k) = some o ∧ nthT listed i = false ∧ okEdges listed o.after.toList = true) := by
        intro r' e hn
        subst e
        rw [late]
        constructor
        · rintro ⟨h1, h2⟩; exact ⟨Nat.le_of_lt h1, h2⟩
        · rintro ⟨h1, o, h2, h3, h4⟩
          refine ⟨?_, o, h2, h3, h4⟩
          rcases Nat.lt_or_eq_of_le h1 with h5 | h5
          · exact h5
          · exfalso
            subst h5
            rw [Nat.sub_self] at h2
            simp only [nth, Option.some.injEq] at h2
            subst h2
            rcases hn with hn | hn
            · rw [hn] at h3; cases h3
            · rw [hn] at h4; cases h4
      split at hr
      · rename_i hT; cases hr; exact here rfl (.inl hT)
      · rename_i hT
        split at hr
        · rename_i hE
          cases hr
          rw [List.mem_cons, late]
          constructor
          · rintro (h1 | ⟨h1, h2⟩)
            · subst h1
              exact ⟨Nat.le_refl _, p, by rw [Nat.sub_self]; rfl, hT, hE⟩
            · exact ⟨Nat.le_of_lt h1, h2⟩
          · rintro ⟨h1, h2⟩
            rcases Nat.lt_or_eq_of_le h1 with h5 | h5
            · exact .inr ⟨h5, h2⟩
            · exact .inl h5.symm
        · rename_i hE; cases hr; exact here rfl (.inr hE)
theorem readyO_ready {listed : List Bool} {ops : List Oper} {r : List Nat} (hr : readyO listed 0 ops = some r) (i : Nat) : i ∈ Region.ready .any ops.toArray listed.toArray ↔ i ∈ r := by
  rw [mem_ready, readyO_iff hr i, ← nthT_eq, nth_eq]
  constructor
  · rintro ⟨h1, o, h2, h3⟩
    exact ⟨Nat.zero_le _, o, h2, h1, okEdges_of (fun e he hb => h3 e (by simpa using he) hb)⟩
  · rintro ⟨_, o, h2, h1, h3⟩
    exact ⟨h1, o, h2, fun e he hb => okEdges_spec h3 e (by simpa using he) hb⟩
/-- Whatever order is drawn. -/
def spAny (x : Cx) (ops : List Oper) : Nat → List Bool → St → (St → Prop) → Prop
  | 0, listed, s, K => readyO listed 0 ops = some [] ∧ K s
  | n + 1, listed, s, K => ∃ r, readyO listed 0 ops = some r ∧ r ≠ [] ∧ ∀ i ∈ r, ∃ o l', nth ops i = some o ∧ setB listed i = some l' ∧ spSeq x ops [o] s fun s' => spAny x ops n l' s' K
theorem spAny_sound {x : Cx} (hL : LayOk x.P x.L) {ops : List Oper} {K : St → Prop} {Q : Exit → Act → World → Prop} (hQ : ∀ s r a w, K s → Rep x r s a w → Q .normal a w) :
    ∀ (n : Nat) (listed : List Bool) (s : St) (r : Nat → Nat) (a : Act) (w : World), spAny x ops n listed s K → Rep x r s a w → wpAny x.P .any ops.toArray Q n listed.toArray a w
  | 0, listed, s, r, a, w, h, hr => by
    refine ⟨?_, hQ s r a w h.2 hr⟩
    cases hx : Region.ready .any ops.toArray listed.toArray with
    | nil => rfl
    | cons i l => have := (readyO_ready h.1 i).1 (by rw [hx]; exact List.mem_cons_self); cases this
  | n + 1, listed, s, r, a, w, h, hr => by
    obtain ⟨q, h1, h2, h3⟩ := h
    refine ⟨fun hx => ?_, fun i hi => ?_⟩
    · exfalso
      cases q with
      | nil => exact h2 rfl
      | cons i l =>
        have := (readyO_ready h1 i).2 List.mem_cons_self
        rw [hx] at this
        cases this
    · obtain ⟨o, l', ho, hl, hs⟩ := h3 i ((readyO_ready h1 i).1 hi)
      have hoi : ops.toArray[i]? = some o := (nth_eq ops i).trans ho
      rw [setB_eq hl]
      unfold wpOp
      simp only [hoi]
      obtain ⟨s', y, hk, _, _, hw, hrep, _⟩ := guardS_sound hs
      obtain ⟨_, hy⟩ := hw r a hr.env
      cases y with
      | true =>
        rw [if_pos hy]
        exact .inl (Oper.wp_mono (fun a' w' ⟨s'', r'', hs, hr''⟩ => spAny_sound hL hQ n l' s'' r'' a' w' hs hr'') (spOp_sound hL hk (Q := Q) (hrep x r a w hr)))
      | false =>
        rw [if_neg (by rw [hy]; decide)]
        obtain ⟨s'', hs, _, _, hput⟩ := putS_sound hk
        exact spAny_sound hL hQ n l' s'' r _ w hs (hput r a w (hrep x r a w hr))
def falses : Nat → List Bool
  | 0 => []
  | n + 1 => false :: falses n
theorem falses_eq : ∀ n, falses n = List.replicate n false
  | 0 => rfl
  | n + 1 => by simp [falses, falses_eq n, List.replicate_succ]
structure An (x : Cx) (ops : List Oper) (n : Nat) (listed : List Bool) (s : St) (K : St → Prop) : Prop where
  run : spAny x ops n listed s K
theorem Rep.drew {x : Cx} {r : Nat → Nat} {s : St} {a : Act} {w : World} (h : Rep x r s a w) : Rep x r s a w.drew := h.grown (Grown.refl w).drew
section
variable {x : Cx} {ops : List Oper} {K : St → Prop} {s : St}
theorem k_any {Q : Exit → St → Prop} (hL : LayOk x.P x.L) (hm : x.P.follows .mixedOrders = true) {id : Nat} {l : List Oper} (n : Nat) (hn : Nat.beq l.length n = true) (h : An x l n (falses n) s fun s' => Q .normal s') : Tr x (.region id l.toArray true) Q s :=
  ⟨fun r a w hr => by
    refine wp_region_any hm ?_
    have e : l.toArray.size = n := by simpa using Nat.eq_of_beq_eq_true hn
    rw [e]
    have := spAny_sound hL (Q := QR x Q) (fun s r _ _ hs hr => ⟨s, r, hs, hr⟩) n (falses n) s r a w.drew h.run hr.drew
    rw [falses_eq] at this
    simpa using this⟩
theorem a_end {listed : List Bool} (hr : readyO listed 0 ops = some []) (h : K s) : An x ops 0 listed s K := ⟨⟨hr, h⟩⟩
theorem a_in {n : Nat} {listed : List Bool} (h : An x ops n listed s K) : spAny x ops n listed s K := h.run
theorem a_one {n i : Nat} {listed l1 : List Bool} {o : Oper} (hr : readyO listed 0 ops = some [i]) (ho : nth ops i = some o) (hl : setB listed i = some l1) (h : Sq x ops [o] s fun s' => spAny x ops n l1 s' K) : An x ops (n + 1) listed s K :=
  ⟨⟨[i], hr, by simp, fun j hj => by simp only [List.mem_singleton] at hj; subst hj; exact ⟨o, l1, ho, hl, h.run⟩⟩⟩
theorem a_two {n i j : Nat} {listed l1 l2 : List Bool} {o p : Oper} (hr : readyO listed 0 ops = some [i, j]) (ho : nth ops i = some o) (hl : setB listed i = some l1) (hp : nth ops j = some p) (hl2 : setB listed j = some l2) (h : Sq x ops [o] s fun s' => spAny x ops n l1 s' K) (h2 : Sq x ops [p] s fun s' => spAny x ops n l2 s' K) : An x ops (n + 1) listed s K :=
  ⟨⟨[i, j], hr, by simp, fun k hk => by
    simp only [List.mem_cons, List.not_mem_nil, or_false] at hk
    rcases hk with rfl | rfl
    · exact ⟨o, l1, ho, hl, h.run⟩
    · exact ⟨p, l2, hp, hl2, h2.run⟩⟩⟩
theorem a_three {n i j k : Nat} {listed l1 l2 l3 : List Bool} {o p q : Oper} (hr : readyO listed 0 ops = some [i, j, k]) (ho : nth ops i = some o) (hl : setB listed i = some l1) (hp : nth ops j = some p) (hl2 : setB listed j = some l2) (hq : nth ops k = some q) (hl3 : setB listed k = some l3)
    (h : Sq x ops [o] s fun s' => spAny x ops n l1 s' K) (h2 : Sq x ops [p] s fun s' => spAny x ops n l2 s' K) (h3 : Sq x ops [q] s fun s' => spAny x ops n l3 s' K) : An x ops (n + 1) listed s K :=
  ⟨⟨[i, j, k], hr, by simp, fun z hz => by
    simp only [List.mem_cons, List.not_mem_nil, or_false] at hz
    rcases hz with rfl | rfl | rfl
    · exact ⟨o, l1, ho, hl, h.run⟩
    · exact ⟨p, l2, hp, hl2, h2.run⟩
    · exact ⟨q, l3, hq, hl3, h3.run⟩⟩⟩
end
end Go.Proofs.Ytbcoanbjhbppcaa
