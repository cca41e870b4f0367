/- Walks, third framework: regions that draw their order, walked by a plan: what only yields values floats between the operations that change memory. No condition on any program. -/
import Derived.Test.YtonjbhdfimcedaaVC
namespace Go.Proofs.Ytonjbhdfimcedaa
set_option linter.unusedSimpArgs false
set_option linter.unusedSectionVars false
set_option linter.unusedVariables false
open Go.RowKit
/-- A plan. 'q': an operation that yields a value alone; 'e': one that changes memory, behind which those of C yield what they yielded; or another one comes first. -/
inductive FT where
  | fin
  | stop
  | q (i : Nat) (t : FT)
  | e (i : Nat) (C : List Nat) (t alt : FT)
def Qn (K : Act → World → Prop) : Exit → Act → World → Prop
  | .normal, a, w => K a w
  | _, _, _ => False
theorem Qn_out {K : Act → World → Prop} : ¬ LetsOut (Qn K) := fun ⟨_, _, h⟩ => h
def slotO (l : List Oper) (i : Nat) : Option Nat := (l[i]?).bind (·.dst)
def slotN (l : List Oper) (i : Nat) : Nat := (slotO l i).getD 0
/-- The operation yields this value, and nothing else happens. -/
def Yv (P : Program) (l : List Oper) (i : Nat) (a : Act) (w : World) (v : Value) : Prop :=
  ∃ o s, l[i]? = some o ∧ o.dst = some s ∧ s < a.tmps.size ∧ (if Region.wanted o (yielded l.toArray a.tmps) = true then (execOp a.eval o).run P w = .ok (.value v) w else v = Go.undef)
def FlW (P : Program) (l : List Oper) (K : Act → World → Prop) : FT → Act → World → Prop
  | .fin, a, w => K a w
  | .stop, _, _ => True
  | .q i t, a, w => ∃ v, Yv P l i a w v ∧ FlW P l K t (a.put (slotO l i) v) w
  | .e i C t alt, a, w => wpOp P l.toArray (Qn fun a w => (∀ c ∈ C, Yv P l c a w (a.tmps.getD (slotN l c) Go.undef)) ∧ FlW P l K t a w) i (fun a w => (∀ c ∈ C, Yv P l c a w (a.tmps.getD (slotN l c) Go.undef)) ∧ FlW P l K t a w) a w ∧ FlW P l K alt a w
theorem wpOp_mono2 {P : Program} {ops : Array Oper} {i : Nat} {a : Act} {w : World} {K K' : Act → World → Prop} (h : ∀ a w, K a w → K' a w) (hh : wpOp P ops (Qn K) i K a w) : wpOp P ops (Qn K') i K' a w := by
  have h1 := wpOp_mono h hh
  unfold wpOp at h1 ⊢
  split
  · rename_i hn; rw [hn] at h1; exact h1
  · rename_i o hn
    rw [hn] at h1
    simp only at h1 ⊢
    split
    · rename_i hw
      rw [if_pos hw] at h1
      rcases h1 with h1 | h1
      · left
        unfold Oper.wp at h1 ⊢
        generalize (execOp a.eval o).run P w = r at h1 ⊢
        cases r with
        | ok nx w' => cases nx <;> exact h1
        | halt x w' => cases x <;> exact h1
      · exact absurd h1.2 Qn_out
    · rename_i hw
      rw [if_neg hw] at h1
      exact h1
theorem flW_mono {P : Program} {l : List Oper} {K K' : Act → World → Prop} (h : ∀ a w, K a w → K' a w) : ∀ {t : FT} {a : Act} {w : World}, FlW P l K t a w → FlW P l K' t a w
  | .fin, a, w, f => h a w f
  | .stop, _, _, _ => trivial
  | .q i t, a, w, f => by
    obtain ⟨v, h1, h2⟩ := f
    exact ⟨v, h1, flW_mono h h2⟩
  | .e i C t alt, a, w, f => ⟨wpOp_mono2 (fun a w hk => ⟨hk.1, flW_mono h hk.2⟩) f.1, flW_mono h f.2⟩
/-! ### Is it a plan? -/
def setB (A i : Nat) : Nat := A ||| (1 <<< i)
theorem setB_bit {A i j : Nat} : (setB A i).testBit j = (A.testBit j || decide (i = j)) := by
  unfold setB
  rw [Nat.testBit_or, Nat.one_shiftLeft, Nat.testBit_two_pow]
def subB (A B : Nat) : Bool := Nat.beq (A &&& B) A
theorem subB_bit {A B j : Nat} (h : subB A B = true) (hj : A.testBit j = true) : B.testBit j = true := by
  unfold subB at h
  have e := Nat.eq_of_beq_eq_true h
  have : (A &&& B).testBit j = true := by rw [e]; exact hj
  rw [Nat.testBit_and, Bool.and_eq_true] at this
  exact this.2
def wmE : List Edge → Nat
  | [] => 0
  | e :: l => match Region.binds .any e with
    | true => setB (wmE l) e.on
    | false => wmE l
theorem wmE_bit : ∀ {l : List Edge} {j : Nat}, (wmE l).testBit j = true ↔ ∃ e ∈ l, Region.binds .any e = true ∧ e.on = j
  | [], j => by simp [wmE]
  | e :: l, j => by
    unfold wmE
    have ih := wmE_bit (l := l) (j := j)
    cases hb : Region.binds .any e with
    | true =>
      simp only [setB_bit, Bool.or_eq_true, decide_eq_true_eq, ih]
      constructor
      · rintro (⟨e', h1, h2, h3⟩ | h)
        · exact ⟨e', List.mem_cons_of_mem _ h1, h2, h3⟩
        · exact ⟨e, List.mem_cons_self, hb, h⟩
      · rintro ⟨e', h1, h2, h3⟩
        rcases List.mem_cons.1 h1 with rfl | h1
        · exact .inr h3
        · exact .inl ⟨e', h1, h2, h3⟩
    | false =>
      simp only [ih]
      constructor
      · rintro ⟨e', h1, h2, h3⟩
        exact ⟨e', List.mem_cons_of_mem _ h1, h2, h3⟩
      · rintro ⟨e', h1, h2, h3⟩
        rcases List.mem_cons.1 h1 with rfl | h1
        · rw [hb] at h2; cases h2
        · exact ⟨e', h1, h2, h3⟩
/-- Whom an operation waits for. -/
def wmI (l : List Oper) (i : Nat) : Nat := match nthC l i with
  | some o => wmE o.after.toList
  | none => 0
def unionM : List Nat → Nat → Nat
  | [], _ => 0
  | c :: r, m => match m.testBit 0 with
    | true => c ||| unionM r (m >>> 1)
    | false => unionM r (m >>> 1)
theorem unionM_bit : ∀ {cs : List Nat} {m b : Nat}, (unionM cs m).testBit b = true → ∃ (j : Nat) (c : Nat), m.testBit j = true ∧ cs[j]? = some c ∧ c.testBit b = true
  | [], m, b, h => by simp [unionM] at h
  | c :: r, m, b, h => by
    unfold unionM at h
    have step : ∀ {b : Nat}, (unionM r (m >>> 1)).testBit b = true → ∃ (j : Nat) (c' : Nat), m.testBit j = true ∧ (c :: r)[j]? = some c' ∧ c'.testBit b = true := fun h => by
      obtain ⟨j, c', h1, h2, h3⟩ := unionM_bit h
      exact ⟨j + 1, c', by rw [Nat.testBit_shiftRight, Nat.add_comm] at h1; exact h1, by simpa using h2, h3⟩
    cases h0 : m.testBit 0 with
    | true =>
      simp only [h0, Nat.testBit_or, Bool.or_eq_true] at h
      rcases h with h | h
      · exact ⟨0, c, h0, rfl, h⟩
      · exact step h
    | false => simp only [h0] at h; exact step h
/-- 'cs': for each operation some of those that come before it in every order. -/
def clsB (cs : List Nat) : Nat → List Oper → List Nat → Bool
  | _, [], [] => true
  | i, o :: l, c :: r => Nat.blt (wmE o.after.toList) (1 <<< i) && (subB c (wmE o.after.toList ||| unionM cs (wmE o.after.toList)) && clsB cs (i + 1) l r)
  | _, _, _ => false
theorem clsB_at {cs : List Nat} : ∀ {l : List Oper} {r : List Nat} {k : Nat}, clsB cs k l r = true → l.length = r.length ∧ ∀ (i : Nat) (o : Oper), l[i]? = some o → ∃ c, r[i]? = some c ∧ wmE o.after.toList < 2 ^ (k + i) ∧ subB c (wmE o.after.toList ||| unionM cs (wmE o.after.toList)) = true
  | [], [], k, h => ⟨rfl, fun i o h => by simp at h⟩
  | [], _ :: _, k, h => by simp [clsB] at h
  | _ :: _, [], k, h => by simp [clsB] at h
  | o :: l, c :: r, k, h => by
    simp only [clsB, Bool.and_eq_true, Nat.blt_eq, Nat.one_shiftLeft] at h
    obtain ⟨h1, h2, h3⟩ := h
    obtain ⟨g1, g2⟩ := clsB_at h3
    refine ⟨by simp [g1], fun i o' ho' => ?_⟩
    cases i with
    | zero => cases ho'; exact ⟨c, rfl, h1, h2⟩
    | succ i =>
      obtain ⟨c', k1, k2, k3⟩ := g2 i o' (by simpa using ho')
      exact ⟨c', by simpa using k1, by rw [show k + (i + 1) = k + 1 + i by omega]; exact k2, k3⟩
def getM : List Nat → Nat → Nat
  | [], _ => 0
  | c :: _, 0 => c
  | _ :: l, i + 1 => getM l i
theorem getM_eq : ∀ {l : List Nat} {i c : Nat}, l[i]? = some c → getM l i = c
  | [], i, c, h => by simp at h
  | x :: l, 0, c, h => by simpa [getM] using h
  | x :: l, i + 1, c, h => by simp only [getM]; exact getM_eq (by simpa using h)
theorem nthC_get {α : Type} {l : List α} {i : Nat} : nthC l i = l[i]? := nthC_eq l i
theorem wmI_eq {l : List Oper} {i : Nat} {o : Oper} (h : l[i]? = some o) : wmI l i = wmE o.after.toList := by unfold wmI; rw [nthC_get, h]
/-- Whoever slot s is read by comes behind quiet operations that set it. -/
def readB (es : Nat) (s i c : Nat) : Nat → List Oper → Bool
  | _, [] => true
  | j, o :: l => (es.testBit j || (match o.dst with
      | some d => !(Nat.beq d s) || (!(Nat.beq i j) && c.testBit j)
      | none => false)) && readB es s i c (j + 1) l
theorem readB_at {es s i c : Nat} : ∀ {l : List Oper} {k : Nat}, readB es s i c k l = true → ∀ (j : Nat) (o : Oper), l[j]? = some o → es.testBit (k + j) = false → ∃ d, o.dst = some d ∧ (d = s → i ≠ k + j ∧ c.testBit (k + j) = true)
  | [], k, _, j, o, h => by simp at h
  | x :: l, k, hb, j, o, h => by
    simp only [readB, Bool.and_eq_true, Bool.or_eq_true] at hb
    cases j with
    | zero =>
      cases h
      intro he
      rw [Nat.add_zero] at he ⊢
      rcases hb.1 with h1 | h1
      · rw [he] at h1; cases h1
      · cases hd : x.dst with
        | none => rw [hd] at h1; cases h1
        | some d =>
          rw [hd] at h1
          refine ⟨d, rfl, fun e => ?_⟩
          subst e
          simp only [Bool.or_eq_true, Bool.and_eq_true, Bool.not_eq_true'] at h1
          rcases h1 with h2 | h2
          · exact absurd h2 (by simp)
          · refine ⟨fun e => ?_, h2.2⟩
            subst e
            exact absurd h2.1 (by simp)
    | succ j =>
      intro he
      rw [show k + (j + 1) = k + 1 + j by omega] at he ⊢
      exact readB_at hb.2 j o (by simpa using h) he
def readsB (l : List Oper) (es : Nat) (cs : List Nat) : Nat → List Oper → Bool
  | _, [] => true
  | i, o :: r => ((o.looksAt l.toArray).all fun s => readB es s i (getM cs i) 0 l) && readsB l es cs (i + 1) r
theorem readsB_at {l : List Oper} {es : Nat} {cs : List Nat} : ∀ {r : List Oper} {k : Nat}, readsB l es cs k r = true → ∀ (i : Nat) (o : Oper), r[i]? = some o → ∀ s ∈ o.looksAt l.toArray, readB es s (k + i) (getM cs (k + i)) 0 l = true
  | [], k, _, i, o, h => by simp at h
  | x :: r, k, hb, i, o, h => by
    simp only [readsB, Bool.and_eq_true] at hb
    cases i with
    | zero => cases h; exact fun s hs => List.all_eq_true.1 hb.1 s hs
    | succ i =>
      rw [show k + (i + 1) = k + 1 + i by omega]
      exact readsB_at hb.2 i o (by simpa using h)
/-- No two quiet operations set the same slot. -/
def distB (es : Nat) : Nat → List Oper → Bool
  | _, [] => true
  | i, o :: l => (es.testBit i || (match o.dst with
      | some d => free1 es d (i + 1) l
      | none => false)) && distB es (i + 1) l
where free1 (es d : Nat) : Nat → List Oper → Bool
  | _, [] => true
  | j, o :: l => (es.testBit j || (match o.dst with
      | some s => !(Nat.beq s d)
      | none => true)) && free1 es d (j + 1) l
theorem free1_at {es d : Nat} : ∀ {l : List Oper} {k : Nat}, distB.free1 es d k l = true → ∀ (j : Nat) (o : Oper), l[j]? = some o → es.testBit (k + j) = false → o.dst ≠ some d
  | [], k, _, j, o, h => by simp at h
  | x :: l, k, hb, j, o, h => by
    simp only [distB.free1, Bool.and_eq_true, Bool.or_eq_true] at hb
    cases j with
    | zero =>
      cases h
      intro he hd
      rw [Nat.add_zero] at he
      rcases hb.1 with h1 | h1
      · rw [he] at h1; cases h1
      · rw [hd] at h1; exact absurd h1 (by simp)
    | succ j =>
      rw [show k + (j + 1) = k + 1 + j by omega]
      exact free1_at hb.2 j o (by simpa using h)
theorem distB_at {es : Nat} : ∀ {l : List Oper} {k : Nat}, distB es k l = true → ∀ (i j : Nat) (o p : Oper), i < j → l[i]? = some o → l[j]? = some p → es.testBit (k + i) = false → es.testBit (k + j) = false → o.dst ≠ p.dst
  | [], k, _, i, j, o, p, _, h, _ => by simp at h
  | x :: l, k, hb, i, j, o, p, hij, hi, hj => by
    simp only [distB, Bool.and_eq_true, Bool.or_eq_true] at hb
    cases j with
    | zero => omega
    | succ j =>
      cases i with
      | zero =>
        cases hi
        intro he he2 hd
        rw [Nat.add_zero] at he
        rcases hb.1 with h1 | h1
        · rw [he] at h1; cases h1
        · cases hx : x.dst with
          | none => rw [hx] at h1; cases h1
          | some d =>
            rw [hx] at h1
            exact free1_at h1 j p (by simpa using hj) (by rw [show k + 1 + j = k + (j + 1) by omega]; exact he2) (hd ▸ hx)
      | succ i =>
        rw [show k + (i + 1) = k + 1 + i by omega, show k + (j + 1) = k + 1 + j by omega]
        exact distB_at hb.2 i j o p (by omega) (by simpa using hi) (by simpa using hj)
theorem distB_dst {es : Nat} : ∀ {l : List Oper} {k : Nat}, distB es k l = true → ∀ (j : Nat) (o : Oper), l[j]? = some o → es.testBit (k + j) = false → ∃ d, o.dst = some d
  | [], k, _, j, o, h => by simp at h
  | x :: l, k, hb, j, o, h => by
    simp only [distB, Bool.and_eq_true, Bool.or_eq_true] at hb
    cases j with
    | zero =>
      cases h
      intro he
      rw [Nat.add_zero] at he
      rcases hb.1 with h1 | h1
      · rw [he] at h1; cases h1
      · cases hd : x.dst with
        | none => rw [hd] at h1; cases h1
        | some d => exact ⟨d, rfl⟩
    | succ j =>
      rw [show k + (j + 1) = k + 1 + j by omega]
      exact distB_dst hb.2 j o (by simpa using h)
def altI : FT → List Nat
  | .e i _ _ alt => i :: altI alt
  | _ => []
/-- Who has not come is blocked, or among these. -/
def compB (l : List Oper) (A : Nat) (B : List Nat) : Nat → Bool
  | 0 => true
  | n + 1 => (A.testBit n || (B.contains n || !(subB (wmI l n) A))) && compB l A B n
theorem compB_at {l : List Oper} {A : Nat} {B : List Nat} : ∀ {n : Nat}, compB l A B n = true → ∀ j, j < n → A.testBit j = true ∨ j ∈ B ∨ subB (wmI l j) A = false
  | 0, _, j, h => absurd h (Nat.not_lt_zero _)
  | n + 1, hb, j, h => by
    simp only [compB, Bool.and_eq_true, Bool.or_eq_true, Bool.not_eq_true'] at hb
    rcases Nat.lt_succ_iff_lt_or_eq.1 h with h1 | h1
    · exact compB_at hb.2 j h1
    · subst h1
      rcases hb.1 with h2 | h2 | h2
      · exact .inl h2
      · exact .inr (.inl (by simpa using h2))
      · exact .inr (.inr h2)
def floatB (A es c : Nat) (C : List Nat) : Nat → Bool
  | 0 => true
  | n + 1 => (!(A.testBit n) || (es.testBit n || (c.testBit n || C.contains n))) && floatB A es c C n
theorem floatB_at {A es c : Nat} {C : List Nat} : ∀ {n : Nat}, floatB A es c C n = true → ∀ j, j < n → A.testBit j = true → es.testBit j = false → c.testBit j = true ∨ j ∈ C
  | 0, _, j, h => absurd h (Nat.not_lt_zero _)
  | n + 1, hb, j, h => by
    simp only [floatB, Bool.and_eq_true, Bool.or_eq_true, Bool.not_eq_true'] at hb
    intro h1 h2
    rcases Nat.lt_succ_iff_lt_or_eq.1 h with h3 | h3
    · exact floatB_at hb.2 j h3 h1 h2
    · subst h3
      rcases hb.1 with g | g | g | g
      · rw [h1] at g; cases g
      · rw [h2] at g; cases g
      · exact .inl g
      · exact .inr (by simpa using g)
def chkF (l : List Oper) (N es : Nat) (cs : List Nat) : Bool → FT → Nat → Bool
  | true, .fin, A => Nat.beq A ((1 <<< N) - 1)
  | true, .q i t, A => Nat.blt i N && (!(es.testBit i) && (!(A.testBit i) && (subB (wmI l i) A && chkF l N es cs true t (setB A i))))
  | top, .e i C t alt, A => (match top with | true => compB l A (i :: altI alt) N | false => true) && (Nat.blt i N && (es.testBit i && (!(A.testBit i) && (subB (wmI l i) A && (floatB A es (getM cs i) C N && (chkF l N es cs true t (setB A i) && chkF l N es cs false alt A))))))
  | false, .stop, _ => true
  | _, _, _ => false
/-- **Is it a plan of this region?** -/
def flB (l : List Oper) (es : Nat) (cs : List Nat) (t : FT) : Bool := clsB cs 0 l cs && (readsB l es cs 0 l && (distB es 0 l && (Region.noSelect l.toArray && chkF l l.length es cs true t 0)))
structure FlOk (l : List Oper) (es : Nat) (cs : List Nat) : Prop where
  lt : ∀ i o, l[i]? = some o → ∀ j, (wmE o.after.toList).testBit j = true → j < i
  cl : ∀ i o, l[i]? = some o → ∀ b, (getM cs i).testBit b = true → (wmE o.after.toList).testBit b = true ∨ ∃ j, (wmE o.after.toList).testBit j = true ∧ (getM cs j).testBit b = true
  rd : ∀ i o s, l[i]? = some o → s ∈ o.looksAt l.toArray → ∀ j p, l[j]? = some p → es.testBit j = false → p.dst = some s → i ≠ j ∧ (getM cs i).testBit j = true
  ds : ∀ j p, l[j]? = some p → es.testBit j = false → ∃ d, p.dst = some d
  ne : ∀ i j o p, i ≠ j → l[i]? = some o → l[j]? = some p → es.testBit i = false → es.testBit j = false → o.dst ≠ p.dst
  ns : Region.noSelect l.toArray = true
theorem flB_ok {l : List Oper} {es : Nat} {cs : List Nat} {t : FT} (h : flB l es cs t = true) : FlOk l es cs ∧ chkF l l.length es cs true t 0 = true := by
  simp only [flB, Bool.and_eq_true] at h
  obtain ⟨h1, h2, h3, h4, h5⟩ := h
  obtain ⟨g1, g2⟩ := clsB_at h1
  refine ⟨⟨fun i o ho j hj => ?_, fun i o ho b hb => ?_, fun i o s ho hs j p hp he hd => ?_, fun j p hp he => ?_, fun i j o p hij hi hj he he2 => ?_, h4⟩, h5⟩
  · obtain ⟨c, k1, k2, k3⟩ := g2 i o ho
    rw [Nat.zero_add] at k2
    by_cases hlt : j < i
    · exact hlt
    · exfalso
      have := Nat.testBit_lt_two_pow (Nat.lt_of_lt_of_le k2 (Nat.pow_le_pow_right (by omega) (Nat.le_of_not_lt hlt)))
      rw [hj] at this; cases this
  · obtain ⟨c, k1, k2, k3⟩ := g2 i o ho
    rw [getM_eq k1] at hb
    have := subB_bit k3 hb
    rw [Nat.testBit_or, Bool.or_eq_true] at this
    rcases this with h | h
    · exact .inl h
    · obtain ⟨j, c', q1, q2, q3⟩ := unionM_bit h
      exact .inr ⟨j, q1, by rw [getM_eq q2]; exact q3⟩
  · have := readsB_at h2 i o ho s hs
    rw [Nat.zero_add] at this
    obtain ⟨d, k1, k2⟩ := readB_at this j p hp (by rw [Nat.zero_add]; exact he)
    rw [hd] at k1
    cases k1
    have := k2 rfl
    rw [Nat.zero_add] at this
    exact this
  · cases hl : l with
    | nil => rw [hl] at hp; simp at hp
    | cons x r =>
      have := distB_dst h3 j p hp (by rw [Nat.zero_add]; exact he)
      exact this
  · rcases Nat.lt_or_gt_of_ne hij with h | h
    · exact distB_at h3 i j o p h hi hj (by rw [Nat.zero_add]; exact he) (by rw [Nat.zero_add]; exact he2)
    · exact fun e => distB_at h3 j i p o h hj hi (by rw [Nat.zero_add]; exact he2) (by rw [Nat.zero_add]; exact he) e.symm
theorem FlOk.clo {l : List Oper} {es : Nat} {cs : List Nat} (F : FlOk l es cs) {X : Nat → Prop} (down : ∀ i o, l[i]? = some o → X i → ∀ j, (wmE o.after.toList).testBit j = true → X j) :
    ∀ (n i : Nat) (o : Oper), i < n → l[i]? = some o → (∀ j, (wmE o.after.toList).testBit j = true → X j) → ∀ b, (getM cs i).testBit b = true → X b
  | 0, i, o, h, _, _, _, _ => absurd h (Nat.not_lt_zero _)
  | n + 1, i, o, hi, ho, hw, b, hb => by
    rcases F.cl i o ho b hb with h | ⟨j, h1, h2⟩
    · exact hw b h
    · have hj := F.lt i o ho j h1
      have hlt : i < l.length := (List.getElem?_eq_some_iff.1 ho).1
      have hjl : l[j]? = some l[j] := List.getElem?_eq_getElem (by omega)
      exact F.clo down n j l[j] (by omega) hjl (fun k hk => down j l[j] hjl (hw j h1) k hk) b h2
/-! ### Each order is as the plan -/
structure AgreeR (l : List Oper) (R : Nat → Prop) (a b : Act) : Prop where
  defers : a.defers = b.defers
  size : a.tmps.size = b.tmps.size
  slot : ∀ s, (∀ r, R r → slotO l r ≠ some s) → a.tmps[s]? = b.tmps[s]?
theorem AgreeR.looks {l : List Oper} {R : Nat → Prop} {a b : Act} (h : AgreeR l R a b) {o : Oper} (hn : ∀ r, R r → ∀ s, slotO l r = some s → s ∉ o.looksAt l.toArray) : ∀ s ∈ o.looksAt l.toArray, a.tmps[s]? = b.tmps[s]? :=
  fun s hs => h.slot s fun r hr e => hn r hr s e hs
theorem looks_exec {l : List Oper} {a b : Act} {o : Oper} (hs : ∀ cs b, o.op ≠ .select cs b) (h : ∀ s ∈ o.looksAt l.toArray, a.tmps[s]? = b.tmps[s]?) : execOp a.eval o = execOp b.eval o :=
  execOp_congr o hs fun x hx => by
    cases x with
    | tmp t =>
      have := h t (List.mem_append_left _ (List.mem_filterMap.2 ⟨.tmp t, by simpa using hx, rfl⟩))
      simp only [Act.eval, Array.getD_eq_getD_getElem?, this]
    | _ => rfl
theorem looks_wanted {l : List Oper} {a b : Act} {o : Oper} (h : ∀ s ∈ o.looksAt l.toArray, a.tmps[s]? = b.tmps[s]?) : Region.wanted o (yielded l.toArray a.tmps) = Region.wanted o (yielded l.toArray b.tmps) := by
  unfold Region.wanted
  cases hg : o.guard with
  | none => rfl
  | some gb =>
    obtain ⟨g, bb⟩ := gb
    simp only
    congr 1
    unfold yielded
    cases hd : (l.toArray[g]?).bind (·.dst) with
    | none => rfl
    | some d =>
      have hm : d ∈ o.looksAt l.toArray := by
        unfold Oper.looksAt
        rw [hg]
        exact List.mem_append_right _ (by simp only [hd]; simp)
      simp only [Option.bind_some, h d hm]
structure FInv (P : Program) (l : List Oper) (es A : Nat) (listed : Array Bool) (a b : Act) (w : World) : Prop where
  size : listed.size = l.length
  sub : ∀ i, listed.getD i false = true → A.testBit i = true
  eff : ∀ i, A.testBit i = true → es.testBit i = true → listed.getD i false = true
  down : ∀ i o, l[i]? = some o → listed.getD i false = true → ∀ j, (wmE o.after.toList).testBit j = true → listed.getD j false = true
  adown : ∀ i o, l[i]? = some o → A.testBit i = true → ∀ j, (wmE o.after.toList).testBit j = true → A.testBit j = true
  yv : ∀ r, A.testBit r = true → listed.getD r false = false → Yv P l r a w (a.tmps.getD (slotN l r) Go.undef)
  ag : AgreeR l (fun r => A.testBit r = true ∧ listed.getD r false = false) a b
def unex (N : Nat) (listed : Array Bool) : List Nat := (List.range N).filter fun i => !(listed.getD i false)
theorem unex_set {N i : Nat} {listed : Array Bool} (hi : i < N) (hs : listed.size = N) (h : listed.getD i false = false) : (unex N listed).length = (unex N (listed.setIfInBounds i true)).length + 1 := by
  have hm : i ∈ unex N listed := List.mem_filter.2 ⟨List.mem_range.2 hi, by rw [h]; rfl⟩
  have e : unex N (listed.setIfInBounds i true) = (unex N listed).erase i := by
    have hn : (unex N listed).Nodup := List.Pairwise.filter _ List.nodup_range
    rw [hn.erase_eq_filter]
    unfold unex
    rw [List.filter_filter]
    apply List.filter_congr
    intro j hj
    by_cases hij : i = j
    · subst hij
      have : i < listed.size := by omega
      simp [this]
    · rw [getD_set_ne false hij]
      have : (j != i) = true := by simpa using Ne.symm hij
      rw [this, Bool.true_and]
  have hpos := List.length_pos_of_mem hm
  rw [e, List.length_erase_of_mem hm]
  omega
theorem put_get {a : Act} {s : Nat} {v : Value} {x : Nat} (h : s ≠ x) : (a.put (some s) v).tmps[x]? = a.tmps[x]? := Array.getElem?_setIfInBounds_ne h
theorem put_same {a : Act} {s : Nat} {v : Value} (h : s < a.tmps.size) : (a.put (some s) v).tmps[s]? = some v := by
  show (a.tmps.setIfInBounds s v)[s]? = _
  rw [Array.getElem?_setIfInBounds]
  simp [h]
theorem put_size {a : Act} {d : Option Nat} {v : Value} : (a.put d v).tmps.size = a.tmps.size := by
  cases d with
  | none => rfl
  | some s => exact Array.size_setIfInBounds ..
theorem getD_get {a : Array Value} {s : Nat} (h : s < a.size) : a[s]? = some (a.getD s Go.undef) := by
  rw [Array.getD_eq_getD_getElem?, Array.getElem?_eq_getElem h]; rfl
theorem slot_of {l : List Oper} {i : Nat} {o : Oper} {s : Nat} (ho : l[i]? = some o) (hd : o.dst = some s) : slotO l i = some s ∧ slotN l i = s := by
  unfold slotN slotO
  rw [ho]
  exact ⟨hd, by show (o.dst).getD 0 = s; rw [hd]; rfl⟩
section
variable {P : Program} {Q : Exit → Act → World → Prop} {l : List Oper} {es : Nat} {cs : List Nat}
abbrev Kc (P : Program) (l : List Oper) (K : Act → World → Prop) (C : List Nat) (t : FT) (a : Act) (w : World) : Prop := (∀ c ∈ C, Yv P l c a w (a.tmps.getD (slotN l c) Go.undef)) ∧ FlW P l K t a w
theorem alt_at {K : Act → World → Prop} {A N : Nat} {a : Act} {w : World} : ∀ {t : FT} {top : Bool}, chkF l N es cs top t A = true → FlW P l K t a w → ∀ i ∈ altI t, ∃ C ti, i < N ∧ es.testBit i = true ∧ A.testBit i = false ∧ subB (wmI l i) A = true ∧ floatB A es (getM cs i) C N = true ∧ chkF l N es cs true ti (setB A i) = true ∧ wpOp P l.toArray (Qn (Kc P l K C ti)) i (Kc P l K C ti) a w
  | .fin, _, _, _, i, hi => by simp [altI] at hi
  | .stop, _, _, _, i, hi => by simp [altI] at hi
  | .q _ _, _, _, _, i, hi => by simp [altI] at hi
  | .e j C t alt, top, hc, hf, i, hi => by
    unfold chkF at hc
    simp only [Bool.and_eq_true, Nat.blt_eq, Bool.not_eq_true'] at hc
    obtain ⟨_, h1, h2, h3, h4, h5, h6, h7⟩ := hc
    simp only [altI, List.mem_cons] at hi
    rcases hi with rfl | hi
    · exact ⟨C, t, h1, h2, h3, h4, h5, h6, hf.1⟩
    · exact alt_at h7 hf.2 i hi
theorem ready_ok {listed : Array Bool} {i : Nat} (h : i ∈ Region.ready .any l.toArray listed) : ∃ o, l[i]? = some o ∧ listed.getD i false = false ∧ ∀ j, (wmE o.after.toList).testBit j = true → listed.getD j false = true := by
  obtain ⟨h1, o, h2, h3⟩ := mem_ready.1 h
  refine ⟨o, by simpa using h2, getD_both h1, fun j hj => ?_⟩
  obtain ⟨e, h4, h5, rfl⟩ := wmE_bit.1 hj
  exact h3 e (by simpa using h4) h5
theorem ready_of {listed : Array Bool} {i : Nat} {o : Oper} (hs : listed.size = l.length) (ho : l[i]? = some o) (hu : listed.getD i false = false) (h : ∀ j, (wmE o.after.toList).testBit j = true → listed.getD j false = true) : i ∈ Region.ready .any l.toArray listed :=
  mem_ready.2 ⟨getD_in (by rw [hs]; exact (List.getElem?_eq_some_iff.1 ho).1) hu, o, by simpa using ho, fun e he hb => h e.on (wmE_bit.2 ⟨e, by simpa using he, hb, rfl⟩)⟩
/-- Who is left and comes first may come. -/
theorem some_ready (F : FlOk l es cs) {listed : Array Bool} (hs : listed.size = l.length) : ∀ (n i : Nat), i < n → i < l.length → listed.getD i false = false → Region.ready .any l.toArray listed ≠ []
  | 0, i, h, _, _ => absurd h (Nat.not_lt_zero _)
  | n + 1, i, hn, hi, hu => by
    have ho : l[i]? = some l[i] := List.getElem?_eq_getElem hi
    by_cases hall : ∀ j, (wmE l[i].after.toList).testBit j = true → listed.getD j false = true
    · intro e
      have := ready_of hs ho hu hall
      rw [e] at this; cases this
    · obtain ⟨j, hj⟩ := Classical.not_forall.1 hall
      obtain ⟨h1, h2⟩ := Classical.not_imp.1 hj
      have hlt := F.lt i _ ho j h1
      exact some_ready F hs n j (by omega) (by omega) (by simpa using h2)
/-- A quiet operation that has its value comes. -/
theorem quiet_step (F : FlOk l es cs) {A : Nat} {listed : Array Bool} {a b : Act} {w : World} (I : FInv P l es A listed a b w) {i : Nat} (hr : i ∈ Region.ready .any l.toArray listed) (hA : A.testBit i = true) {K : Act → World → Prop}
    (hK : ∀ b', FInv P l es A (listed.setIfInBounds i true) a b' w → K b' w) : wpOp P l.toArray Q i K b w := by
  obtain ⟨o, ho, hu, hwt⟩ := ready_ok hr
  obtain ⟨o', s, ho', hd, hs, hy⟩ := I.yv i hA hu
  rw [ho] at ho'; cases ho'
  obtain ⟨sO, sN⟩ := slot_of ho hd
  have hq : es.testBit i = false := by
    cases he : es.testBit i with
    | false => rfl
    | true => rw [I.eff i hA he] at hu; cases hu
  have hlt : i < l.length := (List.getElem?_eq_some_iff.1 ho).1
  have looks : ∀ s ∈ o.looksAt l.toArray, a.tmps[s]? = b.tmps[s]? := I.ag.looks fun r ⟨hrA, hru⟩ s' hs' hm => by
    have hrl : ∃ p, l[r]? = some p := by
      unfold slotO at hs'
      cases hp : l[r]? with
      | none => rw [hp] at hs'; cases hs'
      | some p => exact ⟨p, rfl⟩
    obtain ⟨p, hp⟩ := hrl
    have hpd : p.dst = some s' := by unfold slotO at hs'; rw [hp] at hs'; exact hs'
    have hrq : es.testBit r = false := by
      cases he : es.testBit r with
      | false => rfl
      | true => rw [I.eff r hrA he] at hru; cases hru
    have := (F.rd i o s' ho hm r p hp hrq hpd).2
    have := F.clo (X := fun j => listed.getD j false = true) (fun i o h1 h2 j h3 => I.down i o h1 h2 j h3) (i + 1) i o (Nat.lt_succ_self _) ho hwt r this
    rw [this] at hru; cases hru
  have fin : K (b.put (some s) (a.tmps.getD s Go.undef)) w := by
    refine hK _ ⟨by simp [I.size], fun j hj => ?_, fun j h1 h2 => getD_set_true (I.eff j h1 h2), fun j p hp hj k hk => ?_, I.adown, fun r h1 h2 => ?_, ?_⟩
    · by_cases e : i = j
      · subst e; exact hA
      · rw [getD_set_ne false e] at hj; exact I.sub j hj
    · by_cases e : i = j
      · subst e
        rw [ho] at hp; cases hp
        exact getD_set_true (hwt k hk)
      · rw [getD_set_ne false e] at hj
        exact getD_set_true (I.down j p hp hj k hk)
    · by_cases e : i = r
      · subst e
        have : i < listed.size := by rw [I.size]; exact hlt
        simp [this] at h2
      · rw [getD_set_ne false e] at h2
        exact I.yv r h1 h2
    · refine ⟨I.ag.defers, by rw [put_size]; exact I.ag.size, fun x hx => ?_⟩
      by_cases e : s = x
      · subst e
        rw [put_same (by rw [← I.ag.size]; exact hs)]
        exact getD_get hs
      · rw [put_get e]
        refine I.ag.slot x fun r ⟨h1, h2⟩ hrx => ?_
        by_cases e2 : i = r
        · subst e2
          rw [sO] at hrx
          cases hrx
          exact e rfl
        · exact hx r ⟨h1, by rw [getD_set_ne false e2]; exact h2⟩ hrx
  unfold wpOp
  have hol : l.toArray[i]? = some o := by simpa using ho
  rw [sN] at hy
  simp only [hol]
  rw [← looks_wanted looks]
  have hsel : ∀ cs b, o.op ≠ .select cs b := fun cs b => Region.noSelect_spec F.ns i o cs b hol
  split
  · rename_i hw
    rw [if_pos hw] at hy
    left
    unfold Oper.wp
    rw [← looks_exec hsel looks, hy]
    show K (b.put o.dst _) w
    rw [hd]; exact fin
  · rename_i hw
    rw [if_neg hw] at hy
    rw [hd, ← hy]; exact fin
/-- An operation that changes memory comes. -/
theorem effect_step (F : FlOk l es cs) {A : Nat} {listed : Array Bool} {a b : Act} {w : World} (I : FInv P l es A listed a b w) {i : Nat} (hr : i ∈ Region.ready .any l.toArray listed) {C : List Nat} {t : FT} (hn : A.testBit i = false) (hsub : subB (wmI l i) A = true) (hfl : floatB A es (getM cs i) C l.length = true) (hes : es.testBit i = true) {K0 K : Act → World → Prop}
    (hw0 : wpOp P l.toArray (Qn (Kc P l K0 C t)) i (Kc P l K0 C t) a w)
    (hK : ∀ a' b' w', FlW P l K0 t a' w' → FInv P l es (setB A i) (listed.setIfInBounds i true) a' b' w' → K b' w') : wpOp P l.toArray Q i K b w := by
  obtain ⟨o, ho, hu, hwt⟩ := ready_ok hr
  have hlt : i < l.length := (List.getElem?_eq_some_iff.1 ho).1
  have hclo := F.clo (X := fun j => listed.getD j false = true) (fun i o h1 h2 j h3 => I.down i o h1 h2 j h3) (i + 1) i o (Nat.lt_succ_self _) ho hwt
  have hq : ∀ r, A.testBit r = true → listed.getD r false = false → es.testBit r = false := fun r hrA hru => by
    cases he : es.testBit r with
    | false => rfl
    | true => rw [I.eff r hrA he] at hru; cases hru
  have looks : ∀ s ∈ o.looksAt l.toArray, a.tmps[s]? = b.tmps[s]? := I.ag.looks fun r ⟨hrA, hru⟩ s' hs' hm => by
    have hrl : ∃ p, l[r]? = some p := by
      unfold slotO at hs'
      cases hp : l[r]? with
      | none => rw [hp] at hs'; cases hs'
      | some p => exact ⟨p, rfl⟩
    obtain ⟨p, hp⟩ := hrl
    have hpd : p.dst = some s' := by unfold slotO at hs'; rw [hp] at hs'; exact hs'
    have := hclo r (F.rd i o s' ho hm r p hp (hq r hrA hru) hpd).2
    rw [this] at hru; cases hru
  obtain ⟨ta, da⟩ := a
  obtain ⟨tb, db⟩ := b
  have hdf : da = db := I.ag.defers
  subst hdf
  have fin : ∀ v w' df, Kc P l K0 C t (({ tmps := ta, defers := df } : Act).put o.dst v) w' → K (({ tmps := tb, defers := df } : Act).put o.dst v) w' := fun v w' df hk => by
    refine hK _ _ w' hk.2 ⟨by simp [I.size], fun j hj => ?_, fun j h1 h2 => ?_, fun j p hp hj k hkk => ?_, fun j p hp hj k hkk => ?_, fun r h1 h2 => ?_, ?_⟩
    · rw [setB_bit]
      by_cases e : i = j
      · subst e; simp
      · rw [getD_set_ne false e] at hj; rw [I.sub j hj]; rfl
    · rw [setB_bit, Bool.or_eq_true, decide_eq_true_eq] at h1
      rcases h1 with h1 | rfl
      · exact getD_set_true (I.eff j h1 h2)
      · have : i < listed.size := by rw [I.size]; exact hlt
        simp [this]
    · by_cases e : i = j
      · subst e
        rw [ho] at hp; cases hp
        exact getD_set_true (hwt k hkk)
      · rw [getD_set_ne false e] at hj
        exact getD_set_true (I.down j p hp hj k hkk)
    · rw [setB_bit, Bool.or_eq_true, decide_eq_true_eq] at hj ⊢
      rcases hj with hj | rfl
      · exact .inl (I.adown j p hp hj k hkk)
      · rw [ho] at hp; cases hp
        exact .inl (subB_bit hsub (by rw [wmI_eq ho]; exact hkk))
    · have e : i ≠ r := fun e => by
        subst e
        have : i < listed.size := by rw [I.size]; exact hlt
        simp [this] at h2
      rw [getD_set_ne false e] at h2
      rw [setB_bit, Bool.or_eq_true, decide_eq_true_eq] at h1
      rcases h1 with h1 | h1
      · obtain ⟨o', s, ho', _⟩ := I.yv r h1 h2
        rcases floatB_at hfl r (List.getElem?_eq_some_iff.1 ho').1 h1 (hq r h1 h2) with h3 | h3
        · have := hclo r h3
          rw [this] at h2; cases h2
        · exact hk.1 r h3
      · exact absurd h1 e
    · refine ⟨by cases o.dst <;> rfl, by rw [put_size, put_size]; exact I.ag.size, fun x hx => ?_⟩
      have old : ta[x]? = tb[x]? := I.ag.slot x fun r ⟨h1, h2⟩ hrx => hx r ⟨by rw [setB_bit, h1]; rfl, by
        have e : i ≠ r := fun e => by
          subst e
          rw [hn] at h1; cases h1
        rw [getD_set_ne false e]; exact h2⟩ hrx
      cases hd : o.dst with
      | none => exact old
      | some s =>
        by_cases e : s = x
        · subst e
          show (ta.setIfInBounds s v)[s]? = (tb.setIfInBounds s v)[s]?
          rw [Array.getElem?_setIfInBounds, Array.getElem?_setIfInBounds]
          have hsz : ta.size = tb.size := I.ag.size
          simp only [if_true, hsz]
        · rw [put_get e, put_get e]; exact old
  have hol : l.toArray[i]? = some o := by simpa using ho
  have hsel : ∀ cs b, o.op ≠ .select cs b := fun cs b => Region.noSelect_spec F.ns i o cs b hol
  unfold wpOp at hw0 ⊢
  simp only [hol] at hw0 ⊢
  rw [← looks_wanted looks]
  split
  · rename_i hw
    rw [if_pos hw] at hw0
    rcases hw0 with h | h
    · left
      unfold Oper.wp at h ⊢
      rw [← looks_exec hsel looks]
      generalize (execOp (Act.eval { tmps := ta, defers := da }) o).run P w = r at h ⊢
      cases r with
      | ok nx w' =>
        cases nx <;> simp only [Oper.upon] at h ⊢
        case value u => exact fin u w' da h
        case skip => exact fin _ w' da h
        case defer d => exact fin _ w' (d :: da) h
        case enter f args =>
          refine Calls.mono h fun e w'' he => ?_
          cases e with
          | returned u => exact fin u w'' da he
          | panicked c => exact he.elim
          | outgrown => exact absurd he Qn_out
        case row row args => exact Rows.mono h fun u w'' he => fin u w'' da he
      | halt x w' =>
        cases x <;> simp only [Oper.upon] at h ⊢
        case panic u => exact h.elim
    · exact absurd h.2 Qn_out
  · rename_i hw
    rw [if_neg hw] at hw0
    exact fin _ w da hw0
/-- **Each order is as the plan.** -/
theorem fl_main (F : FlOk l es cs) : ∀ (n : Nat) (t : FT) (A : Nat) (listed : Array Bool) (a b : Act) (w : World), (unex l.length listed).length = n → chkF l l.length es cs true t A = true → FlW P l (fun a w => Q .normal a w) t a w → FInv P l es A listed a b w → wpAny P .any l.toArray Q n listed b w := by
  intro n
  induction n with
  | zero =>
    intro t A listed a b w hn hc hf I
    have hall : ∀ i, i < l.length → listed.getD i false = true := fun i hi => by
      cases h : listed.getD i false with
      | true => rfl
      | false =>
        have := unex_set hi I.size h
        omega
    have hready : Region.ready .any l.toArray listed = [] := by
      rw [List.eq_nil_iff_forall_not_mem]
      intro i hi
      obtain ⟨o, ho, hu, _⟩ := ready_ok hi
      rw [hall i (List.getElem?_eq_some_iff.1 ho).1] at hu; cases hu
    cases t with
    | fin =>
      have hab : a = b := by
        obtain ⟨ta, da⟩ := a
        obtain ⟨tb, db⟩ := b
        have h1 : da = db := I.ag.defers
        subst h1
        congr 1
        apply Array.ext_getElem?
        intro x
        refine I.ag.slot x fun r ⟨h1, h2⟩ hrx => ?_
        unfold slotO at hrx
        cases hp : l[r]? with
        | none => rw [hp] at hrx; cases hrx
        | some p => rw [hall r (List.getElem?_eq_some_iff.1 hp).1] at h2; cases h2
      rw [← hab]
      exact ⟨hready, hf⟩
    | stop => simp [chkF] at hc
    | q i t =>
      exfalso
      unfold chkF at hc
      simp only [Bool.and_eq_true, Nat.blt_eq, Bool.not_eq_true'] at hc
      have := I.sub i (hall i hc.1)
      rw [hc.2.2.1] at this; cases this
    | e i C t alt =>
      exfalso
      unfold chkF at hc
      simp only [Bool.and_eq_true, Nat.blt_eq, Bool.not_eq_true'] at hc
      have := I.sub i (hall i hc.2.1)
      rw [hc.2.2.2.1] at this; cases this
  | succ n ih =>
    intro t
    have node : ∀ (t : FT) (A : Nat) (listed : Array Bool) (a b : Act) (w : World), (∀ j, j < l.length → A.testBit j = true ∨ j ∈ altI t ∨ subB (wmI l j) A = false) → (unex l.length listed).length = n + 1 → chkF l l.length es cs true t A = true → FlW P l (fun a w => Q .normal a w) t a w → FInv P l es A listed a b w → wpAny P .any l.toArray Q (n + 1) listed b w := by
      intro t A listed a b w hcomp hn hc hf I
      refine ⟨fun h0 => ?_, fun i hi => ?_⟩
      · exfalso
        obtain ⟨i, hi⟩ := List.exists_mem_of_ne_nil (unex l.length listed) (by intro e; rw [e] at hn; simp at hn)
        obtain ⟨h1, h2⟩ := List.mem_filter.1 hi
        exact some_ready F I.size (i + 1) i (Nat.lt_succ_self _) (List.mem_range.1 h1) (by simpa using h2) h0
      · obtain ⟨o, ho, hu, hwt⟩ := ready_ok hi
        have hlt : i < l.length := (List.getElem?_eq_some_iff.1 ho).1
        have hcnt := unex_set hlt I.size hu
        cases hA : A.testBit i with
        | true => exact quiet_step F I hi hA fun b' I' => ih t A _ a b' w (by omega) hc hf I'
        | false =>
          have hsub : subB (wmI l i) A = true := by
            unfold subB
            rw [Nat.beq_eq]
            apply Nat.eq_of_testBit_eq
            intro j
            rw [Nat.testBit_and]
            cases hj : (wmI l i).testBit j with
            | false => rfl
            | true => rw [wmI_eq ho] at hj; rw [I.sub j (hwt j hj)]; rfl
          rcases hcomp i hlt with h | h | h
          · rw [hA] at h; cases h
          · obtain ⟨C, ti, k1, k2, k3, k4, k5, k6, k7⟩ := alt_at hc hf i h
            exact effect_step F I hi k3 k4 k5 k2 k7 fun a' b' w' hf' I' => ih ti _ _ a' b' w' (by omega) k6 hf' I'
          · rw [hsub] at h; cases h
    induction t with
    | fin =>
      intro A listed a b w hn hc hf I
      refine node .fin A listed a b w (fun j hj => .inl ?_) hn hc hf I
      unfold chkF at hc
      have := Nat.eq_of_beq_eq_true hc
      rw [this, Nat.one_shiftLeft, Nat.testBit_two_pow_sub_one, decide_eq_true hj]
    | stop =>
      intro A listed a b w hn hc
      simp [chkF] at hc
    | e i C t alt _ _ =>
      intro A listed a b w hn hc hf I
      refine node (.e i C t alt) A listed a b w ?_ hn hc hf I
      have hc' := hc
      unfold chkF at hc'
      simp only [Bool.and_eq_true] at hc'
      exact compB_at hc'.1
    | q i t iht =>
      intro A listed a b w hn hc hf I
      unfold chkF at hc
      simp only [Bool.and_eq_true, Nat.blt_eq, Bool.not_eq_true'] at hc
      obtain ⟨h1, h2, h3, h4, h5⟩ := hc
      obtain ⟨v, hy, hf'⟩ := hf
      obtain ⟨o, s, ho, hd, hs, hyv⟩ := hy
      obtain ⟨sO, sN⟩ := slot_of ho hd
      have hul : listed.getD i false = false := by
        cases h : listed.getD i false with
        | false => rfl
        | true => have := I.sub i h; rw [h3] at this; cases this
      rw [sO] at hf'
      have hkeep : ∀ (r : Nat) (p : Oper), l[r]? = some p → s ∉ p.looksAt l.toArray → ∀ x ∈ p.looksAt l.toArray, a.tmps[x]? = (a.put (some s) v).tmps[x]? := fun r p hp hns x hx => by
        rw [put_get]
        intro e
        subst e
        exact hns hx
      refine iht (setB A i) listed (a.put (some s) v) b w hn h5 hf' ⟨I.size, fun j hj => by rw [setB_bit, I.sub j hj]; rfl, fun j q1 q2 => ?_, I.down, fun j p hp hj k hk => ?_, fun r q1 q2 => ?_, ?_⟩
      · rw [setB_bit, Bool.or_eq_true, decide_eq_true_eq] at q1
        rcases q1 with q1 | rfl
        · exact I.eff j q1 q2
        · rw [h2] at q2; cases q2
      · rw [setB_bit, Bool.or_eq_true, decide_eq_true_eq] at hj ⊢
        rcases hj with hj | rfl
        · exact .inl (I.adown j p hp hj k hk)
        · exact .inl (subB_bit h4 (by rw [wmI_eq hp]; exact hk))
      · rw [setB_bit, Bool.or_eq_true, decide_eq_true_eq] at q1
        by_cases e : i = r
        · subst e
          have hns : s ∉ o.looksAt l.toArray := fun hm => (F.rd i o s ho hm i o ho h2 hd).1 rfl
          refine ⟨o, s, ho, hd, by rw [put_size]; exact hs, ?_⟩
          have hgd : (a.put (some s) v).tmps.getD (slotN l i) Go.undef = v := by
            rw [sN, Array.getD_eq_getD_getElem?, put_same hs]; rfl
          rw [hgd, ← looks_wanted (hkeep i o ho hns), ← looks_exec (fun cs b => Region.noSelect_spec F.ns i o cs b (by simpa using ho)) (hkeep i o ho hns)]
          exact hyv
        · rcases q1 with q1 | q1
          · obtain ⟨p, s', hp, hpd, hps, hpy⟩ := I.yv r q1 q2
            have hrq : es.testBit r = false := by
              cases he : es.testBit r with
              | false => rfl
              | true => rw [I.eff r q1 he] at q2; cases q2
            have hns : s ∉ p.looksAt l.toArray := fun hm => by
              have := (F.rd r p s hp hm i o ho h2 hd).2
              have := F.clo (X := fun j => A.testBit j = true) (fun i o h1 h2 j h3 => I.adown i o h1 h2 j h3) (r + 1) r p (Nat.lt_succ_self _) hp (fun j hj => I.adown r p hp q1 j hj) i this
              rw [h3] at this; cases this
            have hne : s ≠ slotN l r := fun e2 => by
              obtain ⟨_, hN⟩ := slot_of hp hpd
              rw [hN] at e2
              exact F.ne i r o p e ho hp h2 hrq (by rw [hd, hpd, e2])
            refine ⟨p, s', hp, hpd, by rw [put_size]; exact hps, ?_⟩
            have hgd : (a.put (some s) v).tmps.getD (slotN l r) Go.undef = a.tmps.getD (slotN l r) Go.undef := by
              rw [Array.getD_eq_getD_getElem?, Array.getD_eq_getD_getElem?, put_get hne]
            rw [hgd, ← looks_wanted (hkeep r p hp hns), ← looks_exec (fun cs b => Region.noSelect_spec F.ns r p cs b (by simpa using hp)) (hkeep r p hp hns)]
            exact hpy
          · exact absurd q1 e
      · refine ⟨I.ag.defers, by rw [put_size]; exact I.ag.size, fun x hx => ?_⟩
        have hsx : s ≠ x := fun e => by
          subst e
          exact hx i ⟨by rw [setB_bit]; simp, hul⟩ sO
        rw [put_get hsx]
        exact I.ag.slot x fun r ⟨q1, q2⟩ hrx => hx r ⟨by rw [setB_bit, q1]; rfl, q2⟩ hrx
theorem region_flow {id : Nat} {a : Act} {w : World} {t : FT} (hm : P.follows .mixedOrders = true) (hB : flB l es cs t = true) (h : FlW P l (fun a w => Q .normal a w) t a { w with drawn := w.drawn + 1 }) : (Code.region id l.toArray true).wp P Q a w := by
  obtain ⟨F, hc⟩ := flB_ok hB
  refine wp_region_any hm ?_
  have hsz : l.toArray.size = l.length := by simp
  rw [hsz]
  have hu : unex l.length (Array.replicate l.length false) = List.range l.length := by
    unfold unex
    rw [List.filter_eq_self]
    intro i _
    rw [getD_replicate_false]; rfl
  refine fl_main F l.length t 0 _ a a _ (by rw [hu, List.length_range]) hc h ⟨by simp, fun i hi => ?_, fun i hi => ?_, fun i o _ hi => ?_, fun i o _ hi => ?_, fun r hr => ?_, ⟨rfl, rfl, fun _ _ => rfl⟩⟩
  · rw [getD_replicate_false] at hi; cases hi
  · simp at hi
  · rw [getD_replicate_false] at hi; cases hi
  · simp at hi
  · simp at hr
end
/-! ### The plan, walked -/
structure Wk (x : Cx) (l : List Oper) (t : FT) (s : St) (K : St → Prop) : Prop where
  run : ∀ g V a w, Rep x g V s a w → FlW x.P l (fun a' w' => ∃ s' V', K s' ∧ Rep x g V' s' a' w') t a w
def chkC (x : Cx) (l : List Oper) (s : St) : List Nat → Option (List Prop)
  | [] => some []
  | c :: r => match nthC l c with
    | some ⟨some t, op, _, _, _, gd⟩ => match goes l s.env gd, find s.env t with
      | some true, some v => match ev x.L s op with
        | some (v', o1) => match eqS v' v, chkC x l s r with
          | some o2, some o3 => some (app o1 (app o2 o3))
          | _, _ => none
        | none => none
      | some false, some .undef => chkC x l s r
      | _, _ => none
    | _ => none
inductive ResW where
  | fin (obs : List Prop) (s : St)
  | tt (obs : List Prop)
  | split (obs : List Prop) (b : Bool) (d : Nat) (t : FT) (s : St)
  | eff (obs : List Prop) (i : Nat) (C : List Nat) (t alt : FT) (s : St)
  | out (obs : List Prop) (t : FT) (s : St)
def GoodW (x : Cx) (l : List Oper) (K : St → Prop) : ResW → Prop
  | .fin obs s => AllP obs ∧ K s
  | .tt obs => AllP obs
  | .split obs b d t s => AllP obs ∧ (b = true → Wk x l t ⟨(d, .tf true) :: s.env, s.mem, s.nb⟩ K) ∧ (b = false → Wk x l t ⟨(d, .tf false) :: s.env, s.mem, s.nb⟩ K)
  | .eff obs i C t alt s => AllP obs ∧ Wk x l (.e i C t alt) s K
  | .out obs t s => AllP obs ∧ Wk x l t s K
def runW (x : Cx) (l : List Oper) : Nat → List Prop → FT → St → ResW
  | 0, obs, t, s => .out obs t s
  | n + 1, obs, .fin, s => .fin obs s
  | n + 1, obs, .stop, s => .tt obs
  | n + 1, obs, .e i C t alt, s => .eff obs i C t alt s
  | n + 1, obs, .q i t, ⟨env, mem, nb⟩ => match nthC l i with
    | some ⟨some d, op, _, _, _, gd⟩ => match Nat.blt d x.n, goes l env gd with
      | true, some true => match ev x.L ⟨env, mem, nb⟩ op with
        | some (v, ob) => plV v fun v => match okV nb v with
          | true => runW x l n (app ob obs) t ⟨(d, v) :: env, mem, nb⟩
          | false => .out obs (.q i t) ⟨env, mem, nb⟩
        | none => .out obs (.q i t) ⟨env, mem, nb⟩
      | true, some false => runW x l n obs t ⟨(d, .undef) :: env, mem, nb⟩
      | true, none => match gd with
        | some (j, _) => match nthC l j with
          | some p => match p.dst with
            | some d' => match find env d' with
              | some (.bool b) => .split obs b d' (.q i t) ⟨env, mem, nb⟩
              | _ => .out obs (.q i t) ⟨env, mem, nb⟩
            | none => .out obs (.q i t) ⟨env, mem, nb⟩
          | none => .out obs (.q i t) ⟨env, mem, nb⟩
        | none => .out obs (.q i t) ⟨env, mem, nb⟩
      | false, _ => .out obs (.q i t) ⟨env, mem, nb⟩
    | _ => .out obs (.q i t) ⟨env, mem, nb⟩
section
variable {x : Cx} {l : List Oper} {K : St → Prop}
theorem yv_ev {g : Gx} {V : Vl} {s : St} {a : Act} {w : World} (hr : Rep x g V s a w) {i t : Nat} {op : Op} {ty : TypeId} {pos : String} {after : Array Edge} {gd : Option (Nat × Bool)} {v : SV} (ho : nthC l i = some ⟨some t, op, ty, pos, after, gd⟩) (hg : goes l s.env gd = some true) (he : EvTo x s op v) (ht : t < x.n) : Yv x.P l i a w (den V v) := by
  refine ⟨_, t, by rw [← nthC_get]; exact ho, rfl, by rw [hr.size]; exact ht, ?_⟩
  have hw : Region.wanted ⟨some t, op, ty, pos, after, gd⟩ (yielded l.toArray a.tmps) = true := goes_wanted hg hr.env
  rw [if_pos hw]
  exact he.run g.D0 V a w hr.env hr.ents _ _ _ _ _
theorem yv_no {g : Gx} {V : Vl} {s : St} {a : Act} {w : World} (hr : Rep x g V s a w) {i t : Nat} {op : Op} {ty : TypeId} {pos : String} {after : Array Edge} {gd : Option (Nat × Bool)} (ho : nthC l i = some ⟨some t, op, ty, pos, after, gd⟩) (hg : goes l s.env gd = some false) (ht : t < x.n) : Yv x.P l i a w Go.undef := by
  refine ⟨_, t, by rw [← nthC_get]; exact ho, rfl, by rw [hr.size]; exact ht, ?_⟩
  have hw : Region.wanted ⟨some t, op, ty, pos, after, gd⟩ (yielded l.toArray a.tmps) = false := goes_wanted hg hr.env
  rw [if_neg (by rw [hw]; simp)]
theorem slot_n {i t : Nat} {op : Op} {ty : TypeId} {pos : String} {after : Array Edge} {gd : Option (Nat × Bool)} (ho : nthC l i = some ⟨some t, op, ty, pos, after, gd⟩) : slotO l i = some t ∧ slotN l i = t :=
  slot_of (by rw [← nthC_get]; exact ho) rfl
theorem lt_env {g : Gx} {V : Vl} {s : St} {a : Act} {w : World} (hr : Rep x g V s a w) {t : Nat} {v : SV} (hf : find s.env t = some v) (hu : v ≠ .undef) : den V v = Go.undef ∨ t < x.n := by
  by_cases h : t < x.n
  · exact .inr h
  · left
    rw [← hr.env t v hf, Array.getD_eq_getD_getElem?, Array.getElem?_eq_none (by rw [hr.size]; omega)]; rfl
/-- Slots that are asked for again are slots. -/
def inB (n : Nat) (l : List Oper) : List Nat → Bool
  | [] => true
  | c :: r => match nthC l c with
    | some ⟨some t, _, _, _, _, _⟩ => match Nat.blt t n with
      | true => inB n l r
      | false => false
    | _ => false
theorem chkC_ok (hL : LayOk x.P x.L) {g : Gx} {V : Vl} {s : St} {a : Act} {w : World} (hr : Rep x g V s a w) : ∀ {C : List Nat} {obs : List Prop}, chkC x l s C = some obs → AllP obs → inB x.n l C = true → ∀ c ∈ C, Yv x.P l c a w (a.tmps.getD (slotN l c) Go.undef)
  | [], _, _, _, _, c, hc => absurd hc List.not_mem_nil
  | c :: r, obs, h, ho, hi, d, hd => by
    unfold chkC at h
    unfold inB at hi
    split at h
    · rename_i t op ty pos after gd hn
      rw [hn] at hi
      simp only at hi
      split at hi
      · rename_i hlt
        have hlt' : t < x.n := by simpa [Nat.blt_eq] using hlt
        obtain ⟨_, sN⟩ := slot_n hn
        split at h
        · rename_i v hg hf
          split at h
          · rename_i v' o1 hev
            split at h
            · rename_i o2 o3 he hc
              cases h
              obtain ⟨p1, p2⟩ := AllP_app.1 ho
              obtain ⟨p2, p3⟩ := AllP_app.1 p2
              rcases List.mem_cons.1 hd with rfl | hd
              · have := yv_ev hr hn hg (ev_ok hL hev p1) hlt'
                rw [sN, hr.env t v hf, ← eqS_den V he p2]
                exact this
              · exact chkC_ok hL hr hc p3 hi d hd
            · cases h
          · cases h
        · rename_i hg hf
          rcases List.mem_cons.1 hd with rfl | hd
          · have := yv_no hr hn hg hlt'
            rw [sN, hr.env t .undef hf]
            exact this
          · exact chkC_ok hL hr h ho hi d hd
        · cases h
      · cases hi
    · cases h
theorem wk_q {i t : Nat} {op : Op} {ty : TypeId} {pos : String} {after : Array Edge} {gd : Option (Nat × Bool)} {v : SV} {T : FT} {env : List (Nat × SV)} {mem : List (Nat × MB)} {nb : Nat} (ho : nthC l i = some ⟨some t, op, ty, pos, after, gd⟩) (hg : goes l env gd = some true) (he : EvTo x ⟨env, mem, nb⟩ op v) (ht : Nat.blt t x.n = true) (hv : okV nb v = true) (h : Wk x l T ⟨(t, v) :: env, mem, nb⟩ K) : Wk x l (.q i T) ⟨env, mem, nb⟩ K :=
  ⟨fun g V a w hr => ⟨den V v, yv_ev hr ho hg he (by simpa [Nat.blt_eq] using ht), by rw [(slot_n ho).1]; exact h.run g V _ w (hr.put ht hv)⟩⟩
theorem wk_n {i t : Nat} {op : Op} {ty : TypeId} {pos : String} {after : Array Edge} {gd : Option (Nat × Bool)} {T : FT} {env : List (Nat × SV)} {mem : List (Nat × MB)} {nb : Nat} (ho : nthC l i = some ⟨some t, op, ty, pos, after, gd⟩) (hg : goes l env gd = some false) (ht : Nat.blt t x.n = true) (h : Wk x l T ⟨(t, .undef) :: env, mem, nb⟩ K) : Wk x l (.q i T) ⟨env, mem, nb⟩ K :=
  ⟨fun g V a w hr => ⟨Go.undef, yv_no hr ho hg (by simpa [Nat.blt_eq] using ht), by rw [(slot_n ho).1]; exact h.run g V _ w (hr.put (v := .undef) ht rfl)⟩⟩
theorem wk_split {t : FT} {s : St} {d : Nat} {b : Bool} (hf : find s.env d = some (.bool b)) (h1 : b = true → Wk x l t ⟨(d, .tf true) :: s.env, s.mem, s.nb⟩ K) (h2 : b = false → Wk x l t ⟨(d, .tf false) :: s.env, s.mem, s.nb⟩ K) : Wk x l t s K :=
  ⟨fun g V a w hr => by
    cases b with
    | true => exact (h1 rfl).run g V a w (hr.know hf (fun _ => rfl) rfl)
    | false => exact (h2 rfl).run g V a w (hr.know hf (fun _ => rfl) rfl)⟩
theorem runW_ok (hL : LayOk x.P x.L) : ∀ {n : Nat} {obs : List Prop} {t : FT} {s : St}, GoodW x l K (runW x l n obs t s) → AllP obs ∧ Wk x l t s K
  | 0, obs, t, s, h => h
  | n + 1, obs, .fin, s, h => ⟨h.1, ⟨fun g V a w hr => ⟨s, V, h.2, hr⟩⟩⟩
  | n + 1, obs, .stop, s, h => ⟨h, ⟨fun _ _ _ _ _ => trivial⟩⟩
  | n + 1, obs, .e i C t alt, s, h => h
  | n + 1, obs, .q i t, ⟨env, mem, nb⟩, h => by
    unfold runW at h
    split at h
    · rename_i d op ty pos after gd ho
      split at h
      · rename_i hlt hg
        split at h
        · rename_i v ob hev
          rw [plV_eq] at h
          split at h
          · rename_i hok
            obtain ⟨h1, h2⟩ := runW_ok hL h
            obtain ⟨p1, p2⟩ := AllP_app.1 h1
            exact ⟨p2, wk_q ho hg (ev_ok hL hev p1) hlt hok h2⟩
          · exact h
        · exact h
      · rename_i hlt hg
        obtain ⟨h1, h2⟩ := runW_ok hL h
        exact ⟨h1, wk_n ho hg hlt h2⟩
      · rename_i hlt hg
        split at h
        · split at h
          · split at h
            · split at h
              · rename_i hf
                exact ⟨h.1, wk_split (s := ⟨env, mem, nb⟩) hf h.2.1 h.2.2⟩
              · exact h
            · exact h
          · exact h
        · exact h
      · exact h
    · exact h
/-! ### How a walk goes on -/
theorem h_id {o : Option (List Prop)} (h : HoldsO o) : HoldsO o := h
theorem w_id {r : ResW} (h : GoodW x l K r) : GoodW x l K r := h
theorem w_fin {obs : List Prop} {s : St} (ho : AllP obs) (h : K s) : GoodW x l K (.fin obs s) := ⟨ho, h⟩
theorem w_tt {obs : List Prop} (ho : AllP obs) : GoodW x l K (.tt obs) := ho
theorem w_out (hL : LayOk x.P x.L) (n : Nat) {obs : List Prop} {t : FT} {s : St} (ho : AllP obs) (h : GoodW x l K (runW x l n [] t s)) : GoodW x l K (.out obs t s) := ⟨ho, (runW_ok hL h).2⟩
theorem w_split (hL : LayOk x.P x.L) (n : Nat) {obs : List Prop} {b : Bool} {d : Nat} {t : FT} {env : List (Nat × SV)} {mem : List (Nat × MB)} {nb : Nat} (ho : AllP obs) (h1 : b = true → GoodW x l K (runW x l n [] t ⟨(d, .tf true) :: env, mem, nb⟩)) (h2 : b = false → GoodW x l K (runW x l n [] t ⟨(d, .tf false) :: env, mem, nb⟩)) : GoodW x l K (.split obs b d t ⟨env, mem, nb⟩) :=
  ⟨ho, fun e => (runW_ok hL (h1 e)).2, fun e => (runW_ok hL (h2 e)).2⟩
/-- The operation by a lemma of one's own. -/
theorem w_ev (hL : LayOk x.P x.L) (n : Nat) {obs : List Prop} {i t : Nat} {op : Op} {ty : TypeId} {pos : String} {after : Array Edge} {gd : Option (Nat × Bool)} {v : SV} {T : FT} {env : List (Nat × SV)} {mem : List (Nat × MB)} {nb : Nat} (ho : AllP obs) (hn : nthC l i = some ⟨some t, op, ty, pos, after, gd⟩) (he : EvTo x ⟨env, mem, nb⟩ op v) (hg : goes l env gd = some true) (h1 : Nat.blt t x.n = true) (h2 : okV nb v = true) (hk : GoodW x l K (runW x l n [] T ⟨(t, v) :: env, mem, nb⟩)) : GoodW x l K (.out obs (.q i T) ⟨env, mem, nb⟩) :=
  ⟨ho, wk_q hn hg he h1 h2 (runW_ok hL hk).2⟩
def Qs (F : St → Prop) : Exit → St → Prop
  | .normal, s => F s
  | _, _ => False
theorem q_flow {s : St} {A B : St → Prop} (ha : A s) (hb : B s) : Qs (fun s => A s ∧ B s) .normal s := ⟨ha, hb⟩
theorem w_eff (hL : LayOk x.P x.L) (n : Nat) {obs : List Prop} {i : Nat} {C : List Nat} {t alt : FT} {s : St} {o : Oper} (ho : AllP obs) (hn : nthC l i = some o) (hC : inB x.n l C = true)
    (h1 : Good x (Qs fun s' => HoldsO (chkC x l s' C) ∧ GoodW x l K (runW x l n [] t s')) (run x n [] (.ops l [o]) [] s)) (h2 : GoodW x l K (runW x l n [] alt s)) : GoodW x l K (.eff obs i C t alt s) := by
  refine ⟨ho, ⟨fun g V a w hr => ⟨?_, (runW_ok hL h2).2.run g V a w hr⟩⟩⟩
  have hsq : Sq x l [o] s fun s' => HoldsO (chkC x l s' C) ∧ GoodW x l K (runW x l n [] t s') := (run_ok hL h1).2
  have := hsq.run g (Qn (Kc x.P l (fun a' w' => ∃ s' V', K s' ∧ Rep x g V' s' a' w') C t)) V a w (fun s' V' a' w' hq hr' => ⟨(by
    have hc := hq.1
    cases hcc : chkC x l s' C with
    | none => rw [hcc] at hc; exact hc.elim
    | some ob => rw [hcc] at hc; exact chkC_ok hL hr' hcc hc hC), (runW_ok hL hq.2).2.run g V' a' w' hr'⟩) hr
  have hol : l.toArray[i]? = some o := by rw [nthC_get] at hn; simpa using hn
  unfold wpOp
  simp only [hol]
  exact this
end
/-- **A region that draws its order, walked by a plan.** -/
theorem g_flow (id : Nat) {x : Cx} {Q : Exit → St → Prop} {obs : List Prop} {K : List Kf} (hL : LayOk x.P x.L) (hm : x.P.follows .mixedOrders = true) (fuel es : Nat) (cs : List Nat) (t : FT) {l : List Oper} {env : List (Nat × SV)} {mem : List (Nat × MB)} {nb : Nat} (hB : flB l es cs t = true) (ho : AllP obs)
    (h : GoodW x l (fun s' => Good x Q (run x fuel [] (.exit .normal) K s')) (runW x l fuel [] t ⟨env, mem, nb⟩)) : Good x Q (.code obs (.region id l.toArray true) K ⟨env, mem, nb⟩) := by
  refine ⟨ho, ?_⟩
  have hw := (runW_ok hL h).2
  show Tr x (.region id l.toArray true) (QK x K Q) ⟨env, mem, nb⟩
  refine ⟨fun g V a w hr => region_flow hm hB ?_⟩
  have hr' : Rep x g V ⟨env, mem, nb⟩ a { w with drawn := w.drawn + 1 } := ⟨hr.defers, hr.size, hr.env, hr.envOk, hr.ents.heap rfl, ⟨hr.frame.1, hr.frame.2.1, ⟨hr.frame.2.2.os, hr.frame.2.2.tape, hr.frame.2.2.output⟩⟩, hr.own, hr.pin, hr.d0⟩
  have := hw.run g V a _ hr'
  exact flW_mono (fun a' w' ⟨s', V', hk, hr2⟩ => ⟨s', V', (run_ok hL hk).2, hr2⟩) this
end Go.Proofs.Ytonjbhdfimcedaa
