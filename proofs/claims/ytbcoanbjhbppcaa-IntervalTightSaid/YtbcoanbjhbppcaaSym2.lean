/- Symbolic walks, second part: what an operation yields, and why. No condition on any program. -/
import Derived.Test.YtbcoanbjhbppcaaSym
namespace Go.Proofs.Ytbcoanbjhbppcaa
set_option linter.unusedVariables false
open Go.RowKit

/-- What is known at a point: slots, blocks of the walk's own (newest entry first), the number of these blocks. -/
structure St where
  env : List (Nat × SV)
  mem : List (Nat × List SV)
  nb : Nat
/-- A constant of the program's text. -/
def injK : Value → Option SV
  | .int k n => some (.int k n)
  | .bool b => some (.tf b)
  | v => some (.val v)
theorem injK_eq {v : Value} {u : SV} (h : injK v = some u) (r : Nat → Nat) : den r u = v := by
  cases v <;> simp only [injK, Option.some.injEq] at h <;> (subst h; rfl)
def St.get (s : St) : Operand → Option SV
  | .tmp t => find s.env t
  | .const v => injK v
  | .global g => some (.val (.pointer (some ⟨g, 0, none⟩)))
  | .func f => some (.clo f [])
def on (x : Option SV) (K : SV → Prop) : Prop :=
  match x with
  | some v => K v
  | none => False
theorem on_some {x : Option SV} {K : SV → Prop} (h : on x K) : ∃ v, x = some v ∧ K v := by
  cases x with
  | none => exact h.elim
  | some v => exact ⟨v, rfl, h⟩

def EnvR (r : Nat → Nat) (s : St) (a : Act) : Prop := ∀ t v, find s.env t = some v → a.tmps.getD t Go.undef = den r v
/-- 'D': blocks of the world before that may be written. -/
def Gr (D : Nat → Prop) (W w : World) : Prop := W.keptBut w (fun p => match p with | .cell b _ => D b | _ => False) ∧ (∀ a, w.frozen? a = W.frozen? a) ∧ W.heap.size ≤ w.heap.size
def MemR (D : Nat → Prop) (w0 : World) (r : Nat → Nat) (s : St) (w : World) : Prop :=
  (∀ k c, find s.mem k = some c → ∃ t, w.heap[r k]? = some (.cells (denL r c).toArray t)) ∧ Gr D w0 w
theorem EnvR.get {r : Nat → Nat} {s : St} {a : Act} (h : EnvR r s a) {x : Operand} {v : SV} (hx : s.get x = some v) : a.eval x = den r v := by
  cases x with
  | tmp t => exact h t v hx
  | const c => exact (injK_eq hx r).symm
  | global g => simp only [St.get, Option.some.injEq] at hx; subst hx; rfl
  | func f => simp only [St.get, Option.some.injEq] at hx; subst hx; rfl

/-! ### Cells -/
def dropC : List SV → Nat → List SV
  | l, 0 => l
  | [], _ + 1 => []
  | _ :: l, o + 1 => dropC l o
def takeC : List SV → Nat → Option (List SV)
  | _, 0 => some []
  | [], _ + 1 => none
  | x :: l, n + 1 => match takeC l n with
    | some r => some (x :: r)
    | none => none
def nthC : List SV → Nat → Option SV
  | [], _ => none
  | x :: _, 0 => some x
  | _ :: l, n + 1 => nthC l n
def splice : List SV → Nat → List SV → Option (List SV)
  | c, 0, [] => some c
  | [], 0, _ :: _ => none
  | _ :: c, 0, v :: vs => match splice c 0 vs with
    | some r => some (v :: r)
    | none => none
  | [], _ + 1, _ => none
  | x :: c, o + 1, vs => match splice c o vs with
    | some r => some (x :: r)
    | none => none
def cellsV : SV → List SV
  | .agg l => l
  | .tup l => l
  | v => [v]
theorem dropC_eq : ∀ l o, dropC l o = l.drop o
  | l, 0 => by simp [dropC]
  | [], _ + 1 => by simp [dropC]
  | _ :: l, o + 1 => by simp [dropC, dropC_eq l o]
theorem takeC_eq : ∀ l n {r}, takeC l n = some r → n ≤ l.length ∧ r = l.take n
  | l, 0, r, h => by simp [takeC] at h; simp [h]
  | [], _ + 1, r, h => by simp [takeC] at h
  | x :: l, n + 1, r, h => by
    unfold takeC at h
    cases hh : takeC l n with
    | none => simp [hh] at h
    | some q => obtain ⟨h1, h2⟩ := takeC_eq l n hh; simp [hh] at h; subst h; simp [h1, h2]
theorem nthC_eq : ∀ l n, nthC l n = l[n]?
  | [], _ => by simp [nthC]
  | x :: _, 0 => by simp [nthC]
  | _ :: l, n + 1 => by simp [nthC, nthC_eq l n]
theorem splice_eq : ∀ c o vs {r}, splice c o vs = some r → o + vs.length ≤ c.length ∧ r = c.take o ++ vs ++ c.drop (o + vs.length)
  | c, 0, [], r, h => by cases c <;> (simp [splice] at h; simp [h])
  | [], 0, _ :: _, r, h => by simp [splice] at h
  | x :: c, 0, v :: vs, r, h => by
    unfold splice at h
    cases hh : splice c 0 vs with
    | none => simp [hh] at h
    | some q =>
      obtain ⟨h1, h2⟩ := splice_eq c 0 vs hh
      simp [hh] at h; subst h; subst h2
      simp only [Nat.zero_add] at h1 ⊢
      refine ⟨by simpa using h1, by simp⟩
  | [], _ + 1, vs, r, h => by simp [splice] at h
  | x :: c, o + 1, vs, r, h => by
    unfold splice at h
    cases hh : splice c o vs with
    | none => simp [hh] at h
    | some q =>
      obtain ⟨h1, h2⟩ := splice_eq c o vs hh
      simp [hh] at h; subst h; subst h2
      refine ⟨by simp; omega, ?_⟩
      rw [show o + 1 + vs.length = (o + vs.length) + 1 by omega]
      simp
theorem cells_den (r : Nat → Nat) (v : SV) (h : ∀ l, v ≠ .tup l) (hv : ∀ x, v ≠ .val x) (hu : v ≠ .undef) : (den r v).cells = (denL r (cellsV v)).toArray := by
  cases v <;> first | rfl | exact absurd rfl (h _) | exact absurd rfl (hv _) | exact absurd rfl hu
/-- The value has the cells that are said. -/
def cellsOk : SV → Bool
  | .tup _ => false
  | .undef => false
  | .val (.agg _) => false
  | _ => true
theorem cellsOk_den (r : Nat → Nat) (v : SV) (h : cellsOk v = true) : (den r v).cells = (denL r (cellsV v)).toArray := by
  cases v <;> first | rfl | (simp [cellsOk] at h; done) | skip
  case val x => cases x <;> first | rfl | (simp [cellsOk] at h)

/-! ### Integers -/
def imin (a b : Int) : Int := if b < a then b else a
def imax (a b : Int) : Int := if a < b then b else a
def bitI (op : BinOp) (k : IntKind) (a b : Int) : Int :=
  match op with
  | .and => k.wrap ((BitVec.ofInt k.bits a &&& BitVec.ofInt k.bits b).toNat : Int)
  | .or => k.wrap ((BitVec.ofInt k.bits a ||| BitVec.ofInt k.bits b).toNat : Int)
  | .xor => k.wrap ((BitVec.ofInt k.bits a ^^^ BitVec.ofInt k.bits b).toNat : Int)
  | _ => k.wrap ((BitVec.ofInt k.bits a &&& ~~~ BitVec.ofInt k.bits b).toNat : Int)
def evInt (op : BinOp) (k : IntKind) (a : Int) (k' : IntKind) (b : Int) (K : SV → Prop) : Prop :=
  match op with
  | .shl => 0 ≤ b ∧ ∃ c, k.wrap (a * 2 ^ (min b.toNat k.bits)) = c ∧ K (.int k c)
  | .shr => 0 ≤ b ∧ ∃ c, a.fdiv (2 ^ (min b.toNat k.bits)) = c ∧ K (.int k c)
  | op => match decide (k = k') with
    | false => False
    | true => match op with
      | .add => ∃ c, k.wrap (a + b) = c ∧ K (.int k c)
      | .sub => ∃ c, k.wrap (a - b) = c ∧ K (.int k c)
      | .mul => ∃ c, k.wrap (a * b) = c ∧ K (.int k c)
      | .quo => b ≠ 0 ∧ ∃ c, k.wrap (a.tdiv b) = c ∧ K (.int k c)
      | .rem => b ≠ 0 ∧ ∃ c, a.tmod b = c ∧ K (.int k c)
      | .eql => K (.bool (a == b))
      | .neq => K (.bool (a != b))
      | .lss => K (.bool (decide (a < b)))
      | .leq => K (.bool (decide (a ≤ b)))
      | .gtr => K (.bool (decide (b < a)))
      | .geq => K (.bool (decide (b ≤ a)))
      | .and => ∃ c, bitI .and k a b = c ∧ K (.int k c)
      | .or => ∃ c, bitI .or k a b = c ∧ K (.int k c)
      | .xor => ∃ c, bitI .xor k a b = c ∧ K (.int k c)
      | .andNot => ∃ c, bitI .andNot k a b = c ∧ K (.int k c)
      | _ => False
theorem evInt_sound {P : Program} {op : BinOp} {k k' : IntKind} {a b : Int} {K : SV → Prop} (h : evInt op k a k' b K) :
    ∃ v, K v ∧ ∀ (r : Nat → Nat) t x y w, (do eqGuard op t x y (.int k a) (.int k' b); binOp op t (.int k a) (.int k' b) : Sem Value).run P w = .ok (den r v) w := by
  have g : ∀ t x y w, (eqGuard op t x y (.int k a) (.int k' b)).run P w = .ok () w := by
    intro t x y w
    unfold eqGuard
    split <;> rfl
  have red : ∀ {v : SV}, (∀ (r : Nat → Nat) t w, (binOp op t (.int k a) (.int k' b)).run P w = .ok (den r v) w) →
      ∀ (r : Nat → Nat) t x y w, (do eqGuard op t x y (.int k a) (.int k' b); binOp op t (.int k a) (.int k' b) : Sem Value).run P w = .ok (den r v) w := by
    intro v hv r t x y w
    simp only [Sem.run_bind, g]
    exact hv r t w
  unfold evInt at h
  cases op
  case shl =>
    obtain ⟨h0, c, rfl, hK⟩ := h
    refine ⟨_, hK, red fun r t w => ?_⟩
    show (Op.shift .shl k a k' b).run P w = _
    unfold Op.shift
    rw [if_neg (by omega)]
    rfl
  case shr =>
    obtain ⟨h0, c, rfl, hK⟩ := h
    refine ⟨_, hK, red fun r t w => ?_⟩
    show (Op.shift .shr k a k' b).run P w = _
    unfold Op.shift
    rw [if_neg (by omega)]
    rfl
  all_goals
    simp only at h
    by_cases hk : k = k'
    · subst hk
      simp only [decide_true] at h
      first
        | exact h.elim
        | (refine ⟨_, h, red fun r t w => ?_⟩
           simp only [binOp, ne_eq, not_true_eq_false, if_false]
           rfl)
        | (obtain ⟨c, rfl, hK⟩ := h
           refine ⟨_, hK, red fun r t w => ?_⟩
           simp only [binOp, ne_eq, not_true_eq_false, if_false]
           rfl)
        | (obtain ⟨h0, c, rfl, hK⟩ := h
           refine ⟨_, hK, red fun r t w => ?_⟩
           simp only [binOp, ne_eq, not_true_eq_false, if_false, Op.intDiv, h0]
           rfl)
    · simp only [decide_eq_false hk] at h
end Go.Proofs.Ytbcoanbjhbppcaa
