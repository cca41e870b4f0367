/- Symbolic walks, first part: values, states, and what single operations yield. No condition on any program. -/
import Derived.Test.YtbcoanbjhbppcaaRegion
namespace Go.Proofs.Ytbcoanbjhbppcaa
set_option linter.unusedVariables false
open Go.RowKit

/-- A value as the walk knows it. 'tf': a Bool that is decided; 'ptr', 'slc': into block number k of the walk's own. -/
inductive SV where
  | int (k : IntKind) (n : Int)
  | tf (b : Bool)
  | bool (b : Bool)
  | ptr (k o : Nat)
  | slc (k o n c : Nat)
  | clo (f : FuncId) (caps : List SV)
  | agg (l : List SV)
  | tup (l : List SV)
  | undef
  | val (v : Value)

mutual
/-- What it stands for, the blocks lying at 'r'. -/
def den (r : Nat → Nat) : SV → Value
  | .int k n => .int k n
  | .tf b => .bool b
  | .bool b => .bool b
  | .ptr k o => .pointer (some ⟨r k, o, none⟩)
  | .slc k o n c => .slice (some ⟨r k, o, none⟩) n c
  | .clo f l => .func (.func f) #[] (denL r l).toArray
  | .agg l => .agg (denL r l).toArray
  | .tup l => .tuple (denL r l).toArray
  | .undef => Go.undef
  | .val v => v
def denL (r : Nat → Nat) : List SV → List Value
  | [] => []
  | x :: l => den r x :: denL r l
end
mutual
/-- All its blocks are numbered below 'nb'. -/
def okV (nb : Nat) : SV → Bool
  | .ptr k _ => Nat.blt k nb
  | .slc k _ _ _ => Nat.blt k nb
  | .clo _ l => okL nb l
  | .agg l => okL nb l
  | .tup l => okL nb l
  | _ => true
def okL (nb : Nat) : List SV → Bool
  | [] => true
  | x :: l => match okV nb x with
    | true => okL nb l
    | false => false
end
theorem denL_eq (r : Nat → Nat) : ∀ l, denL r l = l.map (den r)
  | [] => rfl
  | x :: l => by simp [denL, denL_eq r l]
theorem okL_iff (nb : Nat) : ∀ l, okL nb l = true ↔ ∀ x ∈ l, okV nb x = true
  | [] => by simp [okL]
  | x :: l => by
    have := okL_iff nb l
    unfold okL
    cases h : okV nb x <;> simp [h, this]
mutual
theorem den_agree {r r' : Nat → Nat} {nb : Nat} (h : ∀ k, k < nb → r' k = r k) : ∀ v, okV nb v = true → den r' v = den r v
  | .int _ _, _ => rfl
  | .tf _, _ => rfl
  | .bool _, _ => rfl
  | .ptr k o, hk => by simp only [okV, Nat.blt_eq] at hk; simp only [den, h k hk]
  | .slc k o n c, hk => by simp only [okV, Nat.blt_eq] at hk; simp only [den, h k hk]
  | .clo f l, hk => by simp only [okV] at hk; simp only [den, denL_agree h l hk]
  | .agg l, hk => by simp only [okV] at hk; simp only [den, denL_agree h l hk]
  | .tup l, hk => by simp only [okV] at hk; simp only [den, denL_agree h l hk]
  | .undef, _ => rfl
  | .val _, _ => rfl
theorem denL_agree {r r' : Nat → Nat} {nb : Nat} (h : ∀ k, k < nb → r' k = r k) : ∀ l, okL nb l = true → denL r' l = denL r l
  | [], _ => rfl
  | x :: l, hk => by
    unfold okL at hk
    cases hx : okV nb x with
    | false => simp [hx] at hk
    | true => simp only [hx] at hk; simp only [denL, den_agree h x hx, denL_agree h l hk]
end
mutual
theorem okV_mono {a b : Nat} (h : a ≤ b) : ∀ v, okV a v = true → okV b v = true
  | .int _ _, _ => rfl
  | .tf _, _ => rfl
  | .bool _, _ => rfl
  | .ptr k o, hk => by simp only [okV, Nat.blt_eq] at hk ⊢; omega
  | .slc k o n c, hk => by simp only [okV, Nat.blt_eq] at hk ⊢; omega
  | .clo f l, hk => by simp only [okV] at hk ⊢; exact okL_mono h l hk
  | .agg l, hk => by simp only [okV] at hk ⊢; exact okL_mono h l hk
  | .tup l, hk => by simp only [okV] at hk ⊢; exact okL_mono h l hk
  | .undef, _ => rfl
  | .val _, _ => rfl
theorem okL_mono {a b : Nat} (h : a ≤ b) : ∀ l, okL a l = true → okL b l = true
  | [], _ => rfl
  | x :: l, hk => by
    unfold okL at hk ⊢
    cases hx : okV a x with
    | false => simp [hx] at hk
    | true => simp only [hx] at hk; simp only [okV_mono h x hx, okL_mono h l hk]
end

def find {α : Type} : List (Nat × α) → Nat → Option α
  | [], _ => none
  | (k, v) :: l, t => match Nat.beq k t with
    | true => some v
    | false => find l t
theorem find_cons {α : Type} (k : Nat) (v : α) (l : List (Nat × α)) (t : Nat) : find ((k, v) :: l) t = if k = t then some v else find l t := by
  cases h : Nat.beq k t
  · simp only [find, h, if_neg (Nat.ne_of_beq_eq_false h)]
  · simp only [find, h, if_pos (Nat.eq_of_beq_eq_true h)]

/-- A constant of the program's text; and a value that a call hands back. -/
def inj : Value → SV
  | .int k n => .int k n
  | .bool b => .tf b
  | v => .val v
def inj1 : Value → SV
  | .int k n => .int k n
  | .bool b => .bool b
  | v => .val v
def inj2 : Value → SV
  | .int k n => .int k n
  | .bool b => .bool b
  | .agg cs => .agg (cs.toList.map inj1)
  | v => .val v
def injR : Value → SV
  | .int k n => .int k n
  | .bool b => .bool b
  | .agg cs => .agg (cs.toList.map inj1)
  | .tuple vs => .tup (vs.toList.map inj2)
  | v => .val v
theorem den_inj (r : Nat → Nat) (v : Value) : den r (inj v) = v := by cases v <;> rfl
theorem den_inj1 (r : Nat → Nat) (v : Value) : den r (inj1 v) = v := by cases v <;> rfl
theorem den_inj1_comp (r : Nat → Nat) : den r ∘ inj1 = id := funext fun v => den_inj1 r v
theorem den_inj2 (r : Nat → Nat) (v : Value) : den r (inj2 v) = v := by
  cases v <;> first | rfl | (simp [inj2, den, denL_eq, den_inj1_comp])
theorem den_inj2_comp (r : Nat → Nat) : den r ∘ inj2 = id := funext fun v => den_inj2 r v
theorem den_injR (r : Nat → Nat) (v : Value) : den r (injR v) = v := by
  cases v <;> first | rfl | (simp [injR, den, denL_eq, den_inj1_comp, den_inj2_comp])
theorem ok_inj (nb : Nat) (v : Value) : okV nb (inj v) = true := by cases v <;> rfl
theorem ok_inj1 (nb : Nat) (v : Value) : okV nb (inj1 v) = true := by cases v <;> rfl
theorem ok_inj2 (nb : Nat) (v : Value) : okV nb (inj2 v) = true := by
  cases v <;> first | rfl | (simp only [inj2, okV, okL_iff]; intro x hx; obtain ⟨y, _, rfl⟩ := List.mem_map.1 hx; exact ok_inj1 _ _)
theorem ok_injR (nb : Nat) (v : Value) : okV nb (injR v) = true := by
  cases v <;> first | rfl | (simp only [injR, okV, okL_iff]; intro x hx; obtain ⟨y, _, rfl⟩ := List.mem_map.1 hx; first | exact ok_inj1 _ _ | exact ok_inj2 _ _)

/-! ### What is known of the program's types -/
structure FI where
  off : Nat
  size : Nat
  agg : Bool
inductive TD where
  | other
  | int (k : IntKind)
  | struct (fs : List FI)
  | array (len es : Nat) (ea : Bool)
  | slice (e es : Nat) (ea : Bool)
structure TI where
  zs : List SV
  td : TD
def TI.zero (ti : TI) : List Value := denL (fun _ => 0) ti.zs
abbrev Lay := List (Nat × TI)
def TD.agg : TD → Bool
  | .struct _ => true
  | .array _ _ _ => true
  | _ => false
def aggB : TypeDesc → Bool
  | .struct _ => true
  | .array _ _ => true
  | _ => false
def fiOf (P : Program) (f : Field) : Option FI :=
  match P.info? f.type, P.underlying f.type with
  | some i, some d => if i.size = 0 then none else some ⟨f.offset, i.size, aggB d⟩
  | _, _ => none
def fisOf (P : Program) : List Field → Option (List FI)
  | [] => some []
  | f :: l => match fiOf P f, fisOf P l with
    | some x, some y => some (x :: y)
    | _, _ => none
def tdOf (P : Program) : TypeDesc → Option TD
  | .struct fs => (fisOf P fs.toList).map .struct
  | .array n e => match P.info? e, P.underlying e with
    | some i, some d => some (.array n i.size (aggB d))
    | _, _ => none
  | .slice e => match P.info? e, P.underlying e with
    | some i, some d => some (.slice e i.size (aggB d))
    | _, _ => none
  | .int k => some (.int k)
  | _ => some .other
def TI.zval (ti : TI) : Value := match ti.td.agg with | true => .agg ti.zero.toArray | false => ti.zero.getD 0 Go.undef
def TIok (P : Program) (t : Nat) (ti : TI) : Prop :=
  (P.info? t).map (fun i => (i.zero, i.size)) = some (some ti.zval, ti.zero.length) ∧
  (match ti.td.agg with | true => True | false => ti.zero.length = 1 ∧ (ti.zero.getD 0 Go.undef).cells = #[ti.zero.getD 0 Go.undef]) ∧
  (P.underlying t).bind (tdOf P) = some ti.td ∧ okL 0 ti.zs = true
def LayOk (P : Program) : Lay → Prop
  | [] => True
  | (t, ti) :: l => TIok P t ti ∧ LayOk P l
theorem LayOk.at {P : Program} : ∀ {L : Lay}, LayOk P L → ∀ {t ti}, find L t = some ti → TIok P t ti
  | [], _, _, _, h => by simp [find] at h
  | (k, x) :: l, hl, t, ti, h => by
    rw [find_cons] at h
    split at h
    · rename_i e; subst e; cases h; exact hl.1
    · exact hl.2.at h

section
variable {P : Program} {t : Nat} {ti : TI} {w : World}
theorem TIok.info (h : TIok P t ti) : ∃ i, P.info? t = some i ∧ i.size = ti.zero.length ∧ i.zero = some ti.zval := by
  have h1 := h.1
  cases hi : P.info? t with
  | none => simp [hi] at h1
  | some i => simp only [hi, Option.map_some, Option.some.injEq, Prod.mk.injEq] at h1; exact ⟨i, rfl, h1.2, h1.1⟩
theorem TIok.desc (h : TIok P t ti) : ∃ d, P.underlying t = some d ∧ tdOf P d = some ti.td := by
  have h1 := h.2.2.1
  cases hi : P.underlying t with
  | none => simp [hi] at h1
  | some d => simp only [hi, Option.bind_some] at h1; exact ⟨d, rfl, h1⟩
theorem TIok.zs (h : TIok P t ti) (r : Nat → Nat) : denL r ti.zs = ti.zero := denL_agree (fun _ hk => absurd hk (Nat.not_lt_zero _)) ti.zs h.2.2.2
theorem TI.zero_len (ti : TI) : ti.zero.length = ti.zs.length := by unfold TI.zero; rw [denL_eq, List.length_map]
theorem r_underlying {d : TypeDesc} (h : P.underlying t = some d) : (underlying t).run P w = .ok d w := by
  show (match P.underlying t with | some d => (pure d : Sem TypeDesc) | none => stuck _).run P w = _
  rw [h]; rfl
theorem r_typeInfo {i : TypeInfo} (h : P.info? t = some i) : (typeInfo t).run P w = .ok i w := by
  show (match P.info? t with | some i => (pure i : Sem TypeInfo) | none => stuck _).run P w = _
  rw [h]; rfl
theorem r_sizeOf {i : TypeInfo} (h : P.info? t = some i) : (sizeOf t).run P w = .ok i.size w := by
  simp only [sizeOf, Sem.run_bind, r_typeInfo h]
  rfl
theorem r_zero {i : TypeInfo} {z : Value} (h : P.info? t = some i) (hz : i.zero = some z) : (zeroValue t).run P w = .ok z w := by
  simp only [zeroValue, Sem.run_bind, r_typeInfo h]
  show (match i.zero with | some v => (pure v : Sem Value) | none => unsupported _).run P w = _
  rw [hz]; rfl
theorem r_isAgg {d : TypeDesc} (h : P.underlying t = some d) : (isAgg t).run P w = .ok (aggB d) w := by
  simp only [isAgg, Sem.run_bind, r_underlying h]
  cases d <;> rfl
theorem agg_of {d : TypeDesc} {td : TD} (h : tdOf P d = some td) : aggB d = td.agg := by
  cases d <;> simp only [tdOf] at h <;> first | (cases h; rfl) | (split at h <;> cases h; rfl) | (obtain ⟨l, _, rfl⟩ := Option.map_eq_some_iff.1 h; rfl)
end
end Go.Proofs.Ytbcoanbjhbppcaa
