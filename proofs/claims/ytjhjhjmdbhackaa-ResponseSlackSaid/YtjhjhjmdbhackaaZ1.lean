/- Walks over lists, first part: values, data as memory holds them, valuations, renaming. No condition on any program. -/
import Derived.Test.YtjhjhjmdbhackaaRegion
namespace Go.Proofs.Ytjhjhjmdbhackaa
set_option linter.unusedSimpArgs false
set_option linter.unusedSectionVars false
set_option linter.unusedVariables false
open Go.RowKit

/-- What a cell of memory holds, with all that lies behind it. -/
inductive DV where
  | int (k : IntKind) (n : Int)
  | bool (b : Bool)
  | sl (rows : List (List DV))
  | oth (v : Value)

/-- A value as the walk knows it. 'ptr', 'slc': into block k of the walk's own, of which all cells are known; 'osl', 'otl', 'el': into a list of the walk's own; 'ro', 'rel': into a list that nobody changes; 'nst': what cell j of row i of list k holds. -/
inductive SV where
  | int (k : IntKind) (n : Int)
  | tf (b : Bool)
  | bool (b : Bool)
  | ptr (k o : Nat)
  | el (k es i f : Nat)
  | slc (k o n c : Nat)
  | osl (k n : Nat)
  | otl (k es i n : Nat)
  | ro (k : Nat)
  | rel (k es i f : Nat)
  | nst (k i j : Nat)
  | clo (f : FuncId) (caps : List SV)
  | agg (l : List SV)
  | tup (l : List SV)
  | undef
  | val (v : Value)

/-- Where the walk's blocks lie, what its lists are. -/
structure Vl where
  r : Nat → Nat
  ro : Nat → Value
  cap : Nat → Nat
  nil : Nat → Bool
  ce : Nat → Nat → Nat → Value

/-- What lists are, and what their cells hold, takes one cell. -/
def Vl.One (V : Vl) : Prop := (∀ k, (V.ro k).oneCell' = true) ∧ ∀ k i j, (V.ce k i j).oneCell' = true
def elAt (v : Value) (d : Nat) : Value :=
  match v with
  | .slice (some a) _ _ => .pointer (some ⟨a.block, a.off + d, none⟩)
  | _ => .pointer none
mutual
def den (V : Vl) : SV → Value
  | .int k n => .int k n
  | .tf b => .bool b
  | .bool b => .bool b
  | .ptr k o => .pointer (some ⟨V.r k, o, none⟩)
  | .el k es i f => .pointer (some ⟨V.r k, i * es + f, none⟩)
  | .slc k o n c => .slice (some ⟨V.r k, o, none⟩) n c
  | .osl k n => match V.nil k with
    | true => .slice none 0 0
    | false => .slice (some ⟨V.r k, 0, none⟩) n (V.cap k)
  | .otl k es i n => match V.nil k with
    | true => .slice none 0 0
    | false => .slice (some ⟨V.r k, if V.cap k = i then 0 else i * es, none⟩) n (V.cap k - i)
  | .ro k => V.ro k
  | .rel k es i f => elAt (V.ro k) (i * es + f)
  | .nst k i j => V.ce k i j
  | .clo f l => .func (.func f) #[] (denL V l).toArray
  | .agg l => .agg (denL V l).toArray
  | .tup l => .tuple (denL V l).toArray
  | .undef => Go.undef
  | .val v => v
def denL (V : Vl) : List SV → List Value
  | [] => []
  | x :: l => den V x :: denL V l
end
mutual
/-- All its numbers are below 'nb'. -/
def okV (nb : Nat) : SV → Bool
  | .ptr k _ => Nat.blt k nb
  | .el k _ _ _ => Nat.blt k nb
  | .slc k _ _ _ => Nat.blt k nb
  | .osl k _ => Nat.blt k nb
  | .otl k _ _ _ => Nat.blt k nb
  | .ro k => Nat.blt k nb
  | .rel k _ _ _ => Nat.blt k nb
  | .nst k _ _ => Nat.blt k nb
  | .clo _ l => okL nb l
  | .agg l => okL nb l
  | .tup l => okL nb l
  | _ => true
def okL (nb : Nat) : List SV → Bool
  | [] => true
  | x :: l => match okV nb x with
    | true => okL nb l
    | false => false
end
/-- Two valuations that agree on number k. -/
structure Agr (V' V : Vl) (k : Nat) : Prop where
  r : V'.r k = V.r k
  ro : V'.ro k = V.ro k
  cap : V'.cap k = V.cap k
  nil : V'.nil k = V.nil k
  ce : V'.ce k = V.ce k
theorem Agr.refl (V : Vl) (k : Nat) : Agr V V k := ⟨rfl, rfl, rfl, rfl, rfl⟩
theorem Agr.trans {A B C : Vl} {k : Nat} (h : Agr A B k) (g : Agr B C k) : Agr A C k := ⟨h.r.trans g.r, h.ro.trans g.ro, h.cap.trans g.cap, h.nil.trans g.nil, h.ce.trans g.ce⟩
theorem denL_eq (V : Vl) : ∀ l, denL V l = l.map (den V)
  | [] => rfl
  | x :: l => by simp [denL, denL_eq V l]
theorem okL_iff (nb : Nat) : ∀ l, okL nb l = true ↔ ∀ x ∈ l, okV nb x = true
  | [] => by simp [okL]
  | x :: l => by
    have := okL_iff nb l
    unfold okL
    cases h : okV nb x <;> simp [h, this]
mutual
theorem den_agree {V V' : Vl} {nb : Nat} (h : ∀ k, k < nb → Agr V' V k) : ∀ v, okV nb v = true → den V' v = den V v
  | .int _ _, _ => rfl
  | .tf _, _ => rfl
  | .bool _, _ => rfl
  | .ptr k o, hk => by simp only [okV, Nat.blt_eq] at hk; simp only [den, (h k hk).r]
  | .el k _ _ _, hk => by simp only [okV, Nat.blt_eq] at hk; simp only [den, (h k hk).r]
  | .slc k o n c, hk => by simp only [okV, Nat.blt_eq] at hk; simp only [den, (h k hk).r]
  | .osl k n, hk => by simp only [okV, Nat.blt_eq] at hk; simp only [den, (h k hk).r, (h k hk).cap, (h k hk).nil]
  | .otl k _ _ n, hk => by simp only [okV, Nat.blt_eq] at hk; simp only [den, (h k hk).r, (h k hk).cap, (h k hk).nil]
  | .ro k, hk => by simp only [okV, Nat.blt_eq] at hk; simp only [den, (h k hk).ro]
  | .rel k _ _ _, hk => by simp only [okV, Nat.blt_eq] at hk; simp only [den, (h k hk).ro]
  | .nst k _ _, hk => by simp only [okV, Nat.blt_eq] at hk; simp only [den, (h k hk).ce]
  | .clo f l, hk => by simp only [okV] at hk; simp only [den, denL_agree h l hk]
  | .agg l, hk => by simp only [okV] at hk; simp only [den, denL_agree h l hk]
  | .tup l, hk => by simp only [okV] at hk; simp only [den, denL_agree h l hk]
  | .undef, _ => rfl
  | .val _, _ => rfl
theorem denL_agree {V V' : Vl} {nb : Nat} (h : ∀ k, k < nb → Agr V' V k) : ∀ l, okL nb l = true → denL V' l = denL V l
  | [], _ => rfl
  | x :: l, hk => by
    unfold okL at hk
    cases hx : okV nb x with
    | false => simp [hx] at hk
    | true => simp only [hx] at hk; simp only [denL, den_agree h x hx, denL_agree h l hk]
end
mutual
theorem okV_mono {a b : Nat} (h : a ≤ b) : ∀ v, okV a v = true → okV b v = true
  | .int _ _, _ => rfl
  | .tf _, _ => rfl
  | .bool _, _ => rfl
  | .ptr k o, hk => by simp only [okV, Nat.blt_eq] at hk ⊢; omega
  | .el k _ _ _, hk => by simp only [okV, Nat.blt_eq] at hk ⊢; omega
  | .slc k o n c, hk => by simp only [okV, Nat.blt_eq] at hk ⊢; omega
  | .osl k n, hk => by simp only [okV, Nat.blt_eq] at hk ⊢; omega
  | .otl k _ _ n, hk => by simp only [okV, Nat.blt_eq] at hk ⊢; omega
  | .ro k, hk => by simp only [okV, Nat.blt_eq] at hk ⊢; omega
  | .rel k _ _ _, hk => by simp only [okV, Nat.blt_eq] at hk ⊢; omega
  | .nst k _ _, hk => by simp only [okV, Nat.blt_eq] at hk ⊢; omega
  | .clo f l, hk => by simp only [okV] at hk ⊢; exact okL_mono h l hk
  | .agg l, hk => by simp only [okV] at hk ⊢; exact okL_mono h l hk
  | .tup l, hk => by simp only [okV] at hk ⊢; exact okL_mono h l hk
  | .undef, _ => rfl
  | .val _, _ => rfl
theorem okL_mono {a b : Nat} (h : a ≤ b) : ∀ l, okL a l = true → okL b l = true
  | [], _ => rfl
  | x :: l, hk => by
    unfold okL at hk ⊢
    cases hx : okV a x with
    | false => simp [hx] at hk
    | true => simp only [hx] at hk; simp only [okV_mono h x hx, okL_mono h l hk]
end

def find {α : Type} : List (Nat × α) → Nat → Option α
  | [], _ => none
  | (k, v) :: l, t => match Nat.beq k t with
    | true => some v
    | false => find l t
theorem find_cons {α : Type} (k : Nat) (v : α) (l : List (Nat × α)) (t : Nat) : find ((k, v) :: l) t = if k = t then some v else find l t := by
  cases h : Nat.beq k t
  · simp only [find, h, if_neg (Nat.ne_of_beq_eq_false h)]
  · simp only [find, h, if_pos (Nat.eq_of_beq_eq_true h)]
theorem find_append {α : Type} (t : Nat) : ∀ (l m : List (Nat × α)), find (l ++ m) t = match find l t with | some v => some v | none => find m t
  | [], m => rfl
  | (k, v) :: l, m => by
    rw [List.cons_append, find_cons, find_cons, find_append t l m]
    split <;> rfl

/-! ### Renaming: the numbers of one state in those of another -/
/-- 'own': a list for a list, a block for a block; 'ro': what stands for a list that nobody changes. -/
structure Rn where
  own : Nat → Option Nat
  ro : Nat → Option SV
mutual
/-- The value in the other state's words. -/
def ren (σ : Rn) : SV → Option SV
  | .int k n => some (.int k n)
  | .tf b => some (.tf b)
  | .bool b => some (.bool b)
  | .ptr k o => match σ.own k with
    | some k' => some (.ptr k' o)
    | none => none
  | .el k es i f => match σ.own k with
    | some k' => some (.el k' es i f)
    | none => none
  | .slc k o n c => match σ.own k with
    | some k' => some (.slc k' o n c)
    | none => none
  | .osl k n => match σ.own k with
    | some k' => some (.osl k' n)
    | none => none
  | .otl k es i n => match σ.own k with
    | some k' => some (.otl k' es i n)
    | none => none
  | .ro k => σ.ro k
  | .rel k es i f => none
  | .nst k i j => none
  | .clo f l => match renL σ l with
    | some l' => some (.clo f l')
    | none => none
  | .agg l => match renL σ l with
    | some l' => some (.agg l')
    | none => none
  | .tup l => match renL σ l with
    | some l' => some (.tup l')
    | none => none
  | .undef => some .undef
  | .val v => some (.val v)
def renL (σ : Rn) : List SV → Option (List SV)
  | [] => some []
  | x :: l => match ren σ x, renL σ l with
    | some x', some l' => some (x' :: l')
    | _, _ => none
end
/-- The valuation of the numbers that are renamed. -/
def Vl.comp (V : Vl) (σ : Rn) : Vl where
  r k := match σ.own k with | some k' => V.r k' | none => 0
  ro k := match σ.ro k with | some v => den V v | none => .int .i64 0
  cap k := match σ.own k with | some k' => V.cap k' | none => 0
  nil k := match σ.own k with | some k' => V.nil k' | none => false
  ce k := match σ.own k with | some k' => V.ce k' | none => fun _ _ => .int .i64 0
mutual
theorem den_ren (V : Vl) (σ : Rn) : ∀ v {u}, ren σ v = some u → den V u = den (V.comp σ) v
  | .int _ _, u, h => by simp only [ren, Option.some.injEq] at h; subst h; rfl
  | .tf _, u, h => by simp only [ren, Option.some.injEq] at h; subst h; rfl
  | .bool _, u, h => by simp only [ren, Option.some.injEq] at h; subst h; rfl
  | .ptr k o, u, h => by
    simp only [ren] at h
    cases hk : σ.own k with
    | none => simp [hk] at h
    | some k' => simp only [hk, Option.some.injEq] at h; subst h; simp only [den, Vl.comp, hk]
  | .el k es i f, u, h => by
    simp only [ren] at h
    cases hk : σ.own k with
    | none => simp [hk] at h
    | some k' => simp only [hk, Option.some.injEq] at h; subst h; simp only [den, Vl.comp, hk]
  | .slc k o n c, u, h => by
    simp only [ren] at h
    cases hk : σ.own k with
    | none => simp [hk] at h
    | some k' => simp only [hk, Option.some.injEq] at h; subst h; simp only [den, Vl.comp, hk]
  | .osl k n, u, h => by
    simp only [ren] at h
    cases hk : σ.own k with
    | none => simp [hk] at h
    | some k' => simp only [hk, Option.some.injEq] at h; subst h; simp only [den, Vl.comp, hk]
  | .otl k es i n, u, h => by
    simp only [ren] at h
    cases hk : σ.own k with
    | none => simp [hk] at h
    | some k' => simp only [hk, Option.some.injEq] at h; subst h; simp only [den, Vl.comp, hk]
  | .ro k, u, h => by simp only [ren] at h; simp only [den, Vl.comp, h]
  | .rel _ _ _ _, u, h => by simp [ren] at h
  | .nst _ _ _, u, h => by simp [ren] at h
  | .clo f l, u, h => by
    simp only [ren] at h
    cases hl : renL σ l with
    | none => simp [hl] at h
    | some l' => simp only [hl, Option.some.injEq] at h; subst h; simp only [den, denL_ren V σ l hl]
  | .agg l, u, h => by
    simp only [ren] at h
    cases hl : renL σ l with
    | none => simp [hl] at h
    | some l' => simp only [hl, Option.some.injEq] at h; subst h; simp only [den, denL_ren V σ l hl]
  | .tup l, u, h => by
    simp only [ren] at h
    cases hl : renL σ l with
    | none => simp [hl] at h
    | some l' => simp only [hl, Option.some.injEq] at h; subst h; simp only [den, denL_ren V σ l hl]
  | .undef, u, h => by simp only [ren, Option.some.injEq] at h; subst h; rfl
  | .val _, u, h => by simp only [ren, Option.some.injEq] at h; subst h; rfl
theorem denL_ren (V : Vl) (σ : Rn) : ∀ l {m}, renL σ l = some m → denL V m = denL (V.comp σ) l
  | [], m, h => by simp only [renL, Option.some.injEq] at h; subst h; rfl
  | x :: l, m, h => by
    simp only [renL] at h
    cases hx : ren σ x with
    | none => simp [hx] at h
    | some x' =>
      cases hl : renL σ l with
      | none => simp [hx, hl] at h
      | some l' =>
        simp only [hx, hl, Option.some.injEq] at h
        subst h
        simp only [denL, den_ren V σ x hx, denL_ren V σ l hl]
end

/-! ### What is known of the program's types -/
structure FI where
  off : Nat
  size : Nat
  agg : Bool
inductive TD where
  | other
  | int (k : IntKind)
  | struct (fs : List FI)
  | array (len es : Nat) (ea : Bool)
  | slice (e es : Nat) (ea : Bool)
structure TI where
  zs : List SV
  td : TD
  bytes : Nat
def V0 : Vl := ⟨fun _ => 0, fun _ => .int .i64 0, fun _ => 0, fun _ => false, fun _ _ _ => .int .i64 0⟩
def TI.zero (ti : TI) : List Value := denL V0 ti.zs
abbrev Lay := List (Nat × TI)
def TD.agg : TD → Bool
  | .struct _ => true
  | .array _ _ _ => true
  | _ => false
def aggB : TypeDesc → Bool
  | .struct _ => true
  | .array _ _ => true
  | _ => false
def fiOf (P : Program) (f : Field) : Option FI :=
  match P.info? f.type, P.underlying f.type with
  | some i, some d => if i.size = 0 then none else some ⟨f.offset, i.size, aggB d⟩
  | _, _ => none
def fisOf (P : Program) : List Field → Option (List FI)
  | [] => some []
  | f :: l => match fiOf P f, fisOf P l with
    | some x, some y => some (x :: y)
    | _, _ => none
def tdOf (P : Program) : TypeDesc → Option TD
  | .struct fs => (fisOf P fs.toList).map .struct
  | .array n e => match P.info? e, P.underlying e with
    | some i, some d => some (.array n i.size (aggB d))
    | _, _ => none
  | .slice e => match P.info? e, P.underlying e with
    | some i, some d => some (.slice e i.size (aggB d))
    | _, _ => none
  | .int k => some (.int k)
  | _ => some .other
def TI.zval (ti : TI) : Value := match ti.td.agg with | true => .agg ti.zero.toArray | false => ti.zero.getD 0 Go.undef
def TIok (P : Program) (t : Nat) (ti : TI) : Prop :=
  (P.info? t).map (fun i => (i.zero, i.size, i.bytes)) = some (some ti.zval, ti.zero.length, ti.bytes) ∧
  (match ti.td.agg with | true => True | false => ti.zero.length = 1 ∧ (ti.zero.getD 0 Go.undef).cells = #[ti.zero.getD 0 Go.undef]) ∧
  (P.underlying t).bind (tdOf P) = some ti.td ∧ okL 0 ti.zs = true
def LayOk (P : Program) : Lay → Prop
  | [] => True
  | (t, ti) :: l => TIok P t ti ∧ LayOk P l
theorem LayOk.at {P : Program} : ∀ {L : Lay}, LayOk P L → ∀ {t ti}, find L t = some ti → TIok P t ti
  | [], _, _, _, h => by simp [find] at h
  | (k, x) :: l, hl, t, ti, h => by
    rw [find_cons] at h
    split at h
    · rename_i e; subst e; cases h; exact hl.1
    · exact hl.2.at h

section
variable {P : Program} {t : Nat} {ti : TI} {w : World}
theorem TIok.info (h : TIok P t ti) : ∃ i, P.info? t = some i ∧ i.size = ti.zero.length ∧ i.zero = some ti.zval ∧ i.bytes = ti.bytes := by
  have h1 := h.1
  cases hi : P.info? t with
  | none => simp [hi] at h1
  | some i => simp only [hi, Option.map_some, Option.some.injEq, Prod.mk.injEq] at h1; exact ⟨i, rfl, h1.2.1, h1.1, h1.2.2⟩
theorem TIok.desc (h : TIok P t ti) : ∃ d, P.underlying t = some d ∧ tdOf P d = some ti.td := by
  have h1 := h.2.2.1
  cases hi : P.underlying t with
  | none => simp [hi] at h1
  | some d => simp only [hi, Option.bind_some] at h1; exact ⟨d, rfl, h1⟩
theorem TIok.zs (h : TIok P t ti) (V : Vl) : denL V ti.zs = ti.zero := denL_agree (fun _ hk => absurd hk (Nat.not_lt_zero _)) ti.zs h.2.2.2
theorem TI.zero_len (ti : TI) : ti.zero.length = ti.zs.length := by unfold TI.zero; rw [denL_eq, List.length_map]
theorem r_underlying {d : TypeDesc} (h : P.underlying t = some d) : (underlying t).run P w = .ok d w := by
  show (match P.underlying t with | some d => (pure d : Sem TypeDesc) | none => stuck _).run P w = _
  rw [h]; rfl
theorem r_typeInfo {i : TypeInfo} (h : P.info? t = some i) : (typeInfo t).run P w = .ok i w := by
  show (match P.info? t with | some i => (pure i : Sem TypeInfo) | none => stuck _).run P w = _
  rw [h]; rfl
theorem r_sizeOf {i : TypeInfo} (h : P.info? t = some i) : (sizeOf t).run P w = .ok i.size w := by
  simp only [sizeOf, Sem.run_bind, r_typeInfo h]
  rfl
theorem r_zero {i : TypeInfo} {z : Value} (h : P.info? t = some i) (hz : i.zero = some z) : (zeroValue t).run P w = .ok z w := by
  simp only [zeroValue, Sem.run_bind, r_typeInfo h]
  show (match i.zero with | some v => (pure v : Sem Value) | none => unsupported _).run P w = _
  rw [hz]; rfl
theorem r_isAgg {d : TypeDesc} (h : P.underlying t = some d) : (isAgg t).run P w = .ok (aggB d) w := by
  simp only [isAgg, Sem.run_bind, r_underlying h]
  cases d <;> rfl
theorem agg_of {d : TypeDesc} {td : TD} (h : tdOf P d = some td) : aggB d = td.agg := by
  cases d <;> simp only [tdOf] at h <;> first | (cases h; rfl) | (split at h <;> cases h; rfl) | (obtain ⟨l, _, rfl⟩ := Option.map_eq_some_iff.1 h; rfl)
end
theorem field_of {P : Program} : ∀ {l : List Field} {fs : List FI} {i : Nat} {x : FI}, fisOf P l = some fs → fs[i]? = some x → ∃ f j d, l[i]? = some f ∧ P.info? f.type = some j ∧ P.underlying f.type = some d ∧ x.off = f.offset ∧ x.size = j.size ∧ x.agg = aggB d ∧ j.size ≠ 0
  | [], fs, i, x, h, hx => by simp only [fisOf, Option.some.injEq] at h; subst h; simp at hx
  | f :: l, fs, i, x, h, hx => by
    unfold fisOf at h
    cases hf : fiOf P f with
    | none => simp [hf] at h
    | some x0 =>
      cases hl : fisOf P l with
      | none => simp [hf, hl] at h
      | some y =>
        simp only [hf, hl, Option.some.injEq] at h
        subst h
        cases i with
        | succ i => simp only [List.getElem?_cons_succ] at hx ⊢; exact field_of hl hx
        | zero =>
          simp only [List.getElem?_cons_zero, Option.some.injEq] at hx ⊢
          subst hx
          unfold fiOf at hf
          cases hi : P.info? f.type with
          | none => simp [hi] at hf
          | some j =>
            cases hu : P.underlying f.type with
            | none => simp [hi, hu] at hf
            | some d =>
              simp only [hi, hu] at hf
              split at hf
              · cases hf
              · rename_i hne
                cases hf
                exact ⟨f, j, d, rfl, hi, hu, rfl, rfl, rfl, hne⟩
theorem td_struct {P : Program} {d : TypeDesc} {fs : List FI} (h : tdOf P d = some (.struct fs)) : ∃ fields, d = .struct fields ∧ fisOf P fields.toList = some fs := by
  cases d <;> simp only [tdOf] at h <;> first | (cases h; done) | (split at h <;> cases h; done) | skip
  obtain ⟨l, h1, h2⟩ := Option.map_eq_some_iff.1 h
  cases h2
  exact ⟨_, rfl, h1⟩
theorem td_array {P : Program} {d : TypeDesc} {n es : Nat} {ea : Bool} (h : tdOf P d = some (.array n es ea)) : ∃ e i de, d = .array n e ∧ P.info? e = some i ∧ i.size = es ∧ P.underlying e = some de ∧ aggB de = ea := by
  cases d <;> simp only [tdOf] at h <;> first | (cases h; done) | (obtain ⟨l, h1, h2⟩ := Option.map_eq_some_iff.1 h; cases h2; done) | skip
  all_goals (split at h <;> first | (cases h; done) | (rename_i i de hi hu; cases h; exact ⟨_, i, de, rfl, hi, rfl, hu, rfl⟩))
theorem td_slice {P : Program} {d : TypeDesc} {e es : Nat} {ea : Bool} (h : tdOf P d = some (.slice e es ea)) : ∃ i de, d = .slice e ∧ P.info? e = some i ∧ i.size = es ∧ P.underlying e = some de ∧ aggB de = ea := by
  cases d <;> simp only [tdOf] at h <;> first | (cases h; done) | (obtain ⟨l, h1, h2⟩ := Option.map_eq_some_iff.1 h; cases h2; done) | skip
  all_goals (split at h <;> first | (cases h; done) | (rename_i i de hi hu; cases h; exact ⟨i, de, rfl, hi, rfl, hu, rfl⟩))
theorem td_int {P : Program} {d : TypeDesc} {k : IntKind} (h : tdOf P d = some (.int k)) : d = .int k := by
  cases d <;> simp only [tdOf] at h <;> first | (cases h; done) | (cases h; rfl) | (obtain ⟨l, h1, h2⟩ := Option.map_eq_some_iff.1 h; cases h2; done) | (split at h <;> cases h; done)
theorem denL_append (V : Vl) (a b : List SV) : denL V (a ++ b) = denL V a ++ denL V b := by simp [denL_eq]
theorem denL_take (V : Vl) (a : List SV) (n : Nat) : denL V (a.take n) = (denL V a).take n := by simp [denL_eq]
theorem denL_drop (V : Vl) (a : List SV) (n : Nat) : denL V (a.drop n) = (denL V a).drop n := by simp [denL_eq]
theorem denL_length (V : Vl) (a : List SV) : (denL V a).length = a.length := by simp [denL_eq]
theorem denL_get (V : Vl) {l : List SV} {i : Nat} {v : SV} (h : l[i]? = some v) : (denL V l)[i]? = some (den V v) := by simp [denL_eq, h]
end Go.Proofs.Ytjhjhjmdbhackaa
