/- Parts of the proof. No condition. -/
import Derived.Test.YtkageldgmkajbaaQ1
import Derived.Laws.Tables
import Derived.Laws.CopyRow
import Derived.Deep.MidRow
import Derived.Laws.MakeOwn
import Derived.Deep.AppendSrc
set_option linter.unusedVariables false
set_option linter.unusedSimpArgs false
set_option linter.unusedSectionVars false
namespace Go.Proofs.Ytkageldgmkajbaa
open Go.RowKit
structure Rid where
  k : Nat
  p : List (Nat × Nat)
inductive SV where
  | int (k : IntKind) (n : Int)
  | tf (b : Bool)
  | bool (b : Bool)
  | str (s : ByteArray)
  | ptr (k o : Nat)
  | slc (k o n c : Nat)
  | el (r : Rid) (es i f : Nat)
  | sl (r : Rid)
  | vw (r : Rid) (es i n : Nat) (c : Option Nat)
  | clo (f : FuncId) (caps : List SV)
  | agg (l : List SV)
  | tup (l : List SV)
  | undef
  | val (v : Value)
  | mp (k : Nat)
structure Loc where
  a : Option Addr
  len : Nat
  cap : Nat
abbrev Vl := Rid → Loc
def Rid.ch (r : Rid) (i j : Nat) : Rid := ⟨r.k, r.p ++ [(i, j)]⟩
def Loc.hd (L : Loc) : Value := .slice L.a L.len L.cap
def Loc.at (L : Loc) (d : Nat) : Option Addr := L.a.map fun a => ⟨a.block, a.off + d, none⟩
def Loc.vw (L : Loc) (es i n : Nat) (c : Option Nat) : Loc := ⟨if c.getD (L.cap - i) = 0 then L.a else L.a.map fun a => a.add (i * es), n, c.getD (L.cap - i)⟩
def Loc.b (L : Loc) : Nat := match L.a with | some a => a.block | none => 0
mutual
def den (V : Vl) : SV → Value
  | .int k n => .int k n
  | .tf b => .bool b
  | .bool b => .bool b
  | .str s => .string s
  | .ptr k o => .pointer ((V ⟨k, []⟩).at o)
  | .slc k o n c => .slice ((V ⟨k, []⟩).at o) n c
  | .el r es i f => .pointer ((V r).at (i * es + f))
  | .sl r => (V r).hd
  | .vw r es i n c => ((V r).vw es i n c).hd
  | .clo f l => .func (.func f) #[] (denL V l).toArray
  | .agg l => .agg (denL V l).toArray
  | .tup l => .tuple (denL V l).toArray
  | .undef => Go.undef
  | .val v => v
  | .mp k => .map ((V ⟨k, []⟩).a.map (·.block))
def denL (V : Vl) : List SV → List Value
  | [] => []
  | x :: l => den V x :: denL V l
end
mutual
def okV (nb : Nat) : SV → Bool
  | .ptr k _ => Nat.blt k nb
  | .slc k _ _ _ => Nat.blt k nb
  | .el r _ _ _ => Nat.blt r.k nb
  | .sl r => Nat.blt r.k nb
  | .vw r _ _ _ _ => Nat.blt r.k nb
  | .mp k => Nat.blt k nb
  | .clo _ l => okL nb l
  | .agg l => okL nb l
  | .tup l => okL nb l
  | _ => true
def okL (nb : Nat) : List SV → Bool
  | [] => true
  | x :: l => match okV nb x with
    | true => okL nb l
    | false => false
end
def AgrB (nb : Nat) (V' V : Vl) : Prop := ∀ r : Rid, r.k < nb → V' r = V r
theorem AgrB.refl (nb : Nat) (V : Vl) : AgrB nb V V := fun _ _ => rfl
theorem AgrB.trans {nb : Nat} {A B C : Vl} (h : AgrB nb A B) (g : AgrB nb B C) : AgrB nb A C := fun r hr => (h r hr).trans (g r hr)
theorem AgrB.le {nb m : Nat} {A B : Vl} (h : AgrB nb A B) (hm : m ≤ nb) : AgrB m A B := fun r hr => h r (Nat.lt_of_lt_of_le hr hm)
theorem AgrB.symm {nb : Nat} {A B : Vl} (h : AgrB nb A B) : AgrB nb B A := fun r hr => (h r hr).symm
theorem denL_eq (V : Vl) : ∀ l, denL V l = l.map (den V)
  | [] => rfl
  | x :: l => by simp [denL, denL_eq V l]
theorem okL_iff (nb : Nat) : ∀ l, okL nb l = true ↔ ∀ x ∈ l, okV nb x = true
  | [] => by simp [okL]
  | x :: l => by
    have := okL_iff nb l
    unfold okL
    cases h : okV nb x <;> simp [h, this]
mutual
theorem den_agree {V V' : Vl} {nb : Nat} (h : AgrB nb V' V) : ∀ v, okV nb v = true → den V' v = den V v
  | .int _ _, _ => rfl
  | .tf _, _ => rfl
  | .bool _, _ => rfl
  | .str _, _ => rfl
  | .ptr k o, hk => by simp only [okV, Nat.blt_eq] at hk; simp only [den, h ⟨k, []⟩ hk]
  | .slc k o n c, hk => by simp only [okV, Nat.blt_eq] at hk; simp only [den, h ⟨k, []⟩ hk]
  | .el r _ _ _, hk => by simp only [okV, Nat.blt_eq] at hk; simp only [den, h r hk]
  | .sl r, hk => by simp only [okV, Nat.blt_eq] at hk; simp only [den, h r hk]
  | .vw r _ _ _ _, hk => by simp only [okV, Nat.blt_eq] at hk; simp only [den, h r hk]
  | .clo f l, hk => by simp only [okV] at hk; simp only [den, denL_agree h l hk]
  | .agg l, hk => by simp only [okV] at hk; simp only [den, denL_agree h l hk]
  | .tup l, hk => by simp only [okV] at hk; simp only [den, denL_agree h l hk]
  | .undef, _ => rfl
  | .val _, _ => rfl
  | .mp k, hk => by simp only [okV, Nat.blt_eq] at hk; simp only [den, h ⟨k, []⟩ hk]
theorem denL_agree {V V' : Vl} {nb : Nat} (h : AgrB nb V' V) : ∀ l, okL nb l = true → denL V' l = denL V l
  | [], _ => rfl
  | x :: l, hk => by
    unfold okL at hk
    cases hx : okV nb x with
    | false => simp [hx] at hk
    | true => simp only [hx] at hk; simp only [denL, den_agree h x hx, denL_agree h l hk]
end
mutual
theorem okV_mono {a b : Nat} (h : a ≤ b) : ∀ v, okV a v = true → okV b v = true
  | .int _ _, _ => rfl
  | .tf _, _ => rfl
  | .bool _, _ => rfl
  | .str _, _ => rfl
  | .ptr k o, hk => by simp only [okV, Nat.blt_eq] at hk ⊢; omega
  | .slc k o n c, hk => by simp only [okV, Nat.blt_eq] at hk ⊢; omega
  | .el r _ _ _, hk => by simp only [okV, Nat.blt_eq] at hk ⊢; omega
  | .sl r, hk => by simp only [okV, Nat.blt_eq] at hk ⊢; omega
  | .vw r _ _ _ _, hk => by simp only [okV, Nat.blt_eq] at hk ⊢; omega
  | .clo f l, hk => by simp only [okV] at hk ⊢; exact okL_mono h l hk
  | .agg l, hk => by simp only [okV] at hk ⊢; exact okL_mono h l hk
  | .tup l, hk => by simp only [okV] at hk ⊢; exact okL_mono h l hk
  | .undef, _ => rfl
  | .val _, _ => rfl
  | .mp k, hk => by simp only [okV, Nat.blt_eq] at hk ⊢; omega
theorem okL_mono {a b : Nat} (h : a ≤ b) : ∀ l, okL a l = true → okL b l = true
  | [], _ => rfl
  | x :: l, hk => by
    unfold okL at hk ⊢
    cases hx : okV a x with
    | false => simp [hx] at hk
    | true => simp only [hx] at hk; simp only [okV_mono h x hx, okL_mono h l hk]
end
def find {α : Type} : List (Nat × α) → Nat → Option α
  | [], _ => none
  | (k, v) :: l, t => match Nat.beq k t with
    | true => some v
    | false => find l t
theorem find_cons {α : Type} (k : Nat) (v : α) (l : List (Nat × α)) (t : Nat) : find ((k, v) :: l) t = if k = t then some v else find l t := by
  cases h : Nat.beq k t
  · simp only [find, h, if_neg (Nat.ne_of_beq_eq_false h)]
  · simp only [find, h, if_pos (Nat.eq_of_beq_eq_true h)]
theorem find_append {α : Type} (t : Nat) : ∀ (l m : List (Nat × α)), find (l ++ m) t = match find l t with | some v => some v | none => find m t
  | [], m => rfl
  | (k, v) :: l, m => by
    rw [List.cons_append, find_cons, find_cons, find_append t l m]
    split <;> rfl
structure FI where
  off : Nat
  size : Nat
  agg : Bool
inductive TD where
  | other
  | int (k : IntKind)
  | bool
  | struct (fs : List FI)
  | array (len es : Nat) (ea : Bool)
  | slice (e es : Nat) (ea : Bool)
  | map (k e : Nat)
structure TI where
  zs : List SV
  td : TD
  bytes : Nat
  code : Option Ty
def V0 : Vl := fun _ => ⟨none, 0, 0⟩
def TI.zero (ti : TI) : List Value := denL V0 ti.zs
abbrev Lay := List (Nat × TI)
def TD.agg : TD → Bool
  | .struct _ => true
  | .array _ _ _ => true
  | _ => false
def aggB : TypeDesc → Bool
  | .struct _ => true
  | .array _ _ => true
  | _ => false
def fiOf (P : Program) (f : Field) : Option FI :=
  match P.info? f.type, P.underlying f.type with
  | some i, some d => if i.size = 0 then none else some ⟨f.offset, i.size, aggB d⟩
  | _, _ => none
def fisOf (P : Program) : List Field → Option (List FI)
  | [] => some []
  | f :: l => match fiOf P f, fisOf P l with
    | some x, some y => some (x :: y)
    | _, _ => none
def tdOf (P : Program) : TypeDesc → Option TD
  | .struct fs => (fisOf P fs.toList).map .struct
  | .array n e => match P.info? e, P.underlying e with
    | some i, some d => some (.array n i.size (aggB d))
    | _, _ => none
  | .slice e => match P.info? e, P.underlying e with
    | some i, some d => some (.slice e i.size (aggB d))
    | _, _ => none
  | .int k => some (.int k)
  | .bool => some .bool
  | .map k e => some (.map k e)
  | _ => some .other
def TI.zval (ti : TI) : Value := match ti.td.agg with | true => .agg ti.zero.toArray | false => ti.zero.getD 0 Go.undef
def TIok (P : Program) (t : Nat) (ti : TI) : Prop :=
  (P.info? t).map (fun i => (i.zero, i.size, i.bytes)) = some (some ti.zval, ti.zero.length, ti.bytes) ∧
  (match ti.td.agg with | true => True | false => ti.zero.length = 1 ∧ (ti.zero.getD 0 Go.undef).cells = #[ti.zero.getD 0 Go.undef]) ∧
  (P.underlying t).bind (tdOf P) = some ti.td ∧ okL 0 ti.zs = true
def LayOk (P : Program) : Lay → Prop
  | [] => True
  | (t, ti) :: l => TIok P t ti ∧ LayOk P l
theorem LayOk.at {P : Program} : ∀ {L : Lay}, LayOk P L → ∀ {t ti}, find L t = some ti → TIok P t ti
  | [], _, _, _, h => by simp [find] at h
  | (k, x) :: l, hl, t, ti, h => by
    rw [find_cons] at h
    split at h
    · rename_i e; subst e; cases h; exact hl.1
    · exact hl.2.at h
section
variable {P : Program} {t : Nat} {ti : TI} {w : World}
theorem TIok.info (h : TIok P t ti) : ∃ i, P.info? t = some i ∧ i.size = ti.zero.length ∧ i.zero = some ti.zval ∧ i.bytes = ti.bytes := by
  have h1 := h.1
  cases hi : P.info? t with
  | none => simp [hi] at h1
  | some i => simp only [hi, Option.map_some, Option.some.injEq, Prod.mk.injEq] at h1; exact ⟨i, rfl, h1.2.1, h1.1, h1.2.2⟩
theorem TIok.desc (h : TIok P t ti) : ∃ d, P.underlying t = some d ∧ tdOf P d = some ti.td := by
  have h1 := h.2.2.1
  cases hi : P.underlying t with
  | none => simp [hi] at h1
  | some d => simp only [hi, Option.bind_some] at h1; exact ⟨d, rfl, h1⟩
theorem TIok.zs (h : TIok P t ti) (V : Vl) : denL V ti.zs = ti.zero := denL_agree (nb := 0) (fun _ hk => absurd hk (Nat.not_lt_zero _)) ti.zs h.2.2.2
theorem TI.zero_len (ti : TI) : ti.zero.length = ti.zs.length := by unfold TI.zero; rw [denL_eq, List.length_map]
theorem r_underlying {d : TypeDesc} (h : P.underlying t = some d) : (underlying t).run P w = .ok d w := by
  show (match P.underlying t with | some d => (pure d : Sem TypeDesc) | none => stuck _).run P w = _
  rw [h]; rfl
theorem r_typeInfo {i : TypeInfo} (h : P.info? t = some i) : (typeInfo t).run P w = .ok i w := by
  show (match P.info? t with | some i => (pure i : Sem TypeInfo) | none => stuck _).run P w = _
  rw [h]; rfl
theorem r_sizeOf {i : TypeInfo} (h : P.info? t = some i) : (sizeOf t).run P w = .ok i.size w := by
  simp only [sizeOf, Sem.run_bind, r_typeInfo h]
  rfl
theorem r_zero {i : TypeInfo} {z : Value} (h : P.info? t = some i) (hz : i.zero = some z) : (zeroValue t).run P w = .ok z w := by
  simp only [zeroValue, Sem.run_bind, r_typeInfo h]
  show (match i.zero with | some v => (pure v : Sem Value) | none => unsupported _).run P w = _
  rw [hz]; rfl
theorem r_isAgg {d : TypeDesc} (h : P.underlying t = some d) : (isAgg t).run P w = .ok (aggB d) w := by
  simp only [isAgg, Sem.run_bind, r_underlying h]
  cases d <;> rfl
end
theorem field_of {P : Program} : ∀ {l : List Field} {fs : List FI} {i : Nat} {x : FI}, fisOf P l = some fs → fs[i]? = some x → ∃ f j d, l[i]? = some f ∧ P.info? f.type = some j ∧ P.underlying f.type = some d ∧ x.off = f.offset ∧ x.size = j.size ∧ x.agg = aggB d ∧ j.size ≠ 0
  | [], fs, i, x, h, hx => by simp only [fisOf, Option.some.injEq] at h; subst h; simp at hx
  | f :: l, fs, i, x, h, hx => by
    unfold fisOf at h
    cases hf : fiOf P f with
    | none => simp [hf] at h
    | some x0 =>
      cases hl : fisOf P l with
      | none => simp [hf, hl] at h
      | some y =>
        simp only [hf, hl, Option.some.injEq] at h
        subst h
        cases i with
        | succ i => simp only [List.getElem?_cons_succ] at hx ⊢; exact field_of hl hx
        | zero =>
          simp only [List.getElem?_cons_zero, Option.some.injEq] at hx ⊢
          subst hx
          unfold fiOf at hf
          cases hi : P.info? f.type with
          | none => simp [hi] at hf
          | some j =>
            cases hu : P.underlying f.type with
            | none => simp [hi, hu] at hf
            | some d =>
              simp only [hi, hu] at hf
              split at hf
              · cases hf
              · rename_i hne
                cases hf
                exact ⟨f, j, d, rfl, hi, hu, rfl, rfl, rfl, hne⟩
theorem agg_of {P : Program} {d : TypeDesc} {td : TD} (h : tdOf P d = some td) : aggB d = td.agg := by
  cases d <;> simp only [tdOf] at h <;> first | (cases h; rfl) | (split at h <;> cases h; rfl) | (obtain ⟨l, _, rfl⟩ := Option.map_eq_some_iff.1 h; rfl)
theorem td_struct {P : Program} {d : TypeDesc} {fs : List FI} (h : tdOf P d = some (.struct fs)) : ∃ fields, d = .struct fields ∧ fisOf P fields.toList = some fs := by
  cases d <;> simp only [tdOf] at h <;> first | (cases h; done) | (split at h <;> cases h; done) | skip
  obtain ⟨l, h1, h2⟩ := Option.map_eq_some_iff.1 h
  cases h2
  exact ⟨_, rfl, h1⟩
theorem td_array {P : Program} {d : TypeDesc} {n es : Nat} {ea : Bool} (h : tdOf P d = some (.array n es ea)) : ∃ e i de, d = .array n e ∧ P.info? e = some i ∧ i.size = es ∧ P.underlying e = some de ∧ aggB de = ea := by
  cases d <;> simp only [tdOf] at h <;> first | (cases h; done) | (obtain ⟨l, h1, h2⟩ := Option.map_eq_some_iff.1 h; cases h2; done) | skip
  all_goals (split at h <;> first | (cases h; done) | (rename_i i de hi hu; cases h; exact ⟨_, i, de, rfl, hi, rfl, hu, rfl⟩))
theorem td_slice {P : Program} {d : TypeDesc} {e es : Nat} {ea : Bool} (h : tdOf P d = some (.slice e es ea)) : ∃ i de, d = .slice e ∧ P.info? e = some i ∧ i.size = es ∧ P.underlying e = some de ∧ aggB de = ea := by
  cases d <;> simp only [tdOf] at h <;> first | (cases h; done) | (obtain ⟨l, h1, h2⟩ := Option.map_eq_some_iff.1 h; cases h2; done) | skip
  all_goals (split at h <;> first | (cases h; done) | (rename_i i de hi hu; cases h; exact ⟨i, de, rfl, hi, rfl, hu, rfl⟩))
theorem td_int {P : Program} {d : TypeDesc} {k : IntKind} (h : tdOf P d = some (.int k)) : d = .int k := by
  cases d <;> simp only [tdOf] at h <;> first | (cases h; done) | (cases h; rfl) | (obtain ⟨l, h1, h2⟩ := Option.map_eq_some_iff.1 h; cases h2; done) | (split at h <;> cases h; done)
theorem td_bool {P : Program} {d : TypeDesc} (h : tdOf P d = some .bool) : d = .bool := by
  cases d <;> simp only [tdOf] at h <;> first | (cases h; done) | (cases h; rfl) | (obtain ⟨l, h1, h2⟩ := Option.map_eq_some_iff.1 h; cases h2; done) | (split at h <;> cases h; done)
theorem td_map {P : Program} {d : TypeDesc} {k e : Nat} (h : tdOf P d = some (.map k e)) : d = .map k e := by
  cases d <;> simp only [tdOf] at h <;> first | (cases h; done) | (cases h; rfl) | (obtain ⟨l, h1, h2⟩ := Option.map_eq_some_iff.1 h; cases h2; done) | (split at h <;> cases h; done)
theorem denL_append (V : Vl) (a b : List SV) : denL V (a ++ b) = denL V a ++ denL V b := by simp [denL_eq]
theorem denL_take (V : Vl) (a : List SV) (n : Nat) : denL V (a.take n) = (denL V a).take n := by simp [denL_eq]
theorem denL_drop (V : Vl) (a : List SV) (n : Nat) : denL V (a.drop n) = (denL V a).drop n := by simp [denL_eq]
theorem denL_length (V : Vl) (a : List SV) : (denL V a).length = a.length := by simp [denL_eq]
theorem denL_get (V : Vl) {l : List SV} {i : Nat} {v : SV} (h : l[i]? = some v) : (denL V l)[i]? = some (den V v) := by simp [denL_eq, h]
theorem denL_get' (V : Vl) (l : List SV) (i : Nat) : (denL V l)[i]? = l[i]?.map (den V) := by simp [denL_eq]
end Go.Proofs.Ytkageldgmkajbaa
namespace Go.Proofs.Ytkageldgmkajbaa
open Go.RowKit
abbrev Path := List (Nat × Nat)
inductive Md where
  | own | sh | fz | tmp
  | pt (n f : Nat)
inductive Kd where
  | own | fz | tmp
def Md.at : Md → Path → Kd
  | .own, _ => .own
  | .sh, [] => .own
  | .sh, _ :: _ => .fz
  | .fz, _ => .fz
  | .tmp, _ => .tmp
  | .pt _ _, [] => .own
  | .pt n f, (i, j) :: _ => if i < n ∨ (i = n ∧ j < f) then .own else .fz
inductive MB where
  | cells (c : List SV)
  | list (m : Md) (c : Ty) (l : List (El c))
  | hole (b : Nat) (c : Ty) (l : List (El c))
  | deck (v : SV)
  | mp (es : MpD)
  | dead
inductive AB where
  | cells (c : List SV)
  | list (d : Kd) (c : Ty) (l : List (El c))
  | deck (v : SV)
  | mp (es : MpD)
structure St where
  env : List (Nat × SV)
  mem : List (Nat × MB)
  nb : Nat
def desc : (c : Ty) → List (El c) → Path → Option ((c : Ty) × List (El c))
  | c, l, [] => some ⟨c, l⟩
  | c, l, (i, j) :: p => match l[i]? with
    | none => none
    | some x => match (tcells c x)[j]? with
      | some (.sl c' l') => desc c' l' p
      | _ => none
def contB : MB → Path → Option AB
  | .cells c, [] => some (.cells c)
  | .cells _, _ :: _ => none
  | .deck v, [] => some (.deck v)
  | .deck _, _ :: _ => none
  | .mp es, [] => some (.mp es)
  | .mp _, _ :: _ => none
  | .list m c l, p => match desc c l p with
    | some ⟨c', l'⟩ => some (.list (m.at p) c' l')
    | none => none
  | .hole _ c l, [] => some (.list .own c l)
  | .hole b c l, (i, j) :: p => if i = b then none else match desc c l ((i, j) :: p) with
    | some ⟨c', l'⟩ => some (.list .own c' l')
    | none => none
  | .dead, _ => none
def cont (mem : List (Nat × MB)) (r : Rid) : Option AB := match find mem r.k with
  | some b => contB b r.p
  | none => none
theorem cont_iff {mem : List (Nat × MB)} {r : Rid} {b : AB} : cont mem r = some b ↔ ∃ m, find mem r.k = some m ∧ contB m r.p = some b := by
  unfold cont
  cases find mem r.k <;> simp
theorem desc_snoc : ∀ {c : Ty} {l : List (El c)} {p : Path} {i j : Nat} {c1 : Ty} {l1 : List (El c1)} {x : El c1} {c2 : Ty} {l2 : List (El c2)}, desc c l p = some ⟨c1, l1⟩ → l1[i]? = some x → (tcells c1 x)[j]? = some (.sl c2 l2) → desc c l (p ++ [(i, j)]) = some ⟨c2, l2⟩
  | c, l, [], i, j, c1, l1, x, c2, l2, h, hx, hj => by
    simp only [desc, Option.some.injEq] at h
    cases h
    simp only [List.nil_append, desc, hx, hj]
  | c, l, (a, b) :: p, i, j, c1, l1, x, c2, l2, h, hx, hj => by
    simp only [desc] at h
    simp only [List.cons_append, desc]
    split at h
    · cases h
    · split at h
      · rename_i e; exact desc_snoc h hx hj
      · cases h
theorem desc_join : ∀ {c : Ty} {l : List (El c)} {p q : Path} {c1 : Ty} {l1 : List (El c1)}, desc c l p = some ⟨c1, l1⟩ → desc c l (p ++ q) = desc c1 l1 q
  | c, l, [], q, c1, l1, h => by simp only [desc, Option.some.injEq] at h; cases h; rfl
  | c, l, (a, b) :: p, q, c1, l1, h => by
    simp only [desc] at h
    simp only [List.cons_append, desc]
    split at h
    · cases h
    · split at h
      · exact desc_join h
      · cases h
def denT (V : Vl) (r : Rid) : TC → Value
  | .int k n => .int k n
  | .bool b => .bool b
  | .str s => .string s
  | .sl _ _ => (V r).hd
def RowsAt (V : Vl) (w : World) (r : Rid) (c : Ty) (l : List (El c)) : Prop :=
  ∀ i x, l[i]? = some x → ∀ j d, (tcells c x)[j]? = some d → ∃ a, (V r).a = some a ∧ a.spot = none ∧ w.cell? ⟨a.block, a.off + (i * wid c + j), none⟩ = some (denT V (r.ch i j) d)
def OwnAt (w : World) (L : Loc) (es : Nat) : Prop :=
  L.cap = 0 ∨ ∃ a cs t, L.a = some a ∧ a.spot = none ∧ w.heap[a.block]? = some (.cells cs t) ∧ a.off + L.cap * es ≤ cs.size ∧ L.cap ≤ maxLen
def AtB (V : Vl) (w : World) (r : Rid) : AB → Prop
  | .cells c => ∃ b t, (V r).a = some ⟨b, 0, none⟩ ∧ w.heap[b]? = some (.cells (denL V c).toArray t)
  | .deck v => ∃ b t p a n c, (V r).a = some ⟨b, 0, none⟩ ∧ w.heap[b]? = some (.cells #[den V v, .int .i64 p] t) ∧ den V v = .slice a n c ∧ (0 : Int) ≤ p ∧ p ≤ n
  | .mp es => ∃ b arr cl, (V r).a = some ⟨b, 0, none⟩ ∧ w.heap[b]? = some (.map arr cl) ∧ mpE es arr cl
  | .list d c l => (V r).len = l.length ∧ l.length ≤ (V r).cap ∧ (d = .own → OwnAt w (V r) (wid c)) ∧ RowsAt V w r c l
def kindB : AB → Kd
  | .list d _ _ => d
  | _ => .own
def liveB (L : Loc) : AB → Prop
  | .list .own _ _ => L.cap ≠ 0
  | .list _ _ l => l ≠ []
  | _ => True
def okM (nb : Nat) : MB → Bool
  | .cells c => okL nb c
  | .deck v => okV nb v
  | _ => true
def okA (nb : Nat) : AB → Bool
  | .cells c => okL nb c
  | .deck v => okV nb v
  | _ => true
theorem okM_mono {a b : Nat} (h : a ≤ b) {m : MB} (hm : okM a m = true) : okM b m = true := by
  cases m <;> simp only [okM] at hm ⊢
  · exact okL_mono h _ hm
  · exact okV_mono h _ hm
theorem ok_contB {nb : Nat} {m : MB} {p : Path} {b : AB} (hm : okM nb m = true) (h : contB m p = some b) : okA nb b = true := by
  unfold contB at h
  split at h <;> first | (cases h; done) | skip
  · cases h; exact hm
  · cases h; exact hm
  · cases h; rfl
  · split at h
    · cases h; rfl
    · cases h
  · cases h; rfl
  · split at h
    · cases h
    · split at h
      · cases h; rfl
      · cases h
structure Ents (D0 : Nat → Prop) (V : Vl) (s : St) (w : World) : Prop where
  ok : ∀ k m, find s.mem k = some m → k < s.nb ∧ okM s.nb m = true
  at_ : ∀ r b, cont s.mem r = some b → AtB V w r b
  sep : ∀ r r' b b', cont s.mem r = some b → cont s.mem r' = some b' → liveB (V r) b → liveB (V r') b' → kindB b = .own → (V r).b = (V r').b → r = r'
  d0 : ∀ r b, cont s.mem r = some b → liveB (V r) b → kindB b ≠ .tmp → ¬ D0 (V r).b
theorem lt_of_heap {w : World} {b : Nat} {o : Obj} (h : w.heap[b]? = some o) : b < w.heap.size := (Array.getElem?_eq_some_iff.1 h).1
theorem lt_of_cell {w : World} {b o : Nat} {v : Value} (h : w.cell? ⟨b, o, none⟩ = some v) : b < w.heap.size := by
  unfold World.cell? at h
  split at h
  · rename_i e; exact lt_of_heap e
  · cases h
theorem AtB.lt {V : Vl} {w : World} {r : Rid} {b : AB} (h : AtB V w r b) (hl : liveB (V r) b) : (V r).b < w.heap.size := by
  cases b with
  | cells c => obtain ⟨b, t, h1, h2⟩ := h; unfold Loc.b; rw [h1]; exact lt_of_heap h2
  | deck v => obtain ⟨b, t, p, a, n, c, h1, h2, _⟩ := h; unfold Loc.b; rw [h1]; exact lt_of_heap h2
  | mp es => obtain ⟨b, arr, cl, h1, h2, _⟩ := h; unfold Loc.b; rw [h1]; exact lt_of_heap h2
  | list d c l =>
    obtain ⟨h1, h2, h3, h4⟩ := h
    have rows : l ≠ [] → (V r).b < w.heap.size := by
      intro hne
      have h0 : 0 < l.length := List.length_pos_iff.2 hne
      have hx : l[0]? = some l[0] := List.getElem?_eq_getElem h0
      have hj : 0 < (tcells c l[0]).length := by rw [tcells_len]; exact wid_pos c
      obtain ⟨a, g1, g2, g3⟩ := h4 0 _ hx 0 _ (List.getElem?_eq_getElem hj)
      unfold Loc.b
      rw [g1]
      exact lt_of_cell g3
    cases d with
    | own =>
      rcases h3 rfl with g | ⟨a, cs, t, g1, _, g2, _⟩
      · exact absurd g hl
      · unfold Loc.b; rw [g1]; exact lt_of_heap g2
    | fz => exact rows hl
    | tmp => exact rows hl
theorem Ents.lt {D0 : Nat → Prop} {V : Vl} {s : St} {w : World} (h : Ents D0 V s w) {r : Rid} {b : AB} (hc : cont s.mem r = some b) (hl : liveB (V r) b) : (V r).b < w.heap.size := (h.at_ r b hc).lt hl
theorem cell_heap {w w' : World} {b o : Nat} (h : w'.heap[b]? = w.heap[b]?) : w'.cell? ⟨b, o, none⟩ = w.cell? ⟨b, o, none⟩ := by
  unfold World.cell?; simp only; rw [h]
theorem AtB.keep {V V' : Vl} {w w' : World} {r : Rid} {b : AB} {nb : Nat} (h : AtB V w r b) (ok : okA nb b = true) (hk : r.k < nb) (ag : AgrB nb V' V) (hb : liveB (V r) b → w'.heap[(V r).b]? = w.heap[(V r).b]?) : AtB V' w' r b := by
  have e := ag r hk
  cases b with
  | cells c =>
    obtain ⟨b, t, h1, h2⟩ := h
    refine ⟨b, t, by rw [e]; exact h1, ?_⟩
    have := hb trivial
    unfold Loc.b at this
    rw [h1] at this
    rw [denL_agree ag c ok]
    exact this.trans h2
  | deck v =>
    obtain ⟨b, t, p, a, n, c, h1, h2, h3⟩ := h
    have := hb trivial
    unfold Loc.b at this
    rw [h1] at this
    refine ⟨b, t, p, a, n, c, by rw [e]; exact h1, ?_⟩
    rw [den_agree ag v ok]
    exact ⟨this.trans h2, h3⟩
  | mp es =>
    obtain ⟨b, arr, cl, h1, h2, h3⟩ := h
    have := hb trivial
    unfold Loc.b at this
    rw [h1] at this
    exact ⟨b, arr, cl, by rw [e]; exact h1, this.trans h2, h3⟩
  | list d c l =>
    obtain ⟨h1, h2, h3, h4⟩ := h
    refine ⟨by rw [e]; exact h1, by rw [e]; exact h2, fun hd => ?_, fun i x hx j t ht => ?_⟩
    · subst hd
      rw [e]
      rcases Nat.eq_zero_or_pos (V r).cap with hz | hp
      · exact .inl hz
      · rcases h3 rfl with g | ⟨a, cs, t, g1, g2, g3, g4⟩
        · exact .inl g
        · have := hb (by simp only [liveB]; omega)
          unfold Loc.b at this
          rw [g1] at this
          exact .inr ⟨a, cs, t, g1, g2, this.trans g3, g4⟩
    · obtain ⟨a, g1, g2, g3⟩ := h4 i x hx j t ht
      have hlv : liveB (V r) (.list d c l) := by
        have hne : l ≠ [] := by intro e; subst e; simp at hx
        have hpos : 0 < l.length := List.length_pos_iff.2 hne
        cases d with
        | own => simp only [liveB]; omega
        | fz => exact hne
        | tmp => exact hne
      have := hb hlv
      unfold Loc.b at this
      rw [g1] at this
      refine ⟨a, by rw [e]; exact g1, g2, ?_⟩
      rw [cell_heap this, g3]
      cases t <;> simp only [denT]
      rw [ag (r.ch i j) hk]
def Kd.le : Kd → Kd → Prop
  | .own, _ => True
  | .fz, .own => False
  | .fz, _ => True
  | .tmp, .tmp => True
  | .tmp, _ => False
theorem Ents.re {D0 D1 : Nat → Prop} {V V' : Vl} {s s' : St} {w w' : World} (h : Ents D0 V s w) (ok : ∀ k m, find s'.mem k = some m → k < s'.nb ∧ okM s'.nb m = true) (src : Rid → Option Rid)
    (hs : ∀ r' b', cont s'.mem r' = some b' → liveB (V' r') b' → (src r' = none ∧ w.heap.size ≤ (V' r').b) ∨ ∃ r b, src r' = some r ∧ cont s.mem r = some b ∧ liveB (V r) b ∧ (V' r').b = (V r).b ∧ (kindB b).le (kindB b'))
    (inj : ∀ r1 r2 b1 b2, cont s'.mem r1 = some b1 → cont s'.mem r2 = some b2 → liveB (V' r1) b1 → liveB (V' r2) b2 → kindB b1 = .own → src r1 = src r2 → r1 = r2)
    (hat : ∀ r' b', cont s'.mem r' = some b' → AtB V' w' r' b') (hD : ∀ b, D1 b → D0 b ∧ b < w.heap.size) : Ents D1 V' s' w' := by
  refine ⟨ok, hat, fun r1 r2 b1 b2 h1 h2 l1 l2 hk he => ?_, fun r b hc hl hk hd => ?_⟩
  · refine inj r1 r2 b1 b2 h1 h2 l1 l2 hk ?_
    rcases hs r1 b1 h1 l1 with ⟨e1, g1⟩ | ⟨a1, c1, e1, g1, k1, f1, q1⟩ <;> rcases hs r2 b2 h2 l2 with ⟨e2, g2⟩ | ⟨a2, c2, e2, g2, k2, f2, q2⟩
    · rw [e1, e2]
    · exfalso; have := h.lt g2 k2; omega
    · exfalso; have := h.lt g1 k1; omega
    · rw [e1, e2]
      have hown : kindB c1 = .own := by
        rw [hk] at q1
        cases hc : kindB c1 with
        | own => rfl
        | fz => rw [hc] at q1; exact q1.elim
        | tmp => rw [hc] at q1; exact q1.elim
      exact congrArg some (h.sep a1 a2 c1 c2 g1 g2 k1 k2 hown (f1.symm.trans (he.trans f2)))
  · obtain ⟨d1, d2⟩ := hD _ hd
    rcases hs r b hc hl with ⟨_, g1⟩ | ⟨a1, c1, e1, g1, k1, f1, q1⟩
    · omega
    · rw [f1] at d1
      refine h.d0 a1 c1 g1 k1 (fun e => ?_) d1
      rw [e] at q1
      cases hb : kindB b with
      | own => rw [hb] at q1; exact q1.elim
      | fz => rw [hb] at q1; exact q1.elim
      | tmp => exact hk hb
def killL : List Nat → List (Nat × MB) → List (Nat × MB)
  | [], m => m
  | k :: l, m => (k, .dead) :: killL l m
theorem find_kill {ks : List Nat} {m : List (Nat × MB)} {k : Nat} : find (killL ks m) k = if k ∈ ks then some .dead else find m k := by
  induction ks with
  | nil => simp [killL]
  | cons a l ih =>
    simp only [killL, find_cons, ih, List.mem_cons]
    by_cases h : a = k
    · subst h; simp
    · simp [h, Ne.symm h, eq_comm]
theorem contB_dead (p : Path) : contB .dead p = none := by unfold contB; rfl
theorem cont_turn {nb : Nat} {m : MB} {ks : List Nat} {mem : List (Nat × MB)} {r : Rid} {b : AB} (h : cont ((nb, m) :: killL ks mem) r = some b) : (r.k = nb ∧ contB m r.p = some b) ∨ (r.k ≠ nb ∧ r.k ∉ ks ∧ cont mem r = some b) := by
  obtain ⟨m', h1, h2⟩ := cont_iff.1 h
  rw [find_cons, find_kill] at h1
  split at h1
  · rename_i e; cases h1; exact .inl ⟨e.symm, h2⟩
  · rename_i e
    split at h1
    · cases h1; rw [contB_dead] at h2; cases h2
    · rename_i e2; exact .inr ⟨Ne.symm e, e2, cont_iff.2 ⟨m', h1, h2⟩⟩
theorem Ents.okc {D0 : Nat → Prop} {V : Vl} {s : St} {w : World} (h : Ents D0 V s w) {r : Rid} {b : AB} (hc : cont s.mem r = some b) : r.k < s.nb ∧ okA s.nb b = true := by
  obtain ⟨m, h1, h2⟩ := cont_iff.1 hc
  obtain ⟨h3, h4⟩ := h.ok _ _ h1
  exact ⟨h3, ok_contB h4 h2⟩
theorem Ents.turn {D0 : Nat → Prop} {V V' : Vl} {s : St} {w w' : World} (h : Ents D0 V s w) (e' : List (Nat × SV)) {m : MB} {ks : List Nat} (ag : AgrB s.nb V' V) (hm : okM (s.nb + 1) m = true) (hks : ∀ k ∈ ks, k < s.nb)
    (src : Path → Option Rid)
    (same : ∀ r b, cont s.mem r = some b → liveB (V r) b → r.k ∉ ks → w'.heap[(V r).b]? = w.heap[(V r).b]?)
    (hs : ∀ p b', contB m p = some b' → liveB (V' ⟨s.nb, p⟩) b' → (src p = none ∧ w.heap.size ≤ (V' ⟨s.nb, p⟩).b) ∨ ∃ r b, src p = some r ∧ cont s.mem r = some b ∧ liveB (V r) b ∧ (V' ⟨s.nb, p⟩).b = (V r).b ∧ (kindB b).le (kindB b') ∧ (r.k ∈ ks ∨ (kindB b ≠ .own ∧ kindB b' ≠ .own)))
    (inj : ∀ p1 p2 b1 b2, contB m p1 = some b1 → contB m p2 = some b2 → liveB (V' ⟨s.nb, p1⟩) b1 → liveB (V' ⟨s.nb, p2⟩) b2 → kindB b1 = .own → src p1 = src p2 → p1 = p2)
    (hat : ∀ p b', contB m p = some b' → AtB V' w' ⟨s.nb, p⟩ b') (hD : ∀ b, D0 b → b < w.heap.size) : Ents D0 V' ⟨e', (s.nb, m) :: killL ks s.mem, s.nb + 1⟩ w' := by
  have old : ∀ {r b}, cont s.mem r = some b → V' r = V r := fun hc => ag _ (h.okc hc).1
  refine h.re (s' := ⟨e', (s.nb, m) :: killL ks s.mem, s.nb + 1⟩) (fun k m' hk => ?_) (fun r => if r.k = s.nb then src r.p else some r) (fun r b hc hl => ?_) (fun r1 r2 b1 b2 c1 c2 l1 l2 hk he => ?_) (fun r b hc => ?_) (fun b hb => ⟨hb, hD b hb⟩)
  · simp only [find_cons, find_kill] at hk
    split at hk
    · rename_i e; subst e; cases hk; exact ⟨Nat.lt_succ_self _, hm⟩
    · split at hk
      · rename_i e; cases hk; exact ⟨Nat.lt_succ_of_lt (hks _ e), rfl⟩
      · obtain ⟨h1, h2⟩ := h.ok k m' hk
        exact ⟨Nat.lt_succ_of_lt h1, okM_mono (Nat.le_succ _) h2⟩
  · rcases cont_turn hc with ⟨e, hb⟩ | ⟨e, hk, hb⟩
    · obtain ⟨k, p⟩ := r
      simp only at e hb
      subst e
      rcases hs p b hb hl with ⟨g1, g2⟩ | ⟨r0, b0, g1, g2, g3, g4, g5, _⟩
      · exact .inl ⟨by simp [g1], g2⟩
      · exact .inr ⟨r0, b0, by simp [g1], g2, g3, g4, g5⟩
    · refine .inr ⟨r, b, by simp [e], hb, ?_, by rw [old hb], ?_⟩
      · rw [old hb] at hl; exact hl
      · cases kindB b <;> trivial
  · rcases cont_turn c1 with ⟨e1, hb1⟩ | ⟨e1, hk1, hb1⟩ <;> rcases cont_turn c2 with ⟨e2, hb2⟩ | ⟨e2, hk2, hb2⟩
    · obtain ⟨k1, p1⟩ := r1
      obtain ⟨k2, p2⟩ := r2
      simp only at e1 e2 hb1 hb2
      subst e1
      subst e2
      simp only [if_true] at he
      rw [inj p1 p2 b1 b2 hb1 hb2 l1 l2 hk he]
    · exfalso
      obtain ⟨k1, p1⟩ := r1
      simp only at e1 hb1
      subst e1
      simp only [if_true, if_neg e2] at he
      rcases hs p1 b1 hb1 l1 with ⟨g1, g2⟩ | ⟨r0, b0, g1, g2, g3, g4, g5, g6⟩
      · rw [g1] at he; cases he
      · rw [g1] at he; cases he
        rcases g6 with g6 | g6
        · exact hk2 g6
        · exact g6.2 hk
    · exfalso
      obtain ⟨k2, p2⟩ := r2
      simp only at e2 hb2
      subst e2
      simp only [if_true, if_neg e1] at he
      rcases hs p2 b2 hb2 l2 with ⟨g1, g2⟩ | ⟨r0, b0, g1, g2, g3, g4, g5, g6⟩
      · rw [g1] at he; cases he
      · rw [g1] at he; cases he
        rcases g6 with g6 | g6
        · exact hk1 g6
        · rw [hb1] at g2; cases g2; exact g6.1 hk
    · simp only [if_neg e1, if_neg e2, Option.some.injEq] at he
      exact he
  · rcases cont_turn hc with ⟨e, hb⟩ | ⟨e, hk, hb⟩
    · obtain ⟨k, p⟩ := r
      simp only at e hb
      subst e
      exact hat p b hb
    · obtain ⟨h1, h2⟩ := h.okc hb
      exact (h.at_ r b hb).keep h2 h1 ag fun hl => same r b hb hl hk
structure SIO (w0 w : World) : Prop where
  os : w.os = w0.os
  tape : w.tape = w0.tape
  output : w.output = w0.output
theorem SIO.refl (a : World) : SIO a a := ⟨rfl, rfl, rfl⟩
theorem SIO.trans {a b c : World} (h : SIO a b) (g : SIO b c) : SIO a c := ⟨g.os.trans h.os, g.tape.trans h.tape, g.output.trans h.output⟩
def Fr (D : Nat → Prop) (w0 w : World) : Prop := w0.heap.size ≤ w.heap.size ∧ (∀ b, b < w0.heap.size → ¬ D b → w.heap[b]? = w0.heap[b]?) ∧ SIO w0 w
theorem Fr.refl (D : Nat → Prop) (w : World) : Fr D w w := ⟨Nat.le_refl _, fun _ _ _ => rfl, SIO.refl w⟩
theorem Fr.trans {D D' : Nat → Prop} {a b c : World} (h : Fr D a b) (g : Fr D' b c) (hD : ∀ k, k < a.heap.size → D' k → D k) : Fr D a c :=
  ⟨Nat.le_trans h.1 g.1, fun k hk hd => (g.2.1 k (Nat.lt_of_lt_of_le hk h.1) fun x => hd (hD k hk x)).trans (h.2.1 k hk hd), h.2.2.trans g.2.2⟩
theorem Fr.mono {D D' : Nat → Prop} {a b : World} (h : Fr D a b) (hD : ∀ k, k < a.heap.size → D k → D' k) : Fr D' a b := ⟨h.1, fun k hk hd => h.2.1 k hk fun x => hd (hD k hk x), h.2.2⟩
def Dl (V : Vl) (mem : List (Nat × MB)) (b : Nat) : Prop := ∃ r x, cont mem r = some x ∧ liveB (V r) x ∧ kindB x = .own ∧ (V r).b = b
structure Cx where
  P : Program
  L : Lay
  n : Nat
  kb : Nat
structure Gx where
  w0 : World
  D0 : Nat → Prop
  D : Nat → Prop
  pin : Vl
def injK : Value → Option SV
  | .int k n => some (.int k n)
  | .bool b => some (.tf b)
  | .string s => some (.str s)
  | v => some (.val v)
theorem injK_eq {v : Value} {u : SV} (h : injK v = some u) (V : Vl) : den V u = v := by
  cases v <;> simp only [injK, Option.some.injEq] at h <;> (subst h; rfl)
def St.get (s : St) : Operand → Option SV
  | .tmp t => find s.env t
  | .const v => injK v
  | .global g => some (.val (.pointer (some ⟨g, 0, none⟩)))
  | .func f => some (.clo f [])
def EnvR (V : Vl) (env : List (Nat × SV)) (a : Act) : Prop := ∀ t v, find env t = some v → a.tmps.getD t Go.undef = den V v
theorem EnvR.get {V : Vl} {s : St} {a : Act} (h : EnvR V s.env a) {x : Operand} {v : SV} (hx : s.get x = some v) : a.eval x = den V v := by
  cases x with
  | tmp t => exact h t v hx
  | const c => exact (injK_eq hx V).symm
  | global g => simp only [St.get, Option.some.injEq] at hx; subst hx; rfl
  | func f => simp only [St.get, Option.some.injEq] at hx; subst hx; rfl
structure Rep (x : Cx) (g : Gx) (V : Vl) (s : St) (a : Act) (w : World) : Prop where
  defers : a.defers = []
  size : a.tmps.size = x.n
  env : EnvR V s.env a
  envOk : ∀ t v, find s.env t = some v → okV s.nb v = true
  ents : Ents g.D0 V s w
  frame : Fr g.D g.w0 w
  own : ∀ b, Dl V s.mem b → g.w0.heap.size ≤ b ∨ g.D b
  pin : x.kb ≤ s.nb ∧ AgrB x.kb V g.pin
  d0 : ∀ b, g.D0 b → b < g.w0.heap.size ∧ ¬ g.D b
theorem Rep.d0w {x : Cx} {g : Gx} {V : Vl} {s : St} {a : Act} {w : World} (h : Rep x g V s a w) : ∀ b, g.D0 b → b < w.heap.size := fun b hb => Nat.lt_of_lt_of_le (h.d0 b hb).1 h.frame.1
theorem put_getD (a : Act) (d : Nat) (v : Value) (t : Nat) (hd : d < a.tmps.size) : (a.put (some d) v).tmps.getD t Go.undef = if d = t then v else a.tmps.getD t Go.undef := by
  show (a.tmps.setIfInBounds d v).getD t Go.undef = _
  by_cases h : d = t
  · subst h; simp [Array.getD_eq_getD_getElem?, hd]
  · simp [Array.getD_eq_getD_getElem?, h]
theorem EnvR.put {V : Vl} {env : List (Nat × SV)} {a : Act} (h : EnvR V env a) {t : Nat} {v : SV} (ht : t < a.tmps.size) : EnvR V ((t, v) :: env) (a.put (some t) (den V v)) := by
  intro u z hu
  rw [put_getD _ _ _ _ ht]
  simp only [find_cons] at hu
  split at hu
  · rename_i e; subst e; cases hu; rw [if_pos rfl]
  · rename_i e; rw [if_neg e]; exact h u z hu
theorem envOk_put {nb t : Nat} {v : SV} {env : List (Nat × SV)} (h : ∀ t v, find env t = some v → okV nb v = true) (hv : okV nb v = true) : ∀ u z, find ((t, v) :: env) u = some z → okV nb z = true := by
  intro u z hu
  rw [find_cons] at hu
  split at hu
  · cases hu; exact hv
  · exact h u z hu
theorem Ents.env {D0 : Nat → Prop} {V : Vl} {e e' : List (Nat × SV)} {m : List (Nat × MB)} {nb : Nat} {w : World} (h : Ents D0 V ⟨e, m, nb⟩ w) : Ents D0 V ⟨e', m, nb⟩ w := ⟨h.ok, h.at_, h.sep, h.d0⟩
theorem Rep.put {x : Cx} {g : Gx} {V : Vl} {s : St} {a : Act} {w : World} (h : Rep x g V s a w) {t : Nat} {v : SV} (ht : Nat.blt t x.n = true) (hv : okV s.nb v = true) : Rep x g V ⟨(t, v) :: s.env, s.mem, s.nb⟩ (a.put (some t) (den V v)) w := by
  have hlt : t < a.tmps.size := by rw [h.size]; simpa [Nat.blt_eq] using ht
  exact ⟨h.defers, by show (a.tmps.setIfInBounds t _).size = _; rw [Array.size_setIfInBounds, h.size], h.env.put hlt, envOk_put h.envOk hv, h.ents.env, h.frame, h.own, h.pin, h.d0⟩
theorem alloc_size (w : World) (o : Obj) : (w.alloc o).heap.size = w.heap.size + 1 := by show (w.heap.push _).size = _; simp
theorem alloc_old (w : World) (o : Obj) {b : Nat} (h : b < w.heap.size) : (w.alloc o).heap[b]? = w.heap[b]? := Below.heap_alloc w o b h
def Vl.ext (V : Vl) (nb : Nat) (f : Path → Loc) : Vl := fun r => if r.k = nb then f r.p else V r
theorem Vl.ext_agr {V : Vl} {nb : Nat} {f : Path → Loc} : AgrB nb (V.ext nb f) V := fun r hr => if_neg (by omega)
theorem Vl.ext_new {V : Vl} {nb : Nat} {f : Path → Loc} {p : Path} : V.ext nb f ⟨nb, p⟩ = f p := if_pos rfl
theorem Rep.turn {x : Cx} {g : Gx} {V V' : Vl} {s : St} {a : Act} {w w' : World} (h : Rep x g V s a w) {m : MB} {ks : List Nat} (hsz : w.heap.size ≤ w'.heap.size) (ag : AgrB s.nb V' V) (hks : ∀ k ∈ ks, k < s.nb)
    (hE : Ents g.D0 V' ⟨s.env, (s.nb, m) :: killL ks s.mem, s.nb + 1⟩ w') (io : SIO w w') (same : ∀ b, b < w.heap.size → ¬ Dl V s.mem b → w'.heap[b]? = w.heap[b]?)
    (hown : ∀ p b', contB m p = some b' → liveB (V' ⟨s.nb, p⟩) b' → kindB b' = .own → w.heap.size ≤ (V' ⟨s.nb, p⟩).b ∨ Dl V s.mem (V' ⟨s.nb, p⟩).b) : Rep x g V' ⟨s.env, (s.nb, m) :: killL ks s.mem, s.nb + 1⟩ a w' := by
  refine ⟨h.defers, h.size, fun t v hv => ?_, fun t v hv => okV_mono (Nat.le_succ _) _ (h.envOk t v hv), hE, ⟨Nat.le_trans h.frame.1 hsz, fun b hb hd => ?_, h.frame.2.2.trans io⟩, fun b hb => ?_, ⟨Nat.le_succ_of_le h.pin.1, (ag.le h.pin.1).trans h.pin.2⟩, h.d0⟩
  · rw [den_agree ag v (h.envOk t v hv)]; exact h.env t v hv
  · refine (same b (Nat.lt_of_lt_of_le hb h.frame.1) fun hdl => ?_).trans (h.frame.2.1 b hb hd)
    rcases h.own b hdl with h1 | h1
    · omega
    · exact hd h1
  · obtain ⟨r, y, hc, hl, hk, rfl⟩ := hb
    rcases cont_turn hc with ⟨e, hb⟩ | ⟨e, hk2, hb⟩
    · obtain ⟨k, p⟩ := r
      simp only at e hb
      subst e
      rcases hown p y hb hl hk with h1 | h1
      · exact .inl (Nat.le_trans h.frame.1 h1)
      · exact h.own _ h1
    · have e2 := ag r (h.ents.okc hb).1
      rw [e2] at hl ⊢
      exact h.own _ ⟨r, y, hb, hl, hk, rfl⟩
theorem Rep.new {x : Cx} {g : Gx} {V : Vl} {s : St} {a : Act} {w : World} (h : Rep x g V s a w) {c : List SV} (hc : okL s.nb c = true) (t : TypeId) :
    Rep x g (V.ext s.nb fun _ => ⟨some ⟨w.heap.size, 0, none⟩, 0, 0⟩) ⟨s.env, (s.nb, .cells c) :: s.mem, s.nb + 1⟩ a (w.alloc (.cells (denL V c).toArray t)) := by
  have ag : AgrB s.nb (V.ext s.nb fun _ => ⟨some ⟨w.heap.size, 0, none⟩, 0, 0⟩) V := Vl.ext_agr
  have same : ∀ b, b < w.heap.size → (w.alloc (.cells (denL V c).toArray t)).heap[b]? = w.heap[b]? := fun b hb => alloc_old w _ hb
  have hp : ∀ p b', contB (.cells c) p = some b' → p = [] ∧ b' = .cells c := by
    intro p b' hb
    cases p with
    | nil => simp only [contB, Option.some.injEq] at hb; exact ⟨rfl, hb.symm⟩
    | cons _ _ => simp [contB] at hb
  have hE := h.ents.turn (w' := w.alloc (.cells (denL V c).toArray t)) (V' := V.ext s.nb fun _ => ⟨some ⟨w.heap.size, 0, none⟩, 0, 0⟩) (m := .cells c) (ks := []) s.env ag (okL_mono (Nat.le_succ _) _ hc) (by simp) (fun _ => none) (fun r b hb hl _ => same _ (h.ents.lt hb hl))
    (fun p b' hb hl => .inl ⟨rfl, by rw [Vl.ext_new]; exact Nat.le_refl _⟩) (fun p1 p2 b1 b2 h1 h2 _ _ _ _ => (hp _ _ h1).1.trans (hp _ _ h2).1.symm)
    (fun p b' hb => by
      obtain ⟨rfl, rfl⟩ := hp p b' hb
      refine ⟨w.heap.size, t, by rw [Vl.ext_new], ?_⟩
      rw [denL_agree ag c hc]
      exact heap_alloc_new w _) h.d0w
  exact h.turn (ks := []) (by rw [alloc_size]; omega) ag (by simp) hE ⟨rfl, rfl, rfl⟩ (fun b hb _ => same b hb) (fun p b' hb _ _ => .inl (by rw [Vl.ext_new]; exact Nat.le_refl _))
end Go.Proofs.Ytkageldgmkajbaa
namespace Go.Proofs.Ytkageldgmkajbaa
open Go.RowKit
def AllP : List Prop → Prop
  | [] => True
  | p :: l => p ∧ AllP l
def app {α : Type _} : List α → List α → List α
  | [], m => m
  | a :: l, m => a :: app l m
theorem app_eq {α : Type _} : ∀ (l m : List α), app l m = l ++ m
  | [], _ => rfl
  | a :: l, m => by simp [app, app_eq l m]
theorem AllP_app : ∀ {l m : List Prop}, AllP (app l m) ↔ AllP l ∧ AllP m
  | [], m => by simp [app, AllP]
  | a :: l, m => by simp only [app, AllP, AllP_app (l := l)]; exact and_assoc.symm
universe u
mutual
def plV {β : Type u} : SV → (SV → β) → β
  | .int k n, f => f (.int k n)
  | .tf b, f => f (.tf b)
  | .bool b, f => f (.bool b)
  | .str s, f => f (.str s)
  | .ptr k o, f => f (.ptr k o)
  | .slc k o n c, f => f (.slc k o n c)
  | .el r es i j, f => plR r fun r => f (.el r es i j)
  | .sl r, f => plR r fun r => f (.sl r)
  | .vw r es i n c, f => plR r fun r => match c with
    | none => f (.vw r es i n none)
    | some c => f (.vw r es i n (some c))
  | .clo g l, f => plL l fun l => f (.clo g l)
  | .agg l, f => plL l fun l => f (.agg l)
  | .tup l, f => plL l fun l => f (.tup l)
  | .undef, f => f .undef
  | .val v, f => f (.val v)
  | .mp k, f => f (.mp k)
def plL {β : Type u} : List SV → (List SV → β) → β
  | [], f => f []
  | x :: l, f => plV x fun x => plL l fun l => f (x :: l)
def plR {β : Type u} : Rid → (Rid → β) → β
  | ⟨k, p⟩, f => plP p fun p => f ⟨k, p⟩
def plP {β : Type u} : List (Nat × Nat) → (List (Nat × Nat) → β) → β
  | [], f => f []
  | (i, j) :: l, f => plP l fun l => f ((i, j) :: l)
end
theorem plP_eq {β : Type u} : ∀ (p : List (Nat × Nat)) (f : List (Nat × Nat) → β), plP p f = f p
  | [], f => rfl
  | (i, j) :: l, f => by simp only [plP, plP_eq l]
theorem plR_eq {β : Type u} (r : Rid) (f : Rid → β) : plR r f = f r := by cases r; simp only [plR, plP_eq]
mutual
theorem plV_eq {β : Type u} : ∀ (v : SV) (f : SV → β), plV v f = f v
  | .int k n, f => rfl
  | .tf b, f => rfl
  | .bool b, f => rfl
  | .str s, f => rfl
  | .ptr k o, f => rfl
  | .slc k o n c, f => rfl
  | .el r es i j, f => by simp only [plV, plR_eq]
  | .sl r, f => by simp only [plV, plR_eq]
  | .vw r es i n c, f => by cases c <;> simp only [plV, plR_eq]
  | .clo g l, f => by simp only [plV, plL_eq l]
  | .agg l, f => by simp only [plV, plL_eq l]
  | .tup l, f => by simp only [plV, plL_eq l]
  | .undef, f => rfl
  | .val v, f => rfl
  | .mp k, f => rfl
theorem plL_eq {β : Type u} : ∀ (l : List SV) (f : List SV → β), plL l f = f l
  | [], f => rfl
  | x :: l, f => by simp only [plL, plV_eq x, plL_eq l]
end
def dropC : List SV → Nat → List SV
  | l, 0 => l
  | [], _ + 1 => []
  | _ :: l, o + 1 => dropC l o
def takeC : List SV → Nat → Option (List SV)
  | _, 0 => some []
  | [], _ + 1 => none
  | x :: l, n + 1 => match takeC l n with
    | some r => some (x :: r)
    | none => none
def nthC {α : Type _} : List α → Nat → Option α
  | [], _ => none
  | x :: _, 0 => some x
  | _ :: l, n + 1 => nthC l n
def splice : List SV → Nat → List SV → Option (List SV)
  | c, 0, [] => some c
  | [], 0, _ :: _ => none
  | _ :: c, 0, v :: vs => match splice c 0 vs with
    | some r => some (v :: r)
    | none => none
  | [], _ + 1, _ => none
  | x :: c, o + 1, vs => match splice c o vs with
    | some r => some (x :: r)
    | none => none
theorem dropC_eq : ∀ l o, dropC l o = l.drop o
  | l, 0 => by simp [dropC]
  | [], _ + 1 => by simp [dropC]
  | _ :: l, o + 1 => by simp [dropC, dropC_eq l o]
theorem takeC_eq : ∀ l n {r}, takeC l n = some r → n ≤ l.length ∧ r = l.take n
  | l, 0, r, h => by simp [takeC] at h; simp [h]
  | [], _ + 1, r, h => by simp [takeC] at h
  | x :: l, n + 1, r, h => by
    unfold takeC at h
    cases hh : takeC l n with
    | none => simp [hh] at h
    | some q => obtain ⟨h1, h2⟩ := takeC_eq l n hh; simp [hh] at h; subst h; simp [h1, h2]
theorem nthC_eq {α : Type _} : ∀ (l : List α) n, nthC l n = l[n]?
  | [], _ => by simp [nthC]
  | x :: _, 0 => by simp [nthC]
  | _ :: l, n + 1 => by simp [nthC, nthC_eq l n]
theorem splice_eq : ∀ c o vs {r}, splice c o vs = some r → o + vs.length ≤ c.length ∧ r = c.take o ++ vs ++ c.drop (o + vs.length)
  | c, 0, [], r, h => by cases c <;> (simp [splice] at h; simp [h])
  | [], 0, _ :: _, r, h => by simp [splice] at h
  | x :: c, 0, v :: vs, r, h => by
    unfold splice at h
    cases hh : splice c 0 vs with
    | none => simp [hh] at h
    | some q =>
      obtain ⟨h1, h2⟩ := splice_eq c 0 vs hh
      simp [hh] at h; subst h; subst h2
      simp only [Nat.zero_add] at h1 ⊢
      refine ⟨by simpa using h1, by simp⟩
  | [], _ + 1, vs, r, h => by simp [splice] at h
  | x :: c, o + 1, vs, r, h => by
    unfold splice at h
    cases hh : splice c o vs with
    | none => simp [hh] at h
    | some q =>
      obtain ⟨h1, h2⟩ := splice_eq c o vs hh
      simp [hh] at h; subst h; subst h2
      refine ⟨by simp; omega, ?_⟩
      rw [show o + 1 + vs.length = (o + vs.length) + 1 by omega]
      simp
theorem one_cells {v : Value} (h : v.oneCell' = true) : v.cells = #[v] := by cases v <;> first | rfl | (simp [Value.oneCell'] at h)
def oneC : SV → Bool
  | .agg _ => false
  | .tup _ => false
  | .undef => false
  | .val (.agg _) => false
  | .val (.tuple _) => false
  | _ => true
def oneL : List SV → Bool
  | [] => true
  | v :: l => match oneC v with
    | true => oneL l
    | false => false
theorem oneC_den {V : Vl} (v : SV) (h : oneC v = true) : (den V v).oneCell' = true := by
  cases v <;> first | rfl | (simp [oneC] at h; done) | skip
  case val x => cases x <;> first | rfl | (simp [oneC] at h)
theorem oneL_den {V : Vl} : ∀ l, oneL l = true → ∀ v ∈ denL V l, v.oneCell' = true
  | [], _, v, hv => by simp [denL] at hv
  | y :: l, h, v, hv => by
    unfold oneL at h
    cases hy : oneC y with
    | false => simp [hy] at h
    | true =>
      simp only [hy] at h
      simp only [denL, List.mem_cons] at hv
      rcases hv with rfl | hv
      · exact oneC_den y hy
      · exact oneL_den l h v hv
def cellsO : SV → Option (List SV)
  | .agg l => some l
  | .tup _ => none
  | .undef => none
  | .val (.agg _) => none
  | .val (.tuple _) => none
  | v => some [v]
theorem cellsO_den {V : Vl} {v : SV} {c : List SV} (h : cellsO v = some c) : (den V v).cells = (denL V c).toArray := by
  have key : oneC v = true → c = [v] → (den V v).cells = (denL V c).toArray := by
    intro h1 h2
    subst h2
    rw [one_cells (oneC_den v h1)]; rfl
  cases v <;> simp only [cellsO, Option.some.injEq, reduceCtorEq] at h <;> first | exact key rfl h.symm | (subst h; rfl) | skip
  case val y => cases y <;> simp only [Option.some.injEq, reduceCtorEq] at h <;> exact key rfl h.symm
def imin (a b : Int) : Int := if b < a then b else a
def imax (a b : Int) : Int := if a < b then b else a
def bitI (op : BinOp) (k : IntKind) (a b : Int) : Int :=
  match op with
  | .and => k.wrap ((BitVec.ofInt k.bits a &&& BitVec.ofInt k.bits b).toNat : Int)
  | .or => k.wrap ((BitVec.ofInt k.bits a ||| BitVec.ofInt k.bits b).toNat : Int)
  | .xor => k.wrap ((BitVec.ofInt k.bits a ^^^ BitVec.ofInt k.bits b).toNat : Int)
  | _ => k.wrap ((BitVec.ofInt k.bits a &&& ~~~ BitVec.ofInt k.bits b).toNat : Int)
def rng : IntKind → Int → List Prop
  | .i64, n => [-9223372036854775808 ≤ n, n ≤ 9223372036854775807]
  | .i32, n => [-2147483648 ≤ n, n ≤ 2147483647]
  | .i16, n => [-32768 ≤ n, n ≤ 32767]
  | .i8, n => [-128 ≤ n, n ≤ 127]
  | .u64, n => [0 ≤ n, n ≤ 18446744073709551615]
  | .u32, n => [0 ≤ n, n ≤ 4294967295]
  | .u16, n => [0 ≤ n, n ≤ 65535]
  | .u8, n => [0 ≤ n, n ≤ 255]
theorem rng_wrap {k : IntKind} {n : Int} (h : AllP (rng k n)) : k.wrap n = n := by
  cases k <;> simp only [rng, AllP] at h <;> (unfold IntKind.wrap; simp only [IntKind.bits, IntKind.signed]; simp; omega)
def keq : IntKind → IntKind → Bool
  | .i8, .i8 => true
  | .i16, .i16 => true
  | .i32, .i32 => true
  | .i64, .i64 => true
  | .u8, .u8 => true
  | .u16, .u16 => true
  | .u32, .u32 => true
  | .u64, .u64 => true
  | _, _ => false
theorem keq_eq {a b : IntKind} (h : keq a b = true) : a = b := by cases a <;> cases b <;> first | rfl | cases h
def argsS (s : St) : List Operand → Option (List SV)
  | [] => some []
  | x :: l => match s.get x, argsS s l with
    | some v, some r => some (v :: r)
    | _, _ => none
theorem args_eval {V : Vl} {s : St} {a : Act} (he : EnvR V s.env a) : ∀ {l : List Operand} {q}, argsS s l = some q → l.map a.eval = denL V q
  | [], q, h => by simp only [argsS, Option.some.injEq] at h; subst h; rfl
  | x :: l, q, h => by
    unfold argsS at h
    cases hx : s.get x with
    | none => simp [hx] at h
    | some v =>
      cases hl : argsS s l with
      | none => simp [hx, hl] at h
      | some u =>
        simp only [hx, hl, Option.some.injEq] at h
        subst h
        simp only [List.map_cons, he.get hx, args_eval he hl, denL]
theorem args_arr {V : Vl} {s : St} {a : Act} {args : Array Operand} {q : List SV} (he : EnvR V s.env a) (hq : argsS s args.toList = some q) : args.map a.eval = (denL V q).toArray := by
  apply Array.ext'
  simp [args_eval he hq]
def Rid.chP (r : Rid) (i j : Nat) : Rid := match r with
  | ⟨k, p⟩ => ⟨k, app p [(i, j)]⟩
theorem Rid.chP_eq (r : Rid) (i j : Nat) : r.chP i j = r.ch i j := by cases r; simp [Rid.chP, Rid.ch, app_eq]
def descE : (c : Ty) → List (El c) → Path → Option (((c : Ty) × List (El c)) × List Prop)
  | c, l, [] => some (⟨c, l⟩, [])
  | c, l, (i, j) :: p => match nthC (tcells c (gt l i)) j with
    | some (.sl c' l') => match descE c' l' p with
      | some (y, obs) => some (y, (i < l.length) :: obs)
      | none => none
    | _ => none
theorem descE_eq : ∀ {c : Ty} {l : List (El c)} {p : Path} {y : (c : Ty) × List (El c)} {obs : List Prop}, descE c l p = some (y, obs) → AllP obs → desc c l p = some y
  | c, l, [], y, obs, h, _ => by simp only [descE, Option.some.injEq, Prod.mk.injEq] at h; rw [← h.1]; rfl
  | c, l, (i, j) :: p, y, obs, h, ho => by
    unfold descE at h
    split at h
    · rename_i c' l' hj
      split at h
      · rename_i y' obs' hd
        simp only [Option.some.injEq, Prod.mk.injEq] at h
        obtain ⟨rfl, rfl⟩ := h
        obtain ⟨h1, h2⟩ := ho
        rw [nthC_eq] at hj
        simp only [desc, gt_at h1, hj]
        exact descE_eq hd h2
      · cases h
    · cases h
def listE (mem : List (Nat × MB)) (r : Rid) : Option (Kd × ((c : Ty) × List (El c)) × List Prop) := match r with
  | ⟨k, p⟩ => match find mem k with
    | some (.list m c l) => match descE c l p with
      | some (y, obs) => some (m.at p, y, obs)
      | none => none
    | some (.hole _ c l) => match p with
      | [] => some (.own, ⟨c, l⟩, [])
      | _ => none
    | _ => none
theorem listE_eq {mem : List (Nat × MB)} {r : Rid} {d : Kd} {c : Ty} {l : List (El c)} {obs : List Prop} (h : listE mem r = some (d, ⟨c, l⟩, obs)) (ho : AllP obs) : cont mem r = some (.list d c l) := by
  obtain ⟨k, p⟩ := r
  unfold listE at h
  simp only at h
  split at h
  · rename_i m c0 l0 hf
    split at h
    · rename_i y obs' hd
      simp only [Option.some.injEq, Prod.mk.injEq] at h
      obtain ⟨rfl, rfl, rfl⟩ := h
      refine cont_iff.2 ⟨_, hf, ?_⟩
      simp only [contB, descE_eq hd ho]
    · cases h
  · rename_i b0 c0 l0 hf
    cases p with
    | nil =>
      simp only [Option.some.injEq, Prod.mk.injEq] at h
      obtain ⟨rfl, e, rfl⟩ := h
      cases e
      exact cont_iff.2 ⟨_, hf, rfl⟩
    | cons _ _ => cases h
  · cases h
def openT (r : Rid) (i j : Nat) : TC → SV
  | .int k n => .int k n
  | .bool b => .bool b
  | .str s => .str s
  | .sl _ _ => .sl (r.chP i j)
theorem openT_den (V : Vl) (r : Rid) (i j : Nat) (d : TC) : den V (openT r i j d) = denT V (r.ch i j) d := by cases d <;> simp [openT, den, denT, Rid.chP_eq]
def openL (r : Rid) (i : Nat) : Nat → List TC → List SV
  | _, [] => []
  | j, d :: l => openT r i j d :: openL r i (j + 1) l
theorem openL_get (r : Rid) (i : Nat) : ∀ (j : Nat) (l : List TC) (m : Nat), (openL r i j l)[m]? = (l[m]?).map (openT r i (j + m))
  | _, [], m => by simp [openL]
  | j, d :: l, 0 => by simp [openL]
  | j, d :: l, m + 1 => by
    simp only [openL, List.getElem?_cons_succ]
    rw [openL_get r i (j + 1) l m, show j + 1 + m = j + (m + 1) by omega]
structure EvTo (x : Cx) (s : St) (op : Op) (v : SV) : Prop where
  run : ∀ D0 V a w, EnvR V s.env a → Ents D0 V s w → ∀ dst ty pos after guard, (execOp a.eval ⟨dst, op, ty, pos, after, guard⟩).run x.P w = .ok (.value (den V v)) w
theorem fin_v {P : Program} {x : Sem Value} {v : Value} {w : World} (hx : x.run P w = .ok v w) : (do pure (.value (← x)) : Sem Next).run P w = .ok (.value v) w := by
  simp only [Sem.run_bind, hx, Result.andThen_ok, Sem.run_pure]
theorem r_loadVar_agg {P : Program} {t : TypeId} {ti : TI} (ht : TIok P t ti) (hg : ti.td.agg = true) {w : World} {a : Addr} {cs : List Value} (hl : cs.length = ti.zs.length) (h : ∀ j v, cs[j]? = some v → w.cell? (a.add j) = some v) :
    (loadVar t a).run P w = .ok (.agg cs.toArray) w := by
  obtain ⟨i, h1, h2, _⟩ := ht.info
  obtain ⟨d, h4, h5⟩ := ht.desc
  have e := run_loadCells_list (P := P) w a cs h
  simp only [loadVar, Sem.run_bind, r_isAgg h4, agg_of h5, hg, Result.andThen_ok, if_true, r_sizeOf h1, h2, TI.zero_len, ← hl, e]
  rfl
theorem r_loadVar_one {P : Program} {t : TypeId} {ti : TI} (ht : TIok P t ti) (hg : ti.td.agg = false) {w : World} {a : Addr} {v : Value} (h : w.cell? a = some v) :
    (loadVar t a).run P w = .ok v w := by
  obtain ⟨d, h4, h5⟩ := ht.desc
  simp only [loadVar, Sem.run_bind, r_isAgg h4, agg_of h5, hg, Result.andThen_ok, Bool.false_eq_true, if_false, run_load, h]
theorem cell_of {w : World} {b o : Nat} {cs : Array Value} {t : TypeId} {fz : Nat × Nat} {v : Value} (hb : w.heap[b]? = some (.cells cs t fz)) (hv : cs[o]? = some v) : w.cell? ⟨b, o, none⟩ = some v := by
  simp only [World.cell?, hb, Option.isSome_none, Bool.false_eq_true, if_false]; exact hv
theorem run_loadG {P : Program} {t : TypeId} {p : Value} {b o : Nat} {ti : TI} {V : Vl} {c : List SV} {f : Nat} {v : SV} {w : World} (hp : p = .pointer (some ⟨b, o + f, none⟩)) (ht : TIok P t ti) (hc : ∀ j u, c[j]? = some u → w.cell? ⟨b, o + j, none⟩ = some (den V u))
    (hv : (match ti.td.agg with | true => (takeC (dropC c f) ti.zs.length).map SV.agg | false => nthC c f) = some v) : (Instr.loadAt t p).run P w = .ok (den V v) w := by
  subst hp
  simp only [Instr.loadAt, Instr.sureAddr, Sem.run_bind, Sem.run_pure, Result.andThen_ok]
  cases hg : ti.td.agg with
  | false =>
    simp only [hg] at hv
    rw [nthC_eq] at hv
    exact r_loadVar_one ht hg (hc f v hv)
  | true =>
    simp only [hg] at hv
    obtain ⟨l, hl, rfl⟩ := Option.map_eq_some_iff.1 hv
    obtain ⟨q1, q2⟩ := takeC_eq _ _ hl
    rw [dropC_eq] at q1 q2
    refine r_loadVar_agg ht hg (by rw [denL_length, q2]; simp at q1 ⊢; omega) (fun j u hj => ?_)
    rw [Addr.add_mid]
    rw [denL_get', q2, List.getElem?_take] at hj
    split at hj
    · rw [List.getElem?_drop] at hj
      obtain ⟨y, hy, rfl⟩ := Option.map_eq_some_iff.1 hj
      have := hc (f + j) y hy
      rw [show o + f + j = o + (f + j) by omega]
      exact this
    · simp at hj
theorem row_cells {V : Vl} {w : World} {r : Rid} {d : Kd} {c : Ty} {l : List (El c)} (h : AtB V w r (.list d c l)) {i : Nat} (hi : i < l.length) : ∃ a, (V r).a = some a ∧ a.spot = none ∧ ∀ j u, (openL r i 0 (tcells c (gt l i)))[j]? = some u → w.cell? ⟨a.block, a.off + (i * wid c) + j, none⟩ = some (den V u) := by
  obtain ⟨h1, h2, h3, h4⟩ := h
  have hx := gt_at hi
  have hj0 : 0 < (tcells c (gt l i)).length := by rw [tcells_len]; exact wid_pos c
  obtain ⟨a, g1, g2, _⟩ := h4 i _ hx 0 _ (List.getElem?_eq_getElem hj0)
  refine ⟨a, g1, g2, fun j u hu => ?_⟩
  rw [openL_get] at hu
  obtain ⟨d', hd, rfl⟩ := Option.map_eq_some_iff.1 hu
  obtain ⟨a', g3, g4, g5⟩ := h4 i _ hx j d' hd
  rw [g1] at g3
  cases g3
  rw [Nat.zero_add, openT_den, Nat.add_assoc]
  exact g5
end Go.Proofs.Ytkageldgmkajbaa
namespace Go.Proofs.Ytkageldgmkajbaa
open Go.RowKit
abbrev Ev := Option (SV × List Prop)
def loadC (ti : TI) (c : List SV) (o : Nat) : Option SV := match ti.td.agg with
  | true => match takeC (dropC c o) ti.zs.length with
    | some l => some (.agg l)
    | none => none
  | false => nthC c o
theorem loadC_eq {ti : TI} {c : List SV} {o : Nat} {v : SV} (h : loadC ti c o = some v) : (match ti.td.agg with | true => (takeC (dropC c o) ti.zs.length).map SV.agg | false => nthC c o) = some v := by
  unfold loadC at h
  split at h
  · rename_i hg
    split at h
    · rename_i l hl; cases h; simp only [hl, Option.map_some]
    · cases h
  · exact h
def evLoad (L : Lay) (s : St) (t : TypeId) (p : SV) : Ev := match find L t with
  | none => none
  | some ti => match p with
    | .ptr k o => match find s.mem k with
      | some (.cells c) => match loadC ti c o with
        | some v => some (v, [])
        | none => none
      | some (.deck v) => match o, ti.td.agg with
        | 0, false => some (v, [])
        | _, _ => none
      | _ => none
    | .el r es i f => match listE s.mem r with
      | some (_, ⟨c, l⟩, obs) => match Nat.beq es (wid c) with
        | true => match loadC ti (openL r i 0 (tcells c (gt l i))) f with
          | some v => some (v, (i < l.length) :: obs)
          | none => none
        | false => none
      | none => none
    | _ => none
section
variable {x : Cx} {s : St} (hL : LayOk x.P x.L)
include hL
theorem evLoad_ok {t : TypeId} {a : Operand} {p v : SV} {obs : List Prop} (hp : s.get a = some p) (h : evLoad x.L s t p = some (v, obs)) (ho : AllP obs) : EvTo x s (.load t a) v := by
  refine ⟨fun D0 V ac w he hE _ _ _ _ _ => ?_⟩
  simp only [execOp, he.get hp]
  refine fin_v ?_
  unfold evLoad at h
  split at h
  · cases h
  · rename_i ti ht
    have hti := hL.at ht
    split at h
    · rename_i k o
      split at h
      · rename_i c hf
        split at h
        · rename_i v' hv
          simp only [Option.some.injEq, Prod.mk.injEq] at h
          obtain ⟨rfl, rfl⟩ := h
          obtain ⟨b, t', h1, h2⟩ := hE.at_ ⟨k, []⟩ (.cells c) (cont_iff.2 ⟨_, hf, rfl⟩)
          refine run_loadG (b := b) (o := 0) (f := o) (c := c) (by simp only [den, Loc.at, h1, Option.map_some]) hti (fun j u hu => ?_) (loadC_eq hv)
          rw [Nat.zero_add]
          exact cell_of h2 (by simpa using denL_get V hu)
        · cases h
      · rename_i v' hf
        split at h
        · rename_i hg
          simp only [Option.some.injEq, Prod.mk.injEq] at h
          obtain ⟨rfl, rfl⟩ := h
          obtain ⟨b, t', p, a, n, c, h1, h2, h3, _⟩ := hE.at_ ⟨k, []⟩ (.deck v') (cont_iff.2 ⟨_, hf, rfl⟩)
          simp only [den, Loc.at, h1, Option.map_some, Instr.loadAt, Instr.sureAddr, Sem.run_bind, Sem.run_pure, Result.andThen_ok]
          exact r_loadVar_one hti hg (cell_of h2 (by simp))
        · cases h
      · cases h
    · rename_i r es i f
      split at h
      · rename_i d c l obs' hl
        split at h
        · rename_i hes
          split at h
          · rename_i v' hv
            simp only [Option.some.injEq, Prod.mk.injEq] at h
            obtain ⟨rfl, rfl⟩ := h
            obtain ⟨hi, ho'⟩ := ho
            obtain ⟨a0, h1, h2, h3⟩ := row_cells (hE.at_ r _ (listE_eq hl ho')) hi
            have hes' := Nat.eq_of_beq_eq_true hes
            refine run_loadG (b := a0.block) (o := a0.off + i * wid c) (f := f) (by simp only [den, Loc.at, h1, Option.map_some, hes', Nat.add_assoc]) hti (fun j u hu => h3 j u hu) (loadC_eq hv)
          · cases h
        · cases h
      · cases h
    · cases h
omit hL
theorem g_int {P : Program} {op : BinOp} {t : TypeId} {x y : Operand} {k k' : IntKind} {a b : Int} {w : World} : (eqGuard op t x y (.int k a) (.int k' b)).run P w = .ok () w := by
  unfold eqGuard
  split <;> rfl
theorem e_bin {op : BinOp} {a b : Operand} {t t' : TypeId} {p q v : SV} (ha : s.get a = some p) (hb : s.get b = some q)
    (h : ∀ V y z w, (do eqGuard op t y z (den V p) (den V q); binOp op t (den V p) (den V q) : Sem Value).run x.P w = .ok (den V v) w) : EvTo x s (.binOp op t a b t') v :=
  ⟨fun _ V ac w he _ _ _ _ _ _ => by simp only [execOp, he.get ha, he.get hb]; exact fin_v (h V a b w)⟩
def evInts (op : BinOp) (k : IntKind) (m n : Int) : Ev := match op with
  | .add => some (.int k (m + n), rng k (m + n))
  | .sub => some (.int k (m - n), rng k (m - n))
  | .mul => some (.int k (m * n), rng k (m * n))
  | .quo => some (.int k (m.tdiv n), (n ≠ 0) :: rng k (m.tdiv n))
  | .rem => some (.int k (m.tmod n), [n ≠ 0])
  | .and => some (.int k (bitI .and k m n), [])
  | .or => some (.int k (bitI .or k m n), [])
  | .xor => some (.int k (bitI .xor k m n), [])
  | .andNot => some (.int k (bitI .andNot k m n), [])
  | .eql => some (.bool (decide (m = n)), [])
  | .neq => some (.bool (!decide (m = n)), [])
  | .lss => some (.bool (decide (m < n)), [])
  | .leq => some (.bool (decide (m ≤ n)), [])
  | .gtr => some (.bool (decide (n < m)), [])
  | .geq => some (.bool (decide (n ≤ m)), [])
  | _ => none
theorem evInts_ok {op : BinOp} {k : IntKind} {m n : Int} {v : SV} {obs : List Prop} (h : evInts op k m n = some (v, obs)) (ho : AllP obs) (V : Vl) (t : TypeId) (y z : Operand) (w : World) :
    (do eqGuard op t y z (.int k m) (.int k n); binOp op t (.int k m) (.int k n) : Sem Value).run x.P w = .ok (den V v) w := by
  cases op <;> simp only [evInts, Option.some.injEq, Prod.mk.injEq, reduceCtorEq] at h <;> obtain ⟨rfl, rfl⟩ := h
  case add => simp only [Sem.run_bind, g_int, Result.andThen_ok, binOp, ne_eq, not_true_eq_false, if_false]; rw [← rng_wrap ho]; simp only [den, rng_wrap ho]; exact congrArg (fun z => Result.ok (Value.int k z) w) (rng_wrap ho)
  case sub => simp only [Sem.run_bind, g_int, Result.andThen_ok, binOp, ne_eq, not_true_eq_false, if_false]; exact congrArg (fun z => Result.ok (Value.int k z) w) (rng_wrap ho)
  case mul => simp only [Sem.run_bind, g_int, Result.andThen_ok, binOp, ne_eq, not_true_eq_false, if_false]; exact congrArg (fun z => Result.ok (Value.int k z) w) (rng_wrap ho)
  case quo => simp only [Sem.run_bind, g_int, Result.andThen_ok, binOp, ne_eq, not_true_eq_false, if_false, Op.intDiv, ho.1]; exact congrArg (fun z => Result.ok (Value.int k z) w) (rng_wrap ho.2)
  case rem => simp only [Sem.run_bind, g_int, Result.andThen_ok, binOp, ne_eq, not_true_eq_false, if_false, Op.intDiv, ho.1]; rfl
  case eql => simp only [Sem.run_bind, g_int, Result.andThen_ok, binOp, ne_eq, not_true_eq_false, if_false]; rfl
  case neq => simp only [Sem.run_bind, g_int, Result.andThen_ok, binOp, ne_eq, not_true_eq_false, if_false]; rfl
  all_goals (simp only [Sem.run_bind, g_int, Result.andThen_ok, binOp, ne_eq, not_true_eq_false, if_false]; rfl)
def evShift (op : BinOp) (k : IntKind) (m n : Int) : Ev := match op with
  | .shl => some (.int k (m * 2 ^ n.toNat), (0 ≤ n) :: (n ≤ (k.bits : Int)) :: rng k (m * 2 ^ n.toNat))
  | .shr => some (.int k (m.fdiv (2 ^ n.toNat)), [0 ≤ n, n ≤ (k.bits : Int)])
  | _ => none
theorem evShift_ok {op : BinOp} {k k' : IntKind} {m n : Int} {v : SV} {obs : List Prop} (h : evShift op k m n = some (v, obs)) (ho : AllP obs) (V : Vl) (t : TypeId) (y z : Operand) (w : World) :
    (do eqGuard op t y z (.int k m) (.int k' n); binOp op t (.int k m) (.int k' n) : Sem Value).run x.P w = .ok (den V v) w := by
  cases op <;> simp only [evShift, Option.some.injEq, Prod.mk.injEq, reduceCtorEq] at h <;> obtain ⟨rfl, rfl⟩ := h
  case shl =>
    obtain ⟨h0, h1, h2⟩ := ho
    have e : min n.toNat k.bits = n.toNat := Nat.min_eq_left (by omega)
    simp only [Sem.run_bind, g_int, Result.andThen_ok]
    show (Op.shift .shl k m k' n).run x.P w = _
    unfold Op.shift
    rw [if_neg (by omega)]
    simp only [e]
    exact congrArg (fun z => Result.ok (Value.int k z) w) (rng_wrap h2)
  case shr =>
    obtain ⟨h0, h1, _⟩ := ho
    have e : min n.toNat k.bits = n.toNat := Nat.min_eq_left (by omega)
    simp only [Sem.run_bind, g_int, Result.andThen_ok]
    show (Op.shift .shr k m k' n).run x.P w = _
    unfold Op.shift
    rw [if_neg (by omega)]
    simp only [e]
    rfl
def asBl : SV → Option Bool
  | .tf b => some b
  | .bool b => some b
  | _ => none
theorem asBl_den {p : SV} {u : Bool} (h : asBl p = some u) (V : Vl) : den V p = .bool u := by cases p <;> simp only [asBl, Option.some.injEq, reduceCtorEq] at h <;> (subst h; rfl)
theorem r_eqB' {P : Program} {t : TypeId} (hu : P.underlying t = some .bool) (d : Nat) (a b : Bool) (w : World) : (Op.equalIn (d + 1) t (.bool a) (.bool b)).run P w = .ok (a == b) w := by
  simp only [Op.equalIn, Sem.run_bind, r_underlying hu, Result.andThen_ok]
  rfl
theorem r_eqB {P : Program} {t : TypeId} (hu : P.underlying t = some .bool) (a b : Bool) (w : World) : (Op.equal t (.bool a) (.bool b)).run P w = .ok (a == b) w := r_eqB' hu 9999 a b w
def evBin (L : Lay) (op : BinOp) (t : TypeId) (p q : SV) : Ev := match p, q with
  | .int k m, .int k' n => match keq k k' with
    | true => match evInts op k m n with
      | some r => some r
      | none => evShift op k m n
    | false => evShift op k m n
  | p, q => match asBl p, asBl q, find L t with
    | some u, some v, some ⟨_, .bool, _, _⟩ => match op with
      | .eql => some (.bool (u == v), [])
      | .neq => some (.bool (u != v), [])
      | _ => none
    | _, _, _ => none
include hL
theorem evBin_ok {op : BinOp} {a b : Operand} {t t' : TypeId} {p q v : SV} {obs : List Prop} (ha : s.get a = some p) (hb : s.get b = some q) (h : evBin x.L op t p q = some (v, obs)) (ho : AllP obs) : EvTo x s (.binOp op t a b t') v := by
  unfold evBin at h
  split at h
  · rename_i k m k' n
    refine e_bin ha hb fun V y z w => ?_
    split at h
    · rename_i hk
      have := keq_eq hk
      subst this
      split at h
      · rename_i r hr
        cases h
        exact evInts_ok hr ho V t y z w
      · exact evShift_ok h ho V t y z w
    · exact evShift_ok h ho V t y z w
  · split at h
    · rename_i u v' zs by_ code hu hv hf
      have hb' := td_bool (P := x.P) (d := (hL.at hf).desc.choose) (hL.at hf).desc.choose_spec.2
      have hty := (hL.at hf).desc.choose_spec.1
      rw [hb'] at hty
      split at h
      · cases h
        refine e_bin ha hb fun V y z w => ?_
        simp only [asBl_den hu, asBl_den hv]
        show (do let z ← Op.equal t (.bool u) (.bool v'); pure (.bool z) : Sem Value).run x.P w = _
        simp only [Sem.run_bind, r_eqB hty, Result.andThen_ok]
        rfl
      · cases h
        refine e_bin ha hb fun V y z w => ?_
        simp only [asBl_den hu, asBl_den hv]
        show (do let z ← Op.equal t (.bool u) (.bool v'); pure (.bool !z) : Sem Value).run x.P w = _
        simp only [Sem.run_bind, r_eqB hty, Result.andThen_ok]
        rfl
      · cases h
    · cases h
omit hL
def evUn (op : UnOp) (p : SV) : Ev := match op, p with
  | .not, .tf b => match b with
    | true => some (.tf false, [])
    | false => some (.tf true, [])
  | .not, .bool b => some (.bool (!b), [])
  | .neg, .int k n => some (.int k (-n), rng k (-n))
  | .xor, .int k n => some (.int k (bitI .xor k (if k.signed then -1 else k.max) n), [])
  | _, _ => none
theorem evUn_ok {op : UnOp} {a : Operand} {t : TypeId} {p v : SV} {obs : List Prop} (ha : s.get a = some p) (h : evUn op p = some (v, obs)) (ho : AllP obs) : EvTo x s (.unOp op t a) v := by
  refine ⟨fun _ V ac w he _ _ _ _ _ _ => ?_⟩
  unfold evUn at h
  split at h
  · split at h <;> (cases h; simp only [execOp, he.get ha]; exact fin_v rfl)
  · cases h; simp only [execOp, he.get ha]; exact fin_v rfl
  · simp only [Option.some.injEq, Prod.mk.injEq] at h
    obtain ⟨rfl, rfl⟩ := h
    rename_i k n
    have e : (0 : Int) - n = -n := by omega
    simp only [execOp, he.get ha]
    refine fin_v ?_
    have := rng_wrap ho
    rw [← e] at this
    show Result.ok (Value.int k (k.wrap (0 - n))) w = _
    rw [this, e]; rfl
  · cases h; simp only [execOp, he.get ha]; exact fin_v rfl
  · cases h
def evConv (L : Lay) (t t' : TypeId) (p : SV) : Ev := match p, find L t, find L t' with
  | .int _ n, some _, some ⟨_, .int k, _, _⟩ => some (.int k n, rng k n)
  | _, _, _ => none
include hL
theorem evConv_ok {a : Operand} {t t' : TypeId} {p v : SV} {obs : List Prop} (ha : s.get a = some p) (h : evConv x.L t t' p = some (v, obs)) (ho : AllP obs) : EvTo x s (.convert t t' a) v := by
  refine ⟨fun _ V ac w he _ _ _ _ _ _ => ?_⟩
  unfold evConv at h
  split at h
  · rename_i k' n ts zs k by_ code hs hd
    simp only [Option.some.injEq, Prod.mk.injEq] at h
    obtain ⟨rfl, rfl⟩ := h
    obtain ⟨ds, h4, _⟩ := (hL.at hs).desc
    obtain ⟨dd, h5, h6⟩ := (hL.at hd).desc
    have := td_int h6
    subst this
    simp only [execOp, he.get ha]
    refine fin_v ?_
    simp only [convert, Sem.run_bind, r_underlying h4, r_underlying h5, Result.andThen_ok, den]
    have e := rng_wrap ho
    cases ds <;> exact congrArg (fun z => Result.ok (Value.int k z) w) e
  · cases h
omit hL
def placeS : List FI → Nat → Option (Nat × Nat)
  | [], _ => none
  | f :: _, 0 => some (f.off, f.size)
  | _ :: l, i + 1 => placeS l i
def fillS (place : Nat → Option (Nat × Nat)) (cells : List SV) : List (Nat × SV) → Option (List SV)
  | [] => some cells
  | (i, v) :: rest => match place i with
    | none => none
    | some (off, size) => match cellsO v with
      | none => none
      | some cv => match Nat.beq cv.length size with
        | true => match splice cells off cv with
          | some c => fillS place c rest
          | none => none
        | false => none
def partsS (s : St) : List (Nat × Operand) → Option (List (Nat × SV))
  | [] => some []
  | (i, x) :: l => match s.get x, partsS s l with
    | some v, some r => some ((i, v) :: r)
    | _, _ => none
theorem foldl_set (off : Nat) : ∀ (vs : List Value) (i : Nat) (cs : Array Value), off + i + vs.length ≤ cs.size →
    (vs.zipIdx i).foldl (fun cs (x : Value × Nat) => cs.setIfInBounds (off + x.2) x.1) cs = (cs.toList.take (off + i) ++ vs ++ cs.toList.drop (off + i + vs.length)).toArray
  | [], i, cs, _ => by simp
  | v :: vs, i, cs, h => by
    simp only [List.zipIdx_cons, List.foldl_cons]
    rw [foldl_set off vs (i + 1) _ (by simp at h ⊢; omega)]
    have e := list_seg_step cs.toList (off + i) v vs (by simp at h ⊢; omega)
    simpa [Array.toList_setIfInBounds, Nat.add_assoc] using e
theorem denL_splice (V : Vl) {c vs c' : List SV} {o : Nat} (h : splice c o vs = some c') : denL V c' = (denL V c).take o ++ denL V vs ++ (denL V c).drop (o + (denL V vs).length) ∧ o + vs.length ≤ c.length := by
  obtain ⟨h1, h2⟩ := splice_eq _ _ _ h
  subst h2
  exact ⟨by rw [denL_append, denL_append, denL_take, denL_drop, denL_length], h1⟩
theorem fill_sound {V : Vl} {place : Nat → Option (Nat × Nat)} : ∀ {parts : List (Nat × SV)} {cells out : List SV}, fillS place cells parts = some out →
    Instr.fill place (denL V cells).toArray (parts.map fun x => (x.1, den V x.2)) = some (denL V out).toArray
  | [], cells, out, h => by simp only [fillS, Option.some.injEq] at h; subst h; rfl
  | (i, v) :: rest, cells, out, h => by
    unfold fillS at h
    cases hp : place i with
    | none => simp [hp] at h
    | some q =>
      obtain ⟨off, size⟩ := q
      simp only [hp] at h
      cases hc : cellsO v with
      | none => simp [hc] at h
      | some cv =>
        cases hs : Nat.beq cv.length size with
        | false => simp [hc, hs] at h
        | true =>
          simp only [hc, hs] at h
          cases hq : splice cells off cv with
          | none => simp [hq] at h
          | some c =>
            simp only [hq] at h
            obtain ⟨h1, h2⟩ := denL_splice V hq
            have ih := fill_sound (V := V) h
            have hz : cv.length = size := Nat.eq_of_beq_eq_true hs
            simp only [List.map_cons, Instr.fill, hp, cellsO_den hc]
            have e1 : (denL V cv).toArray.size = size := by simp [denL_length, hz]
            rw [if_neg (by simp [denL_length] at h2 e1 ⊢; omega)]
            have e2 := foldl_set off (denL V cv) 0 (denL V cells).toArray (by simp [denL_length]; omega)
            simp only [Nat.add_zero] at e2
            rw [h1] at ih
            rw [← ih]
            congr 1
            rw [← e2]
            simp
theorem parts_eval {V : Vl} {a : Act} (he : EnvR V s.env a) : ∀ {l : List (Nat × Operand)} {q}, partsS s l = some q → l.map (fun x => (x.1, a.eval x.2)) = q.map fun x => (x.1, den V x.2)
  | [], q, h => by simp only [partsS, Option.some.injEq] at h; subst h; rfl
  | (i, x) :: l, q, h => by
    unfold partsS at h
    cases hx : s.get x with
    | none => simp [hx] at h
    | some v =>
      cases hl : partsS s l with
      | none => simp [hx, hl] at h
      | some u =>
        simp only [hx, hl, Option.some.injEq] at h
        subst h
        simp only [List.map_cons, he.get hx, parts_eval he hl]
theorem places_of {P : Program} : ∀ {l : List Field} {fs : List FI}, fisOf P l = some fs → l.mapM (fun f => (P.info? f.type).map fun i => (f.offset, i.size)) = some (fs.map fun f => (f.off, f.size))
  | [], fs, h => by simp only [fisOf, Option.some.injEq] at h; subst h; rfl
  | f :: l, fs, h => by
    unfold fisOf at h
    cases hf : fiOf P f with
    | none => simp [hf] at h
    | some x =>
      cases hl : fisOf P l with
      | none => simp [hf, hl] at h
      | some y =>
        simp only [hf, hl, Option.some.injEq] at h
        subst h
        have ih := places_of hl
        unfold fiOf at hf
        cases hi : P.info? f.type with
        | none => simp [hi] at hf
        | some i =>
          cases hu : P.underlying f.type with
          | none => simp [hi, hu] at hf
          | some d =>
            simp only [hi, hu] at hf
            split at hf
            · cases hf
            · cases hf
              simp [List.mapM_cons, hi, ih]
theorem placeS_eq : ∀ (fs : List FI) (i : Nat), placeS fs i = (fs.map fun f => (f.off, f.size))[i]?
  | [], i => by simp [placeS]
  | f :: l, 0 => by simp [placeS]
  | f :: l, i + 1 => by simp [placeS, placeS_eq l i]
def evBuild (L : Lay) (s : St) (t : TypeId) (ps : List (Nat × Operand)) : Ev := match find L t, partsS s ps with
  | some ⟨zs, .struct fs, _, _⟩, some q => match fillS (placeS fs) zs q with
    | some l => some (.agg l, [])
    | none => none
  | some ⟨zs, .array _ es _, _, _⟩, some q => match fillS (fun i => some (i * es, es)) zs q with
    | some l => some (.agg l, [])
    | none => none
  | _, _ => none
include hL
theorem evBuild_ok {t : TypeId} {ps : Array (Nat × Operand)} {v : SV} {obs : List Prop} (h : evBuild x.L s t ps.toList = some (v, obs)) : EvTo x s (.build t ps) v := by
  refine ⟨fun D0 V a w he hE _ _ _ _ _ => ?_⟩
  unfold evBuild at h
  split at h
  · rename_i zs fs by_ code q ht hq
    split at h
    · rename_i l hf
      cases h
      have hti := hL.at ht
      obtain ⟨i, h1, h2, h3, _⟩ := hti.info
      obtain ⟨d, h4, h5⟩ := hti.desc
      have pe : ((ps.map fun (x : Nat × Operand) => (x.1, a.eval x.2)).toList) = q.map fun x => (x.1, den V x.2) := by simp [parts_eval he hq]
      simp only [execOp]
      refine fin_v (run_build w t _ _ ?_)
      obtain ⟨fields, rfl, h6⟩ := td_struct h5
      have hz : i.zero = some (.agg (TI.zero ⟨zs, .struct fs, by_, code⟩).toArray) := by rw [h3]; simp [TI.zval, TD.agg]
      simp only [Program.built, h1, h4, hz, places_of h6, Value.cells]
      have := fill_sound (V := V) hf
      rw [hti.zs] at this
      rw [show (fun (i : Nat) => (fs.map fun f => (f.off, f.size)).toArray[i]?) = placeS fs from funext fun i => by simp [placeS_eq]]
      rw [← this]
      exact congrArg _ pe
    · cases h
  · rename_i zs n es ea by_ code q ht hq
    split at h
    · rename_i l hf
      cases h
      have hti := hL.at ht
      obtain ⟨i, h1, h2, h3, _⟩ := hti.info
      obtain ⟨d, h4, h5⟩ := hti.desc
      have pe : ((ps.map fun (x : Nat × Operand) => (x.1, a.eval x.2)).toList) = q.map fun x => (x.1, den V x.2) := by simp [parts_eval he hq]
      simp only [execOp]
      refine fin_v (run_build w t _ _ ?_)
      obtain ⟨e, ie, de, rfl, e2, e3, e4, e5⟩ := td_array h5
      have hz : i.zero = some (.agg (TI.zero ⟨zs, .array n es ea, by_, code⟩).toArray) := by rw [h3]; simp [TI.zval, TD.agg]
      simp only [Program.built, h1, h4, hz, e2, Value.cells, e3]
      have := fill_sound (V := V) hf
      rw [hti.zs] at this
      rw [← this]
      exact congrArg _ pe
    · cases h
  · cases h
omit hL
end
end Go.Proofs.Ytkageldgmkajbaa
namespace Go.Proofs.Ytkageldgmkajbaa
open Go.RowKit
section
variable {x : Cx} {s : St} (hL : LayOk x.P x.L)
def evField (L : Lay) (t : TypeId) (p : SV) (i : Nat) : Ev := match p, find L t with
  | .agg l, some ⟨_, .struct fs, _, _⟩ => match nthC fs i with
    | some f => match f.agg with
      | true => match takeC (dropC l f.off) f.size with
        | some q => some (.agg q, [])
        | none => none
      | false => match nthC l f.off with
        | some v => some (v, [])
        | none => none
    | none => none
  | _, _ => none
include hL
theorem evField_ok {t : TypeId} {a : Operand} {i : Nat} {p v : SV} {obs : List Prop} (ha : s.get a = some p) (h : evField x.L t p i = some (v, obs)) : EvTo x s (.field t a i) v := by
  refine ⟨fun _ V ac w he _ _ _ _ _ _ => ?_⟩
  unfold evField at h
  split at h
  · rename_i l zs fs by_ code ht
    obtain ⟨d, h4, h5⟩ := (hL.at ht).desc
    obtain ⟨fields, rfl, h6⟩ := td_struct h5
    split at h
    · rename_i f hf
      rw [nthC_eq] at hf
      obtain ⟨g, j, de, e1, e2, e3, e4, e5, e6, _⟩ := field_of h6 hf
      have e1' : fields[i]? = some g := by simpa using e1
      simp only [execOp, he.get ha, den]
      refine fin_v ?_
      split at h
      · rename_i hg
        split at h
        · rename_i q hv
          cases h
          obtain ⟨q1, q2⟩ := takeC_eq _ _ hv
          rw [dropC_eq] at q1 q2
          simp only [Instr.field, Sem.run_bind, r_underlying h4, Result.andThen_ok, e1', asAgg, Sem.run_pure, part, r_isAgg e3, ← e6, hg, if_true, r_sizeOf e2, ← e4, ← e5]
          show Result.ok _ _ = Result.ok _ _
          congr 1
          rw [q2]
          simp only [den, denL_take, denL_drop]
          congr 1
          apply Array.ext'
          simp
        · cases h
      · rename_i hg
        split at h
        · rename_i v' hv
          cases h
          rw [nthC_eq] at hv
          simp only [Instr.field, Sem.run_bind, r_underlying h4, Result.andThen_ok, e1', asAgg, Sem.run_pure, part, r_isAgg e3, ← e6, hg, Bool.false_eq_true, if_false, ← e4]
          have := denL_get V hv
          simp [this]
        · cases h
    · cases h
  · cases h
omit hL
def sureP (s : St) : SV → Option (List Prop)
  | .ptr k _ => match find s.mem k with
    | some (.cells _) => some []
    | some (.deck _) => some []
    | _ => none
  | .el r _ i _ => match listE s.mem r with
    | some (_, ⟨_, l⟩, obs) => some ((i < l.length) :: obs)
    | none => none
  | _ => none
theorem sureP_ok {p : SV} {obs : List Prop} (h : sureP s p = some obs) (ho : AllP obs) {D0 : Nat → Prop} {V : Vl} {w : World} (hE : Ents D0 V s w) : ∃ b o, den V p = .pointer (some ⟨b, o, none⟩) ∧ ((∃ k j, p = .ptr k j ∧ ∀ j', den V (.ptr k (j + j')) = .pointer (some ⟨b, o + j', none⟩)) ∨ ∃ r es i f, p = .el r es i f ∧ ∀ j', den V (.el r es i (f + j')) = .pointer (some ⟨b, o + j', none⟩)) := by
  have ptr : ∀ k j b, (V ⟨k, []⟩).a = some ⟨b, 0, none⟩ → ∃ b o, den V (.ptr k j) = .pointer (some ⟨b, o, none⟩) ∧ ((∃ k' j', SV.ptr k j = .ptr k' j' ∧ ∀ j'', den V (.ptr k' (j' + j'')) = .pointer (some ⟨b, o + j'', none⟩)) ∨ ∃ r es i f, SV.ptr k j = .el r es i f ∧ ∀ j', den V (.el r es i (f + j')) = .pointer (some ⟨b, o + j', none⟩)) := by
    intro k j b hb
    refine ⟨b, j, by simp only [den, Loc.at, hb, Option.map_some, Nat.zero_add], .inl ⟨k, j, rfl, fun j'' => by simp only [den, Loc.at, hb, Option.map_some, Nat.zero_add]⟩⟩
  unfold sureP at h
  split at h
  · rename_i k j
    split at h
    · rename_i c hf
      obtain ⟨b, t, h1, h2⟩ := hE.at_ ⟨k, []⟩ (.cells c) (cont_iff.2 ⟨_, hf, rfl⟩)
      exact ptr k j b h1
    · rename_i v hf
      obtain ⟨b, t, _, _, _, _, h1, h2⟩ := hE.at_ ⟨k, []⟩ (.deck v) (cont_iff.2 ⟨_, hf, rfl⟩)
      exact ptr k j b h1
    · cases h
  · rename_i r es i f
    split at h
    · rename_i d c l obs' hl
      cases h
      obtain ⟨a, h1, h2, h3⟩ := row_cells (hE.at_ r _ (listE_eq hl ho.2)) ho.1
      refine ⟨a.block, a.off + (i * es + f), by simp only [den, Loc.at, h1, Option.map_some], .inr ⟨r, es, i, f, rfl, fun j' => by simp only [den, Loc.at, h1, Option.map_some, Nat.add_assoc]⟩⟩
    · cases h
  · cases h
def moveP (d : Nat) : SV → Option SV
  | .ptr k o => some (.ptr k (o + d))
  | .el r es i f => some (.el r es i (f + d))
  | _ => none
theorem moveP_ok {p q : SV} {d : Nat} {obs : List Prop} (hm : moveP d p = some q) (h : sureP s p = some obs) (ho : AllP obs) {D0 : Nat → Prop} {V : Vl} {w : World} (hE : Ents D0 V s w) : ∃ b o, den V p = .pointer (some ⟨b, o, none⟩) ∧ den V q = .pointer (some ⟨b, o + d, none⟩) := by
  obtain ⟨b, o, h1, h2⟩ := sureP_ok h ho hE
  refine ⟨b, o, h1, ?_⟩
  rcases h2 with ⟨k, j, rfl, h2⟩ | ⟨r, es, i, f, rfl, h2⟩
  · simp only [moveP, Option.some.injEq] at hm; subst hm; exact h2 d
  · simp only [moveP, Option.some.injEq] at hm; subst hm; exact h2 d
def evFaddr (L : Lay) (s : St) (t : TypeId) (p : SV) (i : Nat) : Ev := match find L t, sureP s p with
  | some ⟨_, .struct fs, _, _⟩, some obs => match nthC fs i with
    | some f => match moveP f.off p with
      | some q => some (q, obs)
      | none => none
    | none => none
  | _, _ => none
include hL
theorem evFaddr_ok {t : TypeId} {a : Operand} {i : Nat} {p v : SV} {obs : List Prop} (ha : s.get a = some p) (h : evFaddr x.L s t p i = some (v, obs)) (ho : AllP obs) : EvTo x s (.fieldAddr t a i) v := by
  refine ⟨fun D0 V ac w he hE _ _ _ _ _ => ?_⟩
  unfold evFaddr at h
  split at h
  · rename_i zs fs by_ code obs' ht hs
    split at h
    · rename_i f hf
      split at h
      · rename_i q hq
        simp only [Option.some.injEq, Prod.mk.injEq] at h
        obtain ⟨rfl, rfl⟩ := h
        obtain ⟨b, o, h1, h2⟩ := moveP_ok hq hs ho hE
        obtain ⟨d, h4, h5⟩ := (hL.at ht).desc
        obtain ⟨fields, rfl, h6⟩ := td_struct h5
        rw [nthC_eq] at hf
        obtain ⟨g, j, de, e1, e2, e3, e4, e5, e6, e7⟩ := field_of h6 hf
        have e1' : fields[i]? = some g := by simpa using e1
        simp only [execOp, he.get ha, h1, h2]
        refine fin_v ?_
        simp only [Instr.fieldAt, Sem.run_bind, r_underlying h4, Result.andThen_ok, e1', Instr.sureAddr, Sem.run_pure, fieldPlace, r_sizeOf e2, if_neg e7, Addr.add_mid, e4]
      · cases h
    · cases h
  · cases h
omit hL
def evIndex (L : Lay) (t : TypeId) (p q : SV) : Ev := match p, q, find L t with
  | .agg l, .int _ z, some ⟨_, .array n es false, _, _⟩ => match nthC l (z.toNat * es) with
    | some v => some (v, [0 ≤ z, z < (n : Int)])
    | none => none
  | _, _, _ => none
include hL
theorem evIndex_ok {t : TypeId} {a b : Operand} {p q v : SV} {obs : List Prop} (ha : s.get a = some p) (hb : s.get b = some q) (h : evIndex x.L t p q = some (v, obs)) (ho : AllP obs) : EvTo x s (.index t a b) v := by
  refine ⟨fun _ V ac w he hE _ _ _ _ _ => ?_⟩
  unfold evIndex at h
  split at h
  · rename_i l ik z zs n es by_ code ht
    split at h
    · rename_i v' hv
      simp only [Option.some.injEq, Prod.mk.injEq] at h
      obtain ⟨rfl, rfl⟩ := h
      obtain ⟨h0, h1, _⟩ := ho
      obtain ⟨d, h4, h5⟩ := (hL.at ht).desc
      obtain ⟨e, i, de, rfl, e2, e3, e4, e5⟩ := td_array h5
      rw [nthC_eq] at hv
      have := denL_get V hv
      simp only [execOp, he.get ha, he.get hb, den]
      refine fin_v ?_
      simp only [Instr.index, asIntOf, Sem.run_bind, Sem.run_pure, r_underlying h4, Result.andThen_ok, if_pos (And.intro h0 h1), r_sizeOf e2, e3, part, r_isAgg e4, e5, Bool.false_eq_true, if_false]
      simp [this]
    · cases h
  · cases h
omit hL
theorem r_ixSl {P : Program} {t e es : Nat} {z : Int} {ik : IntKind} {n : Nat} {bb bo c : Nat} {w : World} (h4 : P.underlying t = some (.slice e)) {i : TypeInfo} (e2 : P.info? e = some i) (e3 : i.size = es) (h0 : 0 ≤ z) (h1 : z < (n : Int)) : (Instr.indexAt t (.slice (some ⟨bb, bo, none⟩) n c) (.int ik z)).run P w = .ok (.pointer (some ⟨bb, bo + z.toNat * es, none⟩)) w := by
  simp only [Instr.indexAt, asIntOf, Instr.sureAddr, Sem.run_bind, Sem.run_pure, r_underlying h4, Result.andThen_ok, if_pos (And.intro h0 h1), r_sizeOf e2, Addr.add_mid, e3]
def leP : Nat → Option Nat → List Prop
  | _, none => []
  | n, some c => [n ≤ c]
def evIxAddr (L : Lay) (s : St) (t : TypeId) (p q : SV) : Ev := match q, find L t with
  | .int _ z, some ⟨_, .array n es _, _, _⟩ => match p with
    | .ptr k o => match sureP s p with
      | some obs => some (.ptr k (o + z.toNat * es), (0 ≤ z) :: (z < (n : Int)) :: obs)
      | none => none
    | _ => none
  | .int _ z, some ⟨_, .slice _ es _, _, _⟩ => match p with
    | .slc k o n _ => match sureP s (.ptr k o) with
      | some obs => some (.ptr k (o + z.toNat * es), (0 ≤ z) :: (z < (n : Int)) :: obs)
      | none => none
    | .sl r => match listE s.mem r with
      | some (_, ⟨_, l⟩, obs) => some (.el r es z.toNat 0, (0 ≤ z) :: (z < (l.length : Int)) :: obs)
      | none => none
    | .vw r es' i n c => match listE s.mem r, Nat.beq es es' with
      | some (_, ⟨_, l⟩, obs), true => some (.el r es (i + z.toNat) 0, (0 ≤ z) :: (z < (n : Int)) :: (i + n ≤ l.length) :: app (leP n c) obs)
      | _, _ => none
    | _ => none
  | _, _ => none
theorem list_cap {V : Vl} {w : World} {r : Rid} {d : Kd} {c : Ty} {l : List (El c)} (h : AtB V w r (.list d c l)) : l.length ≤ (V r).cap := h.2.1
theorem vw_some {V : Vl} {w : World} {r : Rid} {d : Kd} {c : Ty} {l : List (El c)} (h : AtB V w r (.list d c l)) {es i n : Nat} {cx : Option Nat} (h0 : 0 < n) (h1 : i + n ≤ l.length) (h2 : AllP (leP n cx)) {a : Addr} (ha : (V r).a = some a) (hs : a.spot = none) :
    (V r).vw es i n cx = ⟨some ⟨a.block, a.off + i * es, none⟩, n, cx.getD ((V r).cap - i)⟩ := by
  have hc := list_cap h
  have hne : ¬ cx.getD ((V r).cap - i) = 0 := by
    cases cx with
    | none => simp only [Option.getD_none]; omega
    | some c => have := h2.1; simp only [Option.getD_some]; omega
  obtain ⟨b, o, sp⟩ := a
  simp only at hs
  subst hs
  unfold Loc.vw
  simp only [if_neg hne, ha, Option.map_some, Addr.add_mid]
include hL
theorem evIxAddr_ok {t : TypeId} {a b : Operand} {p q v : SV} {obs : List Prop} (ha : s.get a = some p) (hb : s.get b = some q) (h : evIxAddr x.L s t p q = some (v, obs)) (ho : AllP obs) : EvTo x s (.indexAddr t a b) v := by
  refine ⟨fun D0 V ac w he hE _ _ _ _ _ => ?_⟩
  unfold evIxAddr at h
  split at h
  · rename_i ik z zs n es ea by_ code ht
    split at h
    · rename_i k o
      split at h
      · rename_i obs' hs
        simp only [Option.some.injEq, Prod.mk.injEq] at h
        obtain ⟨rfl, rfl⟩ := h
        obtain ⟨h0, h1, ho'⟩ := ho
        obtain ⟨bb, bo, g1, g2⟩ := moveP_ok (q := .ptr k (o + z.toNat * es)) (d := z.toNat * es) rfl hs ho' hE
        obtain ⟨d, h4, h5⟩ := (hL.at ht).desc
        obtain ⟨e, i, de, rfl, e2, e3, e4, e5⟩ := td_array h5
        simp only [execOp, he.get ha, he.get hb, g1, g2]
        refine fin_v ?_
        simp only [den, Instr.indexAt, asIntOf, Instr.sureAddr, Sem.run_bind, Sem.run_pure, r_underlying h4, Result.andThen_ok, if_pos (And.intro h0 h1), r_sizeOf e2, Addr.add_mid, e3]
      · cases h
    · cases h
  · rename_i ik z zs e es ea by_ code ht
    obtain ⟨d, h4, h5⟩ := (hL.at ht).desc
    obtain ⟨i, de, rfl, e2, e3, e4, e5⟩ := td_slice h5
    split at h
    · rename_i k o n c
      split at h
      · rename_i obs' hs
        simp only [Option.some.injEq, Prod.mk.injEq] at h
        obtain ⟨rfl, rfl⟩ := h
        obtain ⟨h0, h1, ho'⟩ := ho
        obtain ⟨bb, bo, g1, g2⟩ := moveP_ok (q := .ptr k (o + z.toNat * es)) (d := z.toNat * es) rfl hs ho' hE
        simp only [execOp, he.get ha, he.get hb, g2]
        refine fin_v ?_
        simp only [den, Value.pointer.injEq] at g1 ⊢
        rw [g1]
        exact r_ixSl h4 e2 e3 h0 h1
      · cases h
    · rename_i r
      split at h
      · rename_i dk c l obs' hl
        simp only [Option.some.injEq, Prod.mk.injEq] at h
        obtain ⟨rfl, rfl⟩ := h
        obtain ⟨h0, h1, ho'⟩ := ho
        have hat := hE.at_ r _ (listE_eq hl ho')
        have hi : z.toNat < l.length := by omega
        obtain ⟨⟨ab, ao, avs⟩, g1, g2, _⟩ := row_cells hat hi
        simp only at g2
        subst g2
        simp only [execOp, he.get ha, he.get hb, den, Loc.hd, Loc.at, g1, Option.map_some, Nat.add_zero]
        refine fin_v ?_
        exact r_ixSl h4 e2 e3 h0 (by rw [hat.1]; exact h1)
      · cases h
    · rename_i r es' i' n c
      split at h
      · rename_i dk cc l obs' hl hbe
        simp only [Option.some.injEq, Prod.mk.injEq] at h
        obtain ⟨rfl, rfl⟩ := h
        obtain ⟨h0, h1, h2, ho'⟩ := ho
        obtain ⟨h3, ho''⟩ := AllP_app.1 ho'
        have := Nat.eq_of_beq_eq_true hbe
        subst this
        have hat := hE.at_ r _ (listE_eq hl ho'')
        have hi : i' + z.toNat < l.length := by omega
        obtain ⟨a0, g1, g2, _⟩ := row_cells hat hi
        have hv := vw_some (es := es) hat (by omega : 0 < n) h2 h3 g1 g2
        simp only [execOp, he.get ha, he.get hb, den, hv, Loc.hd, Loc.at, g1, Option.map_some, Nat.add_zero]
        refine fin_v ?_
        rw [r_ixSl h4 e2 e3 h0 h1, Nat.add_mul, Nat.add_assoc]
      · cases h
    · cases h
  · cases h
omit hL
def evExtract (p : SV) (i : Nat) : Ev := match p with
  | .tup l => match nthC l i with
    | some v => some (v, [])
    | none => none
  | _ => none
theorem evExtract_ok {a : Operand} {i : Nat} {p v : SV} {obs : List Prop} (ha : s.get a = some p) (h : evExtract p i = some (v, obs)) : EvTo x s (.extract a i) v := by
  refine ⟨fun _ V ac w he _ _ _ _ _ _ => ?_⟩
  unfold evExtract at h
  split at h
  · split at h
    · rename_i l v' hv
      cases h
      rw [nthC_eq] at hv
      have := denL_get V hv
      simp only [execOp, he.get ha, den]
      refine fin_v ?_
      simp [Instr.extract, this]
    · cases h
  · cases h
def evNil (s : St) (p : SV) : Ev := match p with
  | .clo f l => some (.clo f l, [])
  | p => match sureP s p with
    | some obs => some (p, obs)
    | none => none
theorem evNil_ok {a : Operand} {p v : SV} {obs : List Prop} (ha : s.get a = some p) (h : evNil s p = some (v, obs)) (ho : AllP obs) : EvTo x s (.nilCheck a) v := by
  refine ⟨fun D0 V ac w he hE _ _ _ _ _ => ?_⟩
  unfold evNil at h
  split at h
  · cases h; simp only [execOp, he.get ha, den]; rfl
  · split at h
    · rename_i obs' hs
      simp only [Option.some.injEq, Prod.mk.injEq] at h
      obtain ⟨rfl, rfl⟩ := h
      obtain ⟨b, o, h1, _⟩ := sureP_ok hs ho hE
      simp only [execOp, he.get ha, h1]; rfl
    · cases h
def evFunc (s : St) (fn : Fn) (first caps : List Operand) : Ev := match fn, first with
  | .func g, [] => match argsS s caps with
    | some l => some (.clo g l, [])
    | none => none
  | _, _ => none
theorem evFunc_ok {fn : Fn} {first caps : Array Operand} {v : SV} {obs : List Prop} (h : evFunc s fn first.toList caps.toList = some (v, obs)) : EvTo x s (.makeFunc fn first caps) v := by
  refine ⟨fun _ V ac w he _ _ _ _ _ _ => ?_⟩
  unfold evFunc at h
  split at h
  · rename_i g hf
    split at h
    · rename_i l hc
      cases h
      simp only [execOp]
      refine fin_v ?_
      have e1 : first = #[] := by apply Array.ext'; simpa using hf
      subst e1
      simp only [Instr.makeFunc, args_arr he hc, den, Array.map_empty]
      rfl
    · cases h
  · cases h
theorem e_builtin {args : Array Operand} {ts : Array TypeId} {b : Builtin} {q : List SV} {v : SV} (hq : argsS s args.toList = some q) (h : ∀ D0 V w, Ents D0 V s w → ∀ ty cs, (builtin b ts ty cs (denL V q).toArray).run x.P w = .ok (.value (den V v)) w) : EvTo x s (.call ⟨.builtin b, args, ts⟩) v :=
  ⟨fun D0 V ac w he hE _ _ _ _ _ => by
    simp only [execOp, resolve, Sem.run_bind, Sem.run_pure, Result.andThen_ok, invoke, args_arr he hq]
    exact h D0 V w hE _ _⟩
def minS : Int → IntKind → List SV → Option Int
  | a, _, [] => some a
  | a, k, .int k' b :: l => match keq k k' with
    | true => minS (imin a b) k l
    | false => none
  | _, _, _ => none
def maxS : Int → IntKind → List SV → Option Int
  | a, _, [] => some a
  | a, k, .int k' b :: l => match keq k k' with
    | true => maxS (imax a b) k l
    | false => none
  | _, _, _ => none
theorem minS_sound {P : Program} {k : IntKind} : ∀ {l : List SV} {a c : Int}, minS a k l = some c → ∀ (V : Vl) w, ((denL V l).foldlM Builtin.min2 (.int k a)).run P w = .ok (.int k c) w
  | [], a, c, h, V, w => by simp only [minS, Option.some.injEq] at h; subst h; rfl
  | x :: l, a, c, h, V, w => by
    cases x <;> simp only [minS] at h <;> first | (cases h; done) | skip
    case int k' b =>
      split at h
      · rename_i hk
        have := keq_eq hk
        subst this
        simp only [denL, den, List.foldlM_cons, Sem.run_bind]
        exact minS_sound h V w
      · cases h
theorem maxS_sound {P : Program} {k : IntKind} : ∀ {l : List SV} {a c : Int}, maxS a k l = some c → ∀ (V : Vl) w, ((denL V l).foldlM Builtin.max2 (.int k a)).run P w = .ok (.int k c) w
  | [], a, c, h, V, w => by simp only [maxS, Option.some.injEq] at h; subst h; rfl
  | x :: l, a, c, h, V, w => by
    cases x <;> simp only [maxS] at h <;> first | (cases h; done) | skip
    case int k' b =>
      split at h
      · rename_i hk
        have := keq_eq hk
        subst this
        simp only [denL, den, List.foldlM_cons, Sem.run_bind]
        exact maxS_sound h V w
      · cases h
def lenS (s : St) : SV → Option (Nat × List Prop)
  | .slc _ _ n _ => some (n, [])
  | .sl r => match listE s.mem r with
    | some (_, ⟨_, l⟩, obs) => some (l.length, obs)
    | none => none
  | .vw _ _ _ n _ => some (n, [])
  | .val (.slice _ n _) => some (n, [])
  | _ => none
theorem lenS_ok {p : SV} {n : Nat} {obs : List Prop} (h : lenS s p = some (n, obs)) (ho : AllP obs) {D0 : Nat → Prop} {V : Vl} {w : World} (hE : Ents D0 V s w) : ∃ a c, den V p = .slice a n c := by
  unfold lenS at h
  split at h
  · cases h; exact ⟨_, _, rfl⟩
  · rename_i r
    split at h
    · rename_i d c l obs' hl
      simp only [Option.some.injEq, Prod.mk.injEq] at h
      obtain ⟨rfl, rfl⟩ := h
      have hat := hE.at_ r _ (listE_eq hl ho)
      exact ⟨(V r).a, (V r).cap, by simp only [den, Loc.hd, hat.1]⟩
    · cases h
  · cases h; exact ⟨_, _, rfl⟩
  · cases h; exact ⟨_, _, rfl⟩
  · cases h
def evCallB (L : Lay) (s : St) (b : Builtin) (ts : List TypeId) (q : List SV) : Ev := match b, q, ts with
  | .len, [p], t :: _ => match find L t, lenS s p with
    | some ⟨_, .slice _ _ _, _, _⟩, some (n, obs) => some (.int .i64 n, obs)
    | _, _ => none
  | .min, .int k m :: l, _ => match minS m k l with
    | some z => some (.int k z, [])
    | none => none
  | .max, .int k m :: l, _ => match maxS m k l with
    | some z => some (.int k z, [])
    | none => none
  | _, _, _ => none
include hL
theorem evCallB_ok {b : Builtin} {args : Array Operand} {ts : Array TypeId} {q : List SV} {v : SV} {obs : List Prop} (hq : argsS s args.toList = some q) (h : evCallB x.L s b ts.toList q = some (v, obs)) (ho : AllP obs) : EvTo x s (.call ⟨.builtin b, args, ts⟩) v := by
  refine e_builtin hq fun D0 V w hE ty cs => ?_
  unfold evCallB at h
  split at h
  · rename_i p t tl hts
    split at h
    · rename_i zs e es ea by_ code n obs' ht hl
      simp only [Option.some.injEq, Prod.mk.injEq] at h
      obtain ⟨rfl, rfl⟩ := h
      obtain ⟨a, c, e1⟩ := lenS_ok hl ho hE
      obtain ⟨d, h4, h5⟩ := (hL.at ht).desc
      obtain ⟨i, de, rfl, _⟩ := td_slice h5
      have h0 : ts[0]? = some t := by
        rw [← Array.getElem?_toList, hts]; rfl
      simp only [denL, e1, den, builtin, Builtin.len_, h0, Sem.run_bind, List.getElem?_toArray, List.getElem?_cons_zero, r_underlying h4, Result.andThen_ok]
      rfl
    · cases h
  · split at h
    · rename_i z hz
      cases h
      have := minS_sound (P := x.P) hz V w
      simp only [builtin, Builtin.min_, denL, den, Sem.run_bind, this, Result.andThen_ok, Sem.run_pure]
    · cases h
  · split at h
    · rename_i z hz
      cases h
      have := maxS_sound (P := x.P) hz V w
      simp only [builtin, Builtin.max_, denL, den, Sem.run_bind, this, Result.andThen_ok, Sem.run_pure]
    · cases h
  · cases h
omit hL
end
end Go.Proofs.Ytkageldgmkajbaa
namespace Go.Proofs.Ytkageldgmkajbaa
open Go.RowKit
abbrev Bd := Option (IntKind × Int)
def bval : IntKind × Int → Value | (k, z) => .int k z
def bnat (d : Nat) : Bd → Nat
  | none => d
  | some (_, z) => z.toNat
def bobs (m : Nat) : Bd → List Prop
  | none => []
  | some (_, z) => [0 ≤ z, z ≤ (m : Int)]
theorem r_bound {P : Program} {w : World} {ik : IntKind} {z : Int} {m : Nat} {k} (h0 : 0 ≤ z) (h1 : z ≤ (m : Int)) : (Instr.sliceBound (.int ik z) m k).run P w = .ok z.toNat w := by
  simp only [Instr.sliceBound, asIntOf, Sem.run_bind, Sem.run_pure, Result.andThen_ok]
  rw [if_pos (And.intro h0 h1)]
  rfl
theorem r_bounds {P : Program} {w : World} {n c : Nat} {lo hi mx : Bd} (hm : mx = none ∨ hi ≠ none) (h1 : AllP (bobs c mx)) (h2 : AllP (bobs (bnat c mx) hi)) (h3 : AllP (bobs (bnat n hi) lo)) :
    (Instr.sliceBounds true n c (lo.map bval) (hi.map bval) (mx.map bval)).run P w = .ok (bnat 0 lo, bnat n hi, bnat c mx) w := by
  cases mx with
  | none =>
    cases hi with
    | none =>
      cases lo with
      | none => rfl
      | some b =>
        obtain ⟨k, z⟩ := b
        have e1 := r_bound (P := P) (w := w) (ik := k) (k := .sliceB) h3.1 h3.2.1
        simp only [bnat] at e1
        simp only [Instr.sliceBounds, Option.map_none, Option.map_some, bval, Sem.run_bind, Sem.run_pure, Result.andThen_ok, Option.isSome_none, Bool.false_eq_true, if_false, e1, bnat]
    | some b =>
      obtain ⟨k, z⟩ := b
      cases lo with
      | none =>
        have e1 := r_bound (P := P) (w := w) (ik := k) (k := .sliceAcap) h2.1 h2.2.1
        simp only [bnat] at e1
        simp only [Instr.sliceBounds, Option.map_none, Option.map_some, bval, Sem.run_bind, Sem.run_pure, Result.andThen_ok, if_true, e1, bnat]
      | some b =>
        obtain ⟨k', z'⟩ := b
        have e1 := r_bound (P := P) (w := w) (ik := k) (k := .sliceAcap) h2.1 h2.2.1
        have e2 := r_bound (P := P) (w := w) (ik := k') (k := .sliceB) h3.1 h3.2.1
        simp only [bnat] at e1 e2
        simp only [Instr.sliceBounds, Option.map_none, Option.map_some, bval, Sem.run_bind, Sem.run_pure, Result.andThen_ok, if_true, e1, bnat, Option.isSome_none, Bool.false_eq_true, if_false, e2]
  | some b =>
    obtain ⟨k, z⟩ := b
    have e0 := r_bound (P := P) (w := w) (ik := k) (k := .slice3Acap) h1.1 h1.2.1
    cases hi with
    | none => rcases hm with h | h <;> simp at h
    | some b =>
      obtain ⟨k1, z1⟩ := b
      have e1 := r_bound (P := P) (w := w) (ik := k1) (k := .slice3B) h2.1 h2.2.1
      simp only [bnat] at e1
      cases lo with
      | none =>
        simp only [Instr.sliceBounds, Option.map_none, Option.map_some, bval, Sem.run_bind, Sem.run_pure, Result.andThen_ok, if_true, e0, e1, bnat]
      | some b =>
        obtain ⟨k', z'⟩ := b
        have e2 := r_bound (P := P) (w := w) (ik := k') (k := .slice3C) h3.1 h3.2.1
        simp only [bnat] at e2
        simp only [Instr.sliceBounds, Option.map_none, Option.map_some, bval, Sem.run_bind, Sem.run_pure, Result.andThen_ok, if_true, e0, e1, bnat, Option.isSome_some, e2]
theorem r_slice {P : Program} {t e : Nat} {w : World} {i : TypeInfo} {A : Option Addr} {n c l h m : Nat} {lo hi mx : Option Value} (h4 : P.underlying t = some (.slice e)) (e2 : P.info? e = some i) (hb : (Instr.sliceBounds true n c lo hi mx).run P w = .ok (l, h, m) w) :
    (Instr.sliceAt t (.slice A n c) lo hi mx).run P w = .ok (.slice (if m = l then A else A.map (·.add (l * i.size))) (h - l) (m - l)) w := by
  simp only [Instr.sliceAt, Instr.slice, Sem.run_bind, r_underlying h4, Result.andThen_ok, hb, r_sizeOf e2, Sem.run_pure]
section
variable {x : Cx} {s : St} (hL : LayOk x.P x.L)
def bdS (s : St) : Option Operand → Option Bd
  | none => some none
  | some o => match s.get o with
    | some (.int k z) => some (some (k, z))
    | _ => none
theorem bdS_val {V : Vl} {a : Act} (he : EnvR V s.env a) {o : Option Operand} {b : Bd} (h : bdS s o = some b) : o.map a.eval = b.map bval := by
  cases o with
  | none => simp only [bdS, Option.some.injEq] at h; subst h; rfl
  | some o =>
    unfold bdS at h
    simp only at h
    split at h
    · rename_i k z hg
      cases h
      simp only [Option.map_some, he.get hg, den, bval]
    · cases h
def limB (i : Nat) : Bd → Option Nat
  | none => none
  | some (_, z) => some (z.toNat - i)
def endB : Bd → Bd → Bool
  | some _, none => false
  | _, _ => true
def evSlice (L : Lay) (s : St) (t : TypeId) (p : SV) (lo hi mx : Bd) : Ev := match find L t with
  | some ⟨_, .slice _ es _, _, _⟩ => match p with
    | .sl r => match listE s.mem r, endB mx hi with
      | some (_, ⟨_, l⟩, obs), true => some (.vw r es (bnat 0 lo) (bnat l.length hi - bnat 0 lo) (limB (bnat 0 lo) mx), app (bobs l.length mx) (app (bobs (bnat l.length mx) hi) (app (bobs (bnat l.length hi) lo) obs)))
      | _, _ => none
    | .vw r es' i n c => match listE s.mem r, lo, hi, mx with
      | some (_, ⟨_, l⟩, obs), none, some (k, z), none => some (.vw r es' i z.toNat c, (0 ≤ z) :: (z ≤ (n : Int)) :: (i + n ≤ l.length) :: app (leP n c) obs)
      | _, _, _, _ => none
    | .val (.slice none 0 0) => match endB mx hi with
      | true => some (.val (.slice none 0 0), app (bobs 0 mx) (app (bobs 0 hi) (bobs 0 lo)))
      | false => none
    | _ => none
  | _ => none
theorem hd_eta {L : Loc} {a : Option Addr} {n c : Nat} (h1 : L.a = a) (h2 : L.len = n) (h3 : L.cap = c) : L.hd = .slice a n c := by subst h1; subst h2; subst h3; rfl
include hL
theorem evSlice_ok {t : TypeId} {a : Operand} {lo hi mx : Option Operand} {l' h' m' : Bd} {p v : SV} {obs : List Prop} (ha : s.get a = some p) (hl : bdS s lo = some l') (hh : bdS s hi = some h') (hm : bdS s mx = some m') (h : evSlice x.L s t p l' h' m' = some (v, obs)) (ho : AllP obs) : EvTo x s (.slice t a lo hi mx) v := by
  refine ⟨fun D0 V ac w he hE _ _ _ _ _ => ?_⟩
  simp only [execOp, he.get ha, bdS_val he hl, bdS_val he hh, bdS_val he hm]
  refine fin_v ?_
  have hend : endB m' h' = true → m' = none ∨ h' ≠ none := by
    intro he
    cases m' with
    | none => exact .inl rfl
    | some _ => cases h' with
      | none => simp [endB] at he
      | some _ => exact .inr (by simp)
  unfold evSlice at h
  split at h
  · rename_i zs e es ea by_ code ht
    obtain ⟨d, h4, h5⟩ := (hL.at ht).desc
    obtain ⟨i, de, rfl, e2, e3, e4, e5⟩ := td_slice h5
    split at h
    · rename_i r
      split at h
      · rename_i dk c l obs' hle hb
        simp only [Option.some.injEq, Prod.mk.injEq] at h
        obtain ⟨rfl, rfl⟩ := h
        obtain ⟨g1, ho⟩ := AllP_app.1 ho
        obtain ⟨g2, ho⟩ := AllP_app.1 ho
        obtain ⟨g3, ho⟩ := AllP_app.1 ho
        obtain ⟨q1, q2, q3, q4⟩ := hE.at_ r _ (listE_eq hle ho)
        have le1 : ∀ {m n : Nat} {b : Bd}, m ≤ n → AllP (bobs m b) → AllP (bobs n b) := by
          intro m n b hmn hb
          cases b with
          | none => exact trivial
          | some b => obtain ⟨k, z⟩ := b; obtain ⟨h1, h2, _⟩ := hb; exact ⟨h1, by omega, trivial⟩
        have le2 : ∀ {m n : Nat} {b : Bd}, m ≤ n → bnat m b ≤ bnat n b := by
          intro m n b hmn
          cases b <;> simp only [bnat] <;> omega
        have hbn := r_bounds (P := x.P) (w := w) (n := l.length) (c := (V r).cap) (hend hb) (le1 q2 g1) (le1 (le2 q2) g2) g3
        simp only [den]
        rw [hd_eta (L := V r) rfl q1 rfl, r_slice h4 e2 hbn]
        refine congrArg (fun z => Result.ok z w) ?_
        have hlo : bnat 0 l' ≤ bnat l.length h' := by
          cases l' with
          | none => exact Nat.zero_le _
          | some b => obtain ⟨k, z⟩ := b; obtain ⟨h1, h2, _⟩ := g3; show z.toNat ≤ bnat l.length h'; omega
        have hhi : bnat l.length h' ≤ bnat (V r).cap m' := by
          cases h' with
          | none =>
            cases m' with
            | none => exact q2
            | some _ => simp [endB] at hb
          | some b =>
            obtain ⟨k, z⟩ := b
            obtain ⟨h1, h2, _⟩ := g2
            have := le2 (b := m') q2
            show z.toNat ≤ bnat (V r).cap m'
            omega
        have hc : (limB (bnat 0 l') m').getD ((V r).cap - bnat 0 l') = bnat (V r).cap m' - bnat 0 l' := by
          cases m' <;> rfl
        simp only [Loc.hd, Loc.vw, hc, e3]
        have : (bnat (V r).cap m' = bnat 0 l') ↔ (bnat (V r).cap m' - bnat 0 l' = 0) := by omega
        simp only [this]
      · cases h
    · rename_i r es' i' n c
      split at h
      · rename_i dk cc l obs' k z hle
        simp only [Option.some.injEq, Prod.mk.injEq] at h
        obtain ⟨rfl, rfl⟩ := h
        obtain ⟨g0, g1, g2, ho⟩ := ho
        obtain ⟨g3, ho⟩ := AllP_app.1 ho
        obtain ⟨q1, q2, q3, q4⟩ := hE.at_ r _ (listE_eq hle ho)
        have hn : n ≤ c.getD ((V r).cap - i') := by
          cases c with
          | none => simp only [Option.getD_none]; omega
          | some c => simpa using g3.1
        have hbn := r_bounds (P := x.P) (w := w) (n := n) (c := c.getD ((V r).cap - i')) (lo := none) (hi := some (k, z)) (mx := none) (.inl rfl) trivial ⟨g0, by simp only [bnat]; omega, trivial⟩ trivial
        simp only [den]
        rw [hd_eta (L := (V r).vw es' i' n c) rfl rfl rfl]
        have := r_slice (A := ((V r).vw es' i' n c).a) h4 e2 hbn
        rw [show ((V r).vw es' i' n c).len = n from rfl, show ((V r).vw es' i' n c).cap = c.getD ((V r).cap - i') from rfl, this]
        refine congrArg (fun z => Result.ok z w) ?_
        simp only [bnat, Nat.zero_mul, Nat.sub_zero, Loc.hd, Loc.vw]
        have id0 : ∀ A : Option Addr, A.map (fun a => a.add 0) = A := by intro A; cases A <;> simp [Addr.add]
        simp only [id0, ite_self]
      · cases h
    · split at h
      · rename_i hb
        simp only [Option.some.injEq, Prod.mk.injEq] at h
        obtain ⟨rfl, rfl⟩ := h
        obtain ⟨g1, ho⟩ := AllP_app.1 ho
        obtain ⟨g2, g3⟩ := AllP_app.1 ho
        have z1 : ∀ {b : Bd}, AllP (bobs 0 b) → bnat 0 b = 0 := by
          intro b hb
          cases b with
          | none => rfl
          | some b => obtain ⟨k, z⟩ := b; obtain ⟨h1, h2, _⟩ := hb; simp only [bnat]; omega
        have hbn := r_bounds (P := x.P) (w := w) (n := 0) (c := 0) (hend hb) g1 (by rw [z1 g1]; exact g2) (by rw [z1 g2]; exact g3)
        rw [z1 g1, z1 g2, z1 g3] at hbn
        simp only [den]
        rw [r_slice h4 e2 hbn]
        simp
      · cases h
    · cases h
  · cases h
theorem ev_look {t kt e k : Nat} {n : Int} {bl : Bool} {es : List (Int × Int)} {z1 z2 : List SV} {b1 b2 : Nat} {c1 c2 : Option Ty} {te : TI} (hT : find x.L t = some ⟨z1, .map kt e, b1, c1⟩) (hK : find x.L kt = some ⟨z2, .int .i64, b2, c2⟩) (hE : find x.L e = some te) (hz : te.zval = mpV bl 0) {m q : Operand}
    (hm : s.get m = some (.mp k)) (hq : s.get q = some (.int .i64 n)) (hmem : find s.mem k = some (.mp ⟨bl, es⟩)) {c : Bool} {v : SV} (hv : ∀ V, den V v = if c then .tuple #[mpV bl ((mpGet es n).getD 0), .bool (mpGet es n).isSome] else mpV bl ((mpGet es n).getD 0)) : EvTo x s (.lookup t m q c) v :=
  ⟨fun D0 V a w he hE' dst ty pos after guard => by
    obtain ⟨b, arr, cl, h1, h2, h3⟩ := hE'.at_ ⟨k, []⟩ (.mp ⟨bl, es⟩) (cont_iff.2 ⟨_, hmem, rfl⟩)
    obtain ⟨d1, g1, g2⟩ := (hL.at hT).desc
    obtain ⟨d2, g3, g4⟩ := (hL.at hK).desc
    obtain ⟨i, g5, _, g6, _⟩ := (hL.at hE).info
    rw [td_map g2] at g1
    rw [td_int g4] at g3
    rw [hz] at g6
    have run := mp_look (d := ⟨bl, es⟩) (z := n) g1 g3 (r_zero (w := w) g5 g6) h2 h3 c
    have hb : den V (.mp k) = .map (some b) := by simp only [den, h1]; rfl
    simp only [execOp, he.get hm, he.get hq, hb]
    rw [hv V]
    exact fin_v run⟩
omit hL
def evLook (L : Lay) (s : St) (t : TypeId) (p q : SV) (c : Bool) : Ev := match p, q, find L t with
  | .mp k, .int .i64 n, some ⟨_, .map kt e, _, _⟩ => match find L kt, find s.mem k with
    | some ⟨_, .int .i64, _, _⟩, some (.mp ⟨bl, es⟩) => match bl, find L e, c with
      | true, some ⟨[.tf false], .bool, _, _⟩, false => some (.bool (decide ((mpGet es n).getD 0 = 1)), [])
      | true, some ⟨[.tf false], .bool, _, _⟩, true => some (.tup [.bool (decide ((mpGet es n).getD 0 = 1)), .bool (mpGet es n).isSome], [])
      | false, some ⟨[.int .i64 z], .int .i64, _, _⟩, false => some (.int .i64 ((mpGet es n).getD 0), [z = 0])
      | false, some ⟨[.int .i64 z], .int .i64, _, _⟩, true => some (.tup [.int .i64 ((mpGet es n).getD 0), .bool (mpGet es n).isSome], [z = 0])
      | _, _, _ => none
    | _, _ => none
  | _, _, _ => none
include hL
theorem evLook_ok {t : TypeId} {m q' : Operand} {p q : SV} {c : Bool} {v : SV} {obs : List Prop} (hm : s.get m = some p) (hq : s.get q' = some q) (h : evLook x.L s t p q c = some (v, obs)) (ho : AllP obs) : EvTo x s (.lookup t m q' c) v := by
  unfold evLook at h
  split at h
  · rename_i hT
    split at h
    · rename_i hK hmem
      split at h
      · rename_i hE; cases h; exact ev_look hL hT hK hE rfl hm hq hmem fun V => rfl
      · rename_i hE; cases h; exact ev_look hL hT hK hE rfl hm hq hmem fun V => rfl
      · rename_i hE; cases h; obtain ⟨rfl, _⟩ := ho; exact ev_look hL hT hK hE rfl hm hq hmem fun V => rfl
      · rename_i hE; cases h; obtain ⟨rfl, _⟩ := ho; exact ev_look hL hT hK hE rfl hm hq hmem fun V => rfl
      · cases h
    · cases h
  · cases h
omit hL
def ev (L : Lay) (s : St) : Op → Ev
  | .move o => match s.get o with | some v => some (v, []) | none => none
  | .assign o => match s.get o with | some v => some (v, []) | none => none
  | .pick c a b => match s.get c with
    | some (.tf true) => match s.get a with | some v => some (v, []) | none => none
    | some (.tf false) => match s.get b with | some v => some (v, []) | none => none
    | _ => none
  | .load t a => match s.get a with | some p => evLoad L s t p | none => none
  | .binOp op t a b _ => match s.get a, s.get b with | some p, some q => evBin L op t p q | _, _ => none
  | .unOp op _ a => match s.get a with | some p => evUn op p | none => none
  | .convert t t' a => match s.get a with | some p => evConv L t t' p | none => none
  | .build t ps => evBuild L s t ps.toList
  | .field t a i => match s.get a with | some p => evField L t p i | none => none
  | .fieldAddr t a i => match s.get a with | some p => evFaddr L s t p i | none => none
  | .index t a b => match s.get a, s.get b with | some p, some q => evIndex L t p q | _, _ => none
  | .indexAddr t a b => match s.get a, s.get b with | some p, some q => evIxAddr L s t p q | _, _ => none
  | .extract a i => match s.get a with | some p => evExtract p i | none => none
  | .nilCheck a => match s.get a with | some p => evNil s p | none => none
  | .makeFunc fn first caps => evFunc s fn first.toList caps.toList
  | .lookup t m q c => match s.get m, s.get q with | some p, some u => evLook L s t p u c | _, _ => none
  | .slice t a lo hi mx => match s.get a, bdS s lo, bdS s hi, bdS s mx with | some p, some l, some h, some m => evSlice L s t p l h m | _, _, _, _ => none
  | .call c => match c.callee with
    | .builtin b => match argsS s c.args.toList with | some q => evCallB L s b c.argTypes.toList q | none => none
    | _ => none
  | _ => none
include hL
theorem ev_ok {op : Op} {v : SV} {obs : List Prop} (h : ev x.L s op = some (v, obs)) (ho : AllP obs) : EvTo x s op v := by
  unfold ev at h
  split at h
  · split at h
    · rename_i v' hg; cases h; exact ⟨fun _ V ac w he _ _ _ _ _ _ => by simp only [execOp, he.get hg, Sem.run_pure]⟩
    · cases h
  · split at h
    · rename_i v' hg; cases h; exact ⟨fun _ V ac w he _ _ _ _ _ _ => by simp only [execOp, he.get hg, Sem.run_pure]⟩
    · cases h
  · split at h
    · rename_i hc
      split at h
      · rename_i v' hg; cases h; exact ⟨fun _ V ac w he _ _ _ _ _ _ => by simp only [execOp, he.get hc, den, asBool, he.get hg, Sem.run_bind, Sem.run_pure, Result.andThen_ok, if_true]⟩
      · cases h
    · rename_i hc
      split at h
      · rename_i v' hg; cases h; exact ⟨fun _ V ac w he _ _ _ _ _ _ => by simp only [execOp, he.get hc, den, asBool, he.get hg, Sem.run_bind, Sem.run_pure, Result.andThen_ok, Bool.false_eq_true, if_false]⟩
      · cases h
    · cases h
  · split at h
    · rename_i p hg; exact evLoad_ok hL hg h ho
    · cases h
  · split at h
    · rename_i p q h1 h2; exact evBin_ok hL h1 h2 h ho
    · cases h
  · split at h
    · rename_i p hg; exact evUn_ok hg h ho
    · cases h
  · split at h
    · rename_i p hg; exact evConv_ok hL hg h ho
    · cases h
  · exact evBuild_ok hL h
  · split at h
    · rename_i p hg; exact evField_ok hL hg h
    · cases h
  · split at h
    · rename_i p hg; exact evFaddr_ok hL hg h ho
    · cases h
  · split at h
    · rename_i p q h1 h2; exact evIndex_ok hL h1 h2 h ho
    · cases h
  · split at h
    · rename_i p q h1 h2; exact evIxAddr_ok hL h1 h2 h ho
    · cases h
  · split at h
    · rename_i p hg; exact evExtract_ok hg h
    · cases h
  · split at h
    · rename_i p hg; exact evNil_ok hg h ho
    · cases h
  · exact evFunc_ok h
  · split at h
    · rename_i p u h1 h2; exact evLook_ok hL h1 h2 h ho
    · cases h
  · split at h
    · rename_i p l hh m h1 h2 h3 h4; exact evSlice_ok hL h1 h2 h3 h4 h ho
    · cases h
  · rename_i c
    split at h
    · rename_i b hb
      split at h
      · rename_i q hq
        obtain ⟨callee, args, ts⟩ := c
        simp only at hb hq h
        subst hb
        exact evCallB_ok hL hq h ho
      · cases h
    · cases h
  · cases h
end
end Go.Proofs.Ytkageldgmkajbaa
namespace Go.Proofs.Ytkageldgmkajbaa
open Go.RowKit
structure StepTo (x : Cx) (s : St) (o : Oper) (s' : St) : Prop where
  run : ∀ g V a w Q, Rep x g V s a w → o.wp x.P a w (fun a' w' => ∃ V', Rep x g V' s' a' w') Q
def svSh (nb : Nat) : Option (Nat × Nat) → SV
  | none => .ptr nb 0
  | some (n, c) => .slc nb 0 n c
theorem den_svSh (V : Vl) (nb b : Nat) (sh : Option (Nat × Nat)) (h : (V ⟨nb, []⟩).a = some ⟨b, 0, none⟩) : den V (svSh nb sh) = shV sh b := by
  cases sh <;> simp [svSh, den, shV, Loc.at, h]
theorem ok_svSh (nb : Nat) (sh : Option (Nat × Nat)) : okV (nb + 1) (svSh nb sh) = true := by
  cases sh <;> simp [svSh, okV, Nat.blt_eq]
theorem cells_zero {P : Program} {t : Nat} {ti : TI} (ht : TIok P t ti) : ti.zval.cells = ti.zero.toArray := by
  unfold TI.zval
  have h2 := ht.2.1
  cases hg : ti.td.agg with
  | true => rfl
  | false =>
    simp only [hg] at h2 ⊢
    obtain ⟨h3, h4⟩ := h2
    obtain ⟨v, hv⟩ := List.length_eq_one_iff.1 h3
    rw [h4, hv]; rfl
def repZ : Nat → List SV → List SV
  | 0, _ => []
  | n + 1, l => app l (repZ n l)
theorem repZ_den (V : Vl) (l : List SV) (d : Value) (hl : 0 < l.length) : ∀ n, denL V (repZ n l) = (List.range (n * l.length)).map fun i => (denL V l).getD (i % l.length) d
  | 0 => by simp [repZ, denL]
  | n + 1 => by
    rw [repZ, app_eq, denL_append, repZ_den V l d hl n, Nat.succ_mul, Nat.add_comm, List.range_add, List.map_append, List.map_map]
    congr 1
    · apply List.ext_getElem?
      intro i
      by_cases hi : i < l.length
      · have : i < (denL V l).length := by rw [denL_length]; exact hi
        simp [hi, Nat.mod_eq_of_lt hi, List.getD, this]
      · have : (denL V l).length ≤ i := by rw [denL_length]; omega
        simp [List.getElem?_eq_none this, hi]
    · apply List.map_congr_left
      intro i _
      simp
structure NewTo (x : Cx) (s : St) (op : Op) (c : List SV) (sh : Option (Nat × Nat)) : Prop where
  run : ∀ V a, EnvR V s.env a → ∃ t, ∀ w dst ty pos after guard, isAlloc ⟨dst, op, ty, pos, after, guard⟩ = true ∧ (execOp a.eval ⟨dst, op, ty, pos, after, guard⟩).run x.P w = .ok (.value (shV sh w.heap.size)) (w.alloc (.cells (denL V c).toArray t))
def newS (L : Lay) (s : St) : Op → Option (List SV × Option (Nat × Nat))
  | .alloc t => match find L t with
    | some ti => some (ti.zs, none)
    | none => none
  | .box _ y => match s.get y with
    | some v => match cellsO v with
      | some c => some (c, none)
      | none => none
    | none => none
  | .buildSlice t len ps => match find L t with
    | some ⟨_, .slice e es _, _, _⟩ => match find L e, partsS s ps.toList with
      | some ti, some q => match Nat.ble (len * es) 16777216, Nat.blt 0 es with
        | true, true => match fillS (fun i => some (i * es, es)) (repZ len ti.zs) q with
          | some l => some (l, some (len, len))
          | none => none
        | _, _ => none
      | _, _ => none
    | _ => none
  | _ => none
section
variable {x : Cx} {s : St} (hL : LayOk x.P x.L)
include hL
theorem n_slice {t : TypeId} {len : Nat} {ps : Array (Nat × Operand)} {zs : List SV} {ti : TI} {cd : Option Ty} {b1 e es : Nat} {ea : Bool} {q : List (Nat × SV)} {l : List SV} (ht : find x.L t = some ⟨zs, .slice e es ea, b1, cd⟩) (he : find x.L e = some ti) (hq : partsS s ps.toList = some q)
    (hb : Nat.ble (len * es) 16777216 = true) (hb2 : Nat.blt 0 es = true) (hf : fillS (fun i => some (i * es, es)) (repZ len ti.zs) q = some l) : NewTo x s (.buildSlice t len ps) l (some (len, len)) :=
  ⟨fun V a hen => ⟨e, fun w _ _ _ _ _ => ⟨rfl, by
    obtain ⟨d, h4, h5⟩ := (hL.at ht).desc
    obtain ⟨i, de, rfl, e2, e3, e4, e5⟩ := td_slice h5
    have hte' := hL.at he
    obtain ⟨i', g1, g2, g3, _⟩ := hte'.info
    have : i' = i := Option.some.inj (g1.symm.trans e2)
    subst this
    have hz : ¬ len * es > 16777216 := by have := Nat.le_of_ble_eq_true hb; omega
    have hp' : 0 < es := by simpa [Nat.blt_eq] using hb2
    have ff := fill_sound (V := V) hf
    have pe : ((ps.map fun (x : Nat × Operand) => (x.1, a.eval x.2)).toList) = q.map fun x => (x.1, den V x.2) := by simp [parts_eval hen hq]
    have el : ti.zs.length = es := by have := TI.zero_len ti; rw [← this, ← g2, e3]
    have zs' := hte'.zs V
    have zl := TI.zero_len ti
    have ez : denL V (repZ len ti.zs) = (List.range (len * es)).map fun i => (TI.zero ti).getD (i % (TI.zero ti).length) Go.undef := by
      rw [repZ_den V ti.zs Go.undef (by rw [el]; exact hp') len, el, zs', zl, el]
    rw [ez] at ff
    have zz : (Array.range (len * es)).map (fun i => (TI.zero ti).toArray[i % (TI.zero ti).toArray.size]!) = ((List.range (len * es)).map fun i => (TI.zero ti).getD (i % (TI.zero ti).length) Go.undef).toArray := by
      apply Array.ext'
      simp only [Array.toList_map, Array.toList_range]
      refine List.map_congr_left fun i _ => ?_
      have hlt : i % (TI.zero ti).length < (TI.zero ti).length := Nat.mod_lt _ (by rw [zl, el]; exact hp')
      simp [List.getD, hlt]
    have ff' : Instr.fill (fun i => some (i * es, es)) (List.map (fun i => (TI.zero ti).getD (i % (TI.zero ti).length) Go.undef) (List.range (len * es))).toArray (ps.map fun (x : Nat × Operand) => (x.1, a.eval x.2)).toList = some (denL V l).toArray := by rw [pe]; exact ff
    simp only [execOp, Instr.buildSlice, Sem.run_bind, r_underlying h4, Result.andThen_ok, r_sizeOf e2, e3]
    rw [if_neg hz]
    by_cases hne : len * es = 0
    · simp only [hne, Array.range_zero', List.range_zero, List.map_nil] at ff' ⊢
      simp only [Sem.run_bind, if_true, Result.andThen_ok, Sem.run_pure, hne, Array.map_empty, Array.range_zero', ff', newRow]
      rfl
    · simp only [Sem.run_bind, if_neg hne, r_zero e2 g3, Result.andThen_ok, Sem.run_pure, cells_zero hte', zz]
      simp only [ff', Sem.run_bind, newRow]
      rfl⟩⟩⟩
theorem newS_ok {op : Op} {c : List SV} {sh : Option (Nat × Nat)} (h : newS x.L s op = some (c, sh)) : NewTo x s op c sh := by
  unfold newS at h
  split at h
  · rename_i t
    split at h
    · rename_i ti ht
      cases h
      exact ⟨fun V a he => ⟨t, fun w _ _ _ _ _ => ⟨rfl, by
        have hti := hL.at ht
        obtain ⟨i, h1, h2, h3, _⟩ := hti.info
        have := hti.zs V
        simp only [execOp, Instr.alloc, Sem.run_bind, r_zero h1 h3, Result.andThen_ok, newVar, newRow, cells_zero hti, ← this]
        rfl⟩⟩⟩
    · cases h
  · rename_i t y
    split at h
    · rename_i v hy
      split at h
      · rename_i c' hc
        cases h
        exact ⟨fun V a he => ⟨t, fun w _ _ _ _ _ => ⟨rfl, by
          simp only [execOp, Instr.box, Sem.run_bind, newVar, newRow, he.get hy, cellsO_den hc]
          rfl⟩⟩⟩
      · cases h
    · cases h
  · split at h
    · rename_i t len ps zs e es ea b1 cd ht
      split at h
      · rename_i ti q he hq
        split at h
        · rename_i hb hb2
          split at h
          · rename_i l hf
            cases h
            exact n_slice hL ht he hq hb hb2 hf
          · cases h
        · cases h
      · cases h
    · cases h
  · cases h
omit hL
theorem step_new {op : Op} {t : Nat} {ty : TypeId} {pos : String} {after : Array Edge} {gd : Option (Nat × Bool)} {c : List SV} {sh : Option (Nat × Nat)} (hn : NewTo x s op c sh) (h1 : Nat.blt t x.n = true) (hc : okL s.nb c = true) : StepTo x s ⟨some t, op, ty, pos, after, gd⟩ ⟨(t, svSh s.nb sh) :: s.env, (s.nb, .cells c) :: s.mem, s.nb + 1⟩ :=
  ⟨fun g V a w Q hr => by
    obtain ⟨tt, ht⟩ := hn.run V a hr.env
    unfold Oper.wp
    have hv : (V.ext s.nb fun _ => ⟨some ⟨w.heap.size, 0, none⟩, 0, 0⟩) ⟨s.nb, []⟩ = ⟨some ⟨w.heap.size, 0, none⟩, 0, 0⟩ := Vl.ext_new
    rw [(ht w _ _ _ _ _).2, ← den_svSh (V.ext s.nb fun _ => ⟨some ⟨w.heap.size, 0, none⟩, 0, 0⟩) s.nb w.heap.size sh (by rw [hv])]
    exact ⟨_, (hr.new hc tt).put h1 (ok_svSh s.nb sh)⟩⟩
theorem step_ev {op : Op} {t : Nat} {ty : TypeId} {pos : String} {after : Array Edge} {gd : Option (Nat × Bool)} {v : SV} (he : EvTo x s op v) (h1 : Nat.blt t x.n = true) (h2 : okV s.nb v = true) : StepTo x s ⟨some t, op, ty, pos, after, gd⟩ ⟨(t, v) :: s.env, s.mem, s.nb⟩ :=
  ⟨fun g V a w Q hr => by
    unfold Oper.wp
    rw [he.run g.D0 V a w hr.env hr.ents]
    exact ⟨V, hr.put h1 h2⟩⟩
end
theorem Ents.upd {D0 : Nat → Prop} {V : Vl} {s : St} {w w' : World} (h : Ents D0 V s w) (e' : List (Nat × SV)) {k : Nat} {m' : MB} (hk : k < s.nb) (hok : okM s.nb m' = true) {b : Nat}
    (hq : ∀ q b', contB m' q = some b' → ∃ b0, cont s.mem ⟨k, q⟩ = some b0 ∧ kindB b0 = kindB b' ∧ (liveB (V ⟨k, q⟩) b' → liveB (V ⟨k, q⟩) b0))
    (same : ∀ r c, cont s.mem r = some c → liveB (V r) c → r.k ≠ k → w'.heap[(V r).b]? = w.heap[(V r).b]?) (hat : ∀ q b', contB m' q = some b' → AtB V w' ⟨k, q⟩ b') (hD : ∀ b, D0 b → b < w.heap.size) : Ents D0 V ⟨e', (k, m') :: s.mem, s.nb⟩ w' := by
  have split : ∀ r b, cont ((k, m') :: s.mem) r = some b → (r.k = k ∧ contB m' r.p = some b) ∨ (r.k ≠ k ∧ cont s.mem r = some b) := by
    intro r b hc
    obtain ⟨m, h1, h2⟩ := cont_iff.1 hc
    rw [find_cons] at h1
    split at h1
    · rename_i e; cases h1; exact .inl ⟨e.symm, h2⟩
    · rename_i e; exact .inr ⟨Ne.symm e, cont_iff.2 ⟨m, h1, h2⟩⟩
  refine h.re (s' := ⟨e', (k, m') :: s.mem, s.nb⟩) (fun j m hj => ?_) (fun r => some r) (fun r b hc hl => ?_) (fun r1 r2 b1 b2 _ _ _ _ _ he => Option.some.inj he) (fun r b hc => ?_) (fun b hb => ⟨hb, hD b hb⟩)
  · simp only [find_cons] at hj
    split at hj
    · rename_i e; subst e; cases hj; exact ⟨hk, hok⟩
    · exact h.ok j m hj
  · rcases split r b hc with ⟨e, hb⟩ | ⟨e, hb⟩
    · obtain ⟨j, q⟩ := r
      simp only at e hb
      subst e
      obtain ⟨b0, g1, g2, g3⟩ := hq q b hb
      exact .inr ⟨⟨j, q⟩, b0, rfl, g1, g3 hl, rfl, by rw [g2]; cases kindB b <;> trivial⟩
    · exact .inr ⟨r, b, rfl, hb, hl, rfl, by cases kindB b <;> trivial⟩
  · rcases split r b hc with ⟨e, hb⟩ | ⟨e, hb⟩
    · obtain ⟨j, q⟩ := r
      simp only at e hb
      subst e
      exact hat q b hb
    · obtain ⟨h1, h2⟩ := h.okc hb
      exact (h.at_ r b hb).keep h2 h1 (AgrB.refl _ _) fun hl => same r b hb hl e
theorem Rep.upd {x : Cx} {g : Gx} {V : Vl} {s : St} {a : Act} {w w' : World} (h : Rep x g V s a w) {k : Nat} {m' : MB} (hE : Ents g.D0 V ⟨s.env, (k, m') :: s.mem, s.nb⟩ w')
    (hq : ∀ q b', contB m' q = some b' → ∃ b0, cont s.mem ⟨k, q⟩ = some b0 ∧ kindB b0 = kindB b' ∧ (liveB (V ⟨k, q⟩) b' → liveB (V ⟨k, q⟩) b0))
    (hsz : w.heap.size ≤ w'.heap.size) (same : ∀ b, b < w.heap.size → ¬ Dl V s.mem b → w'.heap[b]? = w.heap[b]?) (io : SIO w w') : Rep x g V ⟨s.env, (k, m') :: s.mem, s.nb⟩ a w' := by
  refine ⟨h.defers, h.size, h.env, h.envOk, hE, ⟨Nat.le_trans h.frame.1 hsz, fun b hb hd => ?_, h.frame.2.2.trans io⟩, fun b hb => ?_, h.pin, h.d0⟩
  · refine (same b (Nat.lt_of_lt_of_le hb h.frame.1) fun hdl => ?_).trans (h.frame.2.1 b hb hd)
    rcases h.own b hdl with h1 | h1
    · omega
    · exact hd h1
  · obtain ⟨r, y, hc, hl, hk, rfl⟩ := hb
    refine h.own _ ?_
    obtain ⟨m, h1, h2⟩ := cont_iff.1 hc
    rw [find_cons] at h1
    split at h1
    · rename_i e
      cases h1
      obtain ⟨j, q⟩ := r
      simp only at e h2
      subst e
      obtain ⟨b0, g1, g2, g3⟩ := hq q y h2
      exact ⟨⟨k, q⟩, b0, g1, g3 hl, g2.trans hk, rfl⟩
    · exact ⟨r, y, cont_iff.2 ⟨m, h1, h2⟩, hl, hk, rfl⟩
theorem contB_cells {c : List SV} {q : Path} {b : AB} (h : contB (.cells c) q = some b) : q = [] ∧ b = .cells c := by
  cases q with
  | nil => simp only [contB, Option.some.injEq] at h; exact ⟨rfl, h.symm⟩
  | cons _ _ => simp [contB] at h
section
variable {x : Cx} {s : St} (hL : LayOk x.P x.L)
include hL
theorem step_store {e : TypeId} {p y : Operand} {ty : TypeId} {pos : String} {after : Array Edge} {gd : Option (Nat × Bool)} {k o : Nat} {u : SV} {ti : TI} {c vs c' : List SV} (hp : s.get p = some (.ptr k o)) (hy : s.get y = some u) (ht : find x.L e = some ti) (hm : find s.mem k = some (.cells c))
    (hvs : cellsO u = some vs) (h2 : Nat.beq vs.length ti.zs.length = true) (h3 : oneL vs = true) (h4 : okL s.nb vs = true) (h5 : splice c o vs = some c') : StepTo x s ⟨none, .store e p y, ty, pos, after, gd⟩ ⟨s.env, (k, .cells c') :: s.mem, s.nb⟩ :=
  ⟨fun g V a w Q hr => by
    have hc : cont s.mem ⟨k, []⟩ = some (.cells c) := cont_iff.2 ⟨_, hm, rfl⟩
    obtain ⟨b, t, hb0, hb⟩ := hr.ents.at_ _ _ hc
    obtain ⟨hlt, hok⟩ := hr.ents.ok k _ hm
    obtain ⟨i, g1, g2, g3, _⟩ := (hL.at ht).info
    obtain ⟨q1, q2⟩ := denL_splice V h5
    have hz : (denL V vs).length = ti.zero.length := by rw [denL_length, TI.zero_len]; exact Nat.eq_of_beq_eq_true h2
    have run : (Instr.storeAt e (den V (.ptr k o)) (den V u)).run x.P w = .ok () (w.setRow b (denL V c').toArray) := by
      simp only [Instr.storeAt, den, Loc.at, hb0, Option.map_some, Nat.zero_add, Instr.sureAddr, Sem.run_bind, Sem.run_pure, Result.andThen_ok, storeVar, r_sizeOf g1, cellsO_den hvs]
      rw [if_neg (by simp [hz, g2])]
      have := run_storeCells_at (P := x.P) b o t (denL V vs) 0 (denL V c).toArray w hb (by simp [denL_length]; omega) (oneL_den _ h3)
      simp only [Nat.add_zero] at this
      rw [q1]
      exact this
    unfold Oper.wp
    have : (execOp a.eval ⟨none, .store e p y, ty, pos, after, gd⟩).run x.P w = .ok .skip (w.setRow b (denL V c').toArray) := by
      simp only [execOp, hr.env.get hp, hr.env.get hy, Sem.run_bind, run, Result.andThen_ok, Sem.run_pure]
    rw [this]
    have hbl : (V ⟨k, []⟩).b = b := by unfold Loc.b; rw [hb0]
    have hq : ∀ q b', contB (.cells c') q = some b' → ∃ b0, cont s.mem ⟨k, q⟩ = some b0 ∧ kindB b0 = kindB b' ∧ (liveB (V ⟨k, q⟩) b' → liveB (V ⟨k, q⟩) b0) := by
      intro q b' h
      obtain ⟨rfl, rfl⟩ := contB_cells h
      exact ⟨_, hc, rfl, fun _ => trivial⟩
    have hokc : okM s.nb (.cells c') = true := by
      obtain ⟨_, e2⟩ := splice_eq _ _ _ h5
      subst e2
      simp only [okM] at hok ⊢
      rw [okL_iff] at hok h4 ⊢
      intro y hy
      simp only [List.mem_append] at hy
      rcases hy with (hy | hy) | hy
      · exact hok y (List.mem_of_mem_take hy)
      · exact h4 y hy
      · exact hok y (List.mem_of_mem_drop hy)
    have hE := hr.ents.upd (w' := w.setRow b (denL V c').toArray) (m' := .cells c') (b := b) s.env hlt hokc hq (fun r c1 hc1 hl hne => setRow_other w b _ _ fun he => hne (by rw [← hr.ents.sep ⟨k, []⟩ r _ c1 hc hc1 trivial hl rfl (by rw [hbl, he])]))
      (fun q b' h => by
        obtain ⟨rfl, rfl⟩ := contB_cells h
        exact ⟨b, t, hb0, setRow_heap w b _ _ t _ hb⟩) hr.d0w
    exact ⟨V, hr.upd hE hq (by rw [setRow_size]; exact Nat.le_refl _) (fun j _ hj => setRow_other w b j _ fun he => hj ⟨⟨k, []⟩, _, hc, trivial, rfl, by rw [hbl, he]⟩) ⟨rfl, rfl, rfl⟩⟩⟩
end
end Go.Proofs.Ytkageldgmkajbaa
namespace Go.Proofs.Ytkageldgmkajbaa
open Go.RowKit
def spliceT : List TC → Nat → List TC → Option (List TC)
  | c, 0, [] => some c
  | [], 0, _ :: _ => none
  | _ :: c, 0, v :: vs => match spliceT c 0 vs with
    | some r => some (v :: r)
    | none => none
  | [], _ + 1, _ => none
  | x :: c, o + 1, vs => match spliceT c o vs with
    | some r => some (x :: r)
    | none => none
theorem spliceT_get : ∀ {c : List TC} {o : Nat} {vs r : List TC}, spliceT c o vs = some r → o + vs.length ≤ c.length ∧ r.length = c.length ∧ ∀ (j : Nat), r[j]? = if o ≤ j ∧ j < o + vs.length then vs[j - o]? else c[j]?
  | c, 0, [], r, h => by
    have : r = c := by cases c <;> (simp only [spliceT, Option.some.injEq] at h; exact h.symm)
    subst this
    refine ⟨by simp, rfl, fun j => ?_⟩
    rw [if_neg (by simp)]
  | [], 0, _ :: _, r, h => by simp [spliceT] at h
  | x :: c, 0, v :: vs, r, h => by
    unfold spliceT at h
    cases hh : spliceT c 0 vs with
    | none => simp [hh] at h
    | some q =>
      obtain ⟨h1, h2, h3⟩ := spliceT_get hh
      simp only [hh, Option.some.injEq] at h
      subst h
      refine ⟨by simp at h1 ⊢; omega, by simp [h2], fun j => ?_⟩
      cases j with
      | zero => simp
      | succ j =>
        simp only [List.getElem?_cons_succ, h3 j, List.length_cons, Nat.zero_add, Nat.sub_zero, Nat.zero_le, true_and]
        by_cases hj : j < vs.length
        · rw [if_pos hj, if_pos (by omega)]
          first | done | rfl
        · rw [if_neg hj, if_neg (by omega)]
  | [], _ + 1, vs, r, h => by simp [spliceT] at h
  | x :: c, o + 1, vs, r, h => by
    unfold spliceT at h
    cases hh : spliceT c o vs with
    | none => simp [hh] at h
    | some q =>
      obtain ⟨h1, h2, h3⟩ := spliceT_get hh
      simp only [hh, Option.some.injEq] at h
      subst h
      refine ⟨by simp; omega, by simp [h2], fun j => ?_⟩
      cases j with
      | zero => simp
      | succ j =>
        simp only [List.getElem?_cons_succ, h3 j]
        by_cases hj : o ≤ j ∧ j < o + vs.length
        · rw [if_pos hj, if_pos (by omega)]; congr 1; omega
        · rw [if_neg hj, if_neg (by omega)]
def scal : SV → Option TC
  | .int k n => some (.int k n)
  | .tf b => some (.bool b)
  | .bool b => some (.bool b)
  | .str s => some (.str s)
  | _ => none
def scalL : List SV → Option (List TC)
  | [] => some []
  | v :: l => match scal v, scalL l with
    | some t, some r => some (t :: r)
    | _, _ => none
def isSl : TC → Bool
  | .sl _ _ => true
  | _ => false
theorem scal_den {u : SV} {d : TC} (h : scal u = some d) (V : Vl) (r : Rid) : den V u = denT V r d ∧ isSl d = false ∧ oneC u = true := by cases u <;> simp only [scal, Option.some.injEq, reduceCtorEq] at h <;> (subst h; exact ⟨rfl, rfl, rfl⟩)
theorem scalL_get : ∀ {l : List SV} {r : List TC}, scalL l = some r → r.length = l.length ∧ ∀ (j : Nat) (t : TC), r[j]? = some t → ∃ u, l[j]? = some u ∧ scal u = some t
  | [], r, h => by simp only [scalL, Option.some.injEq] at h; subst h; exact ⟨rfl, fun j t h => by simp at h⟩
  | v :: l, r, h => by
    unfold scalL at h
    cases hv : scal v with
    | none => simp [hv] at h
    | some t0 =>
      cases hl : scalL l with
      | none => simp [hv, hl] at h
      | some r0 =>
        simp only [hv, hl, Option.some.injEq] at h
        subst h
        obtain ⟨h1, h2⟩ := scalL_get hl
        refine ⟨by simp [h1], fun j t hj => ?_⟩
        cases j with
        | zero => simp only [List.getElem?_cons_zero, Option.some.injEq] at hj; subst hj; exact ⟨v, rfl, hv⟩
        | succ j => simp only [List.getElem?_cons_succ] at hj ⊢; exact h2 j t hj
theorem scalL_one : ∀ {l : List SV} {r : List TC}, scalL l = some r → oneL l = true
  | [], r, h => rfl
  | v :: l, r, h => by
    unfold scalL at h
    cases hv : scal v with
    | none => simp [hv] at h
    | some t0 =>
      cases hl : scalL l with
      | none => simp [hv, hl] at h
      | some r0 => simp only [oneL, (scal_den hv V0 ⟨0, []⟩).2.2, scalL_one hl]
def SameC (t t' : TC) : Prop := t = t' ∨ ∃ c l l', t = .sl c l ∧ t' = .sl c l'
theorem SameC.den {t t' : TC} (h : SameC t t') (V : Vl) (r : Rid) : denT V r t' = denT V r t := by
  rcases h with rfl | ⟨c, l, l', rfl, rfl⟩ <;> rfl
def updD : (c : Ty) → List (El c) → Path → (i f : Nat) → List TC → Option (List (El c) × Nat × List Prop)
  | c, l, [], i, f, ts => match spliceT (tcells c (gt l i)) f ts with
    | some cs => match mkc c cs with
      | some x => some (l.set i x, wid c, [i < l.length])
      | none => none
    | none => none
  | c, l, (a, b) :: p, i, f, ts => match nthC (tcells c (gt l a)) b with
    | some (.sl c1 l1) => match updD c1 l1 p i f ts with
      | some (l1', n, obs) => match spliceT (tcells c (gt l a)) b [.sl c1 l1'] with
        | some cs => match mkc c cs with
          | some x => some (l.set a x, n, (a < l.length) :: obs)
          | none => none
        | none => none
      | none => none
    | _ => none
def Chg (p q : Path) (i f : Nat) (ts : List TC) {c : Ty} (l l' : List (El c)) : Prop :=
  l'.length = l.length ∧ ∀ a x', l'[a]? = some x' → ∃ x, l[a]? = some x ∧ ∀ j t', (tcells c x')[j]? = some t' → (q = p ∧ a = i ∧ f ≤ j ∧ j < f + ts.length ∧ ts[j - f]? = some t') ∨ (¬ (q = p ∧ a = i ∧ f ≤ j ∧ j < f + ts.length) ∧ ∃ t, (tcells c x)[j]? = some t ∧ SameC t t')
theorem Chg.refl {p q : Path} {i f : Nat} {ts : List TC} {c : Ty} {l : List (El c)} (h : q ≠ p) : Chg p q i f ts l l :=
  ⟨rfl, fun a x hx => ⟨x, hx, fun j t ht => .inr ⟨fun h' => h h'.1, t, ht, .inl rfl⟩⟩⟩
theorem updD_desc : ∀ {p : Path} {c : Ty} {l l' : List (El c)} {i f n : Nat} {ts : List TC} {obs : List Prop}, updD c l p i f ts = some (l', n, obs) → AllP obs → (∀ t ∈ ts, isSl t = false) →
    (∃ c1 l1, desc c l p = some ⟨c1, l1⟩ ∧ i < l1.length ∧ f + ts.length ≤ wid c1 ∧ n = wid c1) ∧ ∀ q c2 l2', desc c l' q = some ⟨c2, l2'⟩ → ∃ l2, desc c l q = some ⟨c2, l2⟩ ∧ Chg p q i f ts l2 l2'
  | [], c, l, l', i, f, n, ts, obs, h, ho, hts => by
    unfold updD at h
    split at h
    · rename_i cs hs
      split at h
      · rename_i x hx
        simp only [Option.some.injEq, Prod.mk.injEq] at h
        obtain ⟨rfl, rfl, rfl⟩ := h
        obtain ⟨hi, _⟩ := ho
        obtain ⟨s1, s2, s3⟩ := spliceT_get hs
        have hc := mkc_cells hx
        rw [tcells_len] at s1
        refine ⟨⟨c, l, rfl, hi, s1, rfl⟩, fun q c2 l2' hq => ?_⟩
        cases q with
        | nil =>
          simp only [desc, Option.some.injEq] at hq
          cases hq
          refine ⟨l, rfl, by simp, fun a x' hx' => ?_⟩
          by_cases ha : a = i
          · subst ha
            rw [List.getElem?_set_self hi] at hx'
            cases hx'
            refine ⟨gt l a, gt_at hi, fun j t' ht' => ?_⟩
            rw [hc, s3 j] at ht'
            split at ht'
            · rename_i hj; exact .inl ⟨rfl, rfl, hj.1, hj.2, ht'⟩
            · rename_i hj; exact .inr ⟨fun h => hj h.2.2, t', ht', .inl rfl⟩
          · rw [List.getElem?_set_ne (Ne.symm ha)] at hx'
            exact ⟨x', hx', fun j t' ht' => .inr ⟨fun h => ha h.2.1, t', ht', .inl rfl⟩⟩
        | cons ab q =>
          obtain ⟨a, b⟩ := ab
          have same : desc c l ((a, b) :: q) = some ⟨c2, l2'⟩ := by
            simp only [desc] at hq ⊢
            by_cases ha : a = i
            · subst ha
              rw [List.getElem?_set_self hi] at hq
              rw [gt_at hi]
              simp only [hc, s3 b] at hq ⊢
              split at hq
              · rename_i c' l'' hb
                split at hb
                · rename_i hj
                  have := hts _ (List.mem_of_getElem? hb)
                  simp [isSl] at this
                · simp only [hb]; exact hq
              · cases hq
            · rw [List.getElem?_set_ne (Ne.symm ha)] at hq
              exact hq
          exact ⟨l2', same, Chg.refl (by simp)⟩
      · cases h
    · cases h
  | (a0, b0) :: p, c, l, l', i, f, n, ts, obs, h, ho, hts => by
    unfold updD at h
    split at h
    · rename_i c1 l1 hn
      split at h
      · rename_i l1' n' obs' hu
        split at h
        · rename_i cs hs
          split at h
          · rename_i x hx
            simp only [Option.some.injEq, Prod.mk.injEq] at h
            obtain ⟨rfl, rfl, rfl⟩ := h
            obtain ⟨ha0, ho'⟩ := ho
            obtain ⟨⟨e1, e2, e3, e4, e5, e6⟩, ih⟩ := updD_desc hu ho' hts
            obtain ⟨s1, s2, s3⟩ := spliceT_get hs
            have hc := mkc_cells hx
            rw [nthC_eq] at hn
            refine ⟨⟨e1, e2, ?_, e4, e5, e6⟩, fun q c2 l2' hq => ?_⟩
            · simp only [desc, gt_at ha0, hn]; exact e3
            · cases q with
              | nil =>
                simp only [desc, Option.some.injEq] at hq
                cases hq
                refine ⟨l, rfl, by simp, fun a x' hx' => ?_⟩
                by_cases ha : a = a0
                · subst ha
                  rw [List.getElem?_set_self ha0] at hx'
                  cases hx'
                  refine ⟨gt l a, gt_at ha0, fun j t' ht' => .inr ⟨fun h => by simp at h, ?_⟩⟩
                  rw [hc, s3 j] at ht'
                  split at ht'
                  · rename_i hj
                    simp only [List.length_cons, List.length_nil] at hj
                    have : j = b0 := by omega
                    subst this
                    simp only [Nat.sub_self, List.getElem?_cons_zero, Option.some.injEq] at ht'
                    exact ⟨_, hn, .inr ⟨c1, l1, l1', rfl, ht'.symm⟩⟩
                  · exact ⟨t', ht', .inl rfl⟩
                · rw [List.getElem?_set_ne (Ne.symm ha)] at hx'
                  exact ⟨x', hx', fun j t' ht' => .inr ⟨fun h => by simp at h, t', ht', .inl rfl⟩⟩
              | cons ab q =>
                obtain ⟨a, b⟩ := ab
                by_cases hab : a = a0 ∧ b = b0
                · obtain ⟨rfl, rfl⟩ := hab
                  simp only [desc] at hq ⊢
                  rw [List.getElem?_set_self ha0] at hq
                  simp only [hc, s3 b] at hq
                  rw [if_pos (by simp)] at hq
                  simp only [Nat.sub_self, List.getElem?_cons_zero] at hq
                  obtain ⟨l2, g1, g2⟩ := ih q c2 l2' hq
                  refine ⟨l2, by simp only [gt_at ha0, hn]; exact g1, g2.1, fun a' x' hx' => ?_⟩
                  obtain ⟨x0, k1, k2⟩ := g2.2 a' x' hx'
                  refine ⟨x0, k1, fun j t' ht' => ?_⟩
                  rcases k2 j t' ht' with ⟨w1, w2⟩ | ⟨w1, w2⟩
                  · exact .inl ⟨by rw [w1], w2⟩
                  · refine .inr ⟨fun h => w1 ⟨?_, h.2⟩, w2⟩
                    have := h.1
                    simp only [List.cons.injEq, true_and] at this
                    exact this
                · have same : desc c l ((a, b) :: q) = some ⟨c2, l2'⟩ := by
                    simp only [desc] at hq ⊢
                    by_cases ha : a = a0
                    · subst ha
                      have hb : b ≠ b0 := fun e => hab ⟨rfl, e⟩
                      rw [List.getElem?_set_self ha0] at hq
                      rw [gt_at ha0]
                      simp only [hc, s3 b] at hq ⊢
                      rw [if_neg (by simp; omega)] at hq
                      exact hq
                    · rw [List.getElem?_set_ne (Ne.symm ha)] at hq
                      exact hq
                  exact ⟨l2', same, Chg.refl fun e => hab (by simp only [List.cons.injEq, Prod.mk.injEq] at e; exact e.1)⟩
          · cases h
        · cases h
      · cases h
    · cases h
def Kd.own? : Kd → Bool
  | .own => true
  | _ => false
theorem Kd.own?_eq {d : Kd} (h : d.own? = true) : d = .own := by cases d <;> first | rfl | cases h
section
variable {x : Cx} {s : St} (hL : LayOk x.P x.L)
include hL
theorem step_storeEl {e : TypeId} {p y : Operand} {ty : TypeId} {pos : String} {after : Array Edge} {gd : Option (Nat × Bool)} {k : Nat} {pa : Path} {es i f n : Nat} {u : SV} {ti : TI} {m : Md} {c : Ty} {l l' : List (El c)} {vs : List SV} {ts : List TC} {obs : List Prop} (hp : s.get p = some (.el ⟨k, pa⟩ es i f)) (hy : s.get y = some u) (ht : find x.L e = some ti) (hm : find s.mem k = some (.list m c l))
    (hvs : cellsO u = some vs) (hts : scalL vs = some ts) (h2 : Nat.beq vs.length ti.zs.length = true) (hown : (m.at pa).own? = true) (hu : updD c l pa i f ts = some (l', n, obs)) (hes : Nat.beq es n = true) (ho : AllP obs) : StepTo x s ⟨none, .store e p y, ty, pos, after, gd⟩ ⟨s.env, (k, .list m c l') :: s.mem, s.nb⟩ :=
  ⟨fun g V a w Q hr => by
    obtain ⟨t1, t2⟩ := scalL_get hts
    have hns : ∀ t ∈ ts, isSl t = false := by
      intro t ht
      obtain ⟨j, hj⟩ := List.mem_iff_getElem?.1 ht
      obtain ⟨u, _, hu⟩ := t2 j t hj
      exact (scal_den hu V0 ⟨0, []⟩).2.1
    obtain ⟨⟨c1, l1, d1, d2, d3, d4⟩, hch⟩ := updD_desc hu ho hns
    have hes' : es = wid c1 := (Nat.eq_of_beq_eq_true hes).trans d4
    have hkd := Kd.own?_eq hown
    have hc : cont s.mem ⟨k, pa⟩ = some (.list (m.at pa) c1 l1) := cont_iff.2 ⟨_, hm, by simp only [contB, d1]⟩
    have hat := hr.ents.at_ _ _ hc
    obtain ⟨ad, a1, a2, _⟩ := row_cells hat d2
    obtain ⟨q1, q2, q3, q4⟩ := hat
    obtain ⟨ad', cs, tt, b1, b2, b3, b4, b5⟩ : ∃ a cs t, (V ⟨k, pa⟩).a = some a ∧ a.spot = none ∧ w.heap[a.block]? = some (.cells cs t) ∧ a.off + (V ⟨k, pa⟩).cap * wid c1 ≤ cs.size ∧ (V ⟨k, pa⟩).cap ≤ maxLen := by
      rcases q3 hkd with h | h
      · omega
      · exact h
    rw [a1] at b1
    cases b1
    obtain ⟨ii, g1, g2, g3, _⟩ := (hL.at ht).info
    have hz : (denL V vs).length = ti.zero.length := by rw [denL_length, TI.zero_len]; exact Nat.eq_of_beq_eq_true h2
    have hfit : ad.off + (i * wid c1 + f) + vs.length ≤ cs.size := by
      have : (i + 1) * wid c1 ≤ (V ⟨k, pa⟩).cap * wid c1 := Nat.mul_le_mul_right _ (by omega)
      rw [Nat.add_mul] at this
      omega
    let cs' := (cs.toList.take (ad.off + (i * wid c1 + f)) ++ denL V vs ++ cs.toList.drop (ad.off + (i * wid c1 + f) + (denL V vs).length)).toArray
    have run : (Instr.storeAt e (den V (.el ⟨k, pa⟩ es i f)) (den V u)).run x.P w = .ok () (w.setRow ad.block cs') := by
      simp only [Instr.storeAt, den, Loc.at, a1, Option.map_some, Instr.sureAddr, Sem.run_bind, Sem.run_pure, Result.andThen_ok, storeVar, r_sizeOf g1, cellsO_den hvs]
      rw [if_neg (by simp [hz, g2])]
      have := run_storeCells_at (P := x.P) ad.block (ad.off + (i * wid c1 + f)) tt (denL V vs) 0 cs w b3 (by rw [denL_length]; omega) (oneL_den _ (scalL_one hts))
      simp only [Nat.add_zero] at this
      rw [hes']
      exact this
    unfold Oper.wp
    have : (execOp a.eval ⟨none, .store e p y, ty, pos, after, gd⟩).run x.P w = .ok .skip (w.setRow ad.block cs') := by
      simp only [execOp, hr.env.get hp, hr.env.get hy, Sem.run_bind, run, Result.andThen_ok, Sem.run_pure]
    rw [this]
    have hlive : liveB (V ⟨k, pa⟩) (.list (m.at pa) c1 l1) := by rw [hkd]; simp only [liveB]; omega
    have hbl : (V ⟨k, pa⟩).b = ad.block := by unfold Loc.b; rw [a1]
    have old : ∀ q b', contB (.list m c l') q = some b' → ∃ c2 l2 l2', b' = .list (m.at q) c2 l2' ∧ cont s.mem ⟨k, q⟩ = some (.list (m.at q) c2 l2) ∧ Chg pa q i f ts l2 l2' := by
      intro q b' h
      simp only [contB] at h
      split at h
      · rename_i c2 l2' hd
        cases h
        obtain ⟨l2, g1, g2⟩ := hch q c2 l2' hd
        exact ⟨c2, l2, l2', rfl, cont_iff.2 ⟨_, hm, by simp only [contB, g1]⟩, g2⟩
      · cases h
    have hq : ∀ q b', contB (.list m c l') q = some b' → ∃ b0, cont s.mem ⟨k, q⟩ = some b0 ∧ kindB b0 = kindB b' ∧ (liveB (V ⟨k, q⟩) b' → liveB (V ⟨k, q⟩) b0) := by
      intro q b' h
      obtain ⟨c2, l2, l2', rfl, g1, g2⟩ := old q b' h
      refine ⟨_, g1, rfl, fun hl => ?_⟩
      have hne : l2' ≠ [] → l2 ≠ [] := by intro h1 h2; subst h2; have := g2.1; simp at this; exact h1 this
      cases hk : m.at q <;> rw [hk] at hl
      · exact hl
      · exact hne hl
      · exact hne hl
    have hsz : cs'.size = cs.size := by
      simp only [cs', List.size_toArray, List.length_append, List.length_take, List.length_drop, Array.length_toList, denL_length]
      omega
    have hcell : ∀ o, cs'[o]? = if ad.off + (i * wid c1 + f) ≤ o ∧ o < ad.off + (i * wid c1 + f) + vs.length then (vs[o - (ad.off + (i * wid c1 + f))]?).map (den V) else cs[o]? := by
      intro o
      simp only [cs', List.getElem?_toArray]
      by_cases h1 : o < ad.off + (i * wid c1 + f)
      · rw [if_neg (by omega), List.append_assoc, List.getElem?_append_left (by simp; omega), List.getElem?_take, if_pos h1]; simp
      · by_cases h2 : o < ad.off + (i * wid c1 + f) + vs.length
        · rw [if_pos ⟨by omega, h2⟩, List.append_assoc, List.getElem?_append_right (by simp; omega), List.getElem?_append_left (by simp [denL_length]; omega), denL_get']
          congr 2
          simp; omega
        · rw [if_neg (by omega), List.getElem?_append_right (by simp [denL_length]; omega), List.getElem?_drop]
          simp only [Array.getElem?_toList]
          congr 1
          simp [denL_length]; omega
    have hh := setRow_heap w ad.block cs cs' tt (0, 0) b3
    have other : ∀ b, b ≠ ad.block → (w.setRow ad.block cs').heap[b]? = w.heap[b]? := fun b hb => setRow_other w ad.block b _ hb
    have hE := hr.ents.upd (w' := w.setRow ad.block cs') (m' := .list m c l') (b := ad.block) s.env (hr.ents.ok k _ hm).1 rfl hq (fun r c0 hc0 hl hne => other _ fun he => hne (by rw [← hr.ents.sep ⟨k, pa⟩ r _ c0 hc hc0 hlive hl hkd (by rw [hbl, he])]))
      (fun q b' h => by
        obtain ⟨c2, l2, l2', rfl, g1, g2⟩ := old q b' h
        obtain ⟨r1, r2, r3, r4⟩ := hr.ents.at_ _ _ g1
        by_cases hqp : q = pa
        · subst hqp
          rw [hc] at g1
          cases g1
          refine ⟨by rw [g2.1]; exact r1, by rw [g2.1]; exact r2, fun _ => .inr ⟨ad, cs', tt, a1, a2, hh, by rw [hsz]; exact b4, b5⟩, fun a' x' hx' j t' ht' => ?_⟩
          obtain ⟨x0, k1, k2⟩ := g2.2 a' x' hx'
          refine ⟨ad, a1, a2, cell_of hh ?_⟩
          have hjw : j < wid c1 := by have := (List.getElem?_eq_some_iff.1 ht').1; rw [tcells_len] at this; exact this
          rw [hcell]
          rcases k2 j t' ht' with ⟨_, w2, w3, w4, w5⟩ | ⟨w1, t0, w2, w3⟩
          · subst w2
            rw [if_pos (by omega), show ad.off + (a' * wid c1 + j) - (ad.off + (a' * wid c1 + f)) = j - f by omega]
            obtain ⟨u0, hu0, hsc⟩ := t2 _ _ w5
            rw [hu0]
            simp only [Option.map_some, (scal_den hsc V (Rid.ch ⟨k, q⟩ a' j)).1]
          · rw [if_neg (fun hin => w1 ⟨rfl, ?_⟩)]
            · obtain ⟨ad2, y1, y2, y3⟩ := r4 a' x0 k1 j t0 w2
              rw [a1] at y1
              cases y1
              rw [w3.den]
              simp only [World.cell?, b3, Option.isSome_none, Bool.false_eq_true, if_false] at y3
              exact y3
            · have e1 : a' = i := by
                rcases Nat.lt_trichotomy a' i with hlt | heq | hgt
                · have : (a' + 1) * wid c1 ≤ i * wid c1 := Nat.mul_le_mul_right _ hlt
                  rw [Nat.add_mul] at this; omega
                · exact heq
                · have : (i + 1) * wid c1 ≤ a' * wid c1 := Nat.mul_le_mul_right _ hgt
                  rw [Nat.add_mul] at this; omega
              subst e1
              exact ⟨rfl, by omega, by omega⟩
        · have hdiff : liveB (V ⟨k, q⟩) (.list (m.at q) c2 l2) → (V ⟨k, q⟩).b ≠ ad.block := by
            intro hl he
            have := hr.ents.sep ⟨k, pa⟩ ⟨k, q⟩ _ _ hc g1 hlive hl hkd (by rw [hbl, he])
            simp only [Rid.mk.injEq, true_and] at this
            exact hqp this.symm
          refine ⟨by rw [g2.1]; exact r1, by rw [g2.1]; exact r2, fun hd => ?_, fun a' x' hx' j t' ht' => ?_⟩
          · rcases Nat.eq_zero_or_pos (V ⟨k, q⟩).cap with hz0 | hp0
            · exact .inl hz0
            rcases r3 hd with h | ⟨a3, cs3, t3, z1, z2, z3, z4⟩
            · exact .inl h
            · have hlq : liveB (V ⟨k, q⟩) (.list (m.at q) c2 l2) := by rw [hd]; simp only [liveB]; omega
              have := hdiff hlq
              unfold Loc.b at this
              rw [z1] at this
              exact .inr ⟨a3, cs3, t3, z1, z2, (other _ this).trans z3, z4⟩
          · obtain ⟨x0, k1, k2⟩ := g2.2 a' x' hx'
            rcases k2 j t' ht' with ⟨w1, _⟩ | ⟨_, t0, w2, w3⟩
            · exact absurd w1 hqp
            · obtain ⟨ad2, y1, y2, y3⟩ := r4 a' x0 k1 j t0 w2
              refine ⟨ad2, y1, y2, ?_⟩
              have hlq : liveB (V ⟨k, q⟩) (.list (m.at q) c2 l2) := by
                have hne : l2 ≠ [] := by intro e; subst e; simp at k1
                have hpos : 0 < l2.length := List.length_pos_iff.2 hne
                cases hk : m.at q with
                | own => simp only [liveB]; omega
                | fz => exact hne
                | tmp => exact hne
              have := hdiff hlq
              unfold Loc.b at this
              rw [y1] at this
              rw [w3.den, cell_heap (other _ this)]
              exact y3) hr.d0w
    exact ⟨V, hr.upd hE hq (by rw [setRow_size]; exact Nat.le_refl _) (fun j _ hj => other _ fun he => hj ⟨⟨k, pa⟩, _, hc, hlive, hkd, by rw [hbl, he]⟩) ⟨rfl, rfl, rfl⟩⟩⟩
end
end Go.Proofs.Ytkageldgmkajbaa
namespace Go.Proofs.Ytkageldgmkajbaa
open Go.RowKit
def ReadC (w : World) (a : Option Addr) (news : List Value) : Prop := ∀ j u, news[j]? = some u → ∃ ad, a = some ad ∧ w.cell? (ad.add j) = some u
theorem ReadC.src {P : Program} {w : World} {size : Nat} {tx e' : TypeId} (hk : P.underlying tx = some (.slice e')) {a : Option Addr} {news : List Value} (h : ReadC w a news) (m c : Nat) (hl : news.length = m * size) (h1 : ∀ u ∈ news, u.oneCell' = true) (h0 : a = none → m = 0) : Src P size tx (.slice a m c) m news w := by
  cases a with
  | some ad => exact Src.ofSlice w hk ad m c news hl (fun j u hj => by obtain ⟨ad', e, hc⟩ := h j u hj; cases e; exact hc) h1
  | none =>
    have := h0 rfl
    subst this
    have : news = [] := List.eq_nil_of_length_eq_zero (by simpa using hl)
    subst this
    exact Src.ofNil w hk c
inductive AppW (w : World) (e : TypeId) (ab : Option Addr) (n m cb size : Nat) (pre news : List Value) (L : Loc) (w' : World) : Prop where
  | none (hL : L = ⟨ab, n + m, cb⟩) (hn : news = []) (hw : w' = w) (hc : n + m ≤ cb)
  | room (a : Addr) (cs : Array Value) (t : TypeId) (hL : L = ⟨ab, n + m, cb⟩) (ha : ab = some a) (hs : a.spot = none) (hh : w.heap[a.block]? = some (.cells cs t)) (hfit : a.off + cb * size ≤ cs.size) (hc : n + m ≤ cb) (h0 : 0 < cb)
      (hw : w' = w.setRow a.block (cs.toList.take (a.off + n * size) ++ news ++ cs.toList.drop (a.off + n * size + news.length)).toArray)
  | grow (rest : List Value) (hL : L.a = some ⟨w.heap.size, 0, none⟩) (hlen : L.len = n + m) (hc : n + m ≤ L.cap) (hr : rest.length = (L.cap - (n + m)) * size) (hw : w' = w.drew.alloc (.cells (pre ++ news ++ rest).toArray e)) (hcb : cb < n + m)
theorem r_append {P : Program} (w : World) {t ty e : TypeId} {i : TypeInfo} {z : Value} (ht : P.underlying t = some (.slice e)) (hi : P.info? e = some i) (hz : i.zero = some z) (hzs : z.cells.size = i.size) {ab : Option Addr} {n cb : Nat} {pre news : List Value} {avs : Option Addr} {m cs : Nat}
    (hpl : pre.length = n * i.size) (hpr : ReadC w ab pre) (hp0 : ab = none → n = 0) (hnl : news.length = m * i.size) (hnr : ReadC w avs news) (hn0 : avs = none → m = 0) (h1 : ∀ u ∈ news, u.oneCell' = true)
    (hown : cb = 0 ∨ ∃ a cs0 t0, ab = some a ∧ a.spot = none ∧ w.heap[a.block]? = some (.cells cs0 t0) ∧ a.off + cb * i.size ≤ cs0.size) (hnc : n ≤ cb) (hcm : cb ≤ maxLen) (h63 : n + m ≤ maxLen) (hb : (n + m) * i.bytes ≤ 140737488355328) :
    ∃ L w', (Builtin.append_ #[t, t] ty #[.slice ab n cb, .slice avs m cs]).run P w = .ok L.hd w' ∧ AppW w e ab n m cb i.size pre news L w' ∧ L.cap ≤ maxLen := by
  have hsrc : Src P i.size t (.slice avs m cs) m news w := hnr.src ht m cs hnl h1 hn0
  by_cases hroom : n + m ≤ cb
  · by_cases hne : news = []
    · subst hne
      refine ⟨⟨ab, n + m, cb⟩, w, ?_, .none rfl rfl rfl hroom, hcm⟩
      have hcs := hsrc.cells
      rcases hsrc.kind with ⟨e', hk⟩ | hk
      · cases ab <;> simp [Builtin.append_, run_underlying ht, sizeOf, typeInfo, hi, hsrc.len, hroom, hcs, storeCells, Loc.hd]
      · rw [ht] at hk; cases hk
    · have hml : 0 < news.length := List.length_pos_iff.2 hne
      have hm0 : 0 < m := Nat.pos_of_ne_zero fun e => hne (List.eq_nil_of_length_eq_zero (by rw [hnl, e, Nat.zero_mul]))
      rcases hown with h | ⟨⟨b, off, sp⟩, cs0, t0, rfl, hsp, hh, hfit⟩
      · omega
      · simp only at hsp hh hfit
        subst hsp
        have hfit' : off + n * i.size + news.length ≤ cs0.size := by
          rw [hnl]
          have : (n + m) * i.size ≤ cb * i.size := Nat.mul_le_mul_right _ hroom
          rw [Nat.add_mul] at this
          omega
        refine ⟨⟨some ⟨b, off, none⟩, n + m, cb⟩, _, ?_, .room ⟨b, off, none⟩ cs0 t0 rfl rfl rfl hh hfit hroom (by omega) rfl, hcm⟩
        have hst := run_storeCells_at (P := P) b (off + n * i.size) t0 news 0 cs0 w hh (by omega) h1
        simp only [Nat.add_zero] at hst
        simp [Builtin.append_, run_underlying ht, sizeOf, typeInfo, hi, hsrc.len, hroom, hsrc.cells, Addr.add_lit, hst, Loc.hd]
  · have hold : (Builtin.firstCells i.size n (.slice ab n cb)).run P w.drew = .ok pre.toArray w.drew := by
      cases ab with
      | none =>
        have : pre = [] := List.eq_nil_of_length_eq_zero (by rw [hpl, hp0 rfl]; simp)
        subst this
        exact run_firstCells_none w.drew i.size n n cb
      | some a =>
        exact run_firstCells_some w.drew i.size n a n cb pre hpl (fun j u hj => by obtain ⟨ad, e, hc⟩ := hpr j u hj; cases e; simpa using hc)
    have hfit : Builtin.nextslicecap (n + m) cb * i.bytes ≤ 281474976710656 := by
      have h1 := nextslicecap_le (need := n + m) (old := cb) (by omega)
      have h2 : Builtin.nextslicecap (n + m) cb * i.bytes ≤ 2 * (n + m) * i.bytes := Nat.mul_le_mul_right _ h1
      have h3 : 2 * (n + m) * i.bytes = 2 * ((n + m) * i.bytes) := Nat.mul_assoc _ _ _
      omega
    have h63' : ((n + m : Nat) : Int) ≤ 9223372036854775807 := by simp only [maxLen] at h63; omega
    have hr := run_append_grow_src (P := P) w t t ty e i z ht hi hz ab n cb pre hold _ m news hsrc (by omega) h63' hfit
    have hge := grownCap_ge w (n + m) cb e
    have hcm' : grownCap w (n + m) cb e ≤ maxLen := grownCap_le_maxLen w (n + m) cb e h63
    refine ⟨⟨some ⟨w.heap.size, 0, none⟩, n + m, grownCap w (n + m) cb e⟩, _, hr, .grow (Builtin.zeroCells z.cells (grownCap w (n + m) cb e - (n + m))).toList rfl rfl hge ?_ ?_ (by omega), hcm'⟩
    · rw [Array.length_toList, size_zeroCells, hzs]
    · congr 2
      apply Array.ext'
      simp
end Go.Proofs.Ytkageldgmkajbaa
namespace Go.Proofs.Ytkageldgmkajbaa
open Go.RowKit
abbrev Pv := Nat → Nat → Option Rid
def pvL (V : Vl) (pv : Pv) (a j : Nat) (q : Path) : Loc := match pv a j with
  | some ρ => V ⟨ρ.k, ρ.p ++ q⟩
  | none => ⟨none, 0, 0⟩
def denP (V : Vl) (pv : Pv) (a j : Nat) : TC → Value
  | .int k n => .int k n
  | .bool b => .bool b
  | .str s => .string s
  | .sl _ _ => (pvL V pv a j []).hd
structure RowsP (mem : List (Nat × MB)) (V : Vl) (md : Md) (ks : List Nat) (c : Ty) (ys : List (El c)) (news : List Value) (pv : Pv) : Prop where
  len : news.length = ys.length * wid c
  val : ∀ a x, ys[a]? = some x → ∀ j t, (tcells c x)[j]? = some t → news[a * wid c + j]? = some (denP V pv a j t)
  con : ∀ a x, ys[a]? = some x → ∀ j c1 l1, (tcells c x)[j]? = some (.sl c1 l1) → (pv a j = none ∧ l1 = []) ∨ ∃ ρ m c0 l0, pv a j = some ρ ∧ find mem ρ.k = some (.list m c0 l0) ∧ desc c0 l0 ρ.p = some ⟨c1, l1⟩ ∧ ((m = .own ∧ ρ.k ∈ ks) ∨ (m = .sh ∧ (ρ.k ∈ ks ∨ ρ.p ≠ []) ∧ md = .sh) ∨ (m = .fz ∧ md = .sh))
  pf : ∀ a j a' j' ρ ρ' q q' c0 l0, pv a j = some ρ → pv a' j' = some ρ' → find mem ρ.k = some (.list .own c0 l0) → ρ.k = ρ'.k → ρ.p ++ q = ρ'.p ++ q' → a = a' ∧ j = j'
theorem desc_nil {c : Ty} {q : Path} {y : (c : Ty) × List (El c)} (h : desc c [] q = some y) : q = [] ∧ y = ⟨c, []⟩ := by
  cases q with
  | nil => simp only [desc, Option.some.injEq] at h; exact ⟨rfl, h.symm⟩
  | cons ab q => obtain ⟨a, b⟩ := ab; simp [desc] at h
theorem flat_idx {α : Type} {es : Nat} {n : Nat} {news : List α} (hl : news.length = n * es) {k : Nat} (hk : k < news.length) : k / es < n ∧ k % es < es ∧ k / es * es + k % es = k := by
  have hes : 0 < es := Nat.pos_of_ne_zero fun e => by subst e; simp at hl; simp [hl] at hk
  refine ⟨(Nat.div_lt_iff_lt_mul hes).2 (by omega), Nat.mod_lt _ hes, by rw [Nat.mul_comm]; exact Nat.div_add_mod k es⟩
theorem RowsP.one {mem : List (Nat × MB)} {V : Vl} {md : Md} {ks : List Nat} {c : Ty} {ys : List (El c)} {news : List Value} {pv : Pv} (h : RowsP mem V md ks c ys news pv) : ∀ u ∈ news, u.oneCell' = true := by
  intro u hu
  obtain ⟨k, hk⟩ := List.mem_iff_getElem?.1 hu
  obtain ⟨h1, h2, h3⟩ := flat_idx h.len (List.getElem?_eq_some_iff.1 hk).1
  have hx := List.getElem?_eq_getElem h1
  have hj : k % wid c < (tcells c ys[k / wid c]).length := by rw [tcells_len]; exact h2
  have := h.val _ _ hx _ _ (List.getElem?_eq_getElem hj)
  rw [h3, hk] at this
  cases this
  cases (tcells c ys[k / wid c])[k % wid c] <;> rfl
theorem AtB.move {V V' : Vl} {w w' : World} {r r' : Rid} {d d' : Kd} {c : Ty} {l : List (El c)} (h : AtB V w r (.list d c l)) (he : V' r' = V r) (hch : ∀ i j, V' (r'.ch i j) = V (r.ch i j)) (hd : d' = .own → d = .own) (hb : liveB (V r) (.list d c l) → w'.heap[(V r).b]? = w.heap[(V r).b]?) : AtB V' w' r' (.list d' c l) := by
  obtain ⟨h1, h2, h3, h4⟩ := h
  refine ⟨by rw [he]; exact h1, by rw [he]; exact h2, fun hd' => ?_, fun i x hx j t ht => ?_⟩
  · have := hd hd'
    subst this
    rw [he]
    rcases Nat.eq_zero_or_pos (V r).cap with hz | hp
    · exact .inl hz
    · rcases h3 rfl with g | ⟨a, cs, t, g1, g2, g3, g4⟩
      · exact .inl g
      · have := hb (by simp only [liveB]; omega)
        unfold Loc.b at this
        rw [g1] at this
        exact .inr ⟨a, cs, t, g1, g2, this.trans g3, g4⟩
  · obtain ⟨a, g1, g2, g3⟩ := h4 i x hx j t ht
    have hlv : liveB (V r) (.list d c l) := by
      have hne : l ≠ [] := by intro e; subst e; simp at hx
      have hpos : 0 < l.length := List.length_pos_iff.2 hne
      cases d with
      | own => simp only [liveB]; omega
      | fz => exact hne
      | tmp => exact hne
    have := hb hlv
    unfold Loc.b at this
    rw [g1] at this
    refine ⟨a, by rw [he]; exact g1, g2, ?_⟩
    rw [cell_heap this, g3]
    cases t <;> simp only [denT]
    rw [hch i j]
def nlF (V : Vl) (pv : Pv) (L : Loc) : Path → Loc
  | [] => L
  | (a, j) :: q => pvL V pv a j q
theorem Rep.list {x : Cx} {g : Gx} {V : Vl} {s : St} {act : Act} {w w' : World} (h : Rep x g V s act w) {md : Md} (hmd : md = .own ∨ md = .sh) {ks : List Nat} {c : Ty} {zs : List (El c)} {vals : List Value} {pv : Pv} (R : RowsP s.mem V md ks c zs vals pv) (hks : ∀ k ∈ ks, k < s.nb)
    {L : Loc} (hlen : L.len = zs.length) (hcap : zs.length ≤ L.cap) (hown : OwnAt w' L (wid c)) (hcells : ∀ j u, vals[j]? = some u → ∃ a, L.a = some a ∧ a.spot = none ∧ w'.cell? ⟨a.block, a.off + j, none⟩ = some u)
    (rs : Option Nat) (hrs : L.cap ≠ 0 → match rs with | none => w.heap.size ≤ L.b | some kb => kb ∈ ks ∧ ∃ b0, cont s.mem ⟨kb, []⟩ = some b0 ∧ liveB (V ⟨kb, []⟩) b0 ∧ kindB b0 = .own ∧ L.b = (V ⟨kb, []⟩).b)
    (hrk : ∀ kb, rs = some kb → kb ∈ ks) (hrp : ∀ a j ρ kb, pv a j = some ρ → rs = some kb → ρ.k = kb → ρ.p ≠ [])
    (hsz : w.heap.size ≤ w'.heap.size) (same : ∀ b, b < w.heap.size → (∀ kb, rs = some kb → L.cap ≠ 0 → b ≠ (V ⟨kb, []⟩).b) → w'.heap[b]? = w.heap[b]?) (io : SIO w w') :
    Rep x g (V.ext s.nb (nlF V pv L)) ⟨s.env, (s.nb, .list md c zs) :: killL ks s.mem, s.nb + 1⟩ act w' := by
  have ag : AgrB s.nb (V.ext s.nb (nlF V pv L)) V := Vl.ext_agr
  have vn : ∀ p, V.ext s.nb (nlF V pv L) ⟨s.nb, p⟩ = nlF V pv L p := fun p => Vl.ext_new
  -- what is within
  have inner : ∀ a j q b', contB (.list md c zs) ((a, j) :: q) = some b' → (pv a j = none ∧ ∃ c2 d, b' = .list d c2 [] ∧ d ≠ .tmp) ∨ ∃ ρ d d' c2 l2, pv a j = some ρ ∧ b' = .list d' c2 l2 ∧ cont s.mem ⟨ρ.k, ρ.p ++ q⟩ = some (.list d c2 l2) ∧ d.le d' ∧ (d' = .own → d = .own) ∧ d' ≠ .tmp ∧ (ρ.k ∈ ks ∨ (d ≠ .own ∧ d' ≠ .own)) ∧ (d' = .own → ∃ c0 l0, find s.mem ρ.k = some (.list .own c0 l0)) := by
    intro a j q b' hb
    simp only [contB, desc] at hb
    split at hb
    · rename_i c2 l2 hd
      cases hb
      split at hd
      · cases hd
      · rename_i x hx
        split at hd
        · rename_i c1 l1 hj
          rcases R.con a x hx j c1 l1 hj with ⟨e1, rfl⟩ | ⟨ρ, m, c0, l0, e1, e2, e3, e4⟩
          · obtain ⟨_, e5⟩ := desc_nil hd
            cases e5
            refine .inl ⟨e1, _, _, rfl, ?_⟩
            rcases hmd with rfl | rfl <;> simp [Md.at]
          · refine .inr ⟨ρ, m.at (ρ.p ++ q), md.at ((a, j) :: q), c2, l2, e1, rfl, cont_iff.2 ⟨_, e2, by simp only [contB, desc_join e3, hd]⟩, ?_, ?_, ?_, ?_, ?_⟩
            · rcases e4 with ⟨rfl, _⟩ | ⟨rfl, _, rfl⟩ | ⟨rfl, rfl⟩
              · simp only [Md.at, Kd.le]
              · cases ρ.p ++ q <;> simp [Md.at, Kd.le]
              · simp [Md.at, Kd.le]
            · intro ho
              rcases hmd with rfl | rfl
              · rcases e4 with ⟨rfl, _⟩ | ⟨_, _, h⟩ | ⟨_, h⟩
                · rfl
                · cases h
                · cases h
              · simp [Md.at] at ho
            · rcases hmd with rfl | rfl <;> simp [Md.at]
            · rcases e4 with ⟨rfl, hk⟩ | ⟨rfl, hk, rfl⟩ | ⟨rfl, rfl⟩
              · exact .inl hk
              · rcases hk with hk | hk
                · exact .inl hk
                · refine .inr ⟨?_, by simp [Md.at]⟩
                  cases hp : ρ.p with
                  | nil => exact absurd hp hk
                  | cons _ _ => simp [Md.at]
              · exact .inr ⟨by simp [Md.at], by simp [Md.at]⟩
            · intro ho
              rcases hmd with rfl | rfl
              · rcases e4 with ⟨rfl, _⟩ | ⟨_, _, h⟩ | ⟨_, h⟩
                · exact ⟨c0, l0, e2⟩
                · cases h
                · cases h
              · simp [Md.at] at ho
        · cases hd
    · cases hb
  have root : ∀ b', contB (.list md c zs) [] = some b' → b' = .list .own c zs := by
    intro b' hb
    simp only [contB, desc, Option.some.injEq] at hb
    rw [← hb]
    rcases hmd with rfl | rfl <;> rfl
  have dead : ∀ a j q c2 d, pv a j = none → d ≠ Kd.tmp → ¬ liveB (V.ext s.nb (nlF V pv L) ⟨s.nb, (a, j) :: q⟩) (.list d c2 []) := by
    intro a j q c2 d e1 hd hl
    rw [vn] at hl
    simp only [nlF, pvL, e1] at hl
    cases d with
    | own => exact hl rfl
    | fz => exact hl rfl
    | tmp => exact hd rfl
  have locq : ∀ a j q ρ, pv a j = some ρ → V.ext s.nb (nlF V pv L) ⟨s.nb, (a, j) :: q⟩ = V ⟨ρ.k, ρ.p ++ q⟩ := by
    intro a j q ρ e1
    rw [vn]
    simp only [nlF, pvL, e1]
  have liveq : ∀ {L : Loc} {d d' : Kd} {c2 : Ty} {l2 : List (El c2)}, l2.length ≤ L.cap → (d' = .own → d = .own) → liveB L (.list d' c2 l2) → liveB L (.list d c2 l2) := by
    intro L d d' c2 l2 hc hd hl
    have pos : l2 ≠ [] → L.cap ≠ 0 := by
      intro hne e
      have := List.length_pos_iff.2 hne
      omega
    cases d' with
    | own => have := hd rfl; subst this; exact hl
    | fz => cases d with
      | own => exact pos hl
      | fz => exact hl
      | tmp => exact hl
    | tmp => cases d with
      | own => exact pos hl
      | fz => exact hl
      | tmp => exact hl
  have sameR : ∀ r b, cont s.mem r = some b → liveB (V r) b → (∀ kb, rs = some kb → r ≠ ⟨kb, []⟩) → w'.heap[(V r).b]? = w.heap[(V r).b]? := by
    intro r b hc hl hne
    refine same _ (h.ents.lt hc hl) fun kb hk hcp he => ?_
    have hr := hrs hcp
    rw [hk] at hr
    obtain ⟨_, b0, c1, c2, c3, _⟩ := hr
    exact hne kb hk (h.ents.sep ⟨kb, []⟩ r b0 b c1 hc c2 hl c3 he.symm).symm
  have hE := h.ents.turn (w' := w') (m := .list md c zs) (ks := ks) s.env ag rfl hks (fun p => match p with | [] => rs.map fun k => ⟨k, []⟩ | (a, j) :: q => (pv a j).map fun ρ => ⟨ρ.k, ρ.p ++ q⟩)
    (fun r b hc hl hk => sameR r b hc hl fun kb hkb e => by
      subst e
      exact hk (hrk kb hkb))
    (fun p b' hb hl => by
      cases p with
      | nil =>
        have hb' := root b' hb
        subst hb'
        rw [vn] at hl ⊢
        have hr := hrs hl
        cases rs with
        | none => exact .inl ⟨rfl, hr⟩
        | some kb =>
          obtain ⟨k1, b0, k2, k3, k4, k5⟩ := hr
          exact .inr ⟨⟨kb, []⟩, b0, rfl, k2, k3, k5, by rw [k4]; trivial, .inl k1⟩
      | cons aj q =>
        obtain ⟨a, j⟩ := aj
        rcases inner a j q b' hb with ⟨e1, c2, d, rfl, hd⟩ | ⟨ρ, d, d', c2, l2, e1, rfl, e2, e3, e4, e5, e6, e7⟩
        · exact absurd hl (dead a j q c2 d e1 hd)
        · refine .inr ⟨⟨ρ.k, ρ.p ++ q⟩, _, by simp only [e1, Option.map_some], e2, ?_, by rw [locq a j q ρ e1], e3, e6⟩
          rw [locq a j q ρ e1] at hl
          exact liveq (h.ents.at_ _ _ e2).2.1 e4 hl)
    (fun p1 p2 b1 b2 h1 h2 l1 l2 hk he => by
      cases p1 with
      | nil =>
        cases p2 with
        | nil => rfl
        | cons aj q =>
          exfalso
          obtain ⟨a, j⟩ := aj
          rcases inner a j q b2 h2 with ⟨e1, c2, d, rfl, hd⟩ | ⟨ρ, d, d', c2, l2', e1, rfl, e2, e3, e4, e5, e6, e7⟩
          · exact dead a j q c2 d e1 hd l2
          · simp only [e1, Option.map_some] at he
            cases hrs' : rs with
            | none => rw [hrs'] at he; cases he
            | some kb =>
              rw [hrs'] at he
              simp only [Option.map_some, Option.some.injEq, Rid.mk.injEq] at he
              exact hrp a j ρ kb e1 hrs' he.1.symm (List.append_eq_nil_iff.1 he.2.symm).1
      | cons aj q =>
        obtain ⟨a, j⟩ := aj
        rcases inner a j q b1 h1 with ⟨e1, c2, d, rfl, hd⟩ | ⟨ρ, d, d', c2, l2', e1, rfl, e2, e3, e4, e5, e6, e7⟩
        · exact absurd l1 (dead a j q c2 d e1 hd)
        · simp only [e1, Option.map_some] at he
          cases p2 with
          | nil =>
            exfalso
            cases hrs' : rs with
            | none => rw [hrs'] at he; cases he
            | some kb =>
              rw [hrs'] at he
              simp only [Option.map_some, Option.some.injEq, Rid.mk.injEq] at he
              exact hrp a j ρ kb e1 hrs' he.1 (List.append_eq_nil_iff.1 he.2).1
          | cons aj2 q2 =>
            obtain ⟨a2, j2⟩ := aj2
            rcases inner a2 j2 q2 b2 h2 with ⟨f1, c2', d2, rfl, hd2⟩ | ⟨ρ2, d2, d2', c2', l2'', f1, rfl, f2, f3, f4, f5, f6, f7⟩
            · exact absurd l2 (dead a2 j2 q2 c2' d2 f1 hd2)
            · simp only [f1, Option.map_some, Option.some.injEq, Rid.mk.injEq] at he
              obtain ⟨c0, l0, hf⟩ := e7 hk
              obtain ⟨rfl, rfl⟩ := R.pf a j a2 j2 ρ ρ2 q q2 c0 l0 e1 f1 hf he.1 he.2
              rw [e1] at f1
              cases f1
              rw [List.append_cancel_left he.2])
    (fun p b' hb => by
      cases p with
      | nil =>
        have hb' := root b' hb
        subst hb'
        refine ⟨by rw [vn]; exact hlen, by rw [vn]; exact hcap, fun _ => by rw [vn]; exact hown, fun i y hy j t ht => ?_⟩
        have := R.val i y hy j t ht
        obtain ⟨a, g1, g2, g3⟩ := hcells _ _ this
        refine ⟨a, by rw [vn]; exact g1, g2, ?_⟩
        rw [g3]
        cases t <;> simp only [denP, denT, Rid.ch, List.nil_append]
        rw [vn]; rfl
      | cons aj q =>
        obtain ⟨a, j⟩ := aj
        rcases inner a j q b' hb with ⟨e1, c2, d, rfl, hd⟩ | ⟨ρ, d, d', c2, l2, e1, rfl, e2, e3, e4, e5, e6, e7⟩
        · have : V.ext s.nb (nlF V pv L) ⟨s.nb, (a, j) :: q⟩ = ⟨none, 0, 0⟩ := by rw [vn]; simp only [nlF, pvL, e1]
          refine ⟨by rw [this]; rfl, by rw [this]; exact Nat.le_refl _, fun _ => by rw [this]; exact .inl rfl, fun i y hy => by simp at hy⟩
        · refine (h.ents.at_ _ _ e2).move (locq a j q ρ e1) (fun i j' => ?_) e4 (fun hl => sameR _ _ e2 hl fun kb hkb e => ?_)
          · simp only [Rid.ch, List.cons_append]
            rw [locq a j _ ρ e1, List.append_assoc]
          · simp only [Rid.mk.injEq] at e
            exact hrp a j ρ kb e1 hkb e.1 (List.append_eq_nil_iff.1 e.2).1) h.d0w
  refine h.turn hsz ag hks hE io (fun b hb hd => same b hb fun kb hk hcp he => ?_) (fun p b' hb hl hk => ?_)
  · have hr := hrs hcp
    rw [hk] at hr
    obtain ⟨_, b0, c1, c2, c3, _⟩ := hr
    exact hd ⟨⟨kb, []⟩, b0, c1, c2, c3, he.symm⟩
  · cases p with
    | nil =>
      have hb' := root b' hb
      subst hb'
      rw [vn] at hl ⊢
      have hr := hrs hl
      cases rs with
      | none => exact .inl hr
      | some kb =>
        obtain ⟨k1, b0, k2, k3, k4, k5⟩ := hr
        exact .inr ⟨⟨kb, []⟩, b0, k2, k3, k4, k5.symm⟩
    | cons aj q =>
      obtain ⟨a, j⟩ := aj
      rcases inner a j q b' hb with ⟨e1, c2, d, rfl, hd⟩ | ⟨ρ, d, d', c2, l2, e1, rfl, e2, e3, e4, e5, e6, e7⟩
      · exact absurd hl (dead a j q c2 d e1 hd)
      · rw [locq a j q ρ e1] at hl ⊢
        exact .inr ⟨_, _, e2, liveq (h.ents.at_ _ _ e2).2.1 e4 hl, e4 hk, rfl⟩
end Go.Proofs.Ytkageldgmkajbaa
namespace Go.Proofs.Ytkageldgmkajbaa
open Go.RowKit
inductive Pr where
  | no
  | own (k : Nat)
  | fz (r : Rid)
def Pr.rid : Pr → Option Rid
  | .no => none
  | .own k => some ⟨k, []⟩
  | .fz r => some r
def kills : List Pr → List Nat
  | [] => []
  | .own k :: l => k :: kills l
  | _ :: l => kills l
def cellT (mem : List (Nat × MB)) (ck : CKd) (v : SV) : Option (TC × Pr × Bool × List Prop) := match ck with
  | .sl c1 => match v with
    | .val (.slice none 0 0) => some (.sl c1 [], .no, false, [])
    | .sl ⟨k, p⟩ => match find mem k with
      | some (.list m c0 l0) => match descE c0 l0 p with
        | some (⟨_, l⟩, obs) => match castL (c' := c1) l with
          | some l' => match m, p with
            | .own, [] => some (.sl c1 l', .own k, false, obs)
            | .sh, [] => some (.sl c1 l', .own k, true, obs)
            | .fz, p => some (.sl c1 l', .fz ⟨k, p⟩, true, obs)
            | _, _ => none
          | none => none
        | none => none
      | _ => none
    | _ => none
  | _ => match scal v with
    | some t => some (t, .no, false, [])
    | none => none
def orB : Bool → Bool → Bool
  | true, _ => true
  | false, b => b
def cellsT (mem : List (Nat × MB)) : List CKd → List SV → Option (List TC × List Pr × Bool × List Prop × List SV)
  | [], vs => some ([], [], false, [], vs)
  | _ :: _, [] => none
  | ck :: cks, v :: vs => match cellT mem ck v, cellsT mem cks vs with
    | some (t, p, b, obs), some (ts, ps, b', obs', vs') => some (t :: ts, p :: ps, orB b b', app obs obs', vs')
    | _, _ => none
def rowsT (mem : List (Nat × MB)) (c : Ty) : Nat → List SV → Option (List (El c) × List Pr × Bool × List Prop)
  | 0, _ => some ([], [], false, [])
  | n + 1, vs => match cellsT mem (cks c) vs with
    | some (ts, ps, b, obs, vs') => match mkc c ts, rowsT mem c n vs' with
      | some x, some (xs, ps', b', obs') => some (x :: xs, app ps ps', orB b b', app obs obs')
      | _, _ => none
    | none => none
def notIn (k : Nat) : List Nat → Bool
  | [] => true
  | a :: l => match Nat.beq a k with
    | true => false
    | false => notIn k l
theorem notIn_spec {k : Nat} : ∀ {l : List Nat}, notIn k l = true → k ∉ l
  | [], _ => by simp
  | a :: l, h => by
    unfold notIn at h
    split at h
    · cases h
    · rename_i hb
      have h1 := Nat.ne_of_beq_eq_false hb
      have h2 := notIn_spec h
      simp only [List.mem_cons, not_or]
      exact ⟨fun e => h1 e.symm, h2⟩
def nodupB : List Nat → Bool
  | [] => true
  | a :: l => match notIn a l with
    | true => nodupB l
    | false => false
structure CellOk (mem : List (Nat × MB)) (V : Vl) (v : SV) (t : TC) (p : Pr) (b : Bool) : Prop where
  val : den V v = (match t with | .int k n => .int k n | .bool b => .bool b | .str s => .string s | .sl _ _ => (match p.rid with | some ρ => V ρ | none => ⟨none, 0, 0⟩ : Loc).hd)
  one : oneC v = true
  con : ∀ c1 l1, t = .sl c1 l1 → (p = .no ∧ l1 = []) ∨ ∃ ρ m c0 l0, p.rid = some ρ ∧ find mem ρ.k = some (.list m c0 l0) ∧ desc c0 l0 ρ.p = some ⟨c1, l1⟩ ∧ ((m = .own ∧ p = .own ρ.k) ∨ (m = .sh ∧ p = .own ρ.k ∧ b = true) ∨ (m = .fz ∧ p = .fz ρ ∧ b = true))
  no : isSl t = false → p = .no
theorem cellT_ok {mem : List (Nat × MB)} {V : Vl} {ck : CKd} {v : SV} {t : TC} {p : Pr} {b : Bool} {obs : List Prop} (h : cellT mem ck v = some (t, p, b, obs)) (ho : AllP obs) : CellOk mem V v t p b := by
  have sc : ∀ {t0}, scal v = some t0 → some (t0, Pr.no, false, ([] : List Prop)) = some (t, p, b, obs) → CellOk mem V v t p b := by
    intro t0 hs he
    simp only [Option.some.injEq, Prod.mk.injEq] at he
    obtain ⟨rfl, rfl, rfl, rfl⟩ := he
    obtain ⟨h1, h2, h3⟩ := scal_den hs V ⟨0, []⟩
    refine ⟨?_, h3, fun c1 l1 e => ?_, fun _ => rfl⟩
    · rw [h1]; cases t0 <;> first | rfl | (simp [isSl] at h2)
    · subst e; simp [isSl] at h2
  unfold cellT at h
  split at h
  · split at h
    · cases h
      exact ⟨rfl, rfl, fun c1 l1 e => by cases e; exact .inl ⟨rfl, rfl⟩, fun h => by simp [isSl] at h⟩
    · rename_i k p0
      split at h
      · rename_i m c0 l0 hf
        split at h
        · rename_i c' l obs' hd
          split at h
          · rename_i l' hc
            have he := castL_eq hc
            have key : ∀ {pr : Pr} {bb : Bool}, some (TC.sl _ l', pr, bb, obs') = some (t, p, b, obs) → pr.rid = some ⟨k, p0⟩ → ((m = .own ∧ pr = .own k) ∨ (m = .sh ∧ pr = .own k ∧ bb = true) ∨ (m = .fz ∧ pr = .fz ⟨k, p0⟩ ∧ bb = true)) → CellOk mem V (.sl ⟨k, p0⟩) t p b := by
              intro pr bb e1 e2 e3
              simp only [Option.some.injEq, Prod.mk.injEq] at e1
              obtain ⟨rfl, rfl, rfl, rfl⟩ := e1
              refine ⟨by simp only [den, e2], rfl, fun c1 l1 e => ?_, fun h => by simp [isSl] at h⟩
              cases e
              exact .inr ⟨⟨k, p0⟩, m, c0, l0, e2, hf, by rw [← he]; exact descE_eq hd ho, e3⟩
            split at h
            · exact key h rfl (.inl ⟨rfl, rfl⟩)
            · exact key h rfl (.inr (.inl ⟨rfl, rfl, rfl⟩))
            · exact key h rfl (.inr (.inr ⟨rfl, rfl, rfl⟩))
            · cases h
          · cases h
        · cases h
      · cases h
    · cases h
  · split at h
    · rename_i t0 hs
      exact sc hs h
    · cases h
theorem cellsT_ok {mem : List (Nat × MB)} {V : Vl} : ∀ {cs : List CKd} {vs : List SV} {ts : List TC} {ps : List Pr} {b : Bool} {obs : List Prop} {vs' : List SV}, cellsT mem cs vs = some (ts, ps, b, obs, vs') → AllP obs →
    ts.length = cs.length ∧ ps.length = cs.length ∧ vs.length = cs.length + vs'.length ∧ vs' = vs.drop cs.length ∧ ∀ (j : Nat) (t : TC), ts[j]? = some t → ∃ v p b', vs[j]? = some v ∧ ps[j]? = some p ∧ CellOk mem V v t p b' ∧ (b' = true → b = true)
  | [], vs, ts, ps, b, obs, vs', h, ho => by
    simp only [cellsT, Option.some.injEq, Prod.mk.injEq] at h
    obtain ⟨rfl, rfl, rfl, rfl, rfl⟩ := h
    exact ⟨rfl, rfl, by simp, by simp, fun j t h => by simp at h⟩
  | _ :: _, [], ts, ps, b, obs, vs', h, ho => by simp [cellsT] at h
  | ck :: cs, v :: vs, ts, ps, b, obs, vs', h, ho => by
    unfold cellsT at h
    split at h
    · rename_i t p b1 obs1 ts1 ps1 b2 obs2 vs1 h1 h2
      simp only [Option.some.injEq, Prod.mk.injEq] at h
      obtain ⟨rfl, rfl, rfl, rfl, rfl⟩ := h
      obtain ⟨o1, o2⟩ := AllP_app.1 ho
      obtain ⟨g1, g2, g3, g4, g5⟩ := cellsT_ok (V := V) h2 o2
      refine ⟨by simp [g1], by simp [g2], by simp [g3]; omega, by simp [g4], fun j t0 hj => ?_⟩
      cases j with
      | zero =>
        simp only [List.getElem?_cons_zero, Option.some.injEq] at hj
        subst hj
        exact ⟨v, p, b1, rfl, rfl, cellT_ok h1 o1, fun e => by subst e; rfl⟩
      | succ j =>
        simp only [List.getElem?_cons_succ] at hj ⊢
        obtain ⟨v0, p0, b0, k1, k2, k3, k4⟩ := g5 j t0 hj
        exact ⟨v0, p0, b0, k1, k2, k3, fun e => by rw [k4 e]; cases b1 <;> rfl⟩
    · cases h
theorem cks_len : ∀ c, (cks c).length = wid c := by intro c; cases c <;> rfl
theorem rowsT_ok {mem : List (Nat × MB)} {V : Vl} {c : Ty} : ∀ {n : Nat} {vs : List SV} {ys : List (El c)} {ps : List Pr} {b : Bool} {obs : List Prop}, rowsT mem c n vs = some (ys, ps, b, obs) → AllP obs →
    ys.length = n ∧ ps.length = n * wid c ∧ n * wid c ≤ vs.length ∧ ∀ (a : Nat) (x : El c), ys[a]? = some x → ∀ (j : Nat) (t : TC), (tcells c x)[j]? = some t → ∃ v p b', vs[a * wid c + j]? = some v ∧ ps[a * wid c + j]? = some p ∧ CellOk mem V v t p b' ∧ (b' = true → b = true)
  | 0, vs, ys, ps, b, obs, h, ho => by
    simp only [rowsT, Option.some.injEq, Prod.mk.injEq] at h
    obtain ⟨rfl, rfl, rfl, rfl⟩ := h
    exact ⟨rfl, by simp, by simp, fun a x h => by simp at h⟩
  | n + 1, vs, ys, ps, b, obs, h, ho => by
    unfold rowsT at h
    split at h
    · rename_i ts ps1 b1 obs1 vs1 h1
      split at h
      · rename_i x xs ps2 b2 obs2 h2 h3
        simp only [Option.some.injEq, Prod.mk.injEq] at h
        obtain ⟨rfl, rfl, rfl, rfl⟩ := h
        obtain ⟨o1, o2⟩ := AllP_app.1 ho
        obtain ⟨g1, g2, g3, g4, g5⟩ := cellsT_ok (V := V) h1 o1
        obtain ⟨k1, k2, k3, k4⟩ := rowsT_ok (V := V) h3 o2
        rw [cks_len] at g1 g2 g3 g4
        have hw := mkc_cells h2
        refine ⟨by simp [k1], by rw [app_eq, List.length_append, g2, k2, Nat.succ_mul]; omega, by rw [Nat.succ_mul]; omega, fun a y hy j t hj => ?_⟩
        cases a with
        | zero =>
          simp only [List.getElem?_cons_zero, Option.some.injEq] at hy
          subst hy
          rw [hw] at hj
          obtain ⟨v, p, b', q1, q2, q3, q4⟩ := g5 j t hj
          have hjw : j < wid c := by have := (List.getElem?_eq_some_iff.1 hj).1; omega
          refine ⟨v, p, b', by rw [Nat.zero_mul, Nat.zero_add]; exact q1, ?_, q3, fun e => by rw [q4 e]; rfl⟩
          rw [Nat.zero_mul, Nat.zero_add, app_eq, List.getElem?_append_left (by omega)]
          exact q2
        | succ a =>
          simp only [List.getElem?_cons_succ] at hy
          obtain ⟨v, p, b', q1, q2, q3, q4⟩ := k4 a y hy j t hj
          have e : (a + 1) * wid c + j = wid c + (a * wid c + j) := by rw [Nat.succ_mul]; omega
          refine ⟨v, p, b', ?_, ?_, q3, fun e => by rw [q4 e]; cases b1 <;> rfl⟩
          · rw [e]
            rw [g4, List.getElem?_drop] at q1
            exact q1
          · rw [e, app_eq, List.getElem?_append_right (by omega), g2, Nat.add_sub_cancel_left]
            exact q2
      · cases h
    · cases h
def pvF (c : Ty) (ps : List Pr) : Pv := fun a j => if j < wid c then (ps[a * wid c + j]?).bind Pr.rid else none
theorem nodup_kills : ∀ {ps : List Pr} {i j k : Nat}, nodupB (kills ps) = true → ps[i]? = some (.own k) → ps[j]? = some (.own k) → i = j
  | [], i, j, k, _, h, _ => by simp at h
  | p :: ps, i, j, k, hn, hi, hj => by
    have mem : ∀ {ps : List Pr} {i k : Nat}, ps[i]? = some (.own k) → k ∈ kills ps := by
      intro ps
      induction ps with
      | nil => intro i k h; simp at h
      | cons q ps ih =>
        intro i k h
        cases i with
        | zero => simp only [List.getElem?_cons_zero, Option.some.injEq] at h; subst h; exact List.mem_cons_self
        | succ i =>
          simp only [List.getElem?_cons_succ] at h
          cases q <;> simp only [kills] <;> first | exact ih h | exact List.mem_cons_of_mem _ (ih h)
    have tail : nodupB (kills ps) = true := by
      cases p <;> simp only [kills] at hn <;> first | exact hn | skip
      unfold nodupB at hn
      split at hn
      · exact hn
      · cases hn
    cases i with
    | zero =>
      cases j with
      | zero => rfl
      | succ j =>
        exfalso
        simp only [List.getElem?_cons_zero, Option.some.injEq] at hi
        subst hi
        simp only [List.getElem?_cons_succ] at hj
        simp only [kills] at hn
        unfold nodupB at hn
        split at hn
        · rename_i hni; exact notIn_spec hni (mem hj)
        · cases hn
    | succ i =>
      cases j with
      | zero =>
        exfalso
        simp only [List.getElem?_cons_zero, Option.some.injEq] at hj
        subst hj
        simp only [List.getElem?_cons_succ] at hi
        simp only [kills] at hn
        unfold nodupB at hn
        split at hn
        · rename_i hni; exact notIn_spec hni (mem hi)
        · cases hn
      | succ j =>
        simp only [List.getElem?_cons_succ] at hi hj
        rw [nodup_kills tail hi hj]
theorem mem_kills : ∀ {ps : List Pr} {i k : Nat}, ps[i]? = some (.own k) → k ∈ kills ps := by
  intro ps
  induction ps with
  | nil => intro i k h; simp at h
  | cons q ps ih =>
    intro i k h
    cases i with
    | zero => simp only [List.getElem?_cons_zero, Option.some.injEq] at h; subst h; exact List.mem_cons_self
    | succ i =>
      simp only [List.getElem?_cons_succ] at h
      cases q <;> simp only [kills] <;> first | exact ih h | exact List.mem_cons_of_mem _ (ih h)
theorem kills_mem : ∀ {ps : List Pr} {k : Nat}, k ∈ kills ps → ∃ i : Nat, ps[i]? = some (Pr.own k) := by
  intro ps
  induction ps with
  | nil => intro k h; simp [kills] at h
  | cons q ps ih =>
    intro k h
    cases q <;> simp only [kills, List.mem_cons] at h
    · obtain ⟨i, hi⟩ := ih h; exact ⟨i + 1, hi⟩
    · rcases h with rfl | h
      · exact ⟨0, rfl⟩
      · obtain ⟨i, hi⟩ := ih h; exact ⟨i + 1, hi⟩
    · obtain ⟨i, hi⟩ := ih h; exact ⟨i + 1, hi⟩
theorem rowsT_rows {mem : List (Nat × MB)} {V : Vl} {c : Ty} {n : Nat} {vs : List SV} {ys : List (El c)} {ps : List Pr} {b : Bool} {obs : List Prop} {md : Md} (h : rowsT mem c n vs = some (ys, ps, b, obs)) (ho : AllP obs) (hn : nodupB (kills ps) = true) (hmd : b = true → md = .sh) :
    RowsP mem V md (kills ps) c ys ((denL V vs).take (n * wid c)) (pvF c ps) := by
  obtain ⟨k1, k2, k3, k4⟩ := rowsT_ok (V := V) h ho
  have get : ∀ {a j : Nat} {ρ : Rid}, pvF c ps a j = some ρ → j < wid c ∧ ∃ p, ps[a * wid c + j]? = some p ∧ p.rid = some ρ := by
    intro a j ρ h
    unfold pvF at h
    split at h
    · rename_i hj
      obtain ⟨p, h1, h2⟩ := Option.bind_eq_some_iff.1 h
      exact ⟨hj, p, h1, h2⟩
    · cases h
  refine ⟨by rw [List.length_take, denL_length, k1]; omega, fun a x hx j t hj => ?_, fun a x hx j c1 l1 hj => ?_, fun a j a' j' ρ ρ' q q' c0 l0 e1 e2 e3 e4 e5 => ?_⟩
  · obtain ⟨v, p, b', q1, q2, q3, q4⟩ := k4 a x hx j t hj
    have hjw : j < wid c := by have := (List.getElem?_eq_some_iff.1 hj).1; rw [tcells_len] at this; exact this
    have ha : a < n := by have := (List.getElem?_eq_some_iff.1 hx).1; omega
    have hlt : a * wid c + j < n * wid c := by
      have : (a + 1) * wid c ≤ n * wid c := Nat.mul_le_mul_right _ ha
      rw [Nat.succ_mul] at this; omega
    rw [List.getElem?_take, if_pos hlt, denL_get', q1, Option.map_some, q3.val]
    congr 1
    have e : pvF c ps a j = p.rid := by unfold pvF; rw [if_pos hjw, q2]; rfl
    cases t <;> simp only [denP, pvL, e]
    cases p <;> simp [Pr.rid]
  · obtain ⟨v, p, b', q1, q2, q3, q4⟩ := k4 a x hx j _ hj
    have hjw : j < wid c := by have := (List.getElem?_eq_some_iff.1 hj).1; rw [tcells_len] at this; exact this
    have e : pvF c ps a j = p.rid := by unfold pvF; rw [if_pos hjw, q2]; rfl
    rcases q3.con c1 l1 rfl with ⟨rfl, rfl⟩ | ⟨ρ, m, c0, l0, g1, g2, g3, g4⟩
    · exact .inl ⟨e, rfl⟩
    · refine .inr ⟨ρ, m, c0, l0, e.trans g1, g2, g3, ?_⟩
      rcases g4 with ⟨rfl, rfl⟩ | ⟨rfl, rfl, hb⟩ | ⟨rfl, rfl, hb⟩
      · exact .inl ⟨rfl, mem_kills q2⟩
      · exact .inr (.inl ⟨rfl, .inl (mem_kills q2), hmd (q4 hb)⟩)
      · exact .inr (.inr ⟨rfl, hmd (q4 hb)⟩)
  · obtain ⟨j1, p1, g1, g2⟩ := get e1
    obtain ⟨j2, p2, g3, g4⟩ := get e2
    have own : ∀ {i : Nat} {p : Pr} {ρ0 : Rid}, ps[i]? = some p → p.rid = some ρ0 → find mem ρ0.k = some (.list .own c0 l0) → p = .own ρ0.k := by
      intro i p ρ0 hp hr hf
      have hi : i < ps.length := (List.getElem?_eq_some_iff.1 hp).1
      have hw : 0 < wid c := wid_pos c
      obtain ⟨f1, f2, f3⟩ := flat_idx k2 hi
      have hx := List.getElem?_eq_getElem (l := ys) (i := i / wid c) (by omega)
      have hjl : i % wid c < (tcells c ys[i / wid c]).length := by rw [tcells_len]; exact f2
      obtain ⟨v, p', b', q1, q2, q3, q4⟩ := k4 _ _ hx _ _ (List.getElem?_eq_getElem hjl)
      rw [f3, hp] at q2
      cases q2
      have hsl : isSl (tcells c ys[i / wid c])[i % wid c] = true := by
        cases h : isSl (tcells c ys[i / wid c])[i % wid c] with
        | true => rfl
        | false => have := q3.no h; subst this; cases hr
      cases ht : (tcells c ys[i / wid c])[i % wid c] with
      | sl c1 l1 =>
        rw [ht] at q3
        rcases q3.con c1 l1 rfl with ⟨rfl, _⟩ | ⟨ρ1, m, c0', l0', y1, y2, y3, y4⟩
        · cases hr
        · rw [hr] at y1
          cases y1
          rw [hf] at y2
          cases y2
          rcases y4 with ⟨_, h⟩ | ⟨h, _⟩ | ⟨h, _⟩
          · exact h
          · cases h
          · cases h
      | int k n => rw [ht] at hsl; cases hsl
      | bool b => rw [ht] at hsl; cases hsl
      | str s => rw [ht] at hsl; cases hsl
    have o1 := own g1 g2 e3
    have o2 := own g3 g4 (by rw [← e4]; exact e3)
    subst o1
    subst o2
    rw [← e4] at g3
    have hij := nodup_kills hn g1 g3
    have ha : a = a' := by
      rcases Nat.lt_trichotomy a a' with hlt | heq | hgt
      · have : (a + 1) * wid c ≤ a' * wid c := Nat.mul_le_mul_right _ hlt
        rw [Nat.succ_mul] at this; omega
      · exact heq
      · have : (a' + 1) * wid c ≤ a * wid c := Nat.mul_le_mul_right _ hgt
        rw [Nat.succ_mul] at this; omega
    subst ha
    exact ⟨rfl, by omega⟩
end Go.Proofs.Ytkageldgmkajbaa
namespace Go.Proofs.Ytkageldgmkajbaa
open Go.RowKit
def noSl : List CKd → Bool
  | [] => true
  | .sl _ :: _ => false
  | _ :: l => noSl l
theorem noSl_spec : ∀ {l : List CKd}, noSl l = true → ∀ (j : Nat) (c : Ty), l[j]? ≠ some (CKd.sl c)
  | [], _, j, c => by simp
  | k :: l, h, j, c => by
    have hl : noSl l = true := by cases k <;> first | exact h | cases h
    cases j with
    | zero =>
      simp only [List.getElem?_cons_zero, ne_eq, Option.some.injEq]
      intro e; subst e; cases h
    | succ j => simp only [List.getElem?_cons_succ]; exact noSl_spec hl j c
theorem flat_no {c : Ty} (h : noSl (cks c) = true) {x : El c} {j : Nat} {c1 : Ty} {l1 : List (El c1)} : (tcells c x)[j]? ≠ some (.sl c1 l1) := by
  intro e
  refine noSl_spec h j c1 ?_
  rw [← tcells_ck c x, List.getElem?_map, e]; rfl
theorem RowsP.mono {mem : List (Nat × MB)} {V : Vl} {md md' : Md} {ks ks' : List Nat} {c : Ty} {ys : List (El c)} {news : List Value} {pv : Pv} (h : RowsP mem V md ks c ys news pv) (hk : ∀ k ∈ ks, k ∈ ks') (hm : md = .sh → md' = .sh) : RowsP mem V md' ks' c ys news pv :=
  ⟨h.len, h.val, fun a x hx j c1 l1 hj => by
    rcases h.con a x hx j c1 l1 hj with h | ⟨ρ, m, c0, l0, e1, e2, e3, e4⟩
    · exact .inl h
    · refine .inr ⟨ρ, m, c0, l0, e1, e2, e3, ?_⟩
      rcases e4 with ⟨h1, h2⟩ | ⟨h1, h2, h3⟩ | ⟨h1, h2⟩
      · exact .inl ⟨h1, hk _ h2⟩
      · exact .inr (.inl ⟨h1, h2.imp_left (hk _), hm h3⟩)
      · exact .inr (.inr ⟨h1, hm h2⟩), h.pf⟩
def pvC (n : Nat) (p q : Pv) : Pv := fun a j => if a < n then p a j else q (a - n) j
theorem RowsP.cat {mem : List (Nat × MB)} {V : Vl} {md : Md} {k1 k2 : List Nat} {c : Ty} {xs ys : List (El c)} {nx ny : List Value} {p q : Pv} (h : RowsP mem V md k1 c xs nx p) (g : RowsP mem V md k2 c ys ny q)
    (hk1 : ∀ a j ρ m c0 l0, p a j = some ρ → find mem ρ.k = some (.list m c0 l0) → m = .own → ρ.k ∈ k1) (hk2 : ∀ a j ρ m c0 l0, q a j = some ρ → find mem ρ.k = some (.list m c0 l0) → m = .own → ρ.k ∈ k2) (hd : ∀ k, k ∈ k1 → k ∉ k2) : RowsP mem V md (k1 ++ k2) c (xs ++ ys) (nx ++ ny) (pvC xs.length p q) := by
  refine ⟨by rw [List.length_append, List.length_append, h.len, g.len, Nat.add_mul], fun a x hx j t hj => ?_, fun a x hx j c1 l1 hj => ?_, fun a j a' j' ρ ρ' r r' c0 l0 e1 e2 e3 e4 e5 => ?_⟩
  · have hjw : j < wid c := by have := (List.getElem?_eq_some_iff.1 hj).1; rw [tcells_len] at this; exact this
    by_cases ha : a < xs.length
    · rw [List.getElem?_append_left ha] at hx
      have := h.val a x hx j t hj
      rw [List.getElem?_append_left (List.getElem?_eq_some_iff.1 this).1, this]
      congr 1
      cases t <;> simp only [denP, pvL, pvC, if_pos ha]
    · rw [List.getElem?_append_right (by omega)] at hx
      have := g.val _ x hx j t hj
      have e : a * wid c + j = nx.length + ((a - xs.length) * wid c + j) := by
        rw [h.len, ← Nat.add_assoc, ← Nat.add_mul]; congr 2; omega
      rw [e, List.getElem?_append_right (by omega), Nat.add_sub_cancel_left, this]
      congr 1
      cases t <;> simp only [denP, pvL, pvC, if_neg ha]
  · by_cases ha : a < xs.length
    · rw [List.getElem?_append_left ha] at hx
      have := (h.mono (fun k hk => List.mem_append_left k2 hk) (fun h => h)).con a x hx j c1 l1 hj
      simpa only [pvC, if_pos ha] using this
    · rw [List.getElem?_append_right (by omega)] at hx
      have := (g.mono (fun k hk => List.mem_append_right k1 hk) (fun h => h)).con _ x hx j c1 l1 hj
      simpa only [pvC, if_neg ha] using this
  · unfold pvC at e1 e2
    split at e1 <;> split at e2
    · exact h.pf a j a' j' ρ ρ' r r' c0 l0 e1 e2 e3 e4 e5
    · exact absurd (hk2 _ _ _ _ _ _ e2 (by rw [← e4]; exact e3) rfl) (by rw [← e4]; exact hd _ (hk1 _ _ _ _ _ _ e1 e3 rfl))
    · exact absurd (hk1 _ _ _ _ _ _ e2 (by rw [← e4]; exact e3) rfl) (by intro h'; exact hd _ h' (by rw [← e4]; exact hk2 _ _ _ _ _ _ e1 e3 rfl))
    · obtain ⟨h1, h2⟩ := g.pf _ j _ j' ρ ρ' r r' c0 l0 e1 e2 e3 e4 e5
      exact ⟨by omega, h2⟩
def pvR (c : Ty) (r : Rid) (i : Nat) : Pv := match noSl (cks c) with
  | true => fun _ _ => none
  | false => fun a j => if j < wid c then some ⟨r.k, r.p ++ [(i + a, j)]⟩ else none
theorem rows_list {mem : List (Nat × MB)} {V : Vl} {w : World} {md : Md} {ks : List Nat} {r : Rid} {m : Md} {c0 : Ty} {l0 : List (El c0)} {d : Kd} {c : Ty} {l : List (El c)} (hf : find mem r.k = some (.list m c0 l0)) (hd : desc c0 l0 r.p = some ⟨c, l⟩) (h : AtB V w r (.list d c l)) {i n : Nat} (hin : i + n ≤ l.length)
    (hm : noSl (cks c) = true ∨ (m = .own ∧ r.k ∈ ks) ∨ (m = .sh ∧ md = .sh) ∨ (m = .fz ∧ md = .sh)) :
    ∃ news, RowsP mem V md ks c ((l.drop i).take n) news (pvR c r i) ∧ (news = [] ∨ ∃ a, (V r).a = some a ∧ a.spot = none ∧ ∀ j u, news[j]? = some u → w.cell? ⟨a.block, a.off + i * wid c + j, none⟩ = some u) ∧ (n = 0 → news = []) := by
  have hget : ∀ {a x}, ((l.drop i).take n)[a]? = some x → a < n ∧ l[i + a]? = some x := by
    intro a x hx
    rw [List.getElem?_take] at hx
    split at hx
    · rename_i ha; rw [List.getElem?_drop] at hx; exact ⟨ha, hx⟩
    · cases hx
  have hlen : ((l.drop i).take n).length = n := by rw [List.length_take, List.length_drop]; omega
  let ad := ((V r).a).getD ⟨0, 0, none⟩
  let news := (List.range (n * wid c)).map fun k => (w.cell? ⟨ad.block, ad.off + i * wid c + k, none⟩).getD (.int .i64 0)
  have cell : ∀ a x, ((l.drop i).take n)[a]? = some x → ∀ j t, (tcells c x)[j]? = some t → ∃ a0, (V r).a = some a0 ∧ a0.spot = none ∧ w.cell? ⟨ad.block, ad.off + i * wid c + (a * wid c + j), none⟩ = some (denT V (r.ch (i + a) j) t) ∧ a * wid c + j < n * wid c := by
    intro a x hx j t hj
    obtain ⟨ha, hx'⟩ := hget hx
    obtain ⟨a0, g1, g2, g3⟩ := h.2.2.2 (i + a) x hx' j t hj
    have hjw : j < wid c := by have := (List.getElem?_eq_some_iff.1 hj).1; rw [tcells_len] at this; exact this
    refine ⟨a0, g1, g2, ?_, ?_⟩
    · have : ad = a0 := by simp only [ad, g1, Option.getD_some]
      rw [this, ← g3, Nat.add_mul]
      congr 2; omega
    · have : (a + 1) * wid c ≤ n * wid c := Nat.mul_le_mul_right _ ha
      rw [Nat.succ_mul] at this; omega
  have pvE : noSl (cks c) = false → ∀ a j, j < wid c → pvR c r i a j = some ⟨r.k, r.p ++ [(i + a, j)]⟩ := by
    intro hns a j hj
    unfold pvR; rw [hns]; simp only [if_pos hj]
  refine ⟨news, ⟨by simp [news, hlen], fun a x hx j t hj => ?_, fun a x hx j c1 l1 hj => ?_, fun a j a' j' ρ ρ' q q' c0 l0 e1 e2 e3 e4 e5 => ?_⟩, ?_, fun hn => by simp [news, hn]⟩
  · obtain ⟨a0, g1, g2, g3, g4⟩ := cell a x hx j t hj
    have hjw : j < wid c := by have := (List.getElem?_eq_some_iff.1 hj).1; rw [tcells_len] at this; exact this
    simp only [news, List.getElem?_map, List.getElem?_range g4, Option.map_some, g3, Option.getD_some]
    congr 1
    cases t with
    | int k n => rfl
    | bool b => rfl
    | str s => rfl
    | sl c1 l1 =>
      have hns : noSl (cks c) = false := by
        cases h' : noSl (cks c) with
        | false => rfl
        | true => exact absurd hj (flat_no h')
      simp only [denT, denP, pvL, pvE hns a j hjw, Rid.ch, List.append_nil]
  · have hns : noSl (cks c) = false := by
      cases h' : noSl (cks c) with
      | false => rfl
      | true => exact absurd hj (flat_no h')
    have hjw : j < wid c := by have := (List.getElem?_eq_some_iff.1 hj).1; rw [tcells_len] at this; exact this
    refine .inr ⟨⟨r.k, r.p ++ [(i + a, j)]⟩, m, c0, l0, pvE hns a j hjw, hf, desc_snoc hd (hget hx).2 hj, ?_⟩
    rcases hm with h' | h' | ⟨h', h2⟩ | h'
    · rw [hns] at h'; cases h'
    · exact .inl h'
    · exact .inr (.inl ⟨h', .inr (by simp), h2⟩)
    · exact .inr (.inr h')
  · have hns : noSl (cks c) = false := by
      cases h' : noSl (cks c) with
      | false => rfl
      | true => unfold pvR at e1; rw [h'] at e1; cases e1
    have ex : ∀ {a j ρ}, pvR c r i a j = some ρ → ρ = ⟨r.k, r.p ++ [(i + a, j)]⟩ := by
      intro a j ρ h
      unfold pvR at h
      rw [hns] at h
      simp only at h
      split at h
      · cases h; rfl
      · cases h
    rw [ex e1, ex e2] at e5
    simp only [List.append_assoc] at e5
    have := List.append_cancel_left e5
    simp only [List.cons_append, List.nil_append, List.cons.injEq, Prod.mk.injEq] at this
    exact ⟨by omega, this.1.2⟩
  · by_cases h0 : news = []
    · exact .inl h0
    · right
      have hnp : 0 < n * wid c := by
        rcases Nat.eq_zero_or_pos (n * wid c) with h | h
        · exfalso; apply h0; simp [news, h]
        · exact h
      have hn0 : 0 < n := Nat.pos_of_mul_pos_right hnp
      have hx0 : ((l.drop i).take n)[0]? = some ((l.drop i).take n)[0] := List.getElem?_eq_getElem (by omega)
      have hj0 : 0 < (tcells c ((l.drop i).take n)[0]).length := by rw [tcells_len]; exact wid_pos c
      obtain ⟨a0, g1, g2, _⟩ := cell 0 _ hx0 0 _ (List.getElem?_eq_getElem hj0)
      refine ⟨a0, g1, g2, fun j u hu => ?_⟩
      have had : ad = a0 := by simp only [ad, g1, Option.getD_some]
      have hjl : j < n * wid c := by have := (List.getElem?_eq_some_iff.1 hu).1; simpa [news] using this
      obtain ⟨f1, f2, f3⟩ := flat_idx (news := news) (by simp [news] : news.length = n * wid c) (k := j) (by simpa [news] using hjl)
      have hx := List.getElem?_eq_getElem (l := (l.drop i).take n) (i := j / wid c) (by omega)
      have hjj : j % wid c < (tcells c ((l.drop i).take n)[j / wid c]).length := by rw [tcells_len]; exact f2
      obtain ⟨_, _, _, k3, _⟩ := cell _ _ hx _ _ (List.getElem?_eq_getElem hjj)
      rw [f3] at k3
      simp only [news, List.getElem?_map, List.getElem?_range hjl, Option.map_some, k3, Option.getD_some, Option.some.injEq] at hu
      rw [← had, k3, hu]
end Go.Proofs.Ytkageldgmkajbaa
namespace Go.Proofs.Ytkageldgmkajbaa
open Go.RowKit
abbrev SrcR (c : Ty) := Option (List (El c) × List Nat × Bool × List Prop)
def srcK (c : Ty) (m : Md) (k : Nat) (p : Path) (ys : List (El c)) (obs : List Prop) : SrcR c := match noSl (cks c) with
  | true => some (ys, [], false, obs)
  | false => match m, p with
    | .own, [] => some (ys, [k], false, obs)
    | .sh, [] => some (ys, [], true, obs)
    | .fz, _ => some (ys, [], true, obs)
    | _, _ => none
def srcS (mem : List (Nat × MB)) (c : Ty) : SV → SrcR c
  | .val (.slice none 0 0) => some ([], [], false, [])
  | .slc k 0 n cap => match find mem k with
    | some (.cells cs) => match rowsT mem c n cs with
      | some (ys, ps, b, obs) => match nodupB (kills ps) with
        | true => some (ys, kills ps, b, obs)
        | false => none
      | none => none
    | _ => none
  | .sl ⟨k, p⟩ => match find mem k with
    | some (.list m c0 l0) => match descE c0 l0 p with
      | some (⟨_, l⟩, obs) => match castL (c' := c) l with
        | some l' => srcK c m k p l' obs
        | none => none
      | none => none
    | _ => none
  | .vw ⟨k, p⟩ es i n cx => match find mem k, Nat.beq es (wid c) with
    | some (.list m c0 l0), true => match descE c0 l0 p with
      | some (⟨_, l⟩, obs) => match castL (c' := c) l with
        | some l' => srcK c m k p ((l'.drop i).take n) ((i + n ≤ l'.length) :: app (leP n cx) obs)
        | none => none
      | none => none
    | _, _ => none
  | _ => none
structure SrcV (mem : List (Nat × MB)) (V : Vl) (w : World) (p : SV) (md : Md) (ks : List Nat) (c : Ty) (ys : List (El c)) (a : Option Addr) (cap : Nat) (news : List Value) (pv : Pv) : Prop where
  den : den V p = .slice a ys.length cap
  rows : RowsP mem V md ks c ys news pv
  read : ReadC w a news
  none : a = none → ys.length = 0
  own : ∀ a j ρ m c0 l0, pv a j = some ρ → find mem ρ.k = some (.list m c0 l0) → m = .own → ρ.k ∈ ks
  is : ∀ a j ρ, pv a j = some ρ → ∃ m c0 l0, find mem ρ.k = some (.list m c0 l0)
  own2 : ∀ a j ρ m c0 l0, pv a j = some ρ → find mem ρ.k = some (.list m c0 l0) → m ≠ .fz → ρ.k ∈ ks ∨ ρ.p ≠ []
theorem RowsP.nil {mem : List (Nat × MB)} {V : Vl} {md : Md} {c : Ty} : RowsP mem V md [] c [] [] (fun _ _ => none) :=
  ⟨by simp, fun a x h => by simp at h, fun a x h => by simp at h, fun a j a' j' ρ ρ' q q' c0 l0 h => by cases h⟩
theorem srcK_ok {c : Ty} {m : Md} {k : Nat} {p : Path} {ys ys' : List (El c)} {ks : List Nat} {b : Bool} {obs obs' : List Prop} {md : Md} (h : srcK c m k p ys obs = some (ys', ks, b, obs')) (hmd : b = true → md = .sh) : ys' = ys ∧ obs' = obs ∧ (noSl (cks c) = true ∨ (m = .own ∧ k ∈ ks) ∨ (m = .sh ∧ md = .sh) ∨ (m = .fz ∧ md = .sh)) ∧ (noSl (cks c) = false → m = .own → k ∈ ks) := by
  unfold srcK at h
  cases hf : noSl (cks c) with
  | true =>
    rw [hf] at h
    simp only [Option.some.injEq, Prod.mk.injEq] at h
    obtain ⟨rfl, rfl, rfl, rfl⟩ := h
    exact ⟨rfl, rfl, .inl rfl, fun h => by cases h⟩
  | false =>
    rw [hf] at h
    cases m <;> cases p <;> simp only [Option.some.injEq, Prod.mk.injEq, reduceCtorEq] at h <;> obtain ⟨rfl, rfl, rfl, rfl⟩ := h
    · exact ⟨rfl, rfl, .inr (.inl ⟨rfl, List.mem_singleton_self _⟩), fun _ _ => List.mem_singleton_self _⟩
    · exact ⟨rfl, rfl, .inr (.inr (.inl ⟨rfl, hmd rfl⟩)), fun _ h => by cases h⟩
    · exact ⟨rfl, rfl, .inr (.inr (.inr ⟨rfl, hmd rfl⟩)), fun _ h => by cases h⟩
    · exact ⟨rfl, rfl, .inr (.inr (.inr ⟨rfl, hmd rfl⟩)), fun _ h => by cases h⟩
theorem pvR_some {c : Ty} {r : Rid} {i a j : Nat} {ρ : Rid} (h : pvR c r i a j = some ρ) : ρ = ⟨r.k, r.p ++ [(i + a, j)]⟩ ∧ noSl (cks c) = false := by
  unfold pvR at h
  cases hf : noSl (cks c) with
  | true => rw [hf] at h; cases h
  | false =>
    rw [hf] at h
    simp only at h
    split at h
    · cases h; exact ⟨rfl, rfl⟩
    · cases h
theorem srcS_ok {D0 : Nat → Prop} {V : Vl} {s : St} {w : World} (hE : Ents D0 V s w) {c : Ty} {p : SV} {ys : List (El c)} {ks : List Nat} {b : Bool} {obs : List Prop} {md : Md} (h : srcS s.mem c p = some (ys, ks, b, obs)) (ho : AllP obs) (hmd : b = true → md = .sh) :
    ∃ a cap news pv, SrcV s.mem V w p md ks c ys a cap news pv := by
  have lst : ∀ {k : Nat} {q : Path} {m : Md} {c0 : Ty} {l0 : List (El c0)} {l : List (El c)} {i n : Nat} {ys : List (El c)} {ks : List Nat}, find s.mem k = some (.list m c0 l0) → desc c0 l0 q = some ⟨c, l⟩ → i + n ≤ l.length → ys = (l.drop i).take n → (noSl (cks c) = true ∨ (m = .own ∧ k ∈ ks) ∨ (m = .sh ∧ md = .sh) ∨ (m = .fz ∧ md = .sh)) → (noSl (cks c) = false → m = .own → k ∈ ks) →
      ∀ {p : SV} {a : Option Addr} {cap : Nat}, den V p = .slice a n cap → (∀ a0, (V ⟨k, q⟩).a = some a0 → a0.spot = none → 0 < n → a = some ⟨a0.block, a0.off + i * wid c, none⟩) → (a = none → n = 0) → ∃ news pv, SrcV s.mem V w p md ks c ys a cap news pv := by
    intro k q m c0 l0 l i n ys ks hf hd hin hys hk hown p a cap hden ha hn
    have hc : cont s.mem ⟨k, q⟩ = some (.list (m.at q) c l) := cont_iff.2 ⟨_, hf, by simp only [contB, hd]⟩
    obtain ⟨news, hR, hr, h0⟩ := rows_list (r := ⟨k, q⟩) (md := md) (ks := ks) hf hd (hE.at_ _ _ hc) hin hk
    have hlen : ys.length = n := by subst hys; rw [List.length_take, List.length_drop]; omega
    refine ⟨news, pvR c ⟨k, q⟩ i, by rw [hlen]; exact hden, by rw [hys]; exact hR, fun j u hu => ?_, by rw [hlen]; exact hn, fun a j ρ m' c1 l1 e1 e2 e3 => ?_, fun a j ρ e1 => ?_, fun a j ρ m' c1 l1 e1 e2 e3 => .inr (by obtain ⟨rfl, hns⟩ := pvR_some e1; simp)⟩
    · rcases hr with rfl | ⟨a0, g1, g2, g3⟩
      · simp at hu
      · have hn0 : 0 < n := by
          rcases Nat.eq_zero_or_pos n with h | h
          · rw [h0 h] at hu; simp at hu
          · exact h
        refine ⟨_, ha a0 g1 g2 hn0, ?_⟩
        rw [Addr.add_mid]
        exact g3 j u hu
    · obtain ⟨rfl, hns⟩ := pvR_some e1
      simp only at e2
      rw [hf] at e2
      cases e2
      exact hown hns e3
    · obtain ⟨rfl, hns⟩ := pvR_some e1
      exact ⟨m, c0, l0, hf⟩
  unfold srcS at h
  split at h
  · simp only [Option.some.injEq, Prod.mk.injEq] at h
    obtain ⟨rfl, rfl, rfl, rfl⟩ := h
    exact ⟨none, 0, [], fun _ _ => none, rfl, RowsP.nil, (fun j u h => by simp at h), (fun _ => rfl), (fun a j ρ m c0 l0 h => by cases h), (fun a j ρ h => by cases h), (fun a j ρ m c0 l0 h => by cases h)⟩
  · rename_i k n cap
    split at h
    · rename_i cs hf
      split at h
      · rename_i ys0 ps b0 obs0 hr
        split at h
        · rename_i hn
          simp only [Option.some.injEq, Prod.mk.injEq] at h
          obtain ⟨rfl, rfl, rfl, rfl⟩ := h
          obtain ⟨k1, k2, k3, k4⟩ := rowsT_ok (V := V) hr ho
          obtain ⟨bb, t, g1, g2⟩ := hE.at_ ⟨k, []⟩ (.cells cs) (cont_iff.2 ⟨_, hf, rfl⟩)
          have own : ∀ a j ρ, pvF c ps a j = some ρ → ∃ m c0 l0, find s.mem ρ.k = some (.list m c0 l0) ∧ (m ≠ .fz → ρ.k ∈ kills ps) := by
            intro a j ρ e1
            unfold pvF at e1
            split at e1
            · rename_i hj
              obtain ⟨pr, e2, e3⟩ := Option.bind_eq_some_iff.1 e1
              have hi : a * wid c + j < ps.length := (List.getElem?_eq_some_iff.1 e2).1
              have ha : a < ys0.length := by
                rw [k2] at hi
                rw [k1]
                exact Nat.lt_of_mul_lt_mul_right (a := wid c) (by omega)
              have hx := List.getElem?_eq_getElem ha
              have hjl : j < (tcells c ys0[a]).length := by rw [tcells_len]; exact hj
              obtain ⟨v, p', b', q1, q2, q3, q4⟩ := k4 _ _ hx _ _ (List.getElem?_eq_getElem hjl)
              rw [e2] at q2
              cases q2
              cases ht : (tcells c ys0[a])[j] with
              | sl c1 l1 =>
                rw [ht] at q3
                rcases q3.con c1 l1 rfl with ⟨rfl, _⟩ | ⟨ρ1, m, c0', l0', y1, y2, y3, y4⟩
                · cases e3
                · rw [e3] at y1
                  cases y1
                  refine ⟨m, c0', l0', y2, fun hm => ?_⟩
                  rcases y4 with ⟨_, h⟩ | ⟨_, h, _⟩ | ⟨h, _⟩
                  · subst h; exact mem_kills e2
                  · subst h; exact mem_kills e2
                  · exact absurd h hm
              | int k n => rw [ht] at q3; have := q3.no rfl; subst this; cases e3
              | bool b => rw [ht] at q3; have := q3.no rfl; subst this; cases e3
              | str s => rw [ht] at q3; have := q3.no rfl; subst this; cases e3
            · cases e1
          refine ⟨some ⟨bb, 0, none⟩, cap, _, _, by simp only [den, Loc.at, g1, Option.map_some, k1], rowsT_rows hr ho hn hmd, fun j u hu => ⟨_, rfl, ?_⟩, (fun h => by cases h), fun a j ρ m c0 l0 e1 e2 e3 => ?_, fun a j ρ e1 => ?_, fun a j ρ m c0 l0 e1 e2 e3 => ?_⟩
          · rw [Addr.add_mid, Nat.zero_add]
            rw [List.getElem?_take] at hu
            split at hu
            · exact cell_of g2 (by simpa using hu)
            · cases hu
          · obtain ⟨m', c0', l0', f1, f2⟩ := own a j ρ e1
            rw [f1] at e2
            cases e2
            exact f2 (by rw [e3]; simp)
          · obtain ⟨m', c0', l0', f1, _⟩ := own a j ρ e1
            exact ⟨m', c0', l0', f1⟩
          · obtain ⟨m', c0', l0', f1, f2⟩ := own a j ρ e1
            rw [f1] at e2
            cases e2
            exact .inl (f2 e3)
        · cases h
      · cases h
    · cases h
  · rename_i k q
    split at h
    · rename_i m c0 l0 hf
      split at h
      · rename_i c' l obs' hd
        split at h
        · rename_i l' hc
          obtain ⟨rfl, rfl, hk, hown⟩ := srcK_ok h hmd
          have hd' := descE_eq hd ho
          rw [castL_eq hc] at hd'
          have hat := hE.at_ ⟨k, q⟩ _ (cont_iff.2 ⟨_, hf, by simp only [contB, hd']; rfl⟩)
          obtain ⟨news, pv, hs⟩ := lst (i := 0) (n := ys.length) (l := ys) (ys := ys) hf hd' (by omega) (by simp) hk hown (p := .sl ⟨k, q⟩) (a := (V ⟨k, q⟩).a) (cap := (V ⟨k, q⟩).cap) (by simp only [den, Loc.hd, hat.1]) (fun a0 h1 h2 _ => by obtain ⟨b, o, sp⟩ := a0; simp only at h2; subst h2; simp [h1]) (fun hn => by
            rcases Nat.eq_zero_or_pos ys.length with h | h
            · exact h
            · obtain ⟨a, g1, _⟩ := row_cells hat h
              rw [hn] at g1; cases g1)
          exact ⟨_, _, news, pv, hs⟩
        · cases h
      · cases h
    · cases h
  · rename_i k q es i n cx
    split at h
    · rename_i m c0 l0 hf hes
      have := Nat.eq_of_beq_eq_true hes
      subst this
      split at h
      · rename_i c' l obs' hd
        split at h
        · rename_i l' hc
          obtain ⟨rfl, rfl, hk, hown⟩ := srcK_ok h hmd
          obtain ⟨h1, ho2⟩ := ho
          obtain ⟨h2, ho3⟩ := AllP_app.1 ho2
          have hd' := descE_eq hd ho3
          rw [castL_eq hc] at hd'
          have hat := hE.at_ ⟨k, q⟩ _ (cont_iff.2 ⟨_, hf, by simp only [contB, hd']; rfl⟩)
          obtain ⟨news, pv, hs⟩ := lst (i := i) (n := n) hf hd' h1 rfl hk hown (p := .vw ⟨k, q⟩ (wid c) i n cx) (a := ((V ⟨k, q⟩).vw (wid c) i n cx).a) (cap := ((V ⟨k, q⟩).vw (wid c) i n cx).cap) rfl (fun a0 g1 g2 hn => by
            rw [vw_some hat hn h1 h2 g1 g2]) (fun hn => by
            rcases Nat.eq_zero_or_pos n with h | h
            · exact h
            · obtain ⟨a, g1, g2, _⟩ := row_cells (i := i) hat (by omega)
              rw [vw_some hat h h1 h2 g1 g2] at hn; cases hn)
          exact ⟨_, _, news, pv, hs⟩
        · cases h
      · cases h
    · cases h
  · cases h
end Go.Proofs.Ytkageldgmkajbaa
