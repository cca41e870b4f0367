/- Symbolic walks, third part: all operations that make no memory and enter no function. No condition on any program. -/
import Derived.Test.YtbcoanbjhbppcaaSym2
import Derived.Laws.Tables
import Derived.Laws.CopyRow
namespace Go.Proofs.Ytbcoanbjhbppcaa
set_option linter.unusedVariables false
open Go.RowKit

/-! ### Parts of a literal -/
def placeS : List FI → Nat → Option (Nat × Nat)
  | [], _ => none
  | f :: _, 0 => some (f.off, f.size)
  | _ :: l, i + 1 => placeS l i
def fillS (place : Nat → Option (Nat × Nat)) (cells : List SV) : List (Nat × SV) → Option (List SV)
  | [] => some cells
  | (i, v) :: rest => match place i with
    | none => none
    | some (off, size) => match cellsOk v, Nat.beq (cellsV v).length size with
      | true, true => match splice cells off (cellsV v) with
        | some c => fillS place c rest
        | none => none
      | _, _ => none
def partsS (s : St) : List (Nat × Operand) → Option (List (Nat × SV))
  | [] => some []
  | (i, x) :: l => match s.get x, partsS s l with
    | some v, some r => some ((i, v) :: r)
    | _, _ => none
theorem foldl_set (off : Nat) : ∀ (vs : List Value) (i : Nat) (cs : Array Value), off + i + vs.length ≤ cs.size →
    (vs.zipIdx i).foldl (fun cs (x : Value × Nat) => cs.setIfInBounds (off + x.2) x.1) cs = (cs.toList.take (off + i) ++ vs ++ cs.toList.drop (off + i + vs.length)).toArray
  | [], i, cs, _ => by simp
  | v :: vs, i, cs, h => by
    simp only [List.zipIdx_cons, List.foldl_cons]
    rw [foldl_set off vs (i + 1) _ (by simp at h ⊢; omega)]
    have e := list_seg_step cs.toList (off + i) v vs (by simp at h ⊢; omega)
    simpa [Array.toList_setIfInBounds, Nat.add_assoc] using e
theorem denL_append (r : Nat → Nat) (a b : List SV) : denL r (a ++ b) = denL r a ++ denL r b := by simp [denL_eq]
theorem denL_take (r : Nat → Nat) (a : List SV) (n : Nat) : denL r (a.take n) = (denL r a).take n := by simp [denL_eq]
theorem denL_drop (r : Nat → Nat) (a : List SV) (n : Nat) : denL r (a.drop n) = (denL r a).drop n := by simp [denL_eq]
theorem denL_length (r : Nat → Nat) (a : List SV) : (denL r a).length = a.length := by simp [denL_eq]
theorem denL_splice (r : Nat → Nat) {c vs c' : List SV} {o : Nat} (h : splice c o vs = some c') : denL r c' = (denL r c).take o ++ denL r vs ++ (denL r c).drop (o + (denL r vs).length) ∧ o + vs.length ≤ c.length := by
  obtain ⟨h1, h2⟩ := splice_eq _ _ _ h
  subst h2
  exact ⟨by rw [denL_append, denL_append, denL_take, denL_drop, denL_length], h1⟩
theorem fill_sound (r : Nat → Nat) {place : Nat → Option (Nat × Nat)} : ∀ {parts : List (Nat × SV)} {cells out : List SV}, fillS place cells parts = some out →
    Instr.fill place (denL r cells).toArray (parts.map fun x => (x.1, den r x.2)) = some (denL r out).toArray
  | [], cells, out, h => by simp only [fillS, Option.some.injEq] at h; subst h; rfl
  | (i, v) :: rest, cells, out, h => by
    unfold fillS at h
    cases hp : place i with
    | none => simp [hp] at h
    | some q =>
      obtain ⟨off, size⟩ := q
      simp only [hp] at h
      cases hc : cellsOk v with
      | false => simp [hc] at h
      | true =>
        cases hs : Nat.beq (cellsV v).length size with
        | false => simp [hc, hs] at h
        | true =>
          simp only [hc, hs] at h
          cases hq : splice cells off (cellsV v) with
          | none => simp [hq] at h
          | some c =>
            simp only [hq] at h
            obtain ⟨h1, h2⟩ := denL_splice r hq
            have ih := fill_sound r h
            have hz : (cellsV v).length = size := Nat.eq_of_beq_eq_true hs
            simp only [List.map_cons, Instr.fill, hp, cellsOk_den r v hc]
            have e1 : (denL r (cellsV v)).toArray.size = size := by simp [denL_length, hz]
            rw [if_neg (by simp [denL_length] at h2 e1 ⊢; omega)]
            have e2 := foldl_set off (denL r (cellsV v)) 0 (denL r cells).toArray (by simp [denL_length]; omega)
            simp only [Nat.add_zero] at e2
            rw [h1] at ih
            rw [← ih]
            congr 1
            rw [← e2]
            simp
theorem parts_eval {r : Nat → Nat} {s : St} {a : Act} (he : EnvR r s a) : ∀ {l : List (Nat × Operand)} {q}, partsS s l = some q → l.map (fun x => (x.1, a.eval x.2)) = q.map fun x => (x.1, den r x.2)
  | [], q, h => by simp only [partsS, Option.some.injEq] at h; subst h; rfl
  | (i, x) :: l, q, h => by
    unfold partsS at h
    cases hx : s.get x with
    | none => simp [hx] at h
    | some v =>
      cases hl : partsS s l with
      | none => simp [hx, hl] at h
      | some u =>
        simp only [hx, hl, Option.some.injEq] at h
        subst h
        simp only [List.map_cons, he.get hx, parts_eval he hl]
theorem places_of {P : Program} : ∀ {l : List Field} {fs : List FI}, fisOf P l = some fs → l.mapM (fun f => (P.info? f.type).map fun i => (f.offset, i.size)) = some (fs.map fun f => (f.off, f.size))
  | [], fs, h => by simp only [fisOf, Option.some.injEq] at h; subst h; rfl
  | f :: l, fs, h => by
    unfold fisOf at h
    cases hf : fiOf P f with
    | none => simp [hf] at h
    | some x =>
      cases hl : fisOf P l with
      | none => simp [hf, hl] at h
      | some y =>
        simp only [hf, hl, Option.some.injEq] at h
        subst h
        have ih := places_of hl
        unfold fiOf at hf
        cases hi : P.info? f.type with
        | none => simp [hi] at hf
        | some i =>
          cases hu : P.underlying f.type with
          | none => simp [hi, hu] at hf
          | some d =>
            simp only [hi, hu] at hf
            split at hf
            · cases hf
            · cases hf
              simp [List.mapM_cons, hi, ih]
theorem placeS_eq : ∀ (fs : List FI) (i : Nat), placeS fs i = (fs.map fun f => (f.off, f.size))[i]?
  | [], i => by simp [placeS]
  | f :: l, 0 => by simp [placeS]
  | f :: l, i + 1 => by simp [placeS, placeS_eq l i]
theorem field_of {P : Program} : ∀ {l : List Field} {fs : List FI} {i : Nat} {x : FI}, fisOf P l = some fs → fs[i]? = some x → ∃ f j d, l[i]? = some f ∧ P.info? f.type = some j ∧ P.underlying f.type = some d ∧ x.off = f.offset ∧ x.size = j.size ∧ x.agg = aggB d ∧ j.size ≠ 0
  | [], fs, i, x, h, hx => by simp only [fisOf, Option.some.injEq] at h; subst h; simp at hx
  | f :: l, fs, i, x, h, hx => by
    unfold fisOf at h
    cases hf : fiOf P f with
    | none => simp [hf] at h
    | some x0 =>
      cases hl : fisOf P l with
      | none => simp [hf, hl] at h
      | some y =>
        simp only [hf, hl, Option.some.injEq] at h
        subst h
        cases i with
        | succ i => simp only [List.getElem?_cons_succ] at hx ⊢; exact field_of hl hx
        | zero =>
          simp only [List.getElem?_cons_zero, Option.some.injEq] at hx ⊢
          subst hx
          unfold fiOf at hf
          cases hi : P.info? f.type with
          | none => simp [hi] at hf
          | some j =>
            cases hu : P.underlying f.type with
            | none => simp [hi, hu] at hf
            | some d =>
              simp only [hi, hu] at hf
              split at hf
              · cases hf
              · rename_i hne
                cases hf
                exact ⟨f, j, d, rfl, hi, hu, rfl, rfl, rfl, hne⟩
theorem td_struct {P : Program} {d : TypeDesc} {fs : List FI} (h : tdOf P d = some (.struct fs)) : ∃ fields, d = .struct fields ∧ fisOf P fields.toList = some fs := by
  cases d <;> simp only [tdOf] at h <;> first | (cases h; done) | (split at h <;> cases h; done) | skip
  obtain ⟨l, h1, h2⟩ := Option.map_eq_some_iff.1 h
  cases h2
  exact ⟨_, rfl, h1⟩
theorem td_array {P : Program} {d : TypeDesc} {n es : Nat} {ea : Bool} (h : tdOf P d = some (.array n es ea)) : ∃ e i de, d = .array n e ∧ P.info? e = some i ∧ i.size = es ∧ P.underlying e = some de ∧ aggB de = ea := by
  cases d <;> simp only [tdOf] at h <;> first | (cases h; done) | (obtain ⟨l, h1, h2⟩ := Option.map_eq_some_iff.1 h; cases h2; done) | skip
  all_goals (split at h <;> first | (cases h; done) | (rename_i i de hi hu; cases h; exact ⟨_, i, de, rfl, hi, rfl, hu, rfl⟩))
theorem td_slice {P : Program} {d : TypeDesc} {e es : Nat} {ea : Bool} (h : tdOf P d = some (.slice e es ea)) : ∃ i de, d = .slice e ∧ P.info? e = some i ∧ i.size = es ∧ P.underlying e = some de ∧ aggB de = ea := by
  cases d <;> simp only [tdOf] at h <;> first | (cases h; done) | (obtain ⟨l, h1, h2⟩ := Option.map_eq_some_iff.1 h; cases h2; done) | skip
  all_goals (split at h <;> first | (cases h; done) | (rename_i i de hi hu; cases h; exact ⟨i, de, rfl, hi, rfl, hu, rfl⟩))
theorem td_int {P : Program} {d : TypeDesc} {k : IntKind} (h : tdOf P d = some (.int k)) : d = .int k := by
  cases d <;> simp only [tdOf] at h <;> first | (cases h; done) | (cases h; rfl) | (obtain ⟨l, h1, h2⟩ := Option.map_eq_some_iff.1 h; cases h2; done) | (split at h <;> cases h; done)
/-- So many copies. -/
def repZ : Nat → List SV → List SV
  | 0, _ => []
  | n + 1, l => l ++ repZ n l
theorem repZ_den (r : Nat → Nat) (l : List SV) (d : Value) (hl : 0 < l.length) : ∀ n, denL r (repZ n l) = (List.range (n * l.length)).map fun i => (denL r l).getD (i % l.length) d
  | 0 => by simp [repZ, denL]
  | n + 1 => by
    rw [repZ, denL_append, repZ_den r l d hl n, Nat.succ_mul, Nat.add_comm, List.range_add, List.map_append, List.map_map]
    congr 1
    · apply List.ext_getElem?
      intro i
      by_cases hi : i < l.length
      · have : i < (denL r l).length := by rw [denL_length]; exact hi
        simp [hi, Nat.mod_eq_of_lt hi, List.getD, this]
      · have : (denL r l).length ≤ i := by rw [denL_length]; omega
        simp [List.getElem?_eq_none this, hi]
    · apply List.map_congr_left
      intro i _
      simp
theorem denL_inj (r : Nat → Nat) (l : List Value) : denL r (l.map inj) = l := by
  rw [denL_eq, List.map_map]
  have : den r ∘ inj = id := funext fun v => den_inj r v
  rw [this, List.map_id]
end Go.Proofs.Ytbcoanbjhbppcaa
