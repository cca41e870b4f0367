/- Symbolic walks, seventh part: a state in a world; new blocks, stores, calls. No condition on any program. -/
import Derived.Test.YtbcoanbjhbppcaaSym6
namespace Go.Proofs.Ytbcoanbjhbppcaa
set_option linter.unusedVariables false
open Go.RowKit

/-- What a walk stands on: the program, its types, the blocks that may be written, the world before, the number of slots. -/
structure Cx where
  P : Program
  L : Lay
  D : Nat → Prop
  w0 : World
  n : Nat
  /-- the first blocks of the walk that lie where they lay before it -/
  kb : Nat := 0
  pin : Nat → Nat := fun _ => 0
structure Rep (x : Cx) (r : Nat → Nat) (s : St) (a : Act) (w : World) : Prop where
  defers : a.defers = []
  size : a.tmps.size = x.n
  env : EnvR r s a
  envOk : ∀ t v, find s.env t = some v → okV s.nb v = true
  mem : MemR x.D x.w0 r s w
  memOk : ∀ k c, find s.mem k = some c → k < s.nb ∧ okL s.nb c = true
  inj : ∀ i j, i < s.nb → j < s.nb → r i = r j → i = j
  lt : ∀ k, k < s.nb → r k < w.heap.size
  own : ∀ k, k < s.nb → x.w0.heap.size ≤ r k ∨ x.D (r k)
  pin : ∀ k, k < x.kb → k < s.nb ∧ r k = x.pin k

theorem put_getD (a : Act) (d : Nat) (v : Value) (t : Nat) (hd : d < a.tmps.size) : (a.put (some d) v).tmps.getD t Go.undef = if d = t then v else a.tmps.getD t Go.undef := by
  show (a.tmps.setIfInBounds d v).getD t Go.undef = _
  by_cases h : d = t
  · subst h; simp [Array.getD_eq_getD_getElem?, hd]
  · simp [Array.getD_eq_getD_getElem?, h]
def putS (x : Cx) (s : St) (d : Option Nat) (v : SV) (K : St → Prop) : Prop :=
  match d with
  | none => K s
  | some t => match Nat.blt t x.n, okV s.nb v with
    | true, true => K ⟨(t, v) :: s.env, s.mem, s.nb⟩
    | _, _ => False
theorem putS_sound {x : Cx} {s : St} {d : Option Nat} {v : SV} {K : St → Prop} (h : putS x s d v K) : ∃ s', K s' ∧ s'.mem = s.mem ∧ s'.nb = s.nb ∧
    ∀ r a w, Rep x r s a w → Rep x r s' (a.put d (den r v)) w := by
  unfold putS at h
  cases d with
  | none => exact ⟨s, h, rfl, rfl, fun r a w hr => hr⟩
  | some t =>
    cases h1 : Nat.blt t x.n with
    | false => simp [h1] at h
    | true =>
      cases h2 : okV s.nb v with
      | false => simp [h1, h2] at h
      | true =>
        simp only [h1, h2] at h
        refine ⟨_, h, rfl, rfl, fun r a w hr => ?_⟩
        have hlt : t < a.tmps.size := by rw [hr.size]; simpa [Nat.blt_eq] using h1
        refine ⟨hr.defers, ?_, fun u z hu => ?_, fun u z hu => ?_, hr.mem, hr.memOk, hr.inj, hr.lt, hr.own, hr.pin⟩
        · show (a.tmps.setIfInBounds t _).size = _
          rw [Array.size_setIfInBounds, hr.size]
        · rw [put_getD _ _ _ _ hlt]
          rw [find_cons] at hu
          split at hu
          · rename_i e; subst e; cases hu; rw [if_pos rfl]
          · rename_i e; rw [if_neg e]; exact hr.env u z hu
        · rw [find_cons] at hu
          split at hu
          · cases hu; exact h2
          · exact hr.envOk u z hu

/-! ### New blocks -/
def svSh (nb : Nat) : Option (Nat × Nat) → SV
  | none => .ptr nb 0
  | some (n, c) => .slc nb 0 n c
/-- What is laid: its cells; a pointer to it or a slice over it. -/
def evNew (L : Lay) (s : St) (K : List SV → Option (Nat × Nat) → Prop) : Op → Prop
  | .alloc t => match find L t with
    | some ti => K ti.zs none
    | none => False
  | .box _ y => on (s.get y) fun v => match cellsOk v with
    | true => K (cellsV v) none
    | false => False
  | .buildSlice t len parts => match find L t with
    | some ti => match ti.td with
      | .slice e es _ => match find L e, partsS s parts.toList with
        | some te, some q => match Nat.ble (len * es) 16777216, Nat.blt 0 (len * es), fillS (fun i => some (i * es, es)) (repZ len te.zs) q with
          | true, true, some l => K l (some (len, len))
          | _, _, _ => False
        | _, _ => False
      | _ => False
    | none => False
  | _ => False
def upd (r : Nat → Nat) (k b : Nat) : Nat → Nat := fun i => if i = k then b else r i
theorem upd_lt {r : Nat → Nat} {k b : Nat} : ∀ i, i < k → upd r k b i = r i := fun i hi => if_neg (by omega)
theorem upd_self {r : Nat → Nat} {k b : Nat} : upd r k b k = b := if_pos rfl
theorem den_svSh (r : Nat → Nat) (nb b : Nat) (sh : Option (Nat × Nat)) : den (upd r nb b) (svSh nb sh) = shV sh b := by
  cases sh <;> simp [svSh, den, shV, upd_self]
theorem ok_svSh (nb : Nat) (sh : Option (Nat × Nat)) : okV (nb + 1) (svSh nb sh) = true := by
  cases sh <;> simp [svSh, okV, Nat.blt_eq]
theorem cells_zero {P : Program} {t : Nat} {ti : TI} (ht : TIok P t ti) : ti.zval.cells = ti.zero.toArray := by
  unfold TI.zval
  have h2 := ht.2.1
  cases hg : ti.td.agg with
  | true => rfl
  | false =>
    simp only [hg] at h2 ⊢
    obtain ⟨h3, h4⟩ := h2
    obtain ⟨v, hv⟩ := List.length_eq_one_iff.1 h3
    rw [h4, hv]; rfl
theorem evNew_sound {P : Program} {L : Lay} (hL : LayOk P L) {s : St} {o : Oper} {K : List SV → Option (Nat × Nat) → Prop} (h : evNew L s K o.op) :
    ∃ c sh, K c sh ∧ isAlloc o = true ∧ ∀ r a, EnvR r s a → ∃ t, ∀ w, (execOp a.eval o).run P w = .ok (.value (shV sh w.heap.size)) (w.alloc (.cells (denL r c).toArray t)) := by
  obtain ⟨dst, op, type, pos, after, guard⟩ := o
  cases op <;> simp only [evNew] at h <;> first | exact h.elim | skip
  case alloc t =>
    cases ht : find L t with
    | none => simp [ht] at h
    | some ti =>
      simp only [ht] at h
      have hti := hL.at ht
      obtain ⟨i, h1, h2, h3⟩ := hti.info
      refine ⟨_, _, h, rfl, fun r a he => ⟨t, fun w => ?_⟩⟩
      simp only [execOp, Instr.alloc, Sem.run_bind, r_zero h1 h3, Result.andThen_ok, newVar, newRow, cells_zero hti, hti.zs]
      rfl
  case box t y =>
    obtain ⟨v, hv, h⟩ := on_some h
    cases hc : cellsOk v with
    | false => simp [hc] at h
    | true =>
      simp only [hc] at h
      refine ⟨_, _, h, rfl, fun r a he => ⟨t, fun w => ?_⟩⟩
      simp only [execOp, Instr.box, Sem.run_bind, newVar, newRow, he.get hv, cellsOk_den r v hc]
      rfl
  case buildSlice t len parts =>
    cases ht : find L t with
    | none => simp [ht] at h
    | some ti =>
      simp only [ht] at h
      have hti := hL.at ht
      obtain ⟨d, h4, h5⟩ := hti.desc
      split at h
      · rename_i e es ea hd
        rw [hd] at h5
        obtain ⟨i, de, rfl, e2, e3, e4, e5⟩ := td_slice h5
        split at h
        · rename_i te q hte hq
          have hte' := hL.at hte
          obtain ⟨i', g1, g2, g3⟩ := hte'.info
          have : i' = i := Option.some.inj (g1.symm.trans e2)
          subst this
          split at h
          · rename_i l hb hb2 hf
            have hz : ¬ len * es > 16777216 := by have := Nat.le_of_ble_eq_true hb; omega
            have hne : ¬ len * es = 0 := by simp [Nat.blt_eq] at hb2; omega
            refine ⟨_, _, h, rfl, fun r a he => ⟨e, fun w => ?_⟩⟩
            have ff := fill_sound r hf
            have pe : ((parts.map fun (x : Nat × Operand) => (x.1, a.eval x.2)).toList) = q.map fun x => (x.1, den r x.2) := by simp [parts_eval he hq]
            have el : te.zs.length = es := by rw [← TI.zero_len, ← g2, e3]
            have hp' : 0 < es := Nat.pos_of_ne_zero fun e0 => hne (by rw [e0, Nat.mul_zero])
            have ez : denL r (repZ len te.zs) = (List.range (len * es)).map fun i => te.zero.getD (i % te.zero.length) Go.undef := by
              rw [repZ_den r te.zs Go.undef (by rw [el]; exact hp') len, el, hte'.zs, TI.zero_len, el]
            rw [ez] at ff
            have hp : 0 < es := Nat.pos_of_ne_zero fun e0 => hne (by rw [e0, Nat.mul_zero])
            have zz : (Array.range (len * es)).map (fun i => te.zero.toArray[i % te.zero.toArray.size]!) = ((List.range (len * es)).map fun i => te.zero.getD (i % te.zero.length) Go.undef).toArray := by
              apply Array.ext'
              simp only [Array.toList_map, Array.toList_range]
              refine List.map_congr_left fun i _ => ?_
              have hlt : i % te.zero.length < te.zero.length := Nat.mod_lt _ (by rw [← g2, e3]; exact hp)
              simp [List.getD, hlt]
            simp only [execOp, Instr.buildSlice, Sem.run_bind, r_underlying h4, Result.andThen_ok, r_sizeOf e2, e3]
            rw [if_neg hz]
            simp only [Sem.run_bind, if_neg hne, r_zero e2 g3, Result.andThen_ok, Sem.run_pure, cells_zero hte', zz]
            have ff' : Instr.fill (fun i => some (i * es, es)) (List.map (fun i => te.zero.getD (i % te.zero.length) Go.undef) (List.range (len * es))).toArray (parts.map fun (x : Nat × Operand) => (x.1, a.eval x.2)).toList = some (denL r l).toArray := by rw [pe]; exact ff
            simp only [ff', Sem.run_bind, newRow]
            rfl
          · exact h.elim
        · exact h.elim
      · exact h.elim
end Go.Proofs.Ytbcoanbjhbppcaa
