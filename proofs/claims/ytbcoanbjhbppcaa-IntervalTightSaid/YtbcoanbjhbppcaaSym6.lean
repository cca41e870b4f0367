/- Symbolic walks, sixth part: all operations that make no memory. No condition on any program. -/
import Derived.Test.YtbcoanbjhbppcaaSym5
namespace Go.Proofs.Ytbcoanbjhbppcaa
set_option linter.unusedVariables false
open Go.RowKit

section
variable {P : Program} {L : Lay} {D : Nat → Prop} {w0 : World} {s : St} {K : SV → Prop}
theorem evField_sound (hL : LayOk P L) {t : TypeId} {ti : TI} {fs : List FI} {l : List SV} {i : Nat} (ht : find L t = some ti) (hd : ti.td = .struct fs) (h : evField fs l i K) :
    ∃ v, K v ∧ ∀ (r : Nat → Nat) w, (Instr.field t (.agg (denL r l).toArray) i).run P w = .ok (den r v) w := by
  have hti := hL.at ht
  obtain ⟨d, h4, h5⟩ := hti.desc
  rw [hd] at h5
  obtain ⟨fields, rfl, h6⟩ := td_struct h5
  unfold evField at h
  cases hf : fs[i]? with
  | none => simp [hf] at h
  | some x =>
    obtain ⟨f, j, de, e1, e2, e3, e4, e5, e6, _⟩ := field_of h6 hf
    have e1' : fields[i]? = some f := by simpa using e1
    have key : ∀ (r : Nat → Nat) w, (Instr.field t (.agg (denL r l).toArray) i).run P w = (part f.type (denL r l).toArray f.offset).run P w := by
      intro r w
      simp only [Instr.field, Sem.run_bind, r_underlying h4, Result.andThen_ok, e1', asAgg, Sem.run_pure]
    cases hg : x.agg with
    | true =>
      cases hq : takeC (dropC l x.off) x.size with
      | none => simp [hf, hg, hq] at h
      | some q =>
        simp only [hf, hg, hq] at h
        obtain ⟨q1, q2⟩ := takeC_eq _ _ hq
        rw [dropC_eq] at q1 q2
        refine ⟨_, h, fun r w => ?_⟩
        rw [key]
        simp only [part, Sem.run_bind, r_isAgg e3, ← e6, hg, Result.andThen_ok, if_true, r_sizeOf e2, ← e4, ← e5]
        show Result.ok _ _ = Result.ok _ _
        congr 1
        rw [q2]
        simp only [den, denL_take, denL_drop]
        congr 1
        apply Array.ext'
        simp
    | false =>
      simp only [hf, hg] at h
      obtain ⟨v, hv, hK⟩ := on_some h
      refine ⟨v, hK, fun r w => ?_⟩
      rw [nthC_eq] at hv
      have := denL_get r hv
      rw [key]
      simp only [part, Sem.run_bind, r_isAgg e3, ← e6, hg, Result.andThen_ok, Bool.false_eq_true, if_false, ← e4]
      simp [this]
theorem evIndexAddr_sound (hL : LayOk P L) {t : TypeId} {x : SV} {n : Int} (h : evIndexAddr L t x n K) :
    ∃ v, K v ∧ ∀ (r : Nat → Nat) (k : IntKind) w, (Instr.indexAt t (den r x) (.int k n)).run P w = .ok (den r v) w := by
  unfold evIndexAddr at h
  cases ht : find L t with
  | none => simp [ht] at h
  | some ti =>
    have hti := hL.at ht
    obtain ⟨d, h4, h5⟩ := hti.desc
    simp only [ht] at h
    split at h
    · rename_i len es ea k o hd
      rw [hd] at h5
      obtain ⟨e, i, de, rfl, e2, e3, e4, e5⟩ := td_array h5
      obtain ⟨hb, hK⟩ := h
      refine ⟨_, hK, fun r k' w => ?_⟩
      simp only [den, Instr.indexAt, asIntOf, Instr.sureAddr, Sem.run_bind, Sem.run_pure, r_underlying h4, Result.andThen_ok, if_pos hb, r_sizeOf e2, Addr.add_mid, e3]
    · rename_i e es ea k o m c hd
      rw [hd] at h5
      obtain ⟨i, de, rfl, e2, e3, e4, e5⟩ := td_slice h5
      obtain ⟨hb, hK⟩ := h
      refine ⟨_, hK, fun r k' w => ?_⟩
      simp only [den, Instr.indexAt, asIntOf, Instr.sureAddr, Sem.run_bind, Sem.run_pure, r_underlying h4, Result.andThen_ok, if_pos hb, r_sizeOf e2, Addr.add_mid, e3]
    · rename_i e es ea a m c hd
      rw [hd] at h5
      obtain ⟨i, de, rfl, e2, e3, e4, e5⟩ := td_slice h5
      obtain ⟨hb, hsp, hK⟩ := h
      refine ⟨_, hK, fun r k' w => ?_⟩
      obtain ⟨ab, ao, asp⟩ := a
      simp only at hsp; subst hsp
      simp only [den, Instr.indexAt, asIntOf, Instr.sureAddr, Sem.run_bind, Sem.run_pure, r_underlying h4, Result.andThen_ok, if_pos hb, r_sizeOf e2, Addr.add_mid, e3]
    · rename_i len es ea a hd
      rw [hd] at h5
      obtain ⟨e, i, de, rfl, e2, e3, e4, e5⟩ := td_array h5
      obtain ⟨hb, hsp, hK⟩ := h
      refine ⟨_, hK, fun r k' w => ?_⟩
      obtain ⟨ab, ao, asp⟩ := a
      simp only at hsp; subst hsp
      simp only [den, Instr.indexAt, asIntOf, Instr.sureAddr, Sem.run_bind, Sem.run_pure, r_underlying h4, Result.andThen_ok, if_pos hb, r_sizeOf e2, Addr.add_mid, e3]
    · exact h.elim
theorem evBuiltin_sound (hL : LayOk P L) {b : Builtin} {args : Array Operand} {ts : Array TypeId} (h : evBuiltin L s b args ts K) :
    ∃ v, K v ∧ ∀ r a w, EnvR r s a → ∀ ty cs, (builtin b ts ty cs (args.map a.eval)).run P w = .ok (.value (den r v)) w := by
  have eA : ∀ {r a q}, EnvR r s a → argsS s args.toList = some q → args.map a.eval = (denL r q).toArray := by
    intro r a q he hq
    apply Array.ext'
    simp [args_eval he hq]
  unfold evBuiltin at h
  split at h
  · rename_i x hq
    unfold evLen at h
    split at h
    · rename_i ti k o n c ht
      obtain ⟨t, ht1, ht2⟩ := Option.bind_eq_some_iff.1 ht
      have hti := hL.at ht2
      obtain ⟨d, h4, h5⟩ := hti.desc
      split at h
      · rename_i e es ea hd
        rw [hd] at h5
        obtain ⟨i, de, rfl, e2, e3, e4, e5⟩ := td_slice h5
        refine ⟨_, h, fun r a w he ty cs => ?_⟩
        rw [eA he hq]
        simp only [builtin, Builtin.len_, ht1, denL, den, Sem.run_bind, List.getElem?_toArray, List.getElem?_cons_zero, r_underlying h4, Result.andThen_ok]
        rfl
      · exact h.elim
    · rename_i ti aa n c ht
      obtain ⟨t, ht1, ht2⟩ := Option.bind_eq_some_iff.1 ht
      have hti := hL.at ht2
      obtain ⟨d, h4, h5⟩ := hti.desc
      split at h
      · rename_i e es ea hd
        rw [hd] at h5
        obtain ⟨i, de, rfl, e2, e3, e4, e5⟩ := td_slice h5
        refine ⟨_, h, fun r a w he ty cs => ?_⟩
        rw [eA he hq]
        simp only [builtin, Builtin.len_, ht1, denL, den, Sem.run_bind, List.getElem?_toArray, List.getElem?_cons_zero, r_underlying h4, Result.andThen_ok]
        rfl
      · exact h.elim
    · exact h.elim
  · rename_i x hq
    unfold evCap at h
    split at h
    · rename_i ti k o c n ht
      obtain ⟨t, ht1, ht2⟩ := Option.bind_eq_some_iff.1 ht
      have hti := hL.at ht2
      obtain ⟨d, h4, h5⟩ := hti.desc
      split at h
      · rename_i e es ea hd
        rw [hd] at h5
        obtain ⟨i, de, rfl, e2, e3, e4, e5⟩ := td_slice h5
        refine ⟨_, h, fun r a w he ty cs => ?_⟩
        rw [eA he hq]
        simp only [builtin, Builtin.cap_, ht1, denL, den, Sem.run_bind, List.getElem?_toArray, List.getElem?_cons_zero, r_underlying h4, Result.andThen_ok]
        rfl
      · exact h.elim
    · rename_i ti aa c n ht
      obtain ⟨t, ht1, ht2⟩ := Option.bind_eq_some_iff.1 ht
      have hti := hL.at ht2
      obtain ⟨d, h4, h5⟩ := hti.desc
      split at h
      · rename_i e es ea hd
        rw [hd] at h5
        obtain ⟨i, de, rfl, e2, e3, e4, e5⟩ := td_slice h5
        refine ⟨_, h, fun r a w he ty cs => ?_⟩
        rw [eA he hq]
        simp only [builtin, Builtin.cap_, ht1, denL, den, Sem.run_bind, List.getElem?_toArray, List.getElem?_cons_zero, r_underlying h4, Result.andThen_ok]
        rfl
      · exact h.elim
    · exact h.elim
  · rename_i k a0 l hq
    split at h
    · rename_i c hc
      refine ⟨_, h, fun r a w he ty cs => ?_⟩
      rw [eA he hq]
      have := minS_sound (P := P) hc r w
      simp only [builtin, Builtin.min_, denL, den, Sem.run_bind, this, Result.andThen_ok, Sem.run_pure]
    · exact h.elim
  · rename_i k a0 l hq
    split at h
    · rename_i c hc
      refine ⟨_, h, fun r a w he ty cs => ?_⟩
      rw [eA he hq]
      have := maxS_sound (P := P) hc r w
      simp only [builtin, Builtin.max_, denL, den, Sem.run_bind, this, Result.andThen_ok, Sem.run_pure]
    · exact h.elim
  · exact h.elim
/-- **What the evaluator says is what the operation does.** -/
theorem ev_sound (hL : LayOk P L) {o : Oper} (h : ev P L D w0 s K o.op) :
    ∃ v, K v ∧ ∀ r a w, EnvR r s a → MemR D w0 r s w → (execOp a.eval o).run P w = .ok (.value (den r v)) w := by
  obtain ⟨dst, op, type, pos, after, guard⟩ := o
  have fin : ∀ {x : Sem Value} {v : Value} {w : World}, x.run P w = .ok v w → (do pure (.value (← x)) : Sem Next).run P w = .ok (.value v) w := by
    intro x v w hx
    simp only [Sem.run_bind, hx, Result.andThen_ok, Sem.run_pure]
  cases op <;> simp only [ev] at h <;> first | exact h.elim | skip
  case move x =>
    obtain ⟨v, hv, hK⟩ := on_some h
    exact ⟨v, hK, fun r a w he _ => by simp only [execOp, he.get hv, Sem.run_pure]⟩
  case assign x =>
    obtain ⟨v, hv, hK⟩ := on_some h
    exact ⟨v, hK, fun r a w he _ => by simp only [execOp, he.get hv, Sem.run_pure]⟩
  case pick c x y =>
    obtain ⟨v, hv, h⟩ := on_some h
    split at h
    · obtain ⟨u, hu, hK⟩ := on_some h
      exact ⟨u, hK, fun r a w he _ => by simp only [execOp, he.get hv, den, asBool, he.get hu, Sem.run_bind, Sem.run_pure, Result.andThen_ok, if_true]⟩
    · obtain ⟨u, hu, hK⟩ := on_some h
      exact ⟨u, hK, fun r a w he _ => by simp only [execOp, he.get hv, den, asBool, he.get hu, Sem.run_bind, Sem.run_pure, Result.andThen_ok, Bool.false_eq_true, if_false]⟩
    · exact h.elim
  case build t parts =>
    cases ht : find L t with
    | none => simp [ht] at h
    | some ti =>
      cases hq : partsS s parts.toList with
      | none => simp [ht, hq] at h
      | some q =>
        have hti := hL.at ht
        obtain ⟨i, h1, h2, h3⟩ := hti.info
        obtain ⟨d, h4, h5⟩ := hti.desc
        have pe : ∀ {r a}, EnvR r s a → ((parts.map fun (x : Nat × Operand) => (x.1, a.eval x.2)).toList) = q.map fun x => (x.1, den r x.2) := by
          intro r a he; simp [parts_eval he hq]
        simp only [ht, hq] at h
        split at h
        · rename_i fs hd
          cases hf : fillS (placeS fs) ti.zs q with
          | none => simp [hf] at h
          | some l =>
            simp only [hf] at h
            refine ⟨_, h, fun r a w he _ => fin ?_⟩
            refine run_build w t _ _ ?_
            rw [hd] at h5
            obtain ⟨fields, rfl, h6⟩ := td_struct h5
            have hz : i.zero = some (.agg ti.zero.toArray) := by rw [h3]; simp [TI.zval, hd, TD.agg]
            simp only [Program.built, h1, h4, hz, places_of h6, Value.cells]
            have := fill_sound r hf
            rw [hti.zs] at this
            rw [show (fun (i : Nat) => (fs.map fun f => (f.off, f.size)).toArray[i]?) = placeS fs from funext fun i => by simp [placeS_eq]]
            rw [← this]
            exact congrArg _ (pe he)
        · rename_i n es ea hd
          cases hf : fillS (fun i => some (i * es, es)) ti.zs q with
          | none => simp [hf] at h
          | some l =>
            simp only [hf] at h
            refine ⟨_, h, fun r a w he _ => fin ?_⟩
            refine run_build w t _ _ ?_
            rw [hd] at h5
            obtain ⟨e, ie, de, rfl, e2, e3, e4, e5⟩ := td_array h5
            have hz : i.zero = some (.agg ti.zero.toArray) := by rw [h3]; simp [TI.zval, hd, TD.agg]
            simp only [Program.built, h1, h4, hz, e2, Value.cells, e3]
            have := fill_sound r hf
            rw [hti.zs] at this
            rw [← this]
            exact congrArg _ (pe he)
        · exact h.elim
  case load t x =>
    obtain ⟨p, hp, h⟩ := on_some h
    obtain ⟨v, hK, hv⟩ := evLoad_sound hL h
    exact ⟨v, hK, fun r a w he hm => by simp only [execOp, he.get hp]; exact fin (hv r w hm)⟩
  case binOp op t x y t' =>
    obtain ⟨p, hp, h⟩ := on_some h
    obtain ⟨q, hq, h⟩ := on_some h
    obtain ⟨v, hK, hv⟩ := evBin_sound h
    exact ⟨v, hK, fun r a w he hm => by simp only [execOp, he.get hp, he.get hq]; exact fin (hv r x y w)⟩
  case unOp op t x =>
    obtain ⟨p, hp, h⟩ := on_some h
    obtain ⟨v, hK, hv⟩ := evUn_sound h
    exact ⟨v, hK, fun r a w he hm => by simp only [execOp, he.get hp]; exact fin (hv r w)⟩
  case convert src dst x =>
    split at h
    · rename_i ts td hs hd
      obtain ⟨ds, h4, _⟩ := (hL.at hs).desc
      obtain ⟨dd, h5, h6⟩ := (hL.at hd).desc
      split at h
      · rename_i k hk
        rw [hk] at h6
        have := td_int h6
        subst this
        obtain ⟨p, hp, h⟩ := on_some h
        split at h
        · rename_i k' n
          obtain ⟨c, rfl, hK⟩ := h
          refine ⟨_, hK, fun r a w he _ => ?_⟩
          simp only [execOp, he.get hp]
          refine fin ?_
          simp only [convert, Sem.run_bind, r_underlying h4, r_underlying h5, Result.andThen_ok, den]
          cases ds <;> rfl
        · exact h.elim
      · exact h.elim
    · exact h.elim
  case field t x i =>
    cases ht : find L t with
    | none => simp [ht] at h
    | some ti =>
      simp only [ht] at h
      split at h
      · rename_i fs hd
        obtain ⟨p, hp, h⟩ := on_some h
        split at h
        · rename_i l
          obtain ⟨v, hK, hv⟩ := evField_sound hL ht hd h
          exact ⟨v, hK, fun r a w he _ => by simp only [execOp, he.get hp]; exact fin (hv r w)⟩
        · exact h.elim
      · exact h.elim
  case fieldAddr t x i =>
    cases ht : find L t with
    | none => simp [ht] at h
    | some ti =>
      simp only [ht] at h
      split at h
      · rename_i fs hd
        cases hf : fs[i]? with
        | none => simp [hf] at h
        | some f =>
          simp only [hf] at h
          obtain ⟨d, h4, h5⟩ := (hL.at ht).desc
          rw [hd] at h5
          obtain ⟨fields, rfl, h6⟩ := td_struct h5
          obtain ⟨g, j, de, e1, e2, e3, e4, e5, e6, e7⟩ := field_of h6 hf
          have e1' : fields[i]? = some g := by simpa using e1
          obtain ⟨p, hp, h⟩ := on_some h
          split at h
          · rename_i k o
            refine ⟨_, h, fun r a w he _ => ?_⟩
            simp only [execOp, he.get hp]
            refine fin ?_
            simp only [den, Instr.fieldAt, Sem.run_bind, r_underlying h4, Result.andThen_ok, e1', Instr.sureAddr, Sem.run_pure, fieldPlace, r_sizeOf e2, if_neg e7, Addr.add_mid, e4]
          · rename_i b
            obtain ⟨hsp, hK⟩ := h
            obtain ⟨bb, bo, bs⟩ := b
            simp only at hsp; subst hsp
            refine ⟨_, hK, fun r a w he _ => ?_⟩
            simp only [execOp, he.get hp]
            refine fin ?_
            simp only [den, Instr.fieldAt, Sem.run_bind, r_underlying h4, Result.andThen_ok, e1', Instr.sureAddr, Sem.run_pure, fieldPlace, r_sizeOf e2, if_neg e7, Addr.add_mid, e4]
          · exact h.elim
      · exact h.elim
  case indexAddr t x i =>
    obtain ⟨j, hj, h⟩ := on_some h
    split at h
    · obtain ⟨p, hp, h⟩ := on_some h
      obtain ⟨v, hK, hv⟩ := evIndexAddr_sound hL h
      exact ⟨v, hK, fun r a w he _ => by simp only [execOp, he.get hp, he.get hj]; exact fin (hv r _ w)⟩
    · exact h.elim
  case index t x i =>
    obtain ⟨j, hj, h⟩ := on_some h
    split at h
    · rename_i kk n
      cases ht : find L t with
      | none => simp [ht] at h
      | some ti =>
        simp only [ht] at h
        split at h
        · rename_i len es ea hd
          obtain ⟨d, h4, h5⟩ := (hL.at ht).desc
          rw [hd] at h5
          obtain ⟨e, ie, de, rfl, e2, e3, e4, e5⟩ := td_array h5
          obtain ⟨p, hp, h⟩ := on_some h
          split at h
          · rename_i l
            obtain ⟨hb, h⟩ := h
            have key : ∀ (r : Nat → Nat) w, (Instr.index t (.agg (denL r l).toArray) (.int kk n)).run P w = (part e (denL r l).toArray (n.toNat * es)).run P w := by
              intro r w
              simp only [Instr.index, asIntOf, Sem.run_bind, Sem.run_pure, r_underlying h4, Result.andThen_ok, if_pos hb, r_sizeOf e2, e3]
            cases ea with
            | true =>
              cases hq : takeC (dropC l (n.toNat * es)) es with
              | none => simp [hq] at h
              | some q =>
                simp only [hq] at h
                obtain ⟨q1, q2⟩ := takeC_eq _ _ hq
                rw [dropC_eq] at q1 q2
                refine ⟨_, h, fun r a w he _ => ?_⟩
                simp only [execOp, he.get hp, he.get hj, den]
                refine fin ?_
                rw [key]
                simp only [part, Sem.run_bind, r_isAgg e4, e5, Result.andThen_ok, if_true, r_sizeOf e2, e3]
                show Result.ok _ _ = Result.ok _ _
                congr 1
                rw [q2]
                simp only [denL_take, denL_drop]
                congr 1
                apply Array.ext'
                simp
            | false =>
              obtain ⟨v, hv, hK⟩ := on_some h
              refine ⟨v, hK, fun r a w he _ => ?_⟩
              simp only [execOp, he.get hp, he.get hj, den]
              refine fin ?_
              rw [nthC_eq] at hv
              have := denL_get r hv
              rw [key]
              simp only [part, Sem.run_bind, r_isAgg e4, e5, Result.andThen_ok, Bool.false_eq_true, if_false]
              simp [this]
          · exact h.elim
        · exact h.elim
    · exact h.elim
  case extract x i =>
    obtain ⟨p, hp, h⟩ := on_some h
    split at h
    · rename_i l
      obtain ⟨v, hv, hK⟩ := on_some h
      refine ⟨v, hK, fun r a w he _ => ?_⟩
      rw [nthC_eq] at hv
      have := denL_get r hv
      simp only [execOp, he.get hp, den]
      refine fin ?_
      simp [Instr.extract, this]
    · exact h.elim
  case nilCheck x =>
    obtain ⟨p, hp, h⟩ := on_some h
    split at h
    · exact ⟨_, h, fun r a w he _ => by simp only [execOp, he.get hp, den]; rfl⟩
    · exact ⟨_, h, fun r a w he _ => by simp only [execOp, he.get hp, den]; rfl⟩
    · exact ⟨_, h, fun r a w he _ => by simp only [execOp, he.get hp, den]; rfl⟩
    · exact h.elim
  case makeFunc fn first caps =>
    split at h
    · rename_i f l hf hc
      refine ⟨_, h, fun r a w he _ => ?_⟩
      simp only [execOp]
      refine fin ?_
      have e1 : first = #[] := by apply Array.ext'; simpa using hf
      subst e1
      have e2 : caps.map a.eval = (denL r l).toArray := by apply Array.ext'; simp [args_eval he hc]
      simp only [Instr.makeFunc, e2, den, Array.map_empty]
      rfl
    · exact h.elim
  case call c =>
    obtain ⟨cal, args, ts⟩ := c
    cases cal <;> first | exact h.elim | skip
    case builtin b =>
      obtain ⟨v, hK, hv⟩ := evBuiltin_sound hL h
      refine ⟨v, hK, fun r a w he _ => ?_⟩
      simp only [execOp, resolve, Sem.run_bind, Sem.run_pure, Result.andThen_ok, invoke]
      exact hv r a w he _ _
end
end Go.Proofs.Ytbcoanbjhbppcaa
