/- Symbolic walks, fifth part: the evaluator of single operations is right. No condition on any program. -/
import Derived.Test.YtbcoanbjhbppcaaSym4
import Derived.Deep.MidRow
namespace Go.Proofs.Ytbcoanbjhbppcaa
set_option linter.unusedVariables false
open Go.RowKit

section
variable {P : Program} {L : Lay} {D : Nat → Prop} {w0 : World} {s : St} {K : SV → Prop}
theorem Gr.cell {D : Nat → Prop} {W w : World} (h : Gr D W w) {a : Addr} {v : Value} (hc : W.cell? a = some v) (hd : ¬ D a.block) : w.cell? a = some v := by
  have h1 : a.spot = none := by
    unfold World.cell? at hc
    split at hc
    · split at hc
      · cases hc
      · rename_i h; simpa using h
    · cases hc
  obtain ⟨b, o, sp⟩ := a
  simp only at h1
  subst h1
  exact (h.1.cell (World.block_lt_of_cell? W _ hc) (fun f => hd f)).trans hc
theorem cellsAt_list {w0 : World} {a : Addr} : ∀ {vs : List Value} {i : Nat}, CellsAt w0 a i vs → ∀ j v, vs[j]? = some v → w0.cell? (a.add (i + j)) = some v
  | [], _, _, j, v, h => by simp at h
  | x :: vs, i, hc, 0, v, h => by simp only [List.getElem?_cons_zero, Option.some.injEq] at h; subst h; exact hc.1
  | x :: vs, i, hc, j + 1, v, h => by
    simp only [List.getElem?_cons_succ] at h
    have := cellsAt_list hc.2 j v h
    rwa [show i + (j + 1) = i + 1 + j by omega]
theorem add_block (a : Addr) (n : Nat) : (a.add n).block = a.block := by unfold Addr.add; split <;> rfl
theorem r_loadVar_agg {t : TypeId} {ti : TI} (ht : TIok P t ti) (hg : ti.td.agg = true) {w : World} {a : Addr} {cs : List Value} (hl : cs.length = ti.zs.length) (h : ∀ j v, cs[j]? = some v → w.cell? (a.add j) = some v) :
    (loadVar t a).run P w = .ok (.agg cs.toArray) w := by
  obtain ⟨i, h1, h2, _⟩ := ht.info
  obtain ⟨d, h4, h5⟩ := ht.desc
  have e := run_loadCells_list (P := P) w a cs h
  simp only [loadVar, Sem.run_bind, r_isAgg h4, agg_of h5, hg, Result.andThen_ok, if_true, r_sizeOf h1, h2, TI.zero_len, ← hl, e]
  rfl
theorem r_loadVar_one {t : TypeId} {ti : TI} (ht : TIok P t ti) (hg : ti.td.agg = false) {w : World} {a : Addr} {v : Value} (h : w.cell? a = some v) :
    (loadVar t a).run P w = .ok v w := by
  obtain ⟨d, h4, h5⟩ := ht.desc
  simp only [loadVar, Sem.run_bind, r_isAgg h4, agg_of h5, hg, Result.andThen_ok, Bool.false_eq_true, if_false, run_load, h]
theorem denL_get (r : Nat → Nat) {l : List SV} {i : Nat} {v : SV} (h : l[i]? = some v) : (denL r l)[i]? = some (den r v) := by simp [denL_eq, h]
theorem evLoad_sound (hL : LayOk P L) {t : TypeId} {p : SV} (h : evLoad L D w0 s t p K) : ∃ v, K v ∧ ∀ r w, MemR D w0 r s w → (Instr.loadAt t (den r p)).run P w = .ok (den r v) w := by
  unfold evLoad at h
  cases p <;> first | exact h.elim | skip
  case ptr k o =>
    cases ht : find L t with
    | none => simp [ht] at h
    | some ti =>
      have hti := hL.at ht
      cases hm : find s.mem k with
      | none => simp [ht, hm] at h
      | some c =>
        cases hg : ti.td.agg with
        | true =>
          cases hq : takeC (dropC c o) ti.zs.length with
          | none => simp [ht, hm, hg, hq] at h
          | some l =>
            simp only [ht, hm, hg, hq] at h
            refine ⟨_, h, fun r w hw => ?_⟩
            obtain ⟨t', hb⟩ := hw.1 k c hm
            obtain ⟨q1, q2⟩ := takeC_eq _ _ hq
            rw [dropC_eq] at q1 q2
            simp only [den, Instr.loadAt, Instr.sureAddr, Sem.run_bind, Sem.run_pure, Result.andThen_ok]
            refine r_loadVar_agg hti hg (by rw [denL_length, q2]; simp at q1 ⊢; omega) (fun j v hj => ?_)
            rw [Addr.add_mid]
            simp only [World.cell?, hb, Option.isSome_none, Bool.false_eq_true, if_false]
            rw [q2, denL_take, denL_drop] at hj
            simp only [List.getElem?_take] at hj
            split at hj
            · simpa [List.getElem?_drop] using hj
            · cases hj
        | false =>
          simp only [ht, hm, hg] at h
          obtain ⟨v, hv, hK⟩ := on_some h
          refine ⟨v, hK, fun r w hw => ?_⟩
          obtain ⟨t', hb⟩ := hw.1 k c hm
          simp only [den, Instr.loadAt, Instr.sureAddr, Sem.run_bind, Sem.run_pure, Result.andThen_ok]
          refine r_loadVar_one hti hg ?_
          rw [nthC_eq] at hv
          have := denL_get r hv
          simpa [World.cell?, hb] using this
  case val x =>
    cases x <;> first | exact h.elim | skip
    case pointer a =>
      cases a with
      | none => exact h.elim
      | some a =>
        cases ht : find L t with
        | none => simp [ht] at h
        | some ti =>
          have hti := hL.at ht
          cases hg : ti.td.agg with
          | true =>
            simp only [ht, hg] at h
            obtain ⟨vs, h1, h2, h3, h4, hK⟩ := h
            refine ⟨_, hK, fun r w hw => ?_⟩
            simp only [den, Instr.loadAt, Instr.sureAddr, Sem.run_bind, Sem.run_pure, Result.andThen_ok]
            have e : denL r (vs.map inj1) = vs := by
              rw [denL_eq, List.map_map, den_inj1_comp, List.map_id]
            rw [e]
            refine r_loadVar_agg hti hg h2 (fun j v hj => ?_)
            have := cellsAt_list h1 j v hj
            rw [Nat.zero_add] at this
            exact hw.2.cell this (by rw [add_block]; exact h3)
          | false =>
            simp only [ht, hg] at h
            obtain ⟨v, h1, h3, hK⟩ := h
            refine ⟨_, hK, fun r w hw => ?_⟩
            simp only [den_inj1, den, Instr.loadAt, Instr.sureAddr, Sem.run_bind, Sem.run_pure, Result.andThen_ok]
            exact r_loadVar_one hti hg (hw.2.cell h1 h3)

theorem den_okL0 {l : List SV} (h : okL 0 l = true) (r : Nat → Nat) : denL r l = denL id l := denL_agree (fun _ hk => absurd hk (Nat.not_lt_zero _)) l h
theorem r_eqB' {t : TypeId} (hu : P.underlying t = some .bool) (d : Nat) (a b : Bool) (w : World) : (Op.equalIn (d + 1) t (.bool a) (.bool b)).run P w = .ok (a == b) w := by
  simp only [Op.equalIn, Sem.run_bind, r_underlying hu, Result.andThen_ok]
  rfl
theorem r_eqB {t : TypeId} (hu : P.underlying t = some .bool) (a b : Bool) (w : World) : (Op.equal t (.bool a) (.bool b)).run P w = .ok (a == b) w := r_eqB' hu 9999 a b w
theorem evBin_sound {op : BinOp} {t : TypeId} {p q : SV} (h : evBin P op t p q K) :
    ∃ v, K v ∧ ∀ (r : Nat → Nat) x y w, (do eqGuard op t x y (den r p) (den r q); binOp op t (den r p) (den r q) : Sem Value).run P w = .ok (den r v) w := by
  have bb : ∀ a b : Bool, evBin.evB P op t K a b → ∃ v, K v ∧ ∀ (r : Nat → Nat) x y w, (do eqGuard op t x y (.bool a) (.bool b); binOp op t (.bool a) (.bool b) : Sem Value).run P w = .ok (den r v) w := by
    intro a b h
    unfold evBin.evB at h
    cases op <;> first | exact h.elim | skip
    · refine ⟨_, h.2, fun r x y w => ?_⟩
      show (do let z ← Op.equal t (.bool a) (.bool b); pure (.bool z) : Sem Value).run P w = _
      simp only [Sem.run_bind, r_eqB h.1, Result.andThen_ok]
      rfl
    · refine ⟨_, h.2, fun r x y w => ?_⟩
      show (do let z ← Op.equal t (.bool a) (.bool b); pure (.bool !z) : Sem Value).run P w = _
      simp only [Sem.run_bind, r_eqB h.1, Result.andThen_ok]
      rfl
  unfold evBin at h
  split at h
  · obtain ⟨v, h1, h2⟩ := evInt_sound (P := P) h
    exact ⟨v, h1, fun r x y w => h2 r t x y w⟩
  · exact bb _ _ h
  · exact bb _ _ h
  · exact bb _ _ h
  · exact bb _ _ h
  · obtain ⟨h1, h2, b, h3, h4⟩ := h
    refine ⟨_, h4, fun r x y w => ?_⟩
    simp only [den, den_okL0 h1 r, den_okL0 h2 r]
    exact h3 x y w
  · obtain ⟨b, h3, h4⟩ := h
    exact ⟨_, h4, fun r x y w => by rw [den_inj1]; exact h3 x y w⟩
  · obtain ⟨b, h3, h4⟩ := h
    exact ⟨_, h4, fun r x y w => h3 _ _ _ x y w⟩
  · exact h.elim
theorem evUn_sound {op : UnOp} {x : SV} (h : evUn op x K) : ∃ v, K v ∧ ∀ (r : Nat → Nat) w, (Op.unary op (den r x)).run P w = .ok (den r v) w := by
  unfold evUn at h
  split at h
  · exact ⟨_, h, fun r w => rfl⟩
  · exact ⟨_, h, fun r w => rfl⟩
  · obtain ⟨c, rfl, hK⟩ := h; exact ⟨_, hK, fun r w => rfl⟩
  · obtain ⟨c, rfl, hK⟩ := h; exact ⟨_, hK, fun r w => rfl⟩
  · exact h.elim
theorem minS_sound {k : IntKind} : ∀ {l : List SV} {a c : Int}, minS a k l = some c → ∀ (r : Nat → Nat) w, ((denL r l).foldlM Builtin.min2 (.int k a)).run P w = .ok (.int k c) w
  | [], a, c, h, r, w => by simp only [minS, Option.some.injEq] at h; subst h; rfl
  | x :: l, a, c, h, r, w => by
    cases x <;> simp only [minS] at h <;> first | (cases h; done) | skip
    case int k' b =>
      by_cases hk : k = k'
      · simp only [hk, decide_true] at h
        subst hk
        simp only [denL, den, List.foldlM_cons, Sem.run_bind]
        exact minS_sound h r w
      · simp [hk] at h
theorem maxS_sound {k : IntKind} : ∀ {l : List SV} {a c : Int}, maxS a k l = some c → ∀ (r : Nat → Nat) w, ((denL r l).foldlM Builtin.max2 (.int k a)).run P w = .ok (.int k c) w
  | [], a, c, h, r, w => by simp only [maxS, Option.some.injEq] at h; subst h; rfl
  | x :: l, a, c, h, r, w => by
    cases x <;> simp only [maxS] at h <;> first | (cases h; done) | skip
    case int k' b =>
      by_cases hk : k = k'
      · simp only [hk, decide_true] at h
        subst hk
        simp only [denL, den, List.foldlM_cons, Sem.run_bind]
        exact maxS_sound h r w
      · simp [hk] at h
theorem args_eval {r : Nat → Nat} {s : St} {a : Act} (he : EnvR r s a) : ∀ {l : List Operand} {q}, argsS s l = some q → l.map a.eval = denL r q
  | [], q, h => by simp only [argsS, Option.some.injEq] at h; subst h; rfl
  | x :: l, q, h => by
    unfold argsS at h
    cases hx : s.get x with
    | none => simp [hx] at h
    | some v =>
      cases hl : argsS s l with
      | none => simp [hx, hl] at h
      | some u =>
        simp only [hx, hl, Option.some.injEq] at h
        subst h
        simp only [List.map_cons, he.get hx, args_eval he hl, denL]
end
end Go.Proofs.Ytbcoanbjhbppcaa
