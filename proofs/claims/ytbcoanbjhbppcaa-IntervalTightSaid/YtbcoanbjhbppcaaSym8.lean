/- Symbolic walks, eighth part: stores, calls, regions in a row. No condition on any program. -/
import Derived.Test.YtbcoanbjhbppcaaSym7
namespace Go.Proofs.Ytbcoanbjhbppcaa
set_option linter.unusedVariables false
open Go.RowKit

theorem Gr.grown {D : Nat → Prop} {a b c : World} (h : Gr D a b) (g : Grown b c) : Gr D a c :=
  ⟨World.keptBut_trans h.1 (World.keptBut_mono (fun _ f => f.elim) g.1), fun p => (g.2.1 p).trans (h.2.1 p), Nat.le_trans h.2.2 g.2.2⟩
theorem Gr.refl (D : Nat → Prop) (w : World) : Gr D w w := ⟨World.keptBut_refl _ _, fun _ => rfl, Nat.le_refl _⟩
theorem MemR.grown {D : Nat → Prop} {w0 : World} {r : Nat → Nat} {s : St} {w w' : World} (h : MemR D w0 r s w) (g : Grown w w') : MemR D w0 r s w' :=
  ⟨fun k c hk => by
    obtain ⟨t, ht⟩ := h.1 k c hk
    exact ⟨t, (grown_keeps g (Array.getElem?_eq_some_iff.1 ht).1).trans ht⟩, h.2.grown g⟩
theorem Rep.grown {x : Cx} {r : Nat → Nat} {s : St} {a : Act} {w w' : World} (h : Rep x r s a w) (g : Grown w w') : Rep x r s a w' :=
  ⟨h.defers, h.size, h.env, h.envOk, h.mem.grown g, h.memOk, h.inj, fun k hk => Nat.lt_of_lt_of_le (h.lt k hk) g.2.2, h.own, h.pin⟩
theorem den_upd {r : Nat → Nat} {nb b : Nat} {v : SV} (h : okV nb v = true) : den (upd r nb b) v = den r v := den_agree (fun k hk => upd_lt k hk) v h
theorem denL_upd {r : Nat → Nat} {nb b : Nat} {l : List SV} (h : okL nb l = true) : denL (upd r nb b) l = denL r l := denL_agree (fun k hk => upd_lt k hk) l h
theorem alloc_size (w : World) (o : Obj) : (w.alloc o).heap.size = w.heap.size + 1 := by show (w.heap.push _).size = _; simp
/-- A new block is laid. -/
theorem Rep.new {x : Cx} {r : Nat → Nat} {s : St} {a : Act} {w : World} (h : Rep x r s a w) {c : List SV} (hc : okL s.nb c = true) (t : TypeId) :
    Rep x (upd r s.nb w.heap.size) ⟨s.env, (s.nb, c) :: s.mem, s.nb + 1⟩ a (w.alloc (.cells (denL r c).toArray t)) := by
  have g : Grown w (w.alloc (.cells (denL r c).toArray t)) := (Grown.refl _).alloc _ _
  have hm := h.mem.grown g
  refine ⟨h.defers, h.size, fun u v hu => ?_, fun u v hu => okV_mono (Nat.le_succ _) _ (h.envOk u v hu), ⟨fun k c' hk => ?_, hm.2⟩, fun k c' hk => ?_, fun i j hi hj hij => ?_, fun k hk => ?_, fun k hk => ?_, fun k hk => ⟨Nat.lt_succ_of_lt (h.pin k hk).1, (upd_lt k (h.pin k hk).1).trans (h.pin k hk).2⟩⟩
  · rw [den_upd (h.envOk u v hu)]; exact h.env u v hu
  · simp only [find_cons] at hk
    split at hk
    · rename_i e; subst e; cases hk
      rw [upd_self, denL_upd hc]
      exact ⟨t, heap_alloc_new w _⟩
    · obtain ⟨h1, h2⟩ := h.memOk k c' hk
      obtain ⟨t', ht'⟩ := hm.1 k c' hk
      rw [denL_upd h2, upd_lt k h1]
      exact ⟨t', ht'⟩
  · simp only [find_cons] at hk
    split at hk
    · rename_i e; subst e; cases hk; exact ⟨Nat.lt_succ_self _, okL_mono (Nat.le_succ _) _ hc⟩
    · obtain ⟨h1, h2⟩ := h.memOk k c' hk
      exact ⟨Nat.lt_succ_of_lt h1, okL_mono (Nat.le_succ _) _ h2⟩
  · by_cases e1 : i = s.nb
    · by_cases e2 : j = s.nb
      · rw [e1, e2]
      · exfalso
        have hj' : j < s.nb := by simp only at hj; omega
        rw [e1, upd_self, upd_lt j hj'] at hij
        have := h.lt j hj'
        omega
    · have hi' : i < s.nb := by simp only at hi; omega
      by_cases e2 : j = s.nb
      · exfalso
        rw [e2, upd_self, upd_lt i hi'] at hij
        have := h.lt i hi'
        omega
      · have hj' : j < s.nb := by simp only at hj; omega
        rw [upd_lt i hi', upd_lt j hj'] at hij
        exact h.inj i j hi' hj' hij
  · rw [alloc_size]
    by_cases e1 : k = s.nb
    · rw [e1, upd_self]; omega
    · have hk' : k < s.nb := by simp only at hk; omega
      rw [upd_lt k hk']
      exact Nat.lt_succ_of_lt (h.lt k hk')
  · by_cases e1 : k = s.nb
    · rw [e1, upd_self]; exact .inl h.mem.2.2.2
    · have hk' : k < s.nb := by simp only at hk; omega
      rw [upd_lt k hk']
      exact h.own k hk'

/-! ### A store -/
def oneC : SV → Bool
  | .agg _ => false
  | .tup _ => false
  | .undef => false
  | .val (.agg _) => false
  | .val (.tuple _) => false
  | _ => true
def oneL : List SV → Bool
  | [] => true
  | v :: l => match oneC v with
    | true => oneL l
    | false => false
theorem oneC_den (r : Nat → Nat) (v : SV) (h : oneC v = true) : (den r v).oneCell' = true := by
  cases v <;> first | rfl | (simp [oneC] at h; done) | skip
  case val x => cases x <;> first | rfl | (simp [oneC] at h)
theorem oneL_den (r : Nat → Nat) : ∀ l, oneL l = true → ∀ v ∈ denL r l, v.oneCell' = true
  | [], _, v, hv => by simp [denL] at hv
  | y :: l, h, v, hv => by
    unfold oneL at h
    cases hy : oneC y with
    | false => simp [hy] at h
    | true =>
      simp only [hy] at h
      simp only [denL, List.mem_cons] at hv
      rcases hv with rfl | hv
      · exact oneC_den r y hy
      · exact oneL_den r l h v hv
def evStore (L : Lay) (s : St) (t : Nat) (p v : SV) (K : St → Prop) : Prop :=
  match p with
  | .ptr k o => match find L t, find s.mem k with
    | some ti, some c => match cellsOk v, Nat.beq (cellsV v).length ti.zs.length, oneL (cellsV v), okL s.nb (cellsV v), splice c o (cellsV v) with
      | true, true, true, true, some c' => K ⟨s.env, (k, c') :: s.mem, s.nb⟩
      | _, _, _, _, _ => False
    | _, _ => False
  | _ => False
theorem Gr.setRow {D : Nat → Prop} {W w : World} (h : Gr D W w) {b : Nat} (hb : W.heap.size ≤ b ∨ D b) {old cs : Array Value} {t : TypeId} (ho : w.heap[b]? = some (.cells old t)) (hs : cs.size = old.size) : Gr D W (w.setRow b cs) := by
  obtain ⟨⟨h1, h2, h3⟩, hf, hz⟩ := h
  refine ⟨⟨h1, h2, fun i hi => ?_⟩, fun a => ?_, by simpa using hz⟩
  · by_cases e : i = b
    · subst e
      have hD : D i := hb.resolve_left (by omega)
      rw [setRow_heap w i old cs t _ ho]
      have h3' := h3 i hi
      rw [ho] at h3'
      cases hW : W.heap[i]? with
      | none => rw [hW] at h3'; simp at h3'
      | some ob =>
        rw [hW] at h3'
        cases ob <;> simp at h3' ⊢
        obtain ⟨e1, e2, e3, e4⟩ := h3'
        exact ⟨e1, e2, by rw [hs, e3], fun j hj => absurd hD hj⟩
    · rw [setRow_other w b i cs e]; exact h3 i hi
  · rw [← hf a]
    unfold World.frozen?
    by_cases e : a.block = b
    · rw [e, setRow_heap w b old cs t _ ho, ho]
    · rw [setRow_other w b a.block cs e]
theorem evStore_sound {x : Cx} (hL : LayOk x.P x.L) {s : St} {t : Nat} {p v : SV} {K : St → Prop} (h : evStore x.L s t p v K) :
    ∃ s', K s' ∧ s'.nb = s.nb ∧ ∀ r a w, Rep x r s a w → ∃ w', (Instr.storeAt t (den r p) (den r v)).run x.P w = .ok () w' ∧ Rep x r s' a w' := by
  unfold evStore at h
  split at h
  · rename_i k o
    split at h
    · rename_i ti c ht hc
      split at h
      · rename_i c' h1 h2 h3 h4 h5
        refine ⟨_, h, rfl, fun r a w hr => ?_⟩
        obtain ⟨q1, q2⟩ := denL_splice r h5
        obtain ⟨b, hb⟩ := hr.mem.1 k c hc
        obtain ⟨hk, hok⟩ := hr.memOk k c hc
        obtain ⟨i, g1, g2, g3⟩ := (hL.at ht).info
        have hz : (denL r (cellsV v)).length = ti.zero.length := by rw [denL_length, TI.zero_len]; exact Nat.eq_of_beq_eq_true h2
        have run : (Instr.storeAt t (den r (.ptr k o)) (den r v)).run x.P w = .ok () (w.setRow (r k) (denL r c').toArray) := by
          simp only [Instr.storeAt, den, Instr.sureAddr, Sem.run_bind, Sem.run_pure, Result.andThen_ok, storeVar, r_sizeOf g1, cellsOk_den r v h1]
          rw [if_neg (by simp [hz, g2])]
          have := run_storeCells_at (P := x.P) (r k) o b (denL r (cellsV v)) 0 (denL r c).toArray w hb (by simp [denL_length]; omega) (oneL_den r _ h3)
          simp only [Nat.add_zero] at this
          rw [q1]
          exact this
        refine ⟨_, run, ⟨hr.defers, hr.size, hr.env, hr.envOk, ⟨fun j cj hj => ?_, hr.mem.2.setRow (hr.own k hk) hb ?_⟩, fun j cj hj => ?_, hr.inj, fun j hj => ?_, hr.own, hr.pin⟩⟩
        · simp only [find_cons] at hj
          split at hj
          · rename_i e; subst e; cases hj
            exact ⟨b, setRow_heap w (r k) _ _ b _ hb⟩
          · rename_i e
            obtain ⟨t', ht'⟩ := hr.mem.1 j cj hj
            obtain ⟨hj', _⟩ := hr.memOk j cj hj
            exact ⟨t', (setRow_other w (r k) (r j) _ (fun e2 => e (hr.inj k j hk hj' e2.symm))).trans ht'⟩
        · have := congrArg List.length q1
          simp only [List.length_append, List.length_take, List.length_drop, denL_length] at this
          simp [denL_length]
          omega
        · simp only [find_cons] at hj
          split at hj
          · rename_i e; subst e; cases hj
            obtain ⟨_, e2⟩ := splice_eq _ _ _ h5
            refine ⟨hk, ?_⟩
            subst e2
            rw [okL_iff] at hok h4 ⊢
            intro y hy
            simp only [List.mem_append] at hy
            rcases hy with (hy | hy) | hy
            · exact hok y (List.mem_of_mem_take hy)
            · exact h4 y hy
            · exact hok y (List.mem_of_mem_drop hy)
          · exact hr.memOk j cj hj
        · rw [setRow_size]; exact hr.lt j hj
      · exact h.elim
    · exact h.elim
  · exact h.elim

/-! ### Calls -/
def callB (P : Program) (g : Nat) : Bool :=
  match P.funcs[g]? with
  | some fn => fn.body.isSome && fn.name != "runtime.NumGoroutine"
  | none => false
/-- Called so in the world w, the function hands back v; new blocks apart, it leaves all as it is. -/
structure Con (P : Program) (g : Nat) (args : List Value) (w : World) (v : Value) : Prop where
  can : callB P g = true
  runs : Calls P g args.toArray w fun e w' => e = .returned v ∧ Grown w w'
theorem run_call {P : Program} {g : Nat} (hb : callB P g = true) {caps args : Array Value} {w : World} {dst : Option Tmp} {f : Operand} {as : Array Operand} {ts : Array TypeId} {ty pos after guard} {ev : Operand → Value}
    (hf : ev f = .func (.func g) #[] caps) (ha : as.map ev = args) : (execOp ev ⟨dst, .call ⟨.value f, as, ts⟩, ty, pos, after, guard⟩).run P w = .ok (.enter g (args ++ caps)) w := by
  unfold callB at hb
  cases hfn : P.funcs[g]? with
  | none => simp [hfn] at hb
  | some fn =>
    simp only [hfn, Bool.and_eq_true, bne_iff_ne, ne_eq] at hb
    obtain ⟨h1, h2⟩ := hb
    have hc : ∀ as' : Array Value, (callFunc g as').run P w = .ok (.enter g as') w := by
      intro as'
      show (match P.funcs[g]? with | none => (stuck _ : Sem Next) | some fn => if fn.name == "runtime.NumGoroutine" then pure .numGoroutine else if fn.body.isNone then _ else pure (.enter g as')).run P w = _
      rw [hfn]
      have e1 : (fn.name == "runtime.NumGoroutine") = false := by simpa using h2
      have e2 : fn.body.isNone = false := by cases hb : fn.body <;> simp_all
      simp only [e1, e2, Bool.false_eq_true, if_false]
      rfl
    simp only [execOp, resolve, hf, ha, Deferred.ofValue, Sem.run_bind, Sem.run_pure, Result.andThen_ok, invoke]
    rw [show (#[] : Array Value) ++ args = args by simp]
    exact hc _
def evCall (x : Cx) (s : St) (sm : St) (f : Operand) (as : Array Operand) (K : SV → Prop) : Prop :=
  on (s.get f) fun fv => match fv with
    | .clo g caps => match argsS s as.toList with
      | some q => ∃ v, (∀ r w, MemR x.D x.w0 r sm w → Con x.P g (denL r (q ++ caps)) w v) ∧ K (injR v)
      | none => False
    | _ => False
theorem evCall_sound {x : Cx} {s sm : St} {f : Operand} {as : Array Operand} {K : SV → Prop} (h : evCall x s sm f as K) :
    ∃ v, K v ∧ ∀ r a w, EnvR r s a → MemR x.D x.w0 r sm w → ∀ dst ts ty pos after guard, ∃ g args, (execOp a.eval ⟨dst, .call ⟨.value f, as, ts⟩, ty, pos, after, guard⟩).run x.P w = .ok (.enter g args) w ∧
      Calls x.P g args w fun e w' => e = .returned (den r v) ∧ Grown w w' := by
  unfold evCall at h
  obtain ⟨fv, hf, h⟩ := on_some h
  split at h
  · rename_i g caps
    split at h
    · rename_i q hq
      obtain ⟨v, hv, hK⟩ := h
      refine ⟨_, hK, fun r a w he hm dst ts ty pos after guard => ⟨g, (denL r (q ++ caps)).toArray, ?_, ?_⟩⟩
      · have e1 : a.eval f = .func (.func g) #[] (denL r caps).toArray := he.get hf
        have e2 : as.map a.eval = (denL r q).toArray := by apply Array.ext'; simp [args_eval he hq]
        rw [run_call (hv r w hm).can e1 e2, denL_append]
        simp
      · rw [den_injR]; exact (hv r w hm).runs
    · exact h.elim
  · exact h.elim
end Go.Proofs.Ytbcoanbjhbppcaa
