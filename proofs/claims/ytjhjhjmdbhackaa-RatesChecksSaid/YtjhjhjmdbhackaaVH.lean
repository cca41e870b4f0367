/- Walks, third framework: drawn regions with an append of a list of its own ahead of operations that it does not wait for. No condition on any program. -/
import Derived.Test.YtjhjhjmdbhackaaVF
namespace Go.Proofs.Ytjhjhjmdbhackaa
set_option linter.unusedSimpArgs false
set_option linter.unusedSectionVars false
set_option linter.unusedVariables false
open Go.RowKit
theorem append_kind {P : Program} {ev : Operand → Value} {t : Option Nat} {args : Array Operand} {ts : Array TypeId} {ty : TypeId} {pos : String} {after : Array Edge} {gd : Option (Nat × Bool)} {w w' : World} {k : Next}
    (h : (execOp ev ⟨t, .call ⟨.builtin .append, args, ts⟩, ty, pos, after, gd⟩).run P w = .ok k w') : ∃ v, k = .value v := by
  simp only [execOp, resolve, invoke, builtin, Sem.run_bind, Sem.run_pure, Result.andThen_ok] at h
  generalize (Builtin.append_ _ _ _).run P w = r at h
  cases r with
  | ok v w'' => simp only [Result.andThen_ok, Result.ok.injEq] at h; exact ⟨v, h.1.symm⟩
  | halt x w'' => simp at h
theorem StepTo.val {x : Cx} {s s' : St} {t : Nat} {args : Array Operand} {ts : Array TypeId} {ty : TypeId} {pos : String} {after : Array Edge} {gd : Option (Nat × Bool)} (h : StepTo x s ⟨some t, .call ⟨.builtin .append, args, ts⟩, ty, pos, after, gd⟩ s') {g : Gx} {V : Vl} {a : Act} {w : World} (hr : Rep x g V s a w) :
    ∃ v w' V', (execOp a.eval ⟨some t, .call ⟨.builtin .append, args, ts⟩, ty, pos, after, gd⟩).run x.P w = .ok (.value v) w' ∧ Rep x g V' s' (a.put (some t) v) w' := by
  have h1 := h.run g V a w (fun _ _ _ => False) hr
  unfold Oper.wp at h1
  generalize hk : (execOp a.eval ⟨some t, .call ⟨.builtin .append, args, ts⟩, ty, pos, after, gd⟩).run x.P w = r at h1
  cases r with
  | ok k w' =>
    obtain ⟨v, rfl⟩ := append_kind hk
    simp only [Oper.upon] at h1
    obtain ⟨V', h2⟩ := h1
    exact ⟨v, w', V', rfl, h2⟩
  | halt y w' => exfalso; cases y <;> simp [Oper.upon] at h1
structure LateH (x : Cx) (l : List Oper) (n : Nat) (D : List Nat) (G : St → Prop) (s : St) : Prop where
  is : ∃ t args ts ty pos after gd a b T p q m ks obs obs2, nthC l n = some ⟨some t, .call ⟨.builtin .append, args, ts⟩, ty, pos, after, gd⟩ ∧ args.toList = [a, b] ∧ ts.toList = [T, T] ∧ s.get a = some p ∧ s.get b = some q ∧ appS x.L s T p q = some (m, ks, obs) ∧ AllP obs ∧ Nat.blt t x.n = true ∧
    lateC x l t (s.nb + 1) ((t, .sl ⟨s.nb, []⟩) :: s.env) ((s.nb, m) :: killL ks s.mem) D = some obs2 ∧ AllP obs2 ∧ G ⟨(t, .sl ⟨s.nb, []⟩) :: s.env, (s.nb, m) :: killL ks s.mem, s.nb + 1⟩
theorem LateH.mono {x : Cx} {l : List Oper} {n : Nat} {D : List Nat} {G G' : St → Prop} {s : St} (h : LateH x l n D G s) (hg : ∀ s, G s → G' s) : LateH x l n D G' s := by
  obtain ⟨t, args, ts, ty, pos, after, gd, a, b, T, p, q, m, ks, obs, obs2, h1, h2, h3, h4, h5, h6, h7, h8, h9, h10, h11⟩ := h.is
  exact ⟨t, args, ts, ty, pos, after, gd, a, b, T, p, q, m, ks, obs, obs2, h1, h2, h3, h4, h5, h6, h7, h8, h9, h10, hg _ h11⟩
theorem tr_drawH {x : Cx} {Q : Exit → St → Prop} {s : St} (hL : LayOk x.P x.L) (hm : x.P.follows .mixedOrders = true) {id : Nat} {l : List Oper} (n : Nat) (L D : List Nat) (hB : regionB .any (lateOps l n D).toArray n L = true) (hB2 : lateB l n D = true)
    (h : Hd x (lateOps l n D) s.mem L [] s (LateH x l n D fun s' => Sq x l (l.drop (n + 1)) s' fun s' => Q .normal s')) : Tr x (.region id l.toArray true) Q s :=
  ⟨fun g V a w hr => by
    refine wp_region_late n L D hm hB hB2 (er_stays (DK := DKof V s.mem) fun b L ⟨k, v, h1, h2, _⟩ => ?_) ?_
    · have := hr.ents.lt (r := ⟨k, []⟩) (b := .deck v) (cont_iff.2 ⟨_, h1, rfl⟩) trivial
      rw [Loc.b_eq h2] at this
      exact this
    · refine h.run hL g w.drew _ _ V [] a rfl (fun tags' V' s' fs' a' hs hd hi w' hw' => ?_) ?_
      · obtain ⟨t, args, ts, ty, pos, after, gd, a2, b2, T, p, q, m, ks, obs, obs2, h1, h2, h3, h4, h5, h6, h7, h8, h9, h10, h11⟩ := hs.is
        obtain ⟨env', mem', nb'⟩ := s'
        obtain ⟨v, w1, V1, e1, e2⟩ := (step_append (pos := pos) (after := after) (gd := gd) (ty := ty) hL h2 h3 h4 h5 h6 h7 h8).val (hi.rep (by rw [hd]; exact hw'))
        refine ⟨_, t, v, w1, by rw [← nthC_eq]; exact h1, rfl, e1, lateC_ok hL e2.env (fun e => e2.ents.env) h9 h10, ?_⟩
        exact h11.run g _ V1 _ w1 (fun s'' V'' a'' w'' hq hr'' => ⟨s'', V'', hq, hr''⟩) e2
      · exact ⟨hr.defers, hr.size, hr.env, hr.envOk, hr.ents.ok, hr.ents.heap rfl, hr.own, hr.pin, hr.d0, ⟨hr.frame.1, hr.frame.2.1, ⟨hr.frame.2.2.os, hr.frame.2.2.tape, hr.frame.2.2.output⟩⟩, fun k c hk => ⟨rfl, hk⟩, fun k c hk _ => hk, (fun k i hk => by cases hk), (fun i j a b hi => by cases hi)⟩⟩
section
variable {x : Cx} {Q : Exit → St → Prop} {obs : List Prop} {K : List Kf}
theorem g_drawH (hL : LayOk x.P x.L) (hm : x.P.follows .mixedOrders = true) (fuel n : Nat) (L D : List Nat) (N : Nat) {id : Nat} {l : List Oper} {env : List (Nat × SV)} {mem : List (Nat × MB)} {nb : Nat} (_ : l.length = N) (hB : regionB .any (lateOps l n D).toArray n L = true) (hB2 : lateB l n D = true) (ho : AllP obs)
    (h : GoodH x (lateOps l n D) mem (LateH x l n D fun s' => Good x Q (run x fuel [] (.ops l (dropN (n + 1) l)) K s')) (runH x (lateOps l n D) mem fuel [] L [] ⟨env, mem, nb⟩)) : Good x Q (.code obs (.region id l.toArray true) K ⟨env, mem, nb⟩) := by
  refine ⟨ho, tr_drawH hL hm n L D hB hB2 ?_⟩
  have := (runH_ok hL h).2
  refine ⟨fun hL g u DK Q V fs a hd hQ hi => this.run hL g u DK Q V fs a hd (fun tags' V' s' fs' a' hs => hQ tags' V' s' fs' a' (hs.mono fun s hk => ?_)) hi⟩
  have := (run_ok hL hk).2
  rw [dropN_eq] at this
  exact this
theorem g_lateH {l : List Oper} {n t : Nat} {D : List Nat} {G : St → Prop} {env : List (Nat × SV)} {mem : List (Nat × MB)} {nb nb1 : Nat} {args : Array Operand} {ts : Array TypeId} {ty : TypeId} {pos : String} {after : Array Edge} {gd : Option (Nat × Bool)} {a b : Operand} {T : TypeId} {p q : SV} {m : MB} {ks : List Nat} {mem1 : List (Nat × MB)} {obs2 : List Prop}
    (h1 : nthC l n = some ⟨some t, .call ⟨.builtin .append, args, ts⟩, ty, pos, after, gd⟩) (h2 : args.toList = [a, b]) (h3 : ts.toList = [T, T]) (h4 : St.get ⟨env, mem, nb⟩ a = some p) (h5 : St.get ⟨env, mem, nb⟩ b = some q) (h6 : appS x.L ⟨env, mem, nb⟩ T p q = some (m, ks, obs)) (h7 : AllP obs) (h8 : Nat.blt t x.n = true)
    (hnb : nb + 1 = nb1) (hmem : killL ks mem = mem1) (h9 : lateC x l t nb1 ((t, .sl ⟨nb, []⟩) :: env) ((nb, m) :: mem1) D = some obs2) (h10 : AllP obs2) (h : G ⟨(t, .sl ⟨nb, []⟩) :: env, (nb, m) :: mem1, nb1⟩) : LateH x l n D G ⟨env, mem, nb⟩ :=
  ⟨⟨t, args, ts, ty, pos, after, gd, a, b, T, p, q, m, ks, obs, obs2, h1, h2, h3, h4, h5, h6, h7, h8, by subst hmem; subst hnb; exact h9, h10, by subst hmem; subst hnb; exact h⟩⟩
end
end Go.Proofs.Ytjhjhjmdbhackaa
