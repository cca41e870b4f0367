/- Walks, third framework: is a list nil? No condition on any program. -/
import Derived.Test.YtonjbhdfimcedaaVQ
namespace Go.Proofs.Ytonjbhdfimcedaa
set_option linter.unusedSimpArgs false
set_option linter.unusedSectionVars false
set_option linter.unusedVariables false
open Go.RowKit
theorem r_eqN {P : Program} {t e : TypeId} (hu : P.underlying t = some (.slice e)) (a : Option Addr) (n c : Nat) (w : World) : (Op.equal t (.slice a n c) (.slice none 0 0)).run P w = .ok a.isNone w := by
  show (Op.equalIn 10000 t _ _).run P w = _
  unfold Op.equalIn
  simp only [Sem.run_bind, r_underlying hu, Result.andThen_ok]
  cases a <;> rfl
theorem list_nil {V : Vl} {w : World} {r : Rid} {d : Kd} {c : Ty} {l : List (El c)} (h : AtB V w r (.list d c l)) (hn : (V r).a = none) : l = [] := by
  obtain ⟨h1, h2, h3, h4⟩ := h
  cases l with
  | nil => rfl
  | cons x l =>
    exfalso
    have hj : 0 < (tcells c x).length := by rw [tcells_len]; exact wid_pos c
    obtain ⟨a, g1, _⟩ := h4 0 x rfl 0 _ (List.getElem?_eq_getElem hj)
    rw [hn] at g1; cases g1
/-- Is the slice of this value a list that is known? -/
def listN (s : St) : SV → Option (List Prop × Prop)
  | .sl r => match listE s.mem r with
    | some (_, ⟨_, l⟩, obs) => some (obs, l.length = 0)
    | none => none
  | _ => none
def nqOp : Bool → BinOp
  | true => .neq
  | false => .eql
section
variable {x : Cx} {Q : Exit → St → Prop} {obs : List Prop} {K : List Kf} {all l : List Oper} {t : Nat} {T T' : TypeId} {a : Operand} {ty : TypeId} {pos : String} {after : Array Edge} {gd : Option (Nat × Bool)} {env : List (Nat × SV)} {mem : List (Nat × MB)} {nb : Nat} {r : Rid} {p : Prop} {o1 : List Prop}
/-- A comparison of a list with nil: both answers; a nil list is empty. -/
theorem g_nilEq (hL : LayOk x.P x.L) (fuel : Nat) (neg : Bool) {op : BinOp} (hop : op = nqOp neg) (ho : AllP obs) (ho1 : AllP o1) {ti : TI} {e es : Nat} {ea : Bool} (hT : find x.L T = some ti) (htd : ti.td = .slice e es ea) (ha : St.get ⟨env, mem, nb⟩ a = some (.sl r)) (hl : listN ⟨env, mem, nb⟩ (.sl r) = some (o1, p)) (hg : goes all env gd = some true) (h1 : Nat.blt t x.n = true)
    (hy : p → Good x Q (run x fuel [] (.ops all l) K ⟨(t, .tf (!neg)) :: env, mem, nb⟩)) (hn : Good x Q (run x fuel [] (.ops all l) K ⟨(t, .tf neg) :: env, mem, nb⟩)) :
    Good x Q (.ops obs all (⟨some t, .binOp op T a (.const (.slice none 0 0)) T', ty, pos, after, gd⟩ :: l) K ⟨env, mem, nb⟩) := by
  subst hop
  refine ⟨ho, ⟨fun g Q' V ac w hQ hr => ?_⟩⟩
  obtain ⟨d, hd1, hd2⟩ := (hL.at hT).desc
  rw [htd] at hd2
  obtain ⟨i, de, hd3, _⟩ := td_slice hd2
  rw [hd3] at hd1
  have hav : ac.eval a = .slice (V r).a (V r).len (V r).cap := hr.env.get ha
  have hev : ∀ dst ty pos after guard, (execOp ac.eval ⟨dst, .binOp (nqOp neg) T a (.const (.slice none 0 0)) T', ty, pos, after, guard⟩).run x.P w = .ok (.value (.bool (xor (V r).a.isNone neg))) w := by
    intro dst ty pos after guard
    have hb : (do eqGuard (nqOp neg) T a (.const (.slice none 0 0)) (ac.eval a) (.slice none 0 0); binOp (nqOp neg) T (ac.eval a) (.slice none 0 0) : Sem Value).run x.P w = .ok (.bool (xor (V r).a.isNone neg)) w := by
      rw [hav]
      cases neg with
      | false =>
        have hgd : (eqGuard BinOp.eql T a (.const (.slice none 0 0)) (.slice (V r).a (V r).len (V r).cap) (.slice none 0 0)).run x.P w = .ok () w := rfl
        simp only [Sem.run_bind, hgd, Result.andThen_ok]
        show (do let z ← Op.equal T (.slice (V r).a (V r).len (V r).cap) (.slice none 0 0); pure (.bool z) : Sem Value).run x.P w = _
        simp only [Sem.run_bind, r_eqN hd1, Result.andThen_ok, Bool.xor_false]
        rfl
      | true =>
        have hgd : (eqGuard BinOp.neq T a (.const (.slice none 0 0)) (.slice (V r).a (V r).len (V r).cap) (.slice none 0 0)).run x.P w = .ok () w := rfl
        simp only [Sem.run_bind, hgd, Result.andThen_ok]
        show (do let z ← Op.equal T (.slice (V r).a (V r).len (V r).cap) (.slice none 0 0); pure (.bool (!z)) : Sem Value).run x.P w = _
        simp only [Sem.run_bind, r_eqN hd1, Result.andThen_ok, Bool.xor_true]
        rfl
    exact fin_v hb
  have step : ∀ b : Bool, xor (V r).a.isNone neg = b → Good x Q (run x fuel [] (.ops all l) K ⟨(t, .tf b) :: env, mem, nb⟩) → wpList x.P all.toArray Q' (⟨some t, .binOp (nqOp neg) T a (.const (.slice none 0 0)) T', ty, pos, after, gd⟩ :: l) ac w := by
    intro b hb hgd
    unfold wpList
    rw [if_pos (goes_wanted hg hr.env)]
    left
    unfold Oper.wp
    rw [hev, hb]
    exact (run_ok hL hgd).2.run g Q' V _ w hQ (hr.put (v := .tf b) h1 rfl)
  cases hnn : (V r).a with
  | none =>
    refine step (!neg) (by rw [hnn]; cases neg <;> rfl) (hy ?_)
    unfold listN at hl
    simp only at hl
    split at hl
    · rename_i kd c lst ob he
      cases hl
      have hc := listE_eq he ho1
      have := list_nil (hr.ents.at_ r _ hc) hnn
      rw [this]; rfl
    · cases hl
  | some ad => exact step neg (by rw [hnn]; cases neg <;> rfl) hn
/-- A cell of the block that is appended becomes a list of the walk's own. -/
theorem g_ownA (hL : LayOk x.P x.L) (fuel j : Nat) (c : Ty) (ho : AllP obs) {args : Array Operand} {ts : Array TypeId} {dst : Option Nat} {b : Operand} {k n cp : Nat} {s s' : St} {ob : List Prop} (ha : args.toList = [a, b]) (hb : St.get s b = some (.slc k 0 n cp)) (hc : ownC s k j c = some (s', ob)) (ho1 : AllP ob)
    (hk : Good x Q (run x fuel [] (.ops all (⟨dst, .call ⟨.builtin .append, args, ts⟩, ty, pos, after, gd⟩ :: l)) K s')) : Good x Q (.ops obs all (⟨dst, .call ⟨.builtin .append, args, ts⟩, ty, pos, after, gd⟩ :: l) K s) := by
  refine ⟨ho, ?_⟩
  have h1 := (run_ok hL hk).2
  exact ⟨fun g Q' V ac w hQ hr => by
    obtain ⟨V', hr'⟩ := (ownC_ok hc ho1).run g V ac w hr
    exact h1.run g Q' V' ac w hQ hr'⟩
/-- A cell of a block becomes a list of the walk's own. -/
theorem g_ownC (hL : LayOk x.P x.L) (fuel k j : Nat) (c : Ty) {o : Oper} {s s' : St} {ob : List Prop} (ho : AllP obs) (hc : ownC s k j c = some (s', ob)) (ho1 : AllP ob) (hk : Good x Q (run x fuel [] (.ops all (o :: l)) K s')) : Good x Q (.ops obs all (o :: l) K s) := by
  refine ⟨ho, ?_⟩
  have h1 := (run_ok hL hk).2
  exact ⟨fun g Q' V ac w hQ hr => by
    obtain ⟨V', hr'⟩ := (ownC_ok hc ho1).run g V ac w hr
    exact h1.run g Q' V' ac w hQ hr'⟩
/-- A slot's value becomes a list of the walk's own, where the machine has paused. -/
theorem g_ownS (hL : LayOk x.P x.L) (fuel t : Nat) (c : Ty) {s s' : St} {ob : List Prop} (ho : AllP obs) (hc : ownE s t c = some (s', ob)) (ho1 : AllP ob) (hk : Good x Q (run x fuel [] (.ops all l) K s')) : Good x Q (.out obs (.ops all l) K s) := by
  refine ⟨ho, ?_⟩
  have h1 := (run_ok hL hk).2
  exact ⟨fun g Q' V ac w hQ hr => by
    obtain ⟨V', hr'⟩ := (ownE_ok hc ho1).run g V ac w hr
    exact h1.run g Q' V' ac w hQ hr'⟩
end
end Go.Proofs.Ytonjbhdfimcedaa
