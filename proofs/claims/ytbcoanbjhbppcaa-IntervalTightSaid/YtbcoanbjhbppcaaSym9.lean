/- Symbolic walks, ninth part: a region in a row. No condition on any program. -/
import Derived.Test.YtbcoanbjhbppcaaSym8
namespace Go.Proofs.Ytbcoanbjhbppcaa
set_option linter.unusedVariables false
open Go.RowKit

/-- Is the operation carried out? A Bool that is not known yet parts the walk. -/
def guardS (ops : List Oper) (o : Oper) (s : St) (k : St → Bool → Prop) : Prop :=
  match o.guard with
  | none => k s true
  | some (j, b) => match (nth ops j).bind (·.dst) with
    | none => False
    | some t => match find s.env t with
      | some (.tf c) => match c, b with
        | true, true => k s true
        | false, false => k s true
        | true, false => k s false
        | false, true => k s false
      | some (.bool c) => (c = true → k ⟨(t, .tf true) :: s.env, s.mem, s.nb⟩ b) ∧ (c = false → k ⟨(t, .tf false) :: s.env, s.mem, s.nb⟩ (match b with | true => false | false => true))
      | some .undef => k s false
      | _ => False
theorem Rep.know {x : Cx} {r : Nat → Nat} {s : St} {a : Act} {w : World} (h : Rep x r s a w) {t : Nat} {u v : SV} (hf : find s.env t = some u) (he : ∀ r, den r v = den r u) (hk : okV s.nb v = true) :
    Rep x r ⟨(t, v) :: s.env, s.mem, s.nb⟩ a w := by
  refine ⟨h.defers, h.size, fun y z hy => ?_, fun y z hy => ?_, h.mem, h.memOk, h.inj, h.lt, h.own, h.pin⟩
  · rw [find_cons] at hy
    split at hy
    · rename_i e; subst e; cases hy; rw [he]; exact h.env _ _ hf
    · exact h.env _ _ hy
  · rw [find_cons] at hy
    split at hy
    · cases hy; exact hk
    · exact h.envOk _ _ hy
theorem EnvR.know {r : Nat → Nat} {s : St} {a : Act} (h : EnvR r s a) {t : Nat} {u v : SV} (hf : find s.env t = some u) (he : ∀ r, den r v = den r u) : EnvR r ⟨(t, v) :: s.env, s.mem, s.nb⟩ a := by
  intro y z hy
  simp only [find_cons] at hy
  split at hy
  · rename_i e; subst e; cases hy; rw [he]; exact h _ _ hf
  · exact h _ _ hy
theorem wanted_of {ops : List Oper} {o : Oper} {j t : Nat} {b : Bool} {tmps : Array Value} (hg : o.guard = some (j, b)) (hj : (nth ops j).bind (·.dst) = some t) :
    Region.wanted o (yielded ops.toArray tmps) = ((match tmps[t]? with | some (.bool c) => some c | _ => none) == some b) := by
  unfold Region.wanted
  rw [hg]
  have e : (ops.toArray[j]?).bind (·.dst) = some t := by rw [nth_eq]; exact hj
  show (yielded ops.toArray tmps j == some b) = _
  unfold yielded
  rw [e]
  rfl
theorem tmps_bool {a : Act} {t : Nat} {c : Bool} (h : a.tmps.getD t Go.undef = .bool c) : a.tmps[t]? = some (.bool c) := by
  rw [Array.getD_eq_getD_getElem?] at h
  cases ht : a.tmps[t]? with
  | none => simp [ht, Go.undef] at h
  | some v => simp [ht] at h; rw [h]
theorem tmps_undef {a : Act} {t : Nat} (h : a.tmps.getD t Go.undef = Go.undef) : (match a.tmps[t]? with | some (.bool c) => some c | _ => none) = none := by
  rw [Array.getD_eq_getD_getElem?] at h
  cases ht : a.tmps[t]? with
  | none => rfl
  | some v => simp [ht, Go.undef] at h; subst h; rfl
/-- What is learned at a guard: the state, and whether the operation is carried out. -/
theorem guardS_sound {ops : List Oper} {o : Oper} {s : St} {k : St → Bool → Prop} (h : guardS ops o s k) :
    ∃ s' y, k s' y ∧ s'.mem = s.mem ∧ s'.nb = s.nb ∧ (∀ r a, EnvR r s a → EnvR r s' a ∧ Region.wanted o (yielded ops.toArray a.tmps) = y) ∧ (∀ x r a w, Rep x r s a w → Rep x r s' a w) ∧ ∀ nb, (∀ t v, find s.env t = some v → okV nb v = true) → ∀ t v, find s'.env t = some v → okV nb v = true := by
  have kn : ∀ (t0 : Nat) (c : Bool) nb, (∀ t v, find s.env t = some v → okV nb v = true) → ∀ t v, find ((t0, SV.tf c) :: s.env) t = some v → okV nb v = true := by
    intro t0 c nb h t v hv
    rw [find_cons] at hv
    split at hv
    · cases hv; rfl
    · exact h t v hv
  unfold guardS at h
  cases hg : o.guard with
  | none =>
    simp only [hg] at h
    exact ⟨s, true, h, rfl, rfl, fun r a he => ⟨he, by unfold Region.wanted; rw [hg]⟩, fun _ _ _ _ h => h, fun _ h => h⟩
  | some q =>
    obtain ⟨j, b⟩ := q
    simp only [hg] at h
    cases hj : (nth ops j).bind (·.dst) with
    | none => simp [hj] at h
    | some t =>
      simp only [hj] at h
      have ww : ∀ {r a u c}, EnvR r s a → find s.env t = some u → den r u = .bool c → Region.wanted o (yielded ops.toArray a.tmps) = (some c == some b) := by
        intro r a u c he hf hd
        rw [wanted_of hg hj, tmps_bool ((he t u hf).trans hd)]
      split at h
      · rename_i c hf
        split at h
        · exact ⟨s, true, h, rfl, rfl, fun r a he => ⟨he, by rw [ww he hf rfl]; rfl⟩, fun _ _ _ _ h => h, fun _ h => h⟩
        · exact ⟨s, true, h, rfl, rfl, fun r a he => ⟨he, by rw [ww he hf rfl]; rfl⟩, fun _ _ _ _ h => h, fun _ h => h⟩
        · exact ⟨s, false, h, rfl, rfl, fun r a he => ⟨he, by rw [ww he hf rfl]; rfl⟩, fun _ _ _ _ h => h, fun _ h => h⟩
        · exact ⟨s, false, h, rfl, rfl, fun r a he => ⟨he, by rw [ww he hf rfl]; rfl⟩, fun _ _ _ _ h => h, fun _ h => h⟩
      · rename_i c hf
        cases c with
        | true =>
          refine ⟨_, _, h.1 rfl, rfl, rfl, fun r a he => ⟨he.know hf (fun _ => rfl), ?_⟩, fun _ _ _ _ hr => hr.know hf (fun _ => rfl) rfl, kn t _⟩
          rw [ww he hf rfl]; cases b <;> rfl
        | false =>
          refine ⟨_, _, h.2 rfl, rfl, rfl, fun r a he => ⟨he.know hf (fun _ => rfl), ?_⟩, fun _ _ _ _ hr => hr.know hf (fun _ => rfl) rfl, kn t _⟩
          rw [ww he hf rfl]; cases b <;> rfl
      · rename_i hf
        refine ⟨s, false, h, rfl, rfl, fun r a he => ⟨he, ?_⟩, fun _ _ _ _ h => h, fun _ h => h⟩
        rw [wanted_of hg hj, tmps_undef (he t _ hf)]
        rfl
      · exact h.elim

/-- One operation. -/
def spOp (x : Cx) (o : Oper) (s : St) (K : St → Prop) : Prop :=
  match o.op with
  | .store t p v => on (s.get p) fun p => on (s.get v) fun v => evStore x.L s t p v fun s' => putS x s' o.dst .undef K
  | .alloc t => evNew x.L s newK (.alloc t)
  | .box t y => evNew x.L s newK (.box t y)
  | .buildSlice t n ps => evNew x.L s newK (.buildSlice t n ps)
  | .call c => match c.callee with
    | .value f => evCall x s s f c.args fun v => putS x s o.dst v K
    | .builtin b => evBuiltin x.L s b c.args c.argTypes fun v => putS x s o.dst v K
    | _ => False
  | op => ev x.P x.L x.D x.w0 s (fun v => putS x s o.dst v K) op
where newK (c : List SV) (sh : Option (Nat × Nat)) : Prop :=
  match okL s.nb c with
  | true => putS x ⟨s.env, (s.nb, c) :: s.mem, s.nb + 1⟩ o.dst (svSh s.nb sh) K
  | false => False
theorem spOp_sound {x : Cx} (hL : LayOk x.P x.L) {o : Oper} {s : St} {K : St → Prop} (h : spOp x o s K) {Q : Exit → Act → World → Prop} {r : Nat → Nat} {a : Act} {w : World} (hr : Rep x r s a w) :
    o.wp x.P a w (fun a' w' => ∃ s' r', K s' ∧ Rep x r' s' a' w') Q := by
  have pure_ : ev x.P x.L x.D x.w0 s (fun v => putS x s o.dst v K) o.op → o.wp x.P a w (fun a' w' => ∃ s' r', K s' ∧ Rep x r' s' a' w') Q := by
    intro h
    obtain ⟨v, hK, hv⟩ := ev_sound hL h
    obtain ⟨s', hK', _, _, hp⟩ := putS_sound hK
    unfold Oper.wp
    rw [hv r a w hr.env hr.mem]
    exact ⟨s', r, hK', hp r a w hr⟩
  have new_ : evNew x.L s (spOp.newK x o s K) o.op → o.wp x.P a w (fun a' w' => ∃ s' r', K s' ∧ Rep x r' s' a' w') Q := by
    intro h
    obtain ⟨c, sh, hK, _, hv⟩ := evNew_sound hL h
    unfold spOp.newK at hK
    split at hK
    · rename_i hc
      obtain ⟨t, ht⟩ := hv r a hr.env
      obtain ⟨s', hK', _, _, hp⟩ := putS_sound hK
      unfold Oper.wp
      rw [ht w]
      have hn := hr.new hc t
      have := hp _ a _ hn
      rw [den_svSh] at this
      exact ⟨s', _, hK', this⟩
    · exact hK.elim
  obtain ⟨dst, op, type, pos, after, guard⟩ := o
  unfold spOp at h
  cases op
  case store t p v =>
    obtain ⟨p', hp, h⟩ := on_some h
    obtain ⟨v', hv, h⟩ := on_some h
    obtain ⟨s1, hK, hn, hrun⟩ := evStore_sound hL h
    obtain ⟨w', hw', hr'⟩ := hrun r a w hr
    obtain ⟨s', hK', _, _, hput⟩ := putS_sound hK
    unfold Oper.wp
    have : (execOp a.eval ⟨dst, .store t p v, type, pos, after, guard⟩).run x.P w = .ok .skip w' := by
      simp only [execOp, hr.env.get hp, hr.env.get hv, Sem.run_bind, hw', Result.andThen_ok, Sem.run_pure]
    rw [this]
    exact ⟨s', r, hK', hput r a w' hr'⟩
  case alloc t => exact new_ h
  case box t y => exact new_ h
  case buildSlice t n ps => exact new_ h
  case call c =>
    obtain ⟨cal, as, ts⟩ := c
    cases cal
    case value f =>
      obtain ⟨v, hK, hv⟩ := evCall_sound h
      obtain ⟨g, args, hrun, hc⟩ := hv r a w hr.env hr.mem dst ts type pos after guard
      obtain ⟨s', hK', _, _, hput⟩ := putS_sound hK
      unfold Oper.wp
      rw [hrun]
      exact hc.mono fun e w' ⟨he, hg⟩ => by subst he; exact ⟨s', r, hK', hput r a w' (hr.grown hg)⟩
    case invoke => exact h.elim
    case builtin b => exact pure_ h
  all_goals exact pure_ h

/-- Operations in a row. -/
def spSeq (x : Cx) (ops : List Oper) : List Oper → St → (St → Prop) → Prop
  | [], s, K => K s
  | o :: l, s, K => guardS ops o s fun s' y => match y with
    | true => spOp x o s' fun s'' => spSeq x ops l s'' K
    | false => putS x s' o.dst .undef fun s'' => spSeq x ops l s'' K
theorem spSeq_sound {x : Cx} (hL : LayOk x.P x.L) {ops : List Oper} {K : St → Prop} {Q : Exit → Act → World → Prop} (hQ : ∀ s r a w, K s → Rep x r s a w → Q .normal a w) :
    ∀ (l : List Oper) (s : St) (r : Nat → Nat) (a : Act) (w : World), spSeq x ops l s K → Rep x r s a w → wpList x.P ops.toArray Q l a w
  | [], s, r, a, w, h, hr => hQ s r a w h hr
  | o :: l, s, r, a, w, h, hr => by
    obtain ⟨s', y, hk, _, _, hw, hrep, _⟩ := guardS_sound h
    obtain ⟨_, hy⟩ := hw r a hr.env
    unfold wpList
    cases y with
    | true =>
      rw [if_pos hy]
      refine .inl ?_
      exact Oper.wp_mono (fun a' w' ⟨s'', r'', hs, hr''⟩ => spSeq_sound hL hQ l s'' r'' a' w' hs hr'') (spOp_sound hL hk (Q := Q) (hrep x r a w hr))
    | false =>
      rw [if_neg (by rw [hy]; decide)]
      obtain ⟨s'', hs, _, _, hput⟩ := putS_sound hk
      exact spSeq_sound hL hQ l s'' r _ w hs (hput r a w (hrep x r a w hr))
end Go.Proofs.Ytbcoanbjhbppcaa
