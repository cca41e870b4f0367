/- Symbolic walks, twelfth part: code, loops, functions. No condition on any program. -/
import Derived.Test.YtbcoanbjhbppcaaSym11
import Derived.LoopN
import Derived.Scope
namespace Go.Proofs.Ytbcoanbjhbppcaa
set_option linter.unusedVariables false
open Go.RowKit

/-- An end of a piece of code, in a state that is said. -/
def QR (x : Cx) (Q : Exit → St → Prop) : Exit → Act → World → Prop := fun e a w => ∃ s r, Q e s ∧ Rep x r s a w
/-- From the state 's' the code comes to an end of which Q holds. -/
structure Tr (x : Cx) (c : Code) (Q : Exit → St → Prop) (s : St) : Prop where
  run : ∀ r a w, Rep x r s a w → c.wp x.P (QR x Q) a w
def thenS (next : St → Prop) (Q : Exit → St → Prop) : Exit → St → Prop
  | .normal, s => next s
  | e, s => Q e s
def blockS (id : Nat) (Q : Exit → St → Prop) : Exit → St → Prop
  | .exit i, s => match Nat.beq i id with
    | true => Q .normal s
    | false => Q (.exit i) s
  | e, s => Q e s
def noGotoS (Q : Exit → St → Prop) : Exit → St → Prop
  | .goto _, _ => False
  | e, s => Q e s
def condP (v : Option SV) (A B : Prop) : Prop :=
  match v with
  | some (.tf true) => A
  | some (.tf false) => B
  | some (.bool t) => (t = true → A) ∧ (t = false → B)
  | _ => False

section
variable {x : Cx} {Q : Exit → St → Prop} {s : St}
theorem tr_skip (h : Q .normal s) : Tr x .skip Q s := ⟨fun r _ _ hr => wp_skip ⟨s, r, h, hr⟩⟩
theorem tr_label {l : Nat} (h : Q .normal s) : Tr x (.label l) Q s := ⟨fun r _ _ hr => wp_label ⟨s, r, h, hr⟩⟩
theorem tr_exit {id : Nat} (h : Q (.exit id) s) : Tr x (.exit id) Q s := ⟨fun r _ _ hr => wp_exit ⟨s, r, h, hr⟩⟩
theorem tr_ret (h : Q .ret s) : Tr x .ret Q s := ⟨fun r _ _ hr => wp_ret ⟨s, r, h, hr⟩⟩
theorem tr_goto {l : Nat} (h : Q (.goto l) s) : Tr x (.goto l) Q s := ⟨fun r _ _ hr => wp_goto ⟨s, r, h, hr⟩⟩
theorem tr_seq {c d : Code} (h : Tr x c (thenS (fun s' => Tr x d Q s') Q) s) : Tr x (.seq c d) Q s :=
  ⟨fun r a w hr => wp_seq (Go.wp_mono (h.run r a w hr) fun e a' w' ⟨s', r', hq, hr'⟩ => by
    cases e with
    | normal => exact Tr.run hq r' a' w' hr'
    | _ => exact ⟨s', r', hq, hr'⟩)⟩
theorem tr_block {id : Nat} {c : Code} (h : Tr x c (blockS id Q) s) : Tr x (.block id c) Q s :=
  ⟨fun r a w hr => wp_block (Go.wp_mono (h.run r a w hr) fun e a' w' ⟨s', r', hq, hr'⟩ => by
    cases e with
    | exit i =>
      simp only [blockS] at hq
      by_cases e : i = id
      · subst e
        simp only [Nat.beq_refl] at hq
        simp only [Exit.inBlock, if_true]
        exact ⟨s', r', hq, hr'⟩
      · have : Nat.beq i id = false := by
          cases h : Nat.beq i id with
          | false => rfl
          | true => exact absurd (Nat.eq_of_beq_eq_true h) e
        simp only [this] at hq
        simp only [Exit.inBlock, if_neg e]
        exact ⟨s', r', hq, hr'⟩
    | _ => exact ⟨s', r', hq, hr'⟩)⟩
theorem tr_scope {c : Code} (h : Tr x c (noGotoS Q) s) : Tr x (.scope c) Q s :=
  ⟨fun r a w hr => wp_scope_straight (Go.wp_mono (h.run r a w hr) fun e a' w' ⟨s', r', hq, hr'⟩ => by
    cases e with
    | goto l => exact hq.elim
    | _ => exact ⟨s', r', hq, hr'⟩)⟩
theorem tr_cond {c : Operand} {d e : Code} (h : condP (s.get c) (Tr x d Q s) (Tr x e Q s)) : Tr x (.cond c d e) Q s :=
  ⟨fun r a w hr => by
    cases hc : s.get c with
    | none => rw [hc] at h; exact h.elim
    | some v =>
      rw [hc] at h
      have hv := hr.env.get hc
      cases v <;> first | exact h.elim | skip
      case tf t =>
        cases t with
        | true => exact wp_cond_true hv (h.run r a w hr)
        | false => exact wp_cond_false hv (h.run r a w hr)
      case bool t =>
        cases t with
        | true => exact wp_cond_true hv ((h.1 rfl).run r a w hr)
        | false => exact wp_cond_false hv ((h.2 rfl).run r a w hr)⟩
theorem tr_region (hL : LayOk x.P x.L) {id : Nat} {l : List Oper} (h : spSeq x l l s fun s' => Q .normal s') : Tr x (.region id l.toArray false) Q s :=
  ⟨fun r a w hr => wp_region_lit (spSeq_sound hL (fun s r _ _ hs hr => ⟨s, r, hs, hr⟩) l s r a w h hr)⟩
theorem tr_draw (hL : LayOk x.P x.L) (hm : x.P.follows .mixedOrders = true) {id : Nat} {l : List Oper} (n : Nat) (L : List Nat) (hB : regionB .any l.toArray n L = true) (h : spDraw x l n L s fun s' => Q .normal s') : Tr x (.region id l.toArray true) Q s :=
  ⟨fun _ _ _ hr => spDraw_sound hL hm hB h (fun s r _ _ hs hr => ⟨s, r, hs, hr⟩) hr⟩
/-- How many operations stand ahead of the first store. -/
def headLen : List Oper → Nat
  | [] => 0
  | o :: l => match o.op with
    | .store _ _ _ => 0
    | _ => headLen l + 1
theorem tr_drawH (hL : LayOk x.P x.L) (hm : x.P.follows .mixedOrders = true) {id : Nat} {l : List Oper} (hB : regionB .any l.toArray (headLen l) (List.range (headLen l)) = true) (h : spDraw x l (headLen l) (List.range (headLen l)) s fun s' => Q .normal s') : Tr x (.region id l.toArray true) Q s :=
  tr_draw hL hm _ _ hB h

/-! ### Less is known -/
def subE (nb : Nat) : List (Nat × SV) → St → Prop
  | [], _ => True
  | (k, v) :: l, s => (∃ u, find s.env k = some u ∧ u = v ∧ okV nb v = true) ∧ subE nb l s
def subM (nb : Nat) : List (Nat × List SV) → St → Prop
  | [], _ => True
  | (k, v) :: l, s => (∃ u, find s.mem k = some u ∧ u = v ∧ Nat.blt k nb = true ∧ okL nb v = true) ∧ subM nb l s
/-- What 't' says, 's' says too. -/
def sub (x : Cx) (t s : St) : Prop := (Nat.ble t.nb s.nb = true ∧ Nat.ble x.kb t.nb = true) ∧ subE t.nb t.env s ∧ subM t.nb t.mem s
theorem subE_find {nb : Nat} {s : St} : ∀ {l : List (Nat × SV)}, subE nb l s → ∀ {k v}, find l k = some v → find s.env k = some v ∧ okV nb v = true
  | [], _, k, v, h => by simp [find] at h
  | (k0, v0) :: l, hs, k, v, h => by
    rw [find_cons] at h
    split at h
    · rename_i e; subst e; cases h
      obtain ⟨⟨u, h1, h2, h3⟩, _⟩ := hs
      subst h2
      exact ⟨h1, h3⟩
    · exact subE_find hs.2 h
theorem subM_find {nb : Nat} {s : St} : ∀ {l : List (Nat × List SV)}, subM nb l s → ∀ {k v}, find l k = some v → find s.mem k = some v ∧ k < nb ∧ okL nb v = true
  | [], _, k, v, h => by simp [find] at h
  | (k0, v0) :: l, hs, k, v, h => by
    rw [find_cons] at h
    split at h
    · rename_i e; subst e; cases h
      obtain ⟨⟨u, h1, h2, h3, h4⟩, _⟩ := hs
      subst h2
      exact ⟨h1, by simpa [Nat.blt_eq] using h3, h4⟩
    · exact subM_find hs.2 h
theorem Rep.sub {t : St} {r : Nat → Nat} {a : Act} {w : World} (hr : Rep x r s a w) (h : sub x t s) : Rep x r t a w := by
  obtain ⟨⟨h0, h00⟩, h1, h2⟩ := h
  have h0' := Nat.le_of_ble_eq_true h0
  have h00' := Nat.le_of_ble_eq_true h00
  exact ⟨hr.defers, hr.size, fun k v hk => hr.env k v (subE_find h1 hk).1, fun k v hk => (subE_find h1 hk).2, ⟨fun k c hk => hr.mem.1 k c (subM_find h2 hk).1, hr.mem.2⟩, fun k c hk => (subM_find h2 hk).2,
    fun i j hi hj => hr.inj i j (Nat.lt_of_lt_of_le hi h0') (Nat.lt_of_lt_of_le hj h0'), fun k hk => hr.lt k (Nat.lt_of_lt_of_le hk h0'), fun k hk => hr.own k (Nat.lt_of_lt_of_le hk h0'), fun k hk => ⟨Nat.lt_of_lt_of_le hk h00', (hr.pin k hk).2⟩⟩
theorem tr_sub {c : Code} {t : St} (h : sub x t s) (ht : Tr x c Q t) : Tr x c Q s := ⟨fun r a w hr => ht.run r a w (hr.sub h)⟩
/-- A cut: behind 'c' no more is known than 'st'. -/
theorem tr_seqI {X : Type} {c d : Code} (I : X → Prop) (st : X → St) (h : Tr x c (thenS (fun s' => ∃ z, I z ∧ sub x (st z) s') Q) s) (h2 : ∀ z, I z → Tr x d Q (st z)) : Tr x (.seq c d) Q s :=
  ⟨fun r a w hr => wp_seq (Go.wp_mono (h.run r a w hr) fun e a' w' ⟨s', r', hq, hr'⟩ => by
    cases e with
    | normal =>
      obtain ⟨z, hz, hsub⟩ := hq
      exact (h2 z hz).run r' a' w' (hr'.sub hsub)
    | _ => exact ⟨s', r', hq, hr'⟩)⟩
theorem tr_loop {X : Type} {c : Code} (I : X → Prop) (st : X → St) (m : X → Nat) (z0 : X) (h0 : I z0) (hs : sub x (st z0) s)
    (round : ∀ y, I y → Tr x c (thenS (fun s' => ∃ z, I z ∧ m z < m y ∧ sub x (st z) s') Q) (st y)) : Tr x (.loop c) Q s :=
  ⟨fun r a w hr => by
    have key : ∀ n y, m y = n → I y → ∀ r a w, Rep x r (st y) a w → ∀ (b : Frame) (k : List Item) (cs : List Frame),
        ∃ e a' w', QR x Q e a' w' ∧ Arrives x.P (lone (b.at a (.code c :: .inLoop c :: k)) cs w) b k cs e a' w' := by
      intro n
      induction n using Nat.strongRecOn with
      | _ n ih =>
        intro y hn hI r a w hr b k cs
        obtain ⟨e, a1, w1, ⟨s1, r1, hq, hr1⟩, harr⟩ := (round y hI).run r a w hr b (.inLoop c :: k) cs
        cases e with
        | normal =>
          obtain ⟨z, hz, hlt, hsub⟩ := hq
          obtain ⟨e2, a2, w2, hq2, harr2⟩ := ih (m z) (hn ▸ hlt) z rfl hz r1 a1 w1 (hr1.sub hsub) b k cs
          exact ⟨e2, a2, w2, hq2, .of_steps (Steps.trans harr (.one step_inLoop)) harr2⟩
        | exit id => exact ⟨_, a1, w1, ⟨s1, r1, hq, hr1⟩, .pass (x := .inLoop c) rfl (fun _ _ => .inl (by simp)) harr⟩
        | goto l => exact ⟨_, a1, w1, ⟨s1, r1, hq, hr1⟩, .pass (x := .inLoop c) rfl (fun _ _ => .inl (by simp)) harr⟩
        | ret => exact ⟨_, a1, w1, ⟨s1, r1, hq, hr1⟩, .pass (x := .inLoop c) rfl (fun _ _ => .inl (by simp)) harr⟩
        | panic ch => exact ⟨_, a1, w1, ⟨s1, r1, hq, hr1⟩, .pass (x := .inLoop c) rfl (fun _ _ => .inl (by simp)) harr⟩
        | outgrown => exact ⟨_, a1, w1, ⟨s1, r1, hq, hr1⟩, .pass (x := .inLoop c) rfl (fun _ _ => .inl (by simp)) harr⟩
    intro b k cs
    obtain ⟨e, a', w', hq, harr⟩ := key _ z0 rfl h0 r a w (hr.sub hs) b k cs
    exact ⟨e, a', w', hq, .of_steps (.one step_loop) harr⟩⟩
/-- So many rounds at most. -/
def TrR (x : Cx) (c : Code) (Q : Exit → St → Prop) : Nat → St → Prop
  | 0, _ => False
  | n + 1, s => Tr x c (thenS (TrR x c Q n) Q) s
theorem rounds_of {c : Code} : ∀ (n : Nat) (s : St) (r : Nat → Nat) (a : Act) (w : World), TrR x c Q n s → Rep x r s a w → Code.rounds x.P c (QR x Q) n a w
  | 0, _, _, _, _, h, _ => h.elim
  | n + 1, s, r, a, w, h, hr => Go.wp_mono (Tr.run h r a w hr) fun e a' w' ⟨s', r', hq, hr'⟩ => by
    cases e with
    | normal => exact rounds_of n s' r' a' w' hq hr'
    | _ => exact ⟨s', r', hq, hr'⟩
theorem tr_rounds {c : Code} (n : Nat) (h : TrR x c Q n s) : Tr x (.loop c) Q s := ⟨fun r a w hr => wp_loop_rounds n (rounds_of n s r a w h hr)⟩
end

/-! ### Functions -/
def resV (x : Cx) (s : St) : ResultVar → (SV → Prop) → Prop
  | .tmp t, K => on (find s.env t) K
  | .cell t ty, K => on (find s.env t) fun p => match p with
    | .ptr k o => evLoad x.L x.D x.w0 s ty (.ptr k o) K
    | _ => False
def resL (x : Cx) (s : St) : List ResultVar → List SV → (List SV → Prop) → Prop
  | [], acc, K => K acc
  | v :: l, acc, K => resV x s v fun u => resL x s l (acc ++ [u]) K
/-- The results of a function that ends in the state 's'. -/
def resS (x : Cx) (s : St) (rs : List ResultVar) (K : SV → Prop) : Prop :=
  resL x s rs [] fun l => match l with
    | [v] => K v
    | l => K (.tup l)
def getRes (tmps : Array Value) (rv : ResultVar) : Sem Value :=
  match rv with
  | .tmp t => pure (tmps.getD t Go.undef)
  | .cell p t => do loadVar t (← asAddr (tmps.getD p Go.undef))
theorem resV_sound {x : Cx} (hL : LayOk x.P x.L) {s : St} {rv : ResultVar} {K : SV → Prop} (h : resV x s rv K) :
    ∃ v, K v ∧ ∀ r a w, Rep x r s a w → (getRes a.tmps rv).run x.P w = .ok (den r v) w := by
  cases rv with
  | tmp t =>
    obtain ⟨v, hv, hK⟩ := on_some h
    exact ⟨v, hK, fun r a w hr => by simp only [getRes, hr.env t v hv, Sem.run_pure]⟩
  | cell t ty =>
    obtain ⟨p, hp, h⟩ := on_some h
    cases p <;> first | exact h.elim | skip
    case ptr k o =>
      obtain ⟨v, hK, hv⟩ := evLoad_sound hL h
      refine ⟨v, hK, fun r a w hr => ?_⟩
      have := hv r w hr.mem
      simp only [Instr.loadAt, den, Instr.sureAddr, Sem.run_bind, Sem.run_pure, Result.andThen_ok] at this
      simp only [getRes, hr.env t _ hp, den, asAddr, Sem.run_bind, Sem.run_pure, Result.andThen_ok, this]
theorem resL_sound {x : Cx} (hL : LayOk x.P x.L) {s : St} : ∀ {rs : List ResultVar} {acc : List SV} {K : List SV → Prop}, resL x s rs acc K →
    ∃ l, K (acc ++ l) ∧ ∀ r a w, Rep x r s a w → (rs.mapM (getRes a.tmps)).run x.P w = .ok (denL r l) w
  | [], acc, K, h => ⟨[], by rw [List.append_nil]; exact h, fun r a w hr => rfl⟩
  | v :: rs, acc, K, h => by
    unfold resL at h
    obtain ⟨u, hu, hru⟩ := resV_sound hL h
    obtain ⟨l, hl, hrl⟩ := resL_sound hL hu
    refine ⟨u :: l, by simpa using hl, fun r a w hr => ?_⟩
    have h1 := hru r a w hr
    have h2 := hrl r a w hr
    simp only [List.mapM_cons, Sem.run_bind, h1, Result.andThen_ok, h2, Sem.run_pure, denL]
def endS (x : Cx) (rs : List ResultVar) (K : SV → St → Prop) : Exit → St → Prop
  | .normal, s => resS x s rs fun v => K v s
  | .ret, s => resS x s rs fun v => K v s
  | _, _ => False
theorem endS_sound {x : Cx} (hL : LayOk x.P x.L) {fn : Func} {rs : List ResultVar} (hrs : fn.results = rs.toArray) {K : SV → St → Prop} {R : Ending → World → Prop}
    (hR : ∀ r s a w v, K v s → Rep x r s a w → R (.returned (den r v)) w) : ∀ e a w, QR x (endS x rs K) e a w → bodyPost x.P fn R e a w := by
  have key : ∀ s r a w, (resS x s rs fun v => K v s) → Rep x r s a w → a.defers = [] ∧ ∃ v, (results fn a.tmps).run x.P w = .ok v w ∧ R (.returned v) w := by
    intro s r a w h hr
    obtain ⟨l, hl, hrun⟩ := resL_sound hL h
    have h1 := hrun r a w hr
    refine ⟨hr.defers, ?_⟩
    rw [List.nil_append] at hl
    have h2 : (results fn a.tmps).run x.P w = .ok (if h : (denL r l).toArray.size = 1 then (denL r l).toArray[0] else .tuple (denL r l).toArray) w := by
      show (do let vs ← fn.results.mapM (getRes a.tmps); pure (if h : vs.size = 1 then vs[0] else .tuple vs) : Sem Value).run x.P w = _
      rw [hrs, Array.mapM_eq_mapM_toList]
      simp only [Sem.run_bind, Sem.run_map, h1, Result.andThen_ok]
      rfl
    rw [h2]
    refine ⟨_, rfl, ?_⟩
    match l, hl with
    | [], hl => exact hR r s a w _ hl hr
    | [v], hl => exact hR r s a w _ hl hr
    | u :: v :: l, hl =>
      have : ¬ (denL r (u :: v :: l)).toArray.size = 1 := by simp [denL]
      rw [dif_neg this]
      exact hR r s a w _ hl hr
  intro e a w ⟨s, r, hq, hr⟩
  cases e <;> first | exact hq.elim | exact key s r a w hq hr

def argEnv : Nat → List Value → List (Nat × SV)
  | _, [] => []
  | i, v :: l => (i, injR v) :: argEnv (i + 1) l
theorem argEnv_find : ∀ {l : List Value} {i t : Nat} {v : SV}, find (argEnv i l) t = some v → ∃ u, i ≤ t ∧ l[t - i]? = some u ∧ v = injR u
  | [], i, t, v, h => by simp [argEnv, find] at h
  | u :: l, i, t, v, h => by
    simp only [argEnv, find_cons] at h
    split at h
    · rename_i e; subst e; cases h; exact ⟨u, Nat.le_refl _, by simp, rfl⟩
    · rename_i e
      obtain ⟨y, h1, h2, h3⟩ := argEnv_find h
      refine ⟨y, by omega, ?_, h3⟩
      rw [show t - i = (t - (i + 1)) + 1 by omega]
      simpa using h2
theorem rep_start {P : Program} {L : Lay} {D : Nat → Prop} {n : Nat} {args : List Value} (hn : args.length ≤ n) (w : World) :
    Rep ⟨P, L, D, w, n, 0, fun _ => 0⟩ (fun _ => 0) ⟨argEnv 0 args, [], 0⟩ { tmps := args.toArray ++ Array.replicate (n - args.toArray.size) Go.undef, defers := [] } w := by
  refine ⟨rfl, by simp; omega, fun t v hv => ?_, fun t v hv => ?_, ⟨fun k c hk => by simp [find] at hk, Gr.refl _ _⟩, fun k c hk => by simp [find] at hk, fun i j hi => absurd hi (Nat.not_lt_zero _), fun k hk => absurd hk (Nat.not_lt_zero _), fun k hk => absurd hk (Nat.not_lt_zero _), fun k hk => absurd hk (Nat.not_lt_zero _)⟩
  · obtain ⟨u, _, h2, rfl⟩ := argEnv_find hv
    rw [Nat.sub_zero] at h2
    have hlt : t < args.length := (List.getElem?_eq_some_iff.1 h2).1
    have e : args[t] = u := (List.getElem?_eq_some_iff.1 h2).2
    rw [den_injR, Array.getD_eq_getD_getElem?, Array.getElem?_append_left (by simpa using hlt)]
    simp [hlt, e]
  · obtain ⟨u, _, _, rfl⟩ := argEnv_find hv
    exact ok_injR _ _
theorem Gr.toGrown {D : Nat → Prop} {W w : World} (h : Gr D W w) (hD : ∀ b, ¬ D b) : Grown W w :=
  ⟨World.keptBut_mono (fun p hp => by cases p <;> first | exact hD _ hp | exact hp) h.1, h.2.1, h.2.2⟩
/-- **A function by its walk.** -/
theorem con_of {P : Program} {L : Lay} {f : Nat} {fn : Func} {c : Code} {n : Nat} {rs : List ResultVar} {args : List Value} {v : Value} {w : World} (hL : LayOk P L) (hf : P.funcs[f]? = some fn) (hb : fn.body = some c) (hc : callB P f = true)
    (hn : fn.ntmps = n) (hrs : fn.results = rs.toArray) (hlen : Nat.ble args.length n = true)
    (h : Tr ⟨P, L, fun _ => False, w, n, 0, fun _ => 0⟩ c (endS ⟨P, L, fun _ => False, w, n, 0, fun _ => 0⟩ rs fun u _ => okV 0 u = true ∧ den id u = v) ⟨argEnv 0 args, [], 0⟩) : Con P f args w v := by
  refine ⟨hc, calls_of_wp hf hb ?_⟩
  rw [hn]
  refine Go.wp_mono (h.run _ _ w (rep_start (Nat.le_of_ble_eq_true hlen) w)) (endS_sound (x := ⟨P, L, fun _ => False, w, n, 0, fun _ => 0⟩) hL hrs fun r s a w' u ⟨h1, h2⟩ hr => ⟨?_, hr.mem.2.toGrown fun _ h => h⟩)
  rw [← h2, den_agree (r := id) (r' := r) (fun _ hk => absurd hk (Nat.not_lt_zero _)) u h1]

/-! ### Sums that fit -/
theorem w64 {n : Int} (h1 : -9223372036854775808 ≤ n) (h2 : n ≤ 9223372036854775807) : IntKind.i64.wrap n = n := by
  show (if (true && decide (n % 18446744073709551616 ≥ 9223372036854775808)) = true then n % 18446744073709551616 - 18446744073709551616 else n % 18446744073709551616) = n
  simp only [Bool.true_and, decide_eq_true_eq]
  split <;> omega
theorem w32 {n : Int} (h1 : -2147483648 ≤ n) (h2 : n ≤ 2147483647) : IntKind.i32.wrap n = n := by
  show (if (true && decide (n % 4294967296 ≥ 2147483648)) = true then n % 4294967296 - 4294967296 else n % 4294967296) = n
  simp only [Bool.true_and, decide_eq_true_eq]
  split <;> omega
theorem wu8 {n : Int} (h1 : 0 ≤ n) (h2 : n ≤ 255) : IntKind.u8.wrap n = n := by
  show n % 256 = n
  omega
theorem wu32 {n : Int} (h1 : 0 ≤ n) (h2 : n ≤ 4294967295) : IntKind.u32.wrap n = n := by
  show n % 4294967296 = n
  omega
theorem wu64 {n : Int} (h1 : 0 ≤ n) (h2 : n ≤ 18446744073709551615) : IntKind.u64.wrap n = n := by
  show n % 18446744073709551616 = n
  omega
theorem ne_of_bne {a b : Int} (h : (a != b) = true) : a ≠ b := by simpa using h
theorem eq_of_bne_false {a b : Int} (h : (a != b) = false) : a = b := by simpa using h
theorem ne_of_beq_false {a b : Int} (h : (a == b) = false) : a ≠ b := by simpa using h
theorem not_t {b : Bool} (h : (!b) = true) : b = false := by simpa using h
theorem not_f {b : Bool} (h : (!b) = false) : b = true := by simpa using h
theorem tmod_pos {a b : Int} (h : 0 ≤ a) : a.tmod b = a % b := Int.tmod_eq_emod_of_nonneg h
end Go.Proofs.Ytbcoanbjhbppcaa
