/- Walks over lists, ninth part: code, loops, functions. No condition on any program. -/
import Derived.Test.YtjhjhjmdbhackaaZ8
import Derived.LoopN
import Derived.Scope
namespace Go.Proofs.Ytjhjhjmdbhackaa
set_option linter.unusedSimpArgs false
set_option linter.unusedSectionVars false
set_option linter.unusedVariables false
open Go.RowKit

/-! ### Less is known, of a whole state -/
structure SubS (x : Cx) (σ : Rn) (t s : St) : Prop where
  heap : HSub x σ t s
  env : ∀ k v, find t.env k = some v → okV t.nb v = true ∧ ∃ u u', find s.env k = some u ∧ ren σ v = some u' ∧ ∀ V, den V u' = den V u
  pin : ∀ k, k < x.kb → k < t.nb ∧ σ.own k = some k ∧ σ.ro k = some (.ro k)
theorem Rep.sub {x : Cx} {V : Vl} {s t : St} {σ : Rn} {a : Act} {w : World} (h : Rep x V s a w) (hs : SubS x σ t s) : ∃ F, Rep x (V.compF σ F) t a w := by
  obtain ⟨F, hF⟩ := hs.heap.ents h.ents (fun k hk => h.apart hk) x.D0 (fun F b hb => .inl hb)
  refine ⟨F, h.defers, h.size, fun k v hk => ?_, fun k v hk => (hs.env k v hk).1, hF, h.frame, fun k hk => ?_, fun k hk => ?_, h.d0⟩
  · obtain ⟨_, u, u', h1, h2, h3⟩ := hs.env k v hk
    rw [den_sub V σ F h2, h3]; exact h.env k u h1
  · obtain ⟨k', _, h2, h3⟩ := hs.heap.lv V F k hk
    rw [h3]; exact h.own k' h2
  · obtain ⟨h1, h2, h3⟩ := hs.pin k hk
    have := (h.pin k hk).2
    exact ⟨h1, ⟨by simp only [Vl.compF, Vl.comp, h2]; exact this.r, by simp only [Vl.compF, Vl.comp, h3]; exact this.ro, by simp only [Vl.compF, Vl.comp, h2]; exact this.cap, by simp only [Vl.compF, Vl.comp, h2]; exact this.nil, by simp only [Vl.compF, h2]; exact this.ce⟩⟩
def Rn.of (lo : List (Nat × Nat)) (lr : List (Nat × SV)) : Rn := ⟨find lo, find lr⟩
/-! step by step -/
def SubE (σ : Rn) (nb : Nat) (e : List (Nat × SV)) : List (Nat × SV) → Prop
  | [] => True
  | (k, v) :: l => (okV nb v = true ∧ ∃ u u', find e k = some u ∧ ren σ v = some u' ∧ ∀ V, den V u' = den V u) ∧ SubE σ nb e l
theorem SubE.get {σ : Rn} {nb : Nat} {e : List (Nat × SV)} : ∀ {l : List (Nat × SV)}, SubE σ nb e l → ∀ k v, find l k = some v → okV nb v = true ∧ ∃ u u', find e k = some u ∧ ren σ v = some u' ∧ ∀ V, den V u' = den V u
  | [], _, k, v, h => by simp [find] at h
  | (a, b) :: l, hs, k, v, h => by
    rw [find_cons] at h
    split at h
    · rename_i e; subst e; cases h; exact hs.1
    · exact SubE.get hs.2 k v h
theorem se_nil {σ : Rn} {nb : Nat} {e : List (Nat × SV)} : SubE σ nb e [] := trivial
theorem se_cons {σ : Rn} {nb k : Nat} {e l : List (Nat × SV)} {u v u' : SV} (hf : find e k = some u) (hr : ren σ v = some u') (he : ∀ V, den V u' = den V u) (hk : okV nb v = true) (h : SubE σ nb e l) : SubE σ nb e ((k, v) :: l) := ⟨⟨hk, u, u', hf, hr, he⟩, h⟩
def SubM (σ : Rn) (nb : Nat) (m : List (Nat × MB)) : List (Nat × MB) → Prop
  | [] => True
  | (k, c) :: l => ((k < nb ∧ okM nb c = true) ∧ ∃ k' m', σ.own k = some k' ∧ find m k' = some m' ∧ renM σ c = some m') ∧ SubM σ nb m l
theorem SubM.get {σ : Rn} {nb : Nat} {e : List (Nat × MB)} : ∀ {l : List (Nat × MB)}, SubM σ nb e l → ∀ k c, find l k = some c → (k < nb ∧ okM nb c = true) ∧ ∃ k' m', σ.own k = some k' ∧ find e k' = some m' ∧ renM σ c = some m'
  | [], _, k, v, h => by simp [find] at h
  | (a, b) :: l, hs, k, v, h => by
    rw [find_cons] at h
    split at h
    · rename_i e; subst e; cases h; exact hs.1
    · exact SubM.get hs.2 k v h
theorem sm_nil {σ : Rn} {nb : Nat} {e : List (Nat × MB)} : SubM σ nb e [] := trivial
theorem sm_cons {σ : Rn} {nb k k' : Nat} {e l : List (Nat × MB)} {c m m' : MB} (ho : σ.own k = some k') (hf : find e k' = some m) (hr : renM σ c = some m') (he : m' = m) (hk : Nat.blt k nb = true) (hok : okM nb c = true) (h : SubM σ nb e l) : SubM σ nb e ((k, c) :: l) :=
  ⟨⟨⟨by simpa [Nat.blt_eq] using hk, hok⟩, k', m, ho, hf, by rw [← he]; exact hr⟩, h⟩
def RoGood (x : Cx) (σ : Rn) (ks : List Nat) (s : St) (k : Nat) (q : RO) : Prop :=
  (∃ k' fz', σ.own k = some k' ∧ σ.ro k = some (.ro k') ∧ find s.ro k' = some ⟨fz', q.rows⟩ ∧ leB q.fz fz' = true) ∨ (σ.own k = none ∧ ∃ v, σ.ro k = some v ∧ RdOk x s ks v q.fz q.rows)
def SubR (x : Cx) (σ : Rn) (nb : Nat) (ks : List Nat) (s : St) : List (Nat × RO) → Prop
  | [] => True
  | (k, q) :: l => (k < nb ∧ RoGood x σ ks s k q) ∧ SubR x σ nb ks s l
theorem SubR.get {x : Cx} {σ : Rn} {nb : Nat} {ks : List Nat} {s : St} : ∀ {l : List (Nat × RO)}, SubR x σ nb ks s l → ∀ k q, find l k = some q → k < nb ∧ RoGood x σ ks s k q
  | [], _, k, v, h => by simp [find] at h
  | (a, b) :: l, hs, k, v, h => by
    rw [find_cons] at h
    split at h
    · rename_i e; subst e; cases h; exact hs.1
    · exact SubR.get hs.2 k v h
section
variable {x : Cx} {σ : Rn} {nb k : Nat} {ks : List Nat} {s : St} {l : List (Nat × RO)} {fz : Bool} {rows : List (List DV)}
theorem sr_nil : SubR x σ nb ks s [] := trivial
theorem sr_same {k' : Nat} {fz' : Bool} {rows' : List (List DV)} (ho : σ.own k = some k') (hr : σ.ro k = some (.ro k')) (hf : find s.ro k' = some ⟨fz', rows'⟩) (he : rows' = rows) (hl : leB fz fz' = true) (hk : Nat.blt k nb = true) (h : SubR x σ nb ks s l) : SubR x σ nb ks s ((k, ⟨fz, rows⟩) :: l) :=
  ⟨⟨by simpa [Nat.blt_eq] using hk, .inl ⟨k', fz', ho, hr, by rw [← he]; exact hf, hl⟩⟩, h⟩
theorem sr_rd {v : SV} (ho : σ.own k = none) (hr : σ.ro k = some v) (hv : RdOk x s ks v fz rows) (hk : Nat.blt k nb = true) (h : SubR x σ nb ks s l) : SubR x σ nb ks s ((k, ⟨fz, rows⟩) :: l) :=
  ⟨⟨by simpa [Nat.blt_eq] using hk, .inr ⟨ho, v, hr, hv⟩⟩, h⟩
end
/-- No two numbers have the same name. -/
def nodupB : List Nat → Bool
  | [] => true
  | a :: l => match notIn a l with
    | true => nodupB l
    | false => false
theorem images_inj {σ : Rn} : ∀ {l : List (Nat × MB)}, nodupB (images σ l) = true → ∀ i j k a b, find l i = some a → find l j = some b → σ.own i = some k → σ.own j = some k → i = j
  | [], _, i, j, k, a, b, h, _, _, _ => by simp [find] at h
  | (c, m) :: l, hn, i, j, k, a, b, hi, hj, oi, oj => by
    unfold images at hn
    rw [find_cons] at hi hj
    by_cases e1 : c = i
    · by_cases e2 : c = j
      · exact e1.symm.trans e2
      · exfalso
        rw [if_neg e2] at hj
        subst e1
        simp only [oi] at hn
        unfold nodupB at hn
        cases hh : notIn k (images σ l) with
        | false => simp [hh] at hn
        | true => exact notIn_spec hh (images_mem hj oj)
    · rw [if_neg e1] at hi
      by_cases e2 : c = j
      · exfalso
        subst e2
        simp only [oj] at hn
        unfold nodupB at hn
        cases hh : notIn k (images σ l) with
        | false => simp [hh] at hn
        | true => exact notIn_spec hh (images_mem hi oi)
      · rw [if_neg e2] at hj
        refine images_inj ?_ i j k a b hi hj oi oj
        split at hn
        · unfold nodupB at hn
          split at hn
          · exact hn
          · cases hn
        · exact hn
def oneAll : List (Nat × SV) → Bool
  | [] => true
  | (_, v) :: l => match oneC v with
    | true => oneAll l
    | false => false
theorem oneAll_spec : ∀ {l : List (Nat × SV)}, oneAll l = true → ∀ k v, find l k = some v → oneC v = true
  | [], _, k, v, h => by simp [find] at h
  | (a, b) :: l, ho, k, v, h => by
    unfold oneAll at ho
    rw [find_cons] at h
    cases hb : oneC b with
    | false => simp [hb] at ho
    | true =>
      simp only [hb] at ho
      split at h
      · cases h; exact hb
      · exact oneAll_spec ho k v h
def pinB : Nat → Nat → List (Nat × Nat) → List (Nat × SV) → Bool
  | 0, _, _, _ => true
  | k + 1, nb, lo, lr => match Nat.blt k nb, find lo k, find lr k with
    | true, some j, some (.ro i) => match Nat.beq j k, Nat.beq i k with
      | true, true => pinB k nb lo lr
      | _, _ => false
    | _, _, _ => false
theorem pinB_spec {nb : Nat} {lo : List (Nat × Nat)} {lr : List (Nat × SV)} : ∀ {n : Nat}, pinB n nb lo lr = true → ∀ k, k < n → k < nb ∧ find lo k = some k ∧ find lr k = some (.ro k)
  | 0, _, k, hk => absurd hk (Nat.not_lt_zero _)
  | n + 1, h, k, hk => by
    unfold pinB at h
    split at h
    · rename_i j i h1 h2 h3
      split at h
      · rename_i h4 h5
        have e1 := Nat.eq_of_beq_eq_true h4
        have e2 := Nat.eq_of_beq_eq_true h5
        subst e1; subst e2
        rcases Nat.lt_succ_iff_lt_or_eq.1 hk with h6 | h6
        · exact pinB_spec h k h6
        · subst h6; exact ⟨by simpa [Nat.blt_eq] using h1, h2, h3⟩
      · cases h
    · cases h
theorem hsub_of {x : Cx} {env env' : List (Nat × SV)} {tm sm : List (Nat × MB)} {tr sr : List (Nat × RO)} {tn sn : Nat} (lo : List (Nat × Nat)) (lr : List (Nat × SV)) (hm : SubM (Rn.of lo lr) tn sm tm) (hr : SubR x (Rn.of lo lr) tn (images (Rn.of lo lr) tm) ⟨env', sm, sr, sn⟩ tr) (hi : nodupB (images (Rn.of lo lr) tm) = true) (ho : oneAll lr = true) :
    HSub x (Rn.of lo lr) ⟨env, tm, tr, tn⟩ ⟨env', sm, sr, sn⟩ :=
  ⟨fun k m hk => hm.get k m hk, fun k q hk => hr.get k q hk, fun i j k a b => images_inj hi i j k a b, fun k v hk => oneAll_spec ho k v hk⟩
theorem subS_of {x : Cx} {te se : List (Nat × SV)} {tm sm : List (Nat × MB)} {tr sr : List (Nat × RO)} {tn sn : Nat} (lo : List (Nat × Nat)) (lr : List (Nat × SV)) (he : SubE (Rn.of lo lr) tn se te) (hm : SubM (Rn.of lo lr) tn sm tm) (hr : SubR x (Rn.of lo lr) tn (images (Rn.of lo lr) tm) ⟨se, sm, sr, sn⟩ tr) (hi : nodupB (images (Rn.of lo lr) tm) = true) (ho : oneAll lr = true) (hp : pinB x.kb tn lo lr = true) :
    ∃ σ, SubS x σ ⟨te, tm, tr, tn⟩ ⟨se, sm, sr, sn⟩ :=
  ⟨Rn.of lo lr, hsub_of lo lr hm hr hi ho, fun k v hk => he.get k v hk, fun k hk => pinB_spec hp k hk⟩
theorem d_int {k : IntKind} {a b : Int} (h : a = b) : ∀ V, den V (.int k a) = den V (.int k b) := fun _ => by rw [h]
theorem d_bool {a b : Bool} (h : a = b) : ∀ V, den V (.bool a) = den V (.bool b) := fun _ => by rw [h]
theorem d_tf {a b : Bool} (h : a = b) : ∀ V, den V (.bool a) = den V (.tf b) := fun _ => by rw [h]; rfl
theorem d_osl {k k' a b : Nat} (hk : k = k') (h : a = b) : ∀ V, den V (.osl k a) = den V (.osl k' b) := fun _ => by rw [hk, h]
theorem d_tup2 {a b a' b' : SV} (h1 : ∀ V, den V a = den V a') (h2 : ∀ V, den V b = den V b') : ∀ V, den V (.tup [a, b]) = den V (.tup [a', b']) := fun V => by simp only [den, denL, h1 V, h2 V]
theorem rows_eq {es t : Nat} {a b : List (List DV)} (h : a = b) : MB.rows es t a = MB.rows es t b := by rw [h]

/-! ### Code -/
def QR (x : Cx) (Q : Exit → St → Prop) : Exit → Act → World → Prop := fun e a w => ∃ s V, Q e s ∧ Rep x V s a w
/-- From the state 's' the code comes to an end of which Q holds. -/
structure Tr (x : Cx) (c : Code) (Q : Exit → St → Prop) (s : St) : Prop where
  run : LayOk x.P x.L → ∀ V a w, Rep x V s a w → c.wp x.P (QR x Q) a w
def thenS (next : St → Prop) (Q : Exit → St → Prop) : Exit → St → Prop
  | .normal, s => next s
  | e, s => Q e s
def blockS (id : Nat) (Q : Exit → St → Prop) : Exit → St → Prop
  | .exit i, s => match Nat.beq i id with
    | true => Q .normal s
    | false => Q (.exit i) s
  | e, s => Q e s
def noGotoS (Q : Exit → St → Prop) : Exit → St → Prop
  | .goto _, _ => False
  | e, s => Q e s
section
variable {x : Cx} {Q : Exit → St → Prop} {s : St} {c d : Code}
theorem tr_skip (h : Q .normal s) : Tr x .skip Q s := ⟨fun _ V _ _ hr => wp_skip ⟨s, V, h, hr⟩⟩
theorem tr_label {l : Nat} (h : Q .normal s) : Tr x (.label l) Q s := ⟨fun _ V _ _ hr => wp_label ⟨s, V, h, hr⟩⟩
theorem tr_exit {id : Nat} (h : Q (.exit id) s) : Tr x (.exit id) Q s := ⟨fun _ V _ _ hr => wp_exit ⟨s, V, h, hr⟩⟩
theorem tr_ret (h : Q .ret s) : Tr x .ret Q s := ⟨fun _ V _ _ hr => wp_ret ⟨s, V, h, hr⟩⟩
theorem Tr.mono {Q' : Exit → St → Prop} (h : Tr x c Q s) (hq : ∀ e s', Q e s' → Q' e s') : Tr x c Q' s := ⟨fun hL V a w hr => Go.wp_mono (h.run hL V a w hr) fun e a' w' ⟨s', V', q, hr'⟩ => ⟨s', V', hq e s' q, hr'⟩⟩
theorem tr_seq (h : Tr x c (thenS (fun s' => Tr x d Q s') Q) s) : Tr x (.seq c d) Q s :=
  ⟨fun hL V a w hr => wp_seq (Go.wp_mono (h.run hL V a w hr) fun e a' w' ⟨s', V', hq, hr'⟩ => by
    cases e with
    | normal => exact Tr.run hq hL V' a' w' hr'
    | _ => exact ⟨s', V', hq, hr'⟩)⟩
theorem tr_block {id : Nat} (h : Tr x c (blockS id Q) s) : Tr x (.block id c) Q s :=
  ⟨fun hL V a w hr => wp_block (Go.wp_mono (h.run hL V a w hr) fun e a' w' ⟨s', V', hq, hr'⟩ => by
    cases e with
    | exit i =>
      simp only [blockS] at hq
      by_cases e : i = id
      · subst e
        simp only [Nat.beq_refl] at hq
        simp only [Exit.inBlock, if_true]
        exact ⟨s', V', hq, hr'⟩
      · have : Nat.beq i id = false := by
          cases h : Nat.beq i id with
          | false => rfl
          | true => exact absurd (Nat.eq_of_beq_eq_true h) e
        simp only [this] at hq
        simp only [Exit.inBlock, if_neg e]
        exact ⟨s', V', hq, hr'⟩
    | _ => exact ⟨s', V', hq, hr'⟩)⟩
theorem tr_scope (h : Tr x c (noGotoS Q) s) : Tr x (.scope c) Q s :=
  ⟨fun hL V a w hr => wp_scope_straight (Go.wp_mono (h.run hL V a w hr) fun e a' w' ⟨s', V', hq, hr'⟩ => by
    cases e with
    | goto l => exact hq.elim
    | _ => exact ⟨s', V', hq, hr'⟩)⟩
theorem k_cond_t {o : Operand} (hc : s.get o = some (.tf true)) (h : Tr x c Q s) : Tr x (.cond o c d) Q s := ⟨fun hL V a w hr => wp_cond_true (hr.env.get hc) (h.run hL V a w hr)⟩
theorem k_cond_f {o : Operand} (hc : s.get o = some (.tf false)) (h : Tr x d Q s) : Tr x (.cond o c d) Q s := ⟨fun hL V a w hr => wp_cond_false (hr.env.get hc) (h.run hL V a w hr)⟩
theorem k_cond {o : Operand} {b : Bool} (hc : s.get o = some (.bool b)) (h1 : b = true → Tr x c Q s) (h2 : b = false → Tr x d Q s) : Tr x (.cond o c d) Q s :=
  ⟨fun hL V a w hr => by
    have hv := hr.env.get hc
    cases b with
    | true => exact wp_cond_true hv ((h1 rfl).run hL V a w hr)
    | false => exact wp_cond_false hv ((h2 rfl).run hL V a w hr)⟩
theorem k_region {id : Nat} {l : List Oper} (h : Sq x l l s fun s' => Q .normal s') : Tr x (.region id l.toArray false) Q s :=
  ⟨fun hL V a w hr => wp_region_lit (h.run hL _ V a w (fun s' V' a' w' hs hr' => ⟨s', V', hs, hr'⟩) hr)⟩
theorem k_then {next : St → Prop} (h : next s) : thenS next Q .normal s := h
theorem k_then_ret {next : St → Prop} (h : Q .ret s) : thenS next Q .ret s := h
theorem k_then_exit {next : St → Prop} {i : Nat} (h : Q (.exit i) s) : thenS next Q (.exit i) s := h
theorem k_block {id : Nat} (h : Q .normal s) : blockS id Q .normal s := h
theorem k_block_ret {id : Nat} (h : Q .ret s) : blockS id Q .ret s := h
theorem k_block_exit {id : Nat} (h : Q .normal s) : blockS id Q (.exit id) s := by unfold blockS; simp only [Nat.beq_refl]; exact h
theorem k_block_other {id i : Nat} (hi : Nat.beq i id = false) (h : Q (.exit i) s) : blockS id Q (.exit i) s := by unfold blockS; simp only [hi]; exact h
theorem k_scope (h : Q .normal s) : noGotoS Q .normal s := h
theorem k_scope_ret (h : Q .ret s) : noGotoS Q .ret s := h
theorem k_scope_exit {i : Nat} (h : Q (.exit i) s) : noGotoS Q (.exit i) s := h
/-- Less is known. -/
theorem tr_sub {t : St} (h : ∃ σ, SubS x σ t s) (ht : Tr x c Q t) : Tr x c Q s :=
  ⟨fun hL V a w hr => by
    obtain ⟨σ, hs⟩ := h
    obtain ⟨F, hr'⟩ := hr.sub hs
    exact ht.run hL _ a w hr'⟩
/-- A cut: behind 'c' no more is known than 'st'. -/
theorem tr_seqI {Z : Type} (I : Z → Prop) (st : Z → St) (h : Tr x c (thenS (fun s' => ∃ z, I z ∧ ∃ σ, SubS x σ (st z) s') Q) s) (h2 : ∀ z, I z → Tr x d Q (st z)) : Tr x (.seq c d) Q s :=
  tr_seq (h.mono fun e s' hq => by
    cases e with
    | normal =>
      obtain ⟨z, hz, hsub⟩ := hq
      exact tr_sub hsub (h2 z hz)
    | _ => exact hq)
/-- A loop: at each round's head the state is one of 'st', which a measure lowers. -/
theorem tr_loop {Z : Type} (I : Z → Prop) (st : Z → St) (m : Z → Nat) (h0 : ∃ z, I z ∧ ∃ σ, SubS x σ (st z) s)
    (round : ∀ y, I y → Tr x c (thenS (fun s' => ∃ z, I z ∧ m z < m y ∧ ∃ σ, SubS x σ (st z) s') Q) (st y)) : Tr x (.loop c) Q s :=
  ⟨fun hL V a w hr => by
    obtain ⟨z0, hz0, σ0, hs0⟩ := h0
    obtain ⟨F0, hr0⟩ := hr.sub hs0
    have key : ∀ n y, m y = n → I y → ∀ V a w, Rep x V (st y) a w → ∀ (b : Frame) (k : List Item) (cs : List Frame),
        ∃ e a' w', QR x Q e a' w' ∧ Arrives x.P (lone (b.at a (.code c :: .inLoop c :: k)) cs w) b k cs e a' w' := by
      intro n
      induction n using Nat.strongRecOn with
      | _ n ih =>
        intro y hn hI V a w hr b k cs
        obtain ⟨e, a1, w1, ⟨s1, V1, hq, hr1⟩, harr⟩ := (round y hI).run hL V a w hr b (.inLoop c :: k) cs
        cases e with
        | normal =>
          obtain ⟨z, hz, hlt, σ, hsub⟩ := hq
          obtain ⟨F, hr2⟩ := hr1.sub hsub
          obtain ⟨e2, a2, w2, hq2, harr2⟩ := ih (m z) (hn ▸ hlt) z rfl hz _ a1 w1 hr2 b k cs
          exact ⟨e2, a2, w2, hq2, .of_steps (Steps.trans harr (.one step_inLoop)) harr2⟩
        | exit id => exact ⟨_, a1, w1, ⟨s1, V1, hq, hr1⟩, .pass (x := .inLoop c) rfl (fun _ _ => .inl (by simp)) harr⟩
        | goto l => exact ⟨_, a1, w1, ⟨s1, V1, hq, hr1⟩, .pass (x := .inLoop c) rfl (fun _ _ => .inl (by simp)) harr⟩
        | ret => exact ⟨_, a1, w1, ⟨s1, V1, hq, hr1⟩, .pass (x := .inLoop c) rfl (fun _ _ => .inl (by simp)) harr⟩
        | panic ch => exact ⟨_, a1, w1, ⟨s1, V1, hq, hr1⟩, .pass (x := .inLoop c) rfl (fun _ _ => .inl (by simp)) harr⟩
        | outgrown => exact ⟨_, a1, w1, ⟨s1, V1, hq, hr1⟩, .pass (x := .inLoop c) rfl (fun _ _ => .inl (by simp)) harr⟩
    intro b k cs
    obtain ⟨e, a', w', hq, harr⟩ := key _ z0 rfl hz0 _ a w hr0 b k cs
    exact ⟨e, a', w', hq, .of_steps (.one step_loop) harr⟩⟩
end

/-! ### Functions -/
/-- Results, loaded as the walk knows them. -/
def resO (x : Cx) (s : St) : ResultVar → Option SV
  | .tmp t => find s.env t
  | .cell t ty => match find s.env t with
    | some (.ptr k o) => match find x.L ty, find s.mem k with
      | some ti, some (.cells c) => match ti.td.agg with
        | true => match takeC (dropC c o) ti.zs.length with
          | some l => some (.agg l)
          | none => none
        | false => nthC c o
      | _, _ => none
    | _ => none
def resOs (x : Cx) (s : St) : List ResultVar → Option (List SV)
  | [] => some []
  | v :: l => match resO x s v, resOs x s l with
    | some u, some r => some (u :: r)
    | _, _ => none
def getRes (tmps : Array Value) (rv : ResultVar) : Sem Value :=
  match rv with
  | .tmp t => pure (tmps.getD t Go.undef)
  | .cell p t => do loadVar t (← asAddr (tmps.getD p Go.undef))
theorem resO_run {x : Cx} (hL : LayOk x.P x.L) {s : St} {rv : ResultVar} {v : SV} (h : resO x s rv = some v) {V : Vl} {a : Act} {w : World} (hr : Rep x V s a w) : (getRes a.tmps rv).run x.P w = .ok (den V v) w := by
  cases rv with
  | tmp t => simp only [getRes, hr.env t v h, Sem.run_pure]
  | cell t ty =>
    simp only [resO] at h
    split at h
    · rename_i k o hp
      split at h
      · rename_i ti c ht hm
        obtain ⟨tt, hb⟩ := hr.ents.mem k _ hm
        simp only [getRes, hr.env t _ hp, den, asAddr, Sem.run_bind, Sem.run_pure, Result.andThen_ok]
        split at h
        · rename_i hg
          cases hl : takeC (dropC c o) ti.zs.length with
          | none => simp [hl] at h
          | some l =>
            simp only [hl, Option.some.injEq] at h
            subst h
            obtain ⟨q1, q2⟩ := takeC_eq _ _ hl
            rw [dropC_eq] at q1 q2
            refine r_loadVar_agg (hL.at ht) hg (by rw [denL_length, q2]; simp at q1 ⊢; omega) (fun j v hj => ?_)
            rw [Addr.add_mid]
            refine cell_of hb ?_
            rw [q2, denL_take, denL_drop] at hj
            simp only [List.getElem?_take] at hj
            split at hj
            · simpa [List.getElem?_drop] using hj
            · cases hj
        · rename_i hg
          rw [nthC_eq] at h
          exact r_loadVar_one (hL.at ht) hg (cell_of hb (by simpa using denL_get V h))
      · cases h
    · cases h
theorem resOs_run {x : Cx} (hL : LayOk x.P x.L) {s : St} {V : Vl} {a : Act} {w : World} (hr : Rep x V s a w) : ∀ {rs : List ResultVar} {l : List SV}, resOs x s rs = some l → (rs.mapM (getRes a.tmps)).run x.P w = .ok (denL V l) w
  | [], l, h => by simp only [resOs, Option.some.injEq] at h; subst h; rfl
  | v :: rs, l, h => by
    unfold resOs at h
    cases h1 : resO x s v with
    | none => simp [h1] at h
    | some u =>
      cases h2 : resOs x s rs with
      | none => simp [h1, h2] at h
      | some r =>
        simp only [h1, h2, Option.some.injEq] at h
        subst h
        simp only [List.mapM_cons, Sem.run_bind, resO_run hL h1 hr, Result.andThen_ok, resOs_run hL hr h2, Sem.run_pure, denL]
def pack : List SV → SV
  | [v] => v
  | l => .tup l
/-- The end of a function. -/
def endS (x : Cx) (rs : List ResultVar) (K : SV → St → Prop) : Exit → St → Prop
  | .normal, s => ∃ l, resOs x s rs = some l ∧ K (pack l) s
  | .ret, s => ∃ l, resOs x s rs = some l ∧ K (pack l) s
  | _, _ => False
theorem endS_sound {x : Cx} (hL : LayOk x.P x.L) {fn : Func} {rs : List ResultVar} (hrs : fn.results = rs.toArray) {K : SV → St → Prop} {R : Ending → World → Prop}
    (hR : ∀ V s a w v, K v s → Rep x V s a w → R (.returned (den V v)) w) : ∀ e a w, QR x (endS x rs K) e a w → bodyPost x.P fn R e a w := by
  have key : ∀ s V a w, (∃ l, resOs x s rs = some l ∧ K (pack l) s) → Rep x V s a w → a.defers = [] ∧ ∃ v, (results fn a.tmps).run x.P w = .ok v w ∧ R (.returned v) w := by
    rintro s V a w ⟨l, hl, hK⟩ hr
    have h1 := resOs_run hL hr hl
    refine ⟨hr.defers, ?_⟩
    have h2 : (results fn a.tmps).run x.P w = .ok (if h : (denL V l).toArray.size = 1 then (denL V l).toArray[0] else .tuple (denL V l).toArray) w := by
      show (do let vs ← fn.results.mapM (getRes a.tmps); pure (if h : vs.size = 1 then vs[0] else .tuple vs) : Sem Value).run x.P w = _
      rw [hrs, Array.mapM_eq_mapM_toList]
      simp only [Sem.run_bind, Sem.run_map, h1, Result.andThen_ok]
      rfl
    rw [h2]
    refine ⟨_, rfl, ?_⟩
    have := hR V s a w _ hK hr
    match l, this with
    | [], h => exact h
    | [v], h => exact h
    | u :: v :: l, h =>
      have hne : ¬ (denL V (u :: v :: l)).toArray.size = 1 := by simp [denL]
      rw [dif_neg hne]
      exact h
  intro e a w ⟨s, V, hq, hr⟩
  cases e <;> first | exact hq.elim | exact key s V a w hq hr
theorem r_end {x : Cx} {s : St} {rs : List ResultVar} {v : SV} {K : SV → St → Prop} (h : resOs x s rs = some [v]) (hK : K v s) : endS x rs K .ret s := ⟨_, h, hK⟩
theorem r_end2 {x : Cx} {s : St} {rs : List ResultVar} {u v : SV} {l : List SV} {K : SV → St → Prop} (h : resOs x s rs = some (u :: v :: l)) (hK : K (.tup (u :: v :: l)) s) : endS x rs K .ret s := ⟨_, h, hK⟩
theorem r_end0 {x : Cx} {s : St} {K : SV → St → Prop} (hK : K (.tup []) s) : endS x [] K .ret s := ⟨[], rfl, hK⟩
theorem r_endn {x : Cx} {s : St} {rs : List ResultVar} {K : SV → St → Prop} (h : endS x rs K .ret s) : endS x rs K .normal s := h

def callB (P : Program) (g : Nat) : Bool :=
  match P.funcs[g]? with
  | some fn => fn.body.isSome && fn.name != "runtime.NumGoroutine"
  | none => false
/-- **A contract**: called so in a state 'pre', the function hands back 'res' in a state 'post', for some z of which ψ holds; nothing else that was there has changed. -/
structure Trip (P : Program) (g : Nat) (as : List SV) (pre : St) {Z : Type} (ψ : Z → Prop) (res : Z → SV) (post : Z → St) : Prop where
  can : callB P g = true
  runs : ∀ (V : Vl) (D0 : Nat → Prop) (w : World), Ents D0 V pre w → (∀ b, D0 b → b < w.heap.size) → (∀ k, Lv V pre.mem k → ¬ D0 (V.r k)) →
    Calls P g (denL V as).toArray w fun e w' => ∃ z V', ψ z ∧ e = .returned (den V' (res z)) ∧ okV (post z).nb (res z) = true ∧ (∀ k, k < pre.nb → k < (post z).nb ∧ Agr V' V k) ∧ Ents D0 V' (post z) w' ∧ Fr (Dl V pre.mem) w w' ∧ ∀ k, Lv V' (post z).mem k → w.heap.size ≤ V'.r k ∨ Dl V pre.mem (V'.r k)
def argEnv : Nat → List SV → List (Nat × SV)
  | _, [] => []
  | i, v :: l => (i, v) :: argEnv (i + 1) l
theorem argEnv_find : ∀ {l : List SV} {i t : Nat} {v : SV}, find (argEnv i l) t = some v → i ≤ t ∧ l[t - i]? = some v
  | [], i, t, v, h => by simp [argEnv, find] at h
  | u :: l, i, t, v, h => by
    simp only [argEnv, find_cons] at h
    split at h
    · rename_i e; subst e; cases h; exact ⟨Nat.le_refl _, by simp⟩
    · rename_i e
      obtain ⟨h1, h2⟩ := argEnv_find h
      refine ⟨by omega, ?_⟩
      rw [show t - i = (t - (i + 1)) + 1 by omega]
      simpa using h2
theorem rep_start {P : Program} {L : Lay} {D0 : Nat → Prop} {V : Vl} {n : Nat} {as : List SV} {pre : St} {w : World} (hn : as.length ≤ n) (hok : okL pre.nb as = true) (hE : Ents D0 V pre w) (hD : ∀ b, D0 b → b < w.heap.size) (hap : ∀ k, Lv V pre.mem k → ¬ D0 (V.r k)) :
    Rep ⟨P, L, w, n, D0, Dl V pre.mem, pre.nb, V⟩ V ⟨argEnv 0 as, pre.mem, pre.ro, pre.nb⟩ { tmps := (denL V as).toArray ++ Array.replicate (n - (denL V as).toArray.size) Go.undef, defers := [] } w := by
  refine ⟨rfl, by simp [denL_length]; omega, fun t v hv => ?_, fun t v hv => ?_, hE.env, Fr.refl _ _, fun k hk => .inr ⟨k, hk, rfl⟩, fun k hk => ⟨hk, Agr.refl V k⟩, fun b hb => ⟨hD b hb, fun ⟨k, hk, he⟩ => hap k hk (he ▸ hb)⟩⟩
  · obtain ⟨_, h2⟩ := argEnv_find hv
    rw [Nat.sub_zero] at h2
    have hlt : t < as.length := (List.getElem?_eq_some_iff.1 h2).1
    have e := denL_get V h2
    rw [Array.getD_eq_getD_getElem?, Array.getElem?_append_left (by simpa [denL_length] using hlt)]
    simp [e]
  · obtain ⟨_, h2⟩ := argEnv_find hv
    exact (okL_iff _ _).1 hok v (List.mem_of_getElem? (by rw [Nat.sub_zero] at h2; exact h2))
/-- **A contract by its walk.** -/
theorem trip_by {P : Program} {L : Lay} {g : Nat} {fn : Func} {c : Code} {n : Nat} {rs : List ResultVar} {as : List SV} {pm : List (Nat × MB)} {pr : List (Nat × RO)} {pn : Nat} {Z : Type} {ψ : Z → Prop} {res : Z → SV} {post : Z → St} (hL : LayOk P L) (hf : P.funcs[g]? = some fn) (hb : fn.body = some c) (hc : callB P g = true)
    (hn : fn.ntmps = n) (hrs : fn.results = rs.toArray) (hlen : Nat.ble as.length n = true) (hok : okL pn as = true)
    (h : ∀ (w : World) (D0 D : Nat → Prop) (V : Vl), Tr ⟨P, L, w, n, D0, D, pn, V⟩ c (endS ⟨P, L, w, n, D0, D, pn, V⟩ rs fun u s => ∃ z, ψ z ∧ ∃ σ, SubS ⟨P, L, w, n, D0, D, pn, V⟩ σ ⟨[(0, res z)], (post z).mem, (post z).ro, (post z).nb⟩ ⟨[(0, u)], s.mem, s.ro, s.nb⟩) ⟨argEnv 0 as, pm, pr, pn⟩) : Trip P g as ⟨[], pm, pr, pn⟩ ψ res post := by
  refine ⟨hc, fun V D0 w hE hD hap => calls_of_wp hf hb ?_⟩
  rw [hn]
  refine Go.wp_mono ((h w D0 (Dl V pm) V).run hL V _ w (rep_start (pre := ⟨[], pm, pr, pn⟩) (Nat.le_of_ble_eq_true hlen) hok hE hD hap)) (endS_sound (x := ⟨P, L, w, n, D0, Dl V pm, pn, V⟩) hL hrs fun V1 s a w' u ⟨z, hz, σ, hs⟩ hr => ?_)
  have hr' : Rep ⟨P, L, w, n, D0, Dl V pm, pn, V⟩ V1 s a w' := hr
  obtain ⟨F, hF⟩ := hs.heap.ents (s := ⟨[(0, u)], s.mem, s.ro, s.nb⟩) hr'.ents.env (fun k hk => hr'.apart hk) D0 (fun F b hb => .inl hb)
  obtain ⟨ho, u1, u', hu, hren, hden⟩ := hs.env 0 (res z) (by simp [find])
  have : u1 = u := by simp [find] at hu; exact hu.symm
  subst this
  refine ⟨z, V1.compF σ F, hz, by rw [den_sub V1 σ F hren, hden], ho, fun k hk => ?_, hF.env, hr'.frame, fun k hk => ?_⟩
  · obtain ⟨h1, h2, h3⟩ := hs.pin k hk
    have := (hr'.pin k hk).2
    exact ⟨h1, ⟨by simp only [Vl.compF, Vl.comp, h2]; exact this.r, by simp only [Vl.compF, Vl.comp, h3]; exact this.ro, by simp only [Vl.compF, Vl.comp, h2]; exact this.cap, by simp only [Vl.compF, Vl.comp, h2]; exact this.nil, by simp only [Vl.compF, h2]; exact this.ce⟩⟩
  · obtain ⟨k', _, h2, h3⟩ := hs.heap.lv V1 F k hk
    rw [h3]; exact hr'.own k' h2
end Go.Proofs.Ytjhjhjmdbhackaa
