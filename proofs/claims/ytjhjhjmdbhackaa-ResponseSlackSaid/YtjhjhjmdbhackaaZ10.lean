/- Walks over lists, tenth part: calls. No condition on any program. -/
import Derived.Test.YtjhjhjmdbhackaaZ9
namespace Go.Proofs.Ytjhjhjmdbhackaa
set_option linter.unusedSimpArgs false
set_option linter.unusedSectionVars false
set_option linter.unusedVariables false
open Go.RowKit

/-- The numbers of a function behind the call: what was there before, by σ; what is new, behind the caller's. -/
def shR (σ : Rn) (p n : Nat) : Rn where
  own k := match Nat.blt k p with
    | true => σ.own k
    | false => some (k - p + n)
  ro k := match Nat.blt k p with
    | true => σ.ro k
    | false => some (.ro (k - p + n))
def renMs (σ : Rn) : List (Nat × MB) → Option (List (Nat × MB))
  | [] => some []
  | (k, m) :: l => match σ.own k, renM σ m, renMs σ l with
    | some k', some m', some r => some ((k', m') :: r)
    | _, _, _ => none
def renRs (p n : Nat) : List (Nat × RO) → Option (List (Nat × RO))
  | [] => some []
  | (k, q) :: l => match Nat.blt k p, q.fz, renRs p n l with
    | false, true, some r => some ((k - p + n, q) :: r)
    | _, _, _ => none
def hasK {α : Type} : List (Nat × α) → Nat → Bool
  | [], _ => false
  | (k, _) :: l, j => match Nat.beq k j with
    | true => true
    | false => hasK l j
def allK {α β : Type} (l : List (Nat × α)) : List (Nat × β) → Bool
  | [] => true
  | (k, _) :: m => match hasK l k with
    | true => allK l m
    | false => false
theorem hasK_find {α : Type} : ∀ {l : List (Nat × α)} {j : Nat}, hasK l j = true → ∃ v, find l j = some v
  | [], j, h => by cases h
  | (k, v) :: l, j, h => by
    unfold hasK at h
    rw [find_cons]
    cases hb : Nat.beq k j with
    | true => exact ⟨v, by rw [if_pos (Nat.eq_of_beq_eq_true hb)]⟩
    | false =>
      simp only [hb] at h
      rw [if_neg (Nat.ne_of_beq_eq_false hb)]
      exact hasK_find h
theorem allK_find {α β : Type} {l : List (Nat × α)} : ∀ {m : List (Nat × β)} {k : Nat} {b : β}, allK l m = true → find m k = some b → ∃ v, find l k = some v
  | [], k, b, _, h => by simp [find] at h
  | (a, c) :: m, k, b, ha, h => by
    unfold allK at ha
    rw [find_cons] at h
    cases hb : hasK l a with
    | false => simp [hb] at ha
    | true =>
      simp only [hb] at ha
      split at h
      · rename_i e; subst e; exact hasK_find hb
      · exact allK_find ha h
theorem renMs_find {σ : Rn} (hinj : ∀ k1 k2 j, σ.own k1 = some j → σ.own k2 = some j → k1 = k2) : ∀ {l mm : List (Nat × MB)}, renMs σ l = some mm → ∀ {k j : Nat}, σ.own k = some j → match find l k with | some m => ∃ m', renM σ m = some m' ∧ find mm j = some m' | none => find mm j = none
  | [], mm, h, k, j, _ => by simp only [renMs, Option.some.injEq] at h; subst h; simp [find]
  | (a, m) :: l, mm, h, k, j, hk => by
    unfold renMs at h
    cases h1 : σ.own a with
    | none => simp [h1] at h
    | some a' =>
      cases h2 : renM σ m with
      | none => simp [h1, h2] at h
      | some m' =>
        cases h3 : renMs σ l with
        | none => simp [h1, h2, h3] at h
        | some r =>
          simp only [h1, h2, h3, Option.some.injEq] at h
          subst h
          simp only [find_cons]
          by_cases e : a = k
          · subst e
            rw [hk] at h1
            cases h1
            simp only [if_true]
            exact ⟨m', h2, rfl⟩
          · have e' : a' ≠ j := fun he => e (hinj a k j (he ▸ h1) hk)
            rw [if_neg e, if_neg e']
            exact renMs_find hinj h3 hk
theorem renMs_none {σ : Rn} : ∀ {l mm : List (Nat × MB)}, renMs σ l = some mm → ∀ {j : Nat} {m' : MB}, find mm j = some m' → ∃ k m, σ.own k = some j ∧ find l k = some m
  | [], mm, h, j, m', hj => by simp only [renMs, Option.some.injEq] at h; subst h; simp [find] at hj
  | (a, m) :: l, mm, h, j, m', hj => by
    unfold renMs at h
    cases h1 : σ.own a with
    | none => simp [h1] at h
    | some a' =>
      cases h2 : renM σ m with
      | none => simp [h1, h2] at h
      | some m'' =>
        cases h3 : renMs σ l with
        | none => simp [h1, h2, h3] at h
        | some r =>
          simp only [h1, h2, h3, Option.some.injEq] at h
          subst h
          rw [find_cons] at hj
          split at hj
          · rename_i e; subst e; exact ⟨a, m, h1, by rw [find_cons, if_pos rfl]⟩
          · obtain ⟨k, m0, g1, g2⟩ := renMs_none h3 hj
            by_cases e : a = k
            · exact ⟨k, m, g1, by rw [find_cons, if_pos e]⟩
            · exact ⟨k, m0, g1, by rw [find_cons, if_neg e]; exact g2⟩
theorem renRs_find {p n : Nat} : ∀ {l rr : List (Nat × RO)}, renRs p n l = some rr → ∀ {j : Nat} {q : RO}, find rr j = some q → ∃ k, p ≤ k ∧ j = k - p + n ∧ q.fz = true ∧ find l k = some q
  | [], rr, h, j, q, hj => by simp only [renRs, Option.some.injEq] at h; subst h; simp [find] at hj
  | (a, m) :: l, rr, h, j, q, hj => by
    unfold renRs at h
    cases h1 : Nat.blt a p with
    | true => simp [h1] at h
    | false =>
      cases h2 : m.fz with
      | false => simp [h1, h2] at h
      | true =>
        cases h3 : renRs p n l with
        | none => simp [h1, h2, h3] at h
        | some r =>
          simp only [h1, h2, h3, Option.some.injEq] at h
          subst h
          have ha : p ≤ a := by
            rcases Nat.lt_or_ge a p with hlt | hge
            · have : Nat.blt a p = true := by simpa [Nat.blt_eq] using hlt
              rw [h1] at this; cases this
            · exact hge
          rw [find_cons] at hj
          split at hj
          · rename_i e; subst e; cases hj; exact ⟨a, ha, rfl, h2, by rw [find_cons, if_pos rfl]⟩
          · rename_i hne
            obtain ⟨k, g1, g2, g3, g4⟩ := renRs_find h3 hj
            refine ⟨k, g1, g2, g3, ?_⟩
            have : a ≠ k := fun e => hne (by subst e; exact g2.symm)
            rw [find_cons, if_neg this]; exact g4
/-- The two valuations in one. -/
def mixV (V V' : Vl) (n p : Nat) : Vl where
  r k := if k < n then V.r k else V'.r (k - n + p)
  ro k := if k < n then V.ro k else V'.ro (k - n + p)
  cap k := if k < n then V.cap k else V'.cap (k - n + p)
  nil k := if k < n then V.nil k else V'.nil (k - n + p)
  ce k := if k < n then V.ce k else V'.ce (k - n + p)
theorem mixV_agr {V V' : Vl} {n p : Nat} : ∀ k, k < n → Agr (mixV V V' n p) V k := fun k hk => ⟨if_pos hk, if_pos hk, if_pos hk, if_pos hk, if_pos hk⟩
theorem mixV_one {V V' : Vl} {n p : Nat} (h : V.One) (h' : V'.One) : (mixV V V' n p).One := by
  constructor
  · intro k
    show (if k < n then V.ro k else V'.ro (k - n + p)).oneCell' = true
    split
    · exact h.1 k
    · exact h'.1 _
  · intro k i j
    show ((if k < n then V.ce k else V'.ce (k - n + p)) i j).oneCell' = true
    split
    · exact h.2 k i j
    · exact h'.2 _ i j
section
variable {x : Cx} {σ : Rn} {pre s t' : St} {V V' : Vl} {F : Nat → Nat → Nat → Value} {w w' : World}
/-- What a number of the function is in the caller's. -/
theorem mix_own (hag : ∀ k, k < pre.nb → k < t'.nb ∧ Agr V' (V.compF σ F) k) (hlt : ∀ k j, σ.own k = some j → j < s.nb) {k j : Nat} (hk : (shR σ pre.nb s.nb).own k = some j) : (mixV V V' s.nb pre.nb).r j = V'.r k ∧ (mixV V V' s.nb pre.nb).cap j = V'.cap k ∧ (mixV V V' s.nb pre.nb).nil j = V'.nil k ∧ (mixV V V' s.nb pre.nb).ce j = V'.ce k := by
  unfold shR at hk
  simp only at hk
  cases hb : Nat.blt k pre.nb with
  | true =>
    simp only [hb] at hk
    have hj := hlt k j hk
    have hkp : k < pre.nb := by simpa [Nat.blt_eq] using hb
    have a := (hag k hkp).2
    have m := mixV_agr (V := V) (V' := V') (n := s.nb) (p := pre.nb) j hj
    refine ⟨m.r.trans (a.r.trans ?_).symm, m.cap.trans (a.cap.trans ?_).symm, m.nil.trans (a.nil.trans ?_).symm, m.ce.trans (a.ce.trans ?_).symm⟩
    · simp only [Vl.compF, Vl.comp, hk]
    · simp only [Vl.compF, Vl.comp, hk]
    · simp only [Vl.compF, Vl.comp, hk]
    · simp only [Vl.compF, hk]
  | false =>
    simp only [hb, Option.some.injEq] at hk
    have hkp : pre.nb ≤ k := by
      rcases Nat.lt_or_ge k pre.nb with h | h
      · have : Nat.blt k pre.nb = true := by simpa [Nat.blt_eq] using h
        rw [hb] at this; cases this
      · exact h
    have hj : ¬ j < s.nb := by omega
    have e : j - s.nb + pre.nb = k := by omega
    simp only [mixV, if_neg hj, e, and_self]
theorem mix_ro (hE : Ents x.D0 V s w) (hag : ∀ k, k < pre.nb → k < t'.nb ∧ Agr V' (V.compF σ F) k) (hok : ∀ k v, σ.ro k = some v → okV s.nb v = true) {k : Nat} {v : SV} (hk : (shR σ pre.nb s.nb).ro k = some v) : den (mixV V V' s.nb pre.nb) v = V'.ro k := by
  unfold shR at hk
  simp only at hk
  cases hb : Nat.blt k pre.nb with
  | true =>
    simp only [hb] at hk
    have hkp : k < pre.nb := by simpa [Nat.blt_eq] using hb
    rw [(hag k hkp).2.ro, den_agree mixV_agr v (hok k v hk)]
    simp only [Vl.compF, Vl.comp, hk]
  | false =>
    simp only [hb, Option.some.injEq] at hk
    subst hk
    have hkp : pre.nb ≤ k := by
      rcases Nat.lt_or_ge k pre.nb with h | h
      · have : Nat.blt k pre.nb = true := by simpa [Nat.blt_eq] using h
        rw [hb] at this; cases this
      · exact h
    have hj : ¬ k - pre.nb + s.nb < s.nb := by omega
    have e : k - pre.nb + s.nb - s.nb + pre.nb = k := by omega
    simp only [den, mixV, if_neg hj, e]
mutual
theorem mix_den (hE : Ents x.D0 V s w) (hag : ∀ k, k < pre.nb → k < t'.nb ∧ Agr V' (V.compF σ F) k) (hlt : ∀ k j, σ.own k = some j → j < s.nb) (hok : ∀ k v, σ.ro k = some v → okV s.nb v = true) : ∀ v {u}, ren (shR σ pre.nb s.nb) v = some u → den (mixV V V' s.nb pre.nb) u = den V' v
  | .int _ _, u, h => by simp only [ren, Option.some.injEq] at h; subst h; rfl
  | .tf _, u, h => by simp only [ren, Option.some.injEq] at h; subst h; rfl
  | .bool _, u, h => by simp only [ren, Option.some.injEq] at h; subst h; rfl
  | .ptr k o, u, h => by
    simp only [ren] at h
    cases hk : (shR σ pre.nb s.nb).own k with
    | none => simp [hk] at h
    | some j => simp only [hk, Option.some.injEq] at h; subst h; simp only [den, (mix_own hag hlt hk).1]
  | .el k es i f, u, h => by
    simp only [ren] at h
    cases hk : (shR σ pre.nb s.nb).own k with
    | none => simp [hk] at h
    | some j => simp only [hk, Option.some.injEq] at h; subst h; simp only [den, (mix_own hag hlt hk).1]
  | .slc k o n c, u, h => by
    simp only [ren] at h
    cases hk : (shR σ pre.nb s.nb).own k with
    | none => simp [hk] at h
    | some j => simp only [hk, Option.some.injEq] at h; subst h; simp only [den, (mix_own hag hlt hk).1]
  | .osl k n, u, h => by
    simp only [ren] at h
    cases hk : (shR σ pre.nb s.nb).own k with
    | none => simp [hk] at h
    | some j => simp only [hk, Option.some.injEq] at h; subst h; simp only [den, (mix_own hag hlt hk).1, (mix_own hag hlt hk).2.1, (mix_own hag hlt hk).2.2.1]
  | .otl k es i n, u, h => by
    simp only [ren] at h
    cases hk : (shR σ pre.nb s.nb).own k with
    | none => simp [hk] at h
    | some j => simp only [hk, Option.some.injEq] at h; subst h; simp only [den, (mix_own hag hlt hk).1, (mix_own hag hlt hk).2.1, (mix_own hag hlt hk).2.2.1]
  | .ro k, u, h => by simp only [ren] at h; rw [mix_ro hE hag hok h]; rfl
  | .rel _ _ _ _, u, h => by simp [ren] at h
  | .nst _ _ _, u, h => by simp [ren] at h
  | .clo f l, u, h => by
    simp only [ren] at h
    cases hl : renL (shR σ pre.nb s.nb) l with
    | none => simp [hl] at h
    | some l' => simp only [hl, Option.some.injEq] at h; subst h; simp only [den, mix_denL hE hag hlt hok l hl]
  | .agg l, u, h => by
    simp only [ren] at h
    cases hl : renL (shR σ pre.nb s.nb) l with
    | none => simp [hl] at h
    | some l' => simp only [hl, Option.some.injEq] at h; subst h; simp only [den, mix_denL hE hag hlt hok l hl]
  | .tup l, u, h => by
    simp only [ren] at h
    cases hl : renL (shR σ pre.nb s.nb) l with
    | none => simp [hl] at h
    | some l' => simp only [hl, Option.some.injEq] at h; subst h; simp only [den, mix_denL hE hag hlt hok l hl]
  | .undef, u, h => by simp only [ren, Option.some.injEq] at h; subst h; rfl
  | .val _, u, h => by simp only [ren, Option.some.injEq] at h; subst h; rfl
theorem mix_denL (hE : Ents x.D0 V s w) (hag : ∀ k, k < pre.nb → k < t'.nb ∧ Agr V' (V.compF σ F) k) (hlt : ∀ k j, σ.own k = some j → j < s.nb) (hok : ∀ k v, σ.ro k = some v → okV s.nb v = true) : ∀ l {m}, renL (shR σ pre.nb s.nb) l = some m → denL (mixV V V' s.nb pre.nb) m = denL V' l
  | [], m, h => by simp only [renL, Option.some.injEq] at h; subst h; rfl
  | x :: l, m, h => by
    simp only [renL] at h
    cases hx : ren (shR σ pre.nb s.nb) x with
    | none => simp [hx] at h
    | some x' =>
      cases hl : renL (shR σ pre.nb s.nb) l with
      | none => simp [hx, hl] at h
      | some l' =>
        simp only [hx, hl, Option.some.injEq] at h
        subst h
        simp only [denL, mix_den hE hag hlt hok x hx, mix_denL hE hag hlt hok l hl]
end
/-- **Behind a call.** -/
theorem Ents.call {e' : List (Nat × SV)} {mm : List (Nat × MB)} {rr : List (Nat × RO)} {N : Nat} (hE : Ents x.D0 V s w) (hsub : HSub x σ pre s)
    (hE' : Ents (fun b => x.D0 b ∨ (Dl V s.mem b ∧ ¬ Dl (V.compF σ F) pre.mem b)) V' t' w') (hag : ∀ k, k < pre.nb → k < t'.nb ∧ Agr V' (V.compF σ F) k) (hfr : Fr (Dl (V.compF σ F) pre.mem) w w') (hfresh : ∀ k, Lv V' t'.mem k → w.heap.size ≤ V'.r k ∨ Dl (V.compF σ F) pre.mem (V'.r k))
    (hinj : ∀ k1 k2 j, σ.own k1 = some j → σ.own k2 = some j → k1 = k2) (hlt : ∀ k j, σ.own k = some j → j < s.nb) (hokr : ∀ k v, σ.ro k = some v → okV s.nb v = true)
    (hmm : renMs (shR σ pre.nb s.nb) t'.mem = some mm) (hrr : renRs pre.nb s.nb t'.ro = some rr) (hall : allK t'.mem pre.mem = true) (hokm : ∀ j m, find mm j = some m → j < N ∧ okM N m = true) (hokn : ∀ k q, find rr k = some q → k < N) (hN : s.nb ≤ N) :
    Ents x.D0 (mixV V V' s.nb pre.nb) ⟨e', mm ++ s.mem, rr ++ s.ro, N⟩ w' := by
  have hinj' : ∀ k1 k2 j, (shR σ pre.nb s.nb).own k1 = some j → (shR σ pre.nb s.nb).own k2 = some j → k1 = k2 := by
    intro k1 k2 j h1 h2
    simp only [shR] at h1 h2
    cases b1 : Nat.blt k1 pre.nb <;> cases b2 : Nat.blt k2 pre.nb <;> simp only [b1, b2, Option.some.injEq] at h1 h2
    · have p1 : ¬ k1 < pre.nb := fun h => by have : Nat.blt k1 pre.nb = true := by simpa [Nat.blt_eq] using h
                                             rw [b1] at this; cases this
      have p2 : ¬ k2 < pre.nb := fun h => by have : Nat.blt k2 pre.nb = true := by simpa [Nat.blt_eq] using h
                                             rw [b2] at this; cases this
      omega
    · have := hlt k2 j h2; omega
    · have := hlt k1 j h1; omega
    · exact hinj k1 k2 j h1 h2
  have lookA : ∀ j m', find mm j = some m' → ∃ k m, (shR σ pre.nb s.nb).own k = some j ∧ find t'.mem k = some m ∧ renM (shR σ pre.nb s.nb) m = some m' := by
    intro j m' hj
    obtain ⟨k, m, h1, h2⟩ := renMs_none hmm hj
    have := renMs_find hinj' hmm h1
    rw [h2] at this
    obtain ⟨m'', h3, h4⟩ := this
    rw [hj] at h4
    cases h4
    exact ⟨k, m, h1, h2, h3⟩
  have dlc : ∀ b, Dl (V.compF σ F) pre.mem b → Dl V s.mem b := by
    rintro b ⟨k, hk, rfl⟩
    obtain ⟨k', _, h2, h3⟩ := hsub.lv V F k hk
    exact ⟨k', h2, h3.symm⟩
  have old : ∀ j, find mm j = none → Lv V s.mem j → ¬ Dl (V.compF σ F) pre.mem (V.r j) := by
    rintro j hj hlv ⟨k, hk, he⟩
    obtain ⟨k', h1, h2, h3⟩ := hsub.lv V F k hk
    have := hE.inj j k' hlv h2 (he.symm.trans h3)
    subst this
    obtain ⟨m, hm, _⟩ := hk
    have hkp := (hsub.mem k m hm).1.1
    have hs : (shR σ pre.nb s.nb).own k = some j := by
      have : Nat.blt k pre.nb = true := by simpa [Nat.blt_eq] using hkp
      simp only [shR, this]; exact h1
    obtain ⟨m0, hm0⟩ := allK_find hall hm
    have := renMs_find hinj' hmm hs
    rw [hm0] at this
    obtain ⟨m', _, h5⟩ := this
    rw [hj] at h5; cases h5
  have kind : ∀ {k j : Nat} {m m' : MB}, (shR σ pre.nb s.nb).own k = some j → renM (shR σ pre.nb s.nb) m = some m' → (aliveB (mixV V V' s.nb pre.nb) j m' ↔ aliveB V' k m) := by
    intro k j m m' hk hm
    cases m with
    | cells c =>
      simp only [renM] at hm
      cases hl : renL (shR σ pre.nb s.nb) c with
      | none => simp [hl] at hm
      | some c' => simp only [hl, Option.some.injEq] at hm; subst hm; exact Iff.rfl
    | rows es t xs =>
      simp only [renM, Option.some.injEq] at hm
      subst hm
      simp only [aliveB, (mix_own hag hlt hk).2.2.1]
    | deck m =>
      simp only [renM] at hm
      split at hm
      · cases hm; exact Iff.rfl
      · cases hm
    | dead => simp only [renM, Option.some.injEq] at hm; subst hm; exact Iff.rfl
  have live : ∀ j, Lv (mixV V V' s.nb pre.nb) (mm ++ s.mem) j → (∃ k, (shR σ pre.nb s.nb).own k = some j ∧ Lv V' t'.mem k ∧ (mixV V V' s.nb pre.nb).r j = V'.r k) ∨ (find mm j = none ∧ Lv V s.mem j ∧ (mixV V V' s.nb pre.nb).r j = V.r j) := by
    rintro j ⟨m', hm', ha⟩
    rw [find_append] at hm'
    cases hf : find mm j with
    | some m'' =>
      rw [hf] at hm'
      cases hm'
      obtain ⟨k, m, h1, h2, h3⟩ := lookA j m' hf
      exact .inl ⟨k, h1, ⟨m, h2, (kind h1 h3).1 ha⟩, (mix_own hag hlt h1).1⟩
    | none =>
      rw [hf] at hm'
      have hjn := (hE.memOk j m' hm').1
      have a := mixV_agr (V := V) (V' := V') (n := s.nb) (p := pre.nb) j hjn
      exact .inr ⟨rfl, ⟨m', hm', (aliveB_agr a m').1 ha⟩, a.r⟩
  have dls : ∀ b, Dl (mixV V V' s.nb pre.nb) (mm ++ s.mem) b → Dl V' t'.mem b ∨ (Dl V s.mem b ∧ ¬ Dl (V.compF σ F) pre.mem b) := by
    rintro b ⟨j, hj, rfl⟩
    rcases live j hj with ⟨k, _, h2, h3⟩ | ⟨h1, h2, h3⟩
    · exact .inl ⟨k, h2, h3.symm⟩
    · rw [h3]; exact .inr ⟨⟨j, h2, rfl⟩, old j h1 h2⟩
  have dlo : ∀ b, b < w.heap.size → Dl (mixV V V' s.nb pre.nb) (mm ++ s.mem) b → Dl V s.mem b := by
    intro b hb hd
    rcases dls b hd with ⟨k, hk, rfl⟩ | h
    · rcases hfresh k hk with h | h
      · omega
      · exact dlc _ h
    · exact h.1
  have same0 : ∀ b, b < w.heap.size → ¬ Dl V s.mem b → w'.heap[b]? = w.heap[b]? := fun b hb hd => hfr.2.1 b hb fun h => hd (dlc b h)
  have keep : ∀ D : Nat → Prop, (∀ b, D b → x.D0 b) → Keep w' (fun b => Dl V' t'.mem b ∨ (x.D0 b ∨ (Dl V s.mem b ∧ ¬ Dl (V.compF σ F) pre.mem b))) w' (fun b => Dl (mixV V V' s.nb pre.nb) (mm ++ s.mem) b ∨ D b) := fun D hD b o hb ho => ⟨fun h => hb (by
    rcases h with h | h
    · rcases dls b h with h | h
      · exact .inl h
      · exact .inr (.inr h)
    · exact .inr (.inl (hD b h))), ho⟩
  refine ⟨mixV_one hE.one hE'.one, fun j m hj => ?_, fun j m hj => ?_, fun j q hj => ?_, fun j q hj => ?_, fun i j hi hj hij => ?_, fun j hj => ?_⟩
  · simp only [find_append] at hj
    cases hf : find mm j with
    | none =>
      rw [hf] at hj
      exact hE.memMove (mixV_agr) same0 dlo j m hj fun ha => hfr.2.1 _ (hE.lt j ⟨m, hj, ha⟩) (old j hf ⟨m, hj, ha⟩)
    | some m'' =>
      rw [hf] at hj
      cases hj
      obtain ⟨k, m0, h1, h2, h3⟩ := lookA j m hf
      have hm0 := hE'.mem k m0 h2
      obtain ⟨g1, g2, g3, g4⟩ := mix_own (V := V) (V' := V') hag hlt h1
      cases m0 with
      | cells c =>
        simp only [renM] at h3
        cases hl : renL (shR σ pre.nb s.nb) c with
        | none => simp [hl] at h3
        | some c' =>
          simp only [hl, Option.some.injEq] at h3
          subst h3
          obtain ⟨tt, ht⟩ := hm0
          exact ⟨tt, by rw [mix_denL hE hag hlt hokr c hl, g1]; exact ht⟩
      | rows es tt xs =>
        simp only [renM, Option.some.injEq] at h3
        subst h3
        unfold MBat at hm0 ⊢
        rw [g1, g2, g3, g4]
        cases hn : V'.nil k with
        | true => rw [hn] at hm0; exact hm0
        | false =>
          rw [hn] at hm0
          obtain ⟨h00, cs, h0, q1, q2, q3, q4, q5⟩ := hm0
          exact ⟨h00, cs, h0, q1, q2, q3, q4, fun i j row d a b => (q5 i j row d a b).keep (keep _ fun _ h => h)⟩
      | deck m1 =>
        simp only [renM] at h3
        split at h3
        · rename_i m2 hm2
          cases h3
          show DeckAt w' ((mixV V V' s.nb pre.nb).r j) ((mixV V V' s.nb pre.nb).ro m2)
          have := mix_ro (V' := V') hE hag hokr hm2
          simp only [den] at this
          rw [g1, this]; exact hm0
        · cases h3
      | dead => simp only [renM, Option.some.injEq] at h3; subst h3; trivial
  · simp only [find_append] at hj
    cases hf : find mm j with
    | none =>
      rw [hf] at hj
      obtain ⟨h1, h2⟩ := hE.memOk j m hj
      refine ⟨Nat.lt_of_lt_of_le h1 hN, ?_⟩
      cases m <;> simp only [okM, Nat.blt_eq] at h2 ⊢
      · exact okL_mono hN _ h2
      · omega
    | some m'' =>
      rw [hf] at hj
      cases hj
      exact hokm j m hf
  · simp only [find_append] at hj
    cases hf : find rr j with
    | none => rw [hf] at hj; exact hE.roMove mixV_agr same0 dlo j q hj
    | some q' =>
      rw [hf] at hj
      cases hj
      obtain ⟨k, h1, h2, h3, h4⟩ := renRs_find hrr hf
      have := hE'.ro k q h4
      have hjn : ¬ j < s.nb := by omega
      have e : j - s.nb + pre.nb = k := by omega
      have e1 : (mixV V V' s.nb pre.nb).ro j = V'.ro k := by simp only [mixV, if_neg hjn, e]
      have e2 : (mixV V V' s.nb pre.nb).ce j = V'.ce k := by simp only [mixV, if_neg hjn, e]
      rw [e1, e2]
      refine this.keep fun b o hb ho => (keep (fun b => q.fz = true ∧ x.D0 b) (fun _ h => h.2)) b o (fun h => hb ?_) ho
      rcases h with h | h
      · exact .inl h
      · exact .inr ⟨h3, h⟩
  · simp only [find_append] at hj
    cases hf : find rr j with
    | none => rw [hf] at hj; exact Nat.lt_of_lt_of_le (hE.roOk j q hj) hN
    | some q' => exact hokn j q' hf
  · rcases live i hi with ⟨k1, a1, a2, a3⟩ | ⟨a1, a2, a3⟩ <;> rcases live j hj with ⟨k2, b1, b2, b3⟩ | ⟨b1, b2, b3⟩
    · rw [a3, b3] at hij
      have := hE'.inj k1 k2 a2 b2 hij
      subst this
      rw [a1] at b1; exact Option.some.inj b1
    · exfalso
      rw [a3, b3] at hij
      rcases hfresh k1 a2 with h | h
      · have := hE.lt j b2; omega
      · exact old j b1 b2 (hij ▸ h)
    · exfalso
      rw [a3, b3] at hij
      rcases hfresh k2 b2 with h | h
      · have := hE.lt i a2; omega
      · exact old i a1 a2 (hij ▸ h)
    · rw [a3, b3] at hij
      exact hE.inj i j a2 b2 hij
  · rcases live j hj with ⟨k, _, a2, a3⟩ | ⟨_, a2, a3⟩
    · rw [a3]; exact hE'.lt k a2
    · rw [a3]; exact Nat.lt_of_lt_of_le (hE.lt j a2) hfr.1
end
/-! ### Checks of the renaming -/
def valsB (nb : Nat) : List (Nat × Nat) → Bool
  | [] => true
  | (_, j) :: l => match Nat.blt j nb with
    | true => valsB nb l
    | false => false
def okAll (nb : Nat) : List (Nat × SV) → Bool
  | [] => true
  | (_, v) :: l => match okV nb v with
    | true => okAll nb l
    | false => false
def valsL : List (Nat × Nat) → List Nat
  | [] => []
  | (_, j) :: l => j :: valsL l
theorem valsB_spec {nb : Nat} : ∀ {l : List (Nat × Nat)}, valsB nb l = true → ∀ k j, find l k = some j → j < nb
  | [], _, k, j, h => by simp [find] at h
  | (a, b) :: l, ho, k, j, h => by
    unfold valsB at ho
    rw [find_cons] at h
    cases hb : Nat.blt b nb with
    | false => simp [hb] at ho
    | true =>
      simp only [hb] at ho
      split at h
      · cases h; simpa [Nat.blt_eq] using hb
      · exact valsB_spec ho k j h
theorem okAll_spec {nb : Nat} : ∀ {l : List (Nat × SV)}, okAll nb l = true → ∀ k v, find l k = some v → okV nb v = true
  | [], _, k, v, h => by simp [find] at h
  | (a, b) :: l, ho, k, v, h => by
    unfold okAll at ho
    rw [find_cons] at h
    cases hb : okV nb b with
    | false => simp [hb] at ho
    | true =>
      simp only [hb] at ho
      split at h
      · cases h; exact hb
      · exact okAll_spec ho k v h
theorem find_vals : ∀ {l : List (Nat × Nat)} {k j : Nat}, find l k = some j → j ∈ valsL l
  | [], k, j, h => by simp [find] at h
  | (a, b) :: l, k, j, h => by
    rw [find_cons] at h
    split at h
    · cases h; exact List.mem_cons_self
    · exact List.mem_cons_of_mem _ (find_vals h)
theorem vals_inj : ∀ {l : List (Nat × Nat)}, nodupB (valsL l) = true → ∀ k1 k2 j, find l k1 = some j → find l k2 = some j → k1 = k2
  | [], _, k1, k2, j, h, _ => by simp [find] at h
  | (a, b) :: l, hn, k1, k2, j, h1, h2 => by
    have hn' : notIn b (valsL l) = true ∧ nodupB (valsL l) = true := by
      unfold valsL nodupB at hn
      split at hn
      · rename_i h; exact ⟨h, hn⟩
      · cases hn
    rw [find_cons] at h1 h2
    split at h1
    · rename_i e1
      cases h1
      split at h2
      · rename_i e2; exact e1.symm.trans e2
      · exact absurd (find_vals h2) (notIn_spec hn'.1)
    · split at h2
      · cases h2; exact absurd (find_vals h1) (notIn_spec hn'.1)
      · exact vals_inj hn'.2 k1 k2 j h1 h2
def okMs (nb : Nat) : List (Nat × MB) → Bool
  | [] => true
  | (k, m) :: l => match Nat.blt k nb, okM nb m with
    | true, true => okMs nb l
    | _, _ => false
theorem okMs_spec {nb : Nat} : ∀ {l : List (Nat × MB)}, okMs nb l = true → ∀ k m, find l k = some m → k < nb ∧ okM nb m = true
  | [], _, k, v, h => by simp [find] at h
  | (a, b) :: l, ho, k, v, h => by
    unfold okMs at ho
    rw [find_cons] at h
    split at ho
    · rename_i h1 h2
      split at h
      · rename_i e; subst e; cases h; exact ⟨by simpa [Nat.blt_eq] using h1, h2⟩
      · exact okMs_spec ho k v h
    · cases ho
def okRs (nb : Nat) : List (Nat × RO) → Bool
  | [] => true
  | (k, _) :: l => match Nat.blt k nb with
    | true => okRs nb l
    | false => false
theorem okRs_spec {nb : Nat} : ∀ {l : List (Nat × RO)}, okRs nb l = true → ∀ k q, find l k = some q → k < nb
  | [], _, k, v, h => by simp [find] at h
  | (a, b) :: l, ho, k, v, h => by
    unfold okRs at ho
    rw [find_cons] at h
    cases hb : Nat.blt a nb with
    | false => simp [hb] at ho
    | true =>
      simp only [hb] at ho
      split at h
      · rename_i e; subst e; simpa [Nat.blt_eq] using hb
      · exact okRs_spec ho k v h
/-- The renaming fits the caller's state. -/
def fitB (nb : Nat) (lo : List (Nat × Nat)) (lr : List (Nat × SV)) : Bool :=
  match nodupB (valsL lo), valsB nb lo, okAll nb lr with
  | true, true, true => true
  | _, _, _ => false
theorem run_call {P : Program} {g : Nat} (hb : callB P g = true) {caps args : Array Value} {w : World} {dst : Option Tmp} {f : Operand} {as : Array Operand} {ts : Array TypeId} {ty pos after guard} {ev : Operand → Value}
    (hf : ev f = .func (.func g) #[] caps) (ha : as.map ev = args) : (execOp ev ⟨dst, .call ⟨.value f, as, ts⟩, ty, pos, after, guard⟩).run P w = .ok (.enter g (args ++ caps)) w := by
  unfold callB at hb
  cases hfn : P.funcs[g]? with
  | none => simp [hfn] at hb
  | some fn =>
    simp only [hfn, Bool.and_eq_true, bne_iff_ne, ne_eq] at hb
    obtain ⟨h1, h2⟩ := hb
    have hc : ∀ as' : Array Value, (callFunc g as').run P w = .ok (.enter g as') w := by
      intro as'
      show (match P.funcs[g]? with | none => (stuck _ : Sem Next) | some fn => if fn.name == "runtime.NumGoroutine" then pure .numGoroutine else if fn.body.isNone then _ else pure (.enter g as')).run P w = _
      rw [hfn]
      have e1 : (fn.name == "runtime.NumGoroutine") = false := by simpa using h2
      have e2 : fn.body.isNone = false := by cases hb : fn.body <;> simp_all
      simp only [e1, e2, Bool.false_eq_true, if_false]
      rfl
    simp only [execOp, resolve, hf, ha, Deferred.ofValue, Sem.run_bind, Sem.run_pure, Result.andThen_ok, invoke]
    rw [show (#[] : Array Value) ++ args = args by simp]
    exact hc _
section
variable {x : Cx} {ops l : List Oper} {env : List (Nat × SV)} {mem : List (Nat × MB)} {ro : List (Nat × RO)} {nb t : Nat} {K : St → Prop} {ty : TypeId} {pos : String} {after : Array Edge} {g : Option (Nat × Bool)}
/-- **A call by its contract.** -/
theorem call_wp {f : Operand} {as : Array Operand} {ts : Array TypeId} {d : Option Tmp} {gf : FuncId} {caps q aas : List SV} {pre : St} {Z : Type} {ψ : Z → Prop} {res : Z → SV} {post : Z → St} (lo : List (Nat × Nat)) (lr : List (Nat × SV)) (hf : (⟨env, mem, ro, nb⟩ : St).get f = some (.clo gf caps)) (hq : argsS ⟨env, mem, ro, nb⟩ as.toList = some q)
    (T : Trip x.P gf aas pre ψ res post) (haas : renL (Rn.of lo lr) aas = some (q ++ caps)) (hsub : HSub x (Rn.of lo lr) ⟨env, pre.mem, pre.ro, pre.nb⟩ ⟨env, mem, ro, nb⟩) (hfit : fitB nb lo lr = true) {u : Z → SV} {mm : Z → List (Nat × MB)} {rr : Z → List (Nat × RO)} {N : Z → Nat}
    (hu : ∀ z, ren (shR (Rn.of lo lr) pre.nb nb) (res z) = some (u z)) (hmm : ∀ z, renMs (shR (Rn.of lo lr) pre.nb nb) (post z).mem = some (mm z)) (hrr : ∀ z, renRs pre.nb nb (post z).ro = some (rr z)) (hall : ∀ z, allK (post z).mem pre.mem = true)
    (hN : ∀ z, Nat.ble nb (N z) = true) (hok : ∀ z, okV (N z) (u z) = true) (hokm : ∀ z, okMs (N z) (mm z) = true) (hokr : ∀ z, okRs (N z) (rr z) = true) {V : Vl} {a : Act} {w : World} {Q : Exit → Act → World → Prop} {Kk : Act → World → Prop} (hr : Rep x V ⟨env, mem, ro, nb⟩ a w)
    (hk : ∀ z V' w', ψ z → Rep x V' ⟨env, mm z ++ mem, rr z ++ ro, N z⟩ a w' → okV (N z) (u z) = true → Kk (a.put d (den V' (u z))) w') : Oper.wp x.P ⟨d, .call ⟨.value f, as, ts⟩, ty, pos, after, g⟩ a w Kk Q := by
  have hfit' : nodupB (valsL lo) = true ∧ valsB nb lo = true ∧ okAll nb lr = true := by
    unfold fitB at hfit
    split at hfit
    · rename_i h1 h2 h3; exact ⟨h1, h2, h3⟩
    · cases hfit
  obtain ⟨hf1, hf2, hf3⟩ := hfit'
  have hap : Apart x V mem := fun k hk => hr.apart hk
  obtain ⟨F, hF⟩ := hsub.ents hr.ents hap (fun b => x.D0 b ∨ (Dl V mem b ∧ ¬ Dl (V.comp (Rn.of lo lr)) pre.mem b)) (fun F b hb => hb)
  have e1 : a.eval f = .func (.func gf) #[] (denL V caps).toArray := hr.env.get hf
  have e2 : as.map a.eval = (denL V q).toArray := args_arr hr.env hq
  have hrun := run_call (P := x.P) (w := w) (dst := d) (ts := ts) (ty := ty) (pos := pos) (after := after) (guard := g) T.can e1 e2
  have e3 : (denL V q).toArray ++ (denL V caps).toArray = (denL (V.compF (Rn.of lo lr) F) aas).toArray := by
    rw [denL_sub V _ F haas, denL_append]; simp
  rw [e3] at hrun
  unfold Oper.wp
  rw [hrun]
  have hC := T.runs (V.compF (Rn.of lo lr) F) _ w hF.env (fun b hb => by
    rcases hb with hb | hb
    · exact Nat.lt_of_lt_of_le (hr.d0 b hb).1 hr.frame.1
    · obtain ⟨k, hk, rfl⟩ := hb.1
      exact hr.ents.lt k hk) (fun k hk hb => by
    obtain ⟨k', h1, h2, h3⟩ := hsub.lv V F k hk
    rcases hb with hb | hb
    · rw [h3] at hb; exact hap k' h2 hb
    · exact hb.2 ⟨k, hk, rfl⟩)
  exact hC.mono fun e w' ⟨z, V', hz, he, ho, hag, hE', hfr, hfresh⟩ => by
    subst he
    have hsub' : HSub x (Rn.of lo lr) pre ⟨env, mem, ro, nb⟩ := ⟨hsub.mem, hsub.ro, hsub.inj, hsub.one⟩
    have hNz := Nat.le_of_ble_eq_true (hN z)
    have hlt : ∀ k j, (Rn.of lo lr).own k = some j → j < nb := valsB_spec hf2
    have hokr' : ∀ k v, (Rn.of lo lr).ro k = some v → okV nb v = true := okAll_spec hf3
    have hE'' := Ents.call (e' := env) (s := ⟨env, mem, ro, nb⟩) (t' := post z) (N := N z) hr.ents hsub' hE' hag hfr hfresh (vals_inj hf1) hlt hokr' (hmm z) (hrr z) (hall z) (okMs_spec (hokm z)) (okRs_spec (hokr z)) hNz
    have hden := mix_den (V := V) (s := ⟨env, mem, ro, nb⟩) hr.ents hag hlt hokr' (res z) (hu z)
    have key : Rep x (mixV V V' nb pre.nb) ⟨env, mm z ++ mem, rr z ++ ro, N z⟩ a w' := by
      refine ⟨hr.defers, hr.size, fun k v hk => ?_, fun k v hk => okV_mono hNz _ (hr.envOk k v hk), hE'', ?_, fun k hk => ?_, fun k hk => ⟨Nat.lt_of_lt_of_le (hr.pin k hk).1 hNz, (mixV_agr k (hr.pin k hk).1).trans (hr.pin k hk).2⟩, hr.d0⟩
      · rw [den_agree mixV_agr v (hr.envOk k v hk)]; exact hr.env k v hk
      · refine hr.frame.trans hfr fun b hb hd => ?_
        obtain ⟨k, hk, rfl⟩ := hd
        obtain ⟨k', _, h2, h3⟩ := hsub.lv V F k hk
        rw [h3]
        rw [h3] at hb
        rcases hr.own k' h2 with h | h
        · omega
        · exact h
      · obtain ⟨m', hm', ha⟩ := hk
        simp only [find_append] at hm'
        cases hf : find (mm z) k with
        | none =>
          rw [hf] at hm'
          have hkn := (hr.ents.memOk k m' hm').1
          have ag := mixV_agr (V := V) (V' := V') (n := nb) (p := pre.nb) k hkn
          rw [ag.r]
          exact hr.own k ⟨m', hm', (aliveB_agr ag m').1 ha⟩
        | some m'' =>
          rw [hf] at hm'
          cases hm'
          obtain ⟨k0, m0, h1, h2⟩ := renMs_none (hmm z) hf
          have hm0 := h2
          have hinj' : ∀ k1 k2 j, (shR (Rn.of lo lr) pre.nb nb).own k1 = some j → (shR (Rn.of lo lr) pre.nb nb).own k2 = some j → k1 = k2 := by
            intro k1 k2 j h1 h2
            simp only [shR] at h1 h2
            cases b1 : Nat.blt k1 pre.nb <;> cases b2 : Nat.blt k2 pre.nb <;> simp only [b1, b2, Option.some.injEq] at h1 h2
            · have p1 : ¬ k1 < pre.nb := fun h => by have : Nat.blt k1 pre.nb = true := by simpa [Nat.blt_eq] using h
                                                     rw [b1] at this; cases this
              have p2 : ¬ k2 < pre.nb := fun h => by have : Nat.blt k2 pre.nb = true := by simpa [Nat.blt_eq] using h
                                                     rw [b2] at this; cases this
              omega
            · have := hlt k2 j h2; omega
            · have := hlt k1 j h1; omega
            · exact vals_inj hf1 k1 k2 j h1 h2
          have := renMs_find hinj' (hmm z) h1
          rw [h2] at this
          obtain ⟨m1, h3, h4⟩ := this
          rw [hf] at h4
          cases h4
          obtain ⟨g1, g2, g3, g4⟩ := mix_own (V := V) (s := ⟨env, mem, ro, nb⟩) hag hlt h1
          have hlv : Lv V' (post z).mem k0 := by
            refine ⟨m0, hm0, ?_⟩
            cases m0 with
            | cells c => trivial
            | rows es t xs =>
              simp only [renM, Option.some.injEq] at h3
              subst h3
              simp only [aliveB] at ha ⊢
              rw [← g3]; exact ha
            | deck m => trivial
            | dead => simp only [renM, Option.some.injEq] at h3; subst h3; exact ha
          rw [g1]
          rcases hfresh k0 hlv with h | ⟨k', hk', he'⟩
          · exact .inl (Nat.le_trans hr.frame.1 h)
          · obtain ⟨k'', _, h2', h3'⟩ := hsub.lv V F k' hk'
            rw [← he', h3']
            exact hr.own k'' h2'
    have := hk z _ w' hz key (hok z)
    rw [hden] at this
    exact this
theorem q_trip {f : Operand} {as : Array Operand} {ts : Array TypeId} {gf : FuncId} {caps q aas : List SV} {pre : St} {Z : Type} {ψ : Z → Prop} {res : Z → SV} {post : Z → St} (lo : List (Nat × Nat)) (lr : List (Nat × SV)) {u : Z → SV} {mm : Z → List (Nat × MB)} {rr : Z → List (Nat × RO)} {N : Z → Nat} (T : Trip x.P gf aas pre ψ res post) (hg : goes ops env g = some true) (hf : (⟨env, mem, ro, nb⟩ : St).get f = some (.clo gf caps)) (hq : argsS ⟨env, mem, ro, nb⟩ as.toList = some q)
    (haas : renL (Rn.of lo lr) aas = some (q ++ caps)) (hsub : HSub x (Rn.of lo lr) ⟨env, pre.mem, pre.ro, pre.nb⟩ ⟨env, mem, ro, nb⟩) (hfit : fitB nb lo lr = true)
    (hu : ∀ z, ren (shR (Rn.of lo lr) pre.nb nb) (res z) = some (u z)) (hmm : ∀ z, renMs (shR (Rn.of lo lr) pre.nb nb) (post z).mem = some (mm z)) (hrr : ∀ z, renRs pre.nb nb (post z).ro = some (rr z)) (hall : ∀ z, allK (post z).mem pre.mem = true)
    (hNe : ∀ z, nb + ((post z).nb - pre.nb) = N z) (hN : ∀ z, Nat.ble nb (N z) = true) (hok : ∀ z, okV (N z) (u z) = true) (hokm : ∀ z, okMs (N z) (mm z) = true) (hokr : ∀ z, okRs (N z) (rr z) = true) (h1 : Nat.blt t x.n = true)
    (hk : ∀ z, ψ z → Sq x ops l ⟨(t, u z) :: env, mm z ++ mem, rr z ++ ro, N z⟩ K) : Sq x ops (⟨some t, .call ⟨.value f, as, ts⟩, ty, pos, after, g⟩ :: l) ⟨env, mem, ro, nb⟩ K :=
  sq_step (fun s' => ∃ z, ψ z ∧ s' = ⟨(t, u z) :: env, mm z ++ mem, rr z ++ ro, N z⟩) hg (fun hL Q V a w hr => call_wp lo lr hf hq T haas hsub hfit hu hmm hrr hall hN hok hokm hokr hr fun z V' w' hz hr' ho => ⟨_, V', ⟨z, hz, rfl⟩, hr'.put h1 ho⟩) (fun s' ⟨z, hz, e⟩ => by subst e; exact hk z hz)
theorem q_trip' {f : Operand} {as : Array Operand} {ts : Array TypeId} {gf : FuncId} {caps q aas : List SV} {pre : St} {Z : Type} {ψ : Z → Prop} {res : Z → SV} {post : Z → St} (lo : List (Nat × Nat)) (lr : List (Nat × SV)) {u : Z → SV} {mm : Z → List (Nat × MB)} {rr : Z → List (Nat × RO)} {N : Z → Nat} (T : Trip x.P gf aas pre ψ res post) (hg : goes ops env g = some true) (hf : (⟨env, mem, ro, nb⟩ : St).get f = some (.clo gf caps)) (hq : argsS ⟨env, mem, ro, nb⟩ as.toList = some q)
    (haas : renL (Rn.of lo lr) aas = some (q ++ caps)) (hsub : HSub x (Rn.of lo lr) ⟨env, pre.mem, pre.ro, pre.nb⟩ ⟨env, mem, ro, nb⟩) (hfit : fitB nb lo lr = true)
    (hu : ∀ z, ren (shR (Rn.of lo lr) pre.nb nb) (res z) = some (u z)) (hmm : ∀ z, renMs (shR (Rn.of lo lr) pre.nb nb) (post z).mem = some (mm z)) (hrr : ∀ z, renRs pre.nb nb (post z).ro = some (rr z)) (hall : ∀ z, allK (post z).mem pre.mem = true)
    (hNe : ∀ z, nb + ((post z).nb - pre.nb) = N z) (hN : ∀ z, Nat.ble nb (N z) = true) (hok : ∀ z, okV (N z) (u z) = true) (hokm : ∀ z, okMs (N z) (mm z) = true) (hokr : ∀ z, okRs (N z) (rr z) = true)
    (hk : ∀ z, ψ z → Sq x ops l ⟨env, mm z ++ mem, rr z ++ ro, N z⟩ K) : Sq x ops (⟨none, .call ⟨.value f, as, ts⟩, ty, pos, after, g⟩ :: l) ⟨env, mem, ro, nb⟩ K :=
  sq_step (fun s' => ∃ z, ψ z ∧ s' = ⟨env, mm z ++ mem, rr z ++ ro, N z⟩) hg (fun hL Q V a w hr => call_wp lo lr hf hq T haas hsub hfit hu hmm hrr hall hN hok hokm hokr hr fun z V' w' hz hr' ho => ⟨_, V', ⟨z, hz, rfl⟩, hr'⟩) (fun s' ⟨z, hz, e⟩ => by subst e; exact hk z hz)
end
end Go.Proofs.Ytjhjhjmdbhackaa
