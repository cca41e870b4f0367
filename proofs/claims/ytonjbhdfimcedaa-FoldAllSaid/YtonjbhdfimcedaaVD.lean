/- Walks, third framework: a list that is stored into a row of another list. No condition on any program. -/
import Derived.Test.YtonjbhdfimcedaaVC
namespace Go.Proofs.Ytonjbhdfimcedaa
set_option linter.unusedSimpArgs false
set_option linter.unusedSectionVars false
set_option linter.unusedVariables false
open Go.RowKit
universe u

/-! ### Values under new names -/
mutual
def svT (φ : Rid → Rid) : SV → SV
  | .sl r => .sl (φ r)
  | .el r es i f => .el (φ r) es i f
  | .vw r es i n c => .vw (φ r) es i n c
  | .clo g l => .clo g (svTL φ l)
  | .agg l => .agg (svTL φ l)
  | .tup l => .tup (svTL φ l)
  | v => v
def svTL (φ : Rid → Rid) : List SV → List SV
  | [] => []
  | x :: l => svT φ x :: svTL φ l
end
/-- The names are as good as those of before. -/
structure RidOk (V : Vl) (nb : Nat) (φ : Rid → Rid) : Prop where
  val : ∀ r, r.k < nb → V (φ r) = V r
  lt : ∀ r, r.k < nb → (φ r).k < nb
mutual
theorem svT_den {V : Vl} {nb : Nat} {φ : Rid → Rid} (h : RidOk V nb φ) : ∀ v, okV nb v = true → den V (svT φ v) = den V v
  | .int _ _, _ => rfl
  | .tf _, _ => rfl
  | .bool _, _ => rfl
  | .str _, _ => rfl
  | .ptr _ _, _ => rfl
  | .slc _ _ _ _, _ => rfl
  | .undef, _ => rfl
  | .val _, _ => rfl
  | .mp _, _ => rfl
  | .el r _ _ _, hk => by simp only [okV, Nat.blt_eq] at hk; simp only [svT, den, h.val r hk]
  | .sl r, hk => by simp only [okV, Nat.blt_eq] at hk; simp only [svT, den, h.val r hk]
  | .vw r _ _ _ _, hk => by simp only [okV, Nat.blt_eq] at hk; simp only [svT, den, h.val r hk]
  | .clo _ l, hk => by simp only [okV] at hk; simp only [svT, den, svTL_den h l hk]
  | .agg l, hk => by simp only [okV] at hk; simp only [svT, den, svTL_den h l hk]
  | .tup l, hk => by simp only [okV] at hk; simp only [svT, den, svTL_den h l hk]
theorem svTL_den {V : Vl} {nb : Nat} {φ : Rid → Rid} (h : RidOk V nb φ) : ∀ l, okL nb l = true → denL V (svTL φ l) = denL V l
  | [], _ => rfl
  | x :: l, hk => by
    unfold okL at hk
    cases hx : okV nb x with
    | false => simp [hx] at hk
    | true => simp only [hx] at hk; simp only [svTL, denL, svT_den h x hx, svTL_den h l hk]
end
mutual
theorem svT_ok {V : Vl} {nb : Nat} {φ : Rid → Rid} (h : RidOk V nb φ) : ∀ v, okV nb v = true → okV nb (svT φ v) = true
  | .int _ _, _ => rfl
  | .tf _, _ => rfl
  | .bool _, _ => rfl
  | .str _, _ => rfl
  | .ptr _ _, hk => hk
  | .slc _ _ _ _, hk => hk
  | .undef, _ => rfl
  | .val _, _ => rfl
  | .mp _, hk => hk
  | .el r _ _ _, hk => by simp only [okV, Nat.blt_eq] at hk; simp only [svT, okV, Nat.blt_eq]; exact h.lt r hk
  | .sl r, hk => by simp only [okV, Nat.blt_eq] at hk; simp only [svT, okV, Nat.blt_eq]; exact h.lt r hk
  | .vw r _ _ _ _, hk => by simp only [okV, Nat.blt_eq] at hk; simp only [svT, okV, Nat.blt_eq]; exact h.lt r hk
  | .clo _ l, hk => by simp only [okV] at hk; simp only [svT, okV]; exact svTL_ok h l hk
  | .agg l, hk => by simp only [okV] at hk; simp only [svT, okV]; exact svTL_ok h l hk
  | .tup l, hk => by simp only [okV] at hk; simp only [svT, okV]; exact svTL_ok h l hk
theorem svTL_ok {V : Vl} {nb : Nat} {φ : Rid → Rid} (h : RidOk V nb φ) : ∀ l, okL nb l = true → okL nb (svTL φ l) = true
  | [], _ => rfl
  | x :: l, hk => by
    unfold okL at hk
    cases hx : okV nb x with
    | false => simp [hx] at hk
    | true => simp only [hx] at hk; simp only [svTL, okL, svT_ok h x hx, svTL_ok h l hk]
end
def mbT (φ : Rid → Rid) : MB → MB
  | .cells c => .cells (svTL φ c)
  | .deck v => .deck (svT φ v)
  | m => m
def abT (φ : Rid → Rid) : AB → AB
  | .cells c => .cells (svTL φ c)
  | .deck v => .deck (svT φ v)
  | b => b
def envT (φ : Rid → Rid) : List (Nat × SV) → List (Nat × SV)
  | [] => []
  | (t, v) :: l => (t, svT φ v) :: envT φ l
def memT (φ : Rid → Rid) : List (Nat × MB) → List (Nat × MB)
  | [] => []
  | (t, v) :: l => (t, mbT φ v) :: memT φ l
theorem envT_find {φ : Rid → Rid} {t : Nat} : ∀ {l : List (Nat × SV)}, find (envT φ l) t = (find l t).map (svT φ)
  | [] => rfl
  | (k, v) :: l => by simp only [envT, find_cons, envT_find (l := l)]; split <;> rfl
theorem memT_find {φ : Rid → Rid} {t : Nat} : ∀ {l : List (Nat × MB)}, find (memT φ l) t = (find l t).map (mbT φ)
  | [] => rfl
  | (k, v) :: l => by simp only [memT, find_cons, memT_find (l := l)]; split <;> rfl
theorem contB_T {φ : Rid → Rid} {m : MB} {p : Path} : contB (mbT φ m) p = (contB m p).map (abT φ) := by
  cases m with
  | cells c => cases p <;> rfl
  | deck v => cases p <;> rfl
  | mp es => cases p <;> rfl
  | dead => cases p <;> rfl
  | hole b c l =>
    cases p with
    | nil => rfl
    | cons x q =>
      obtain ⟨i, j⟩ := x
      simp only [mbT, contB]
      split
      · rfl
      · cases desc c l ((i, j) :: q) <;> rfl
  | list md c l =>
    simp only [mbT, contB]
    cases desc c l p <;> rfl
theorem cont_T {φ : Rid → Rid} {m : List (Nat × MB)} {r : Rid} : cont (memT φ m) r = (cont m r).map (abT φ) := by
  unfold cont
  rw [memT_find]
  cases find m r.k with
  | none => rfl
  | some b => exact contB_T
theorem abT_kind {φ : Rid → Rid} {b : AB} : kindB (abT φ b) = kindB b := by cases b <;> rfl
theorem abT_live {φ : Rid → Rid} {L : Loc} {b : AB} : liveB L (abT φ b) = liveB L b := by cases b <;> rfl
theorem AtB.T {V : Vl} {w : World} {nb : Nat} {φ : Rid → Rid} (h : RidOk V nb φ) {r : Rid} {b : AB} (hb : okA nb b = true) (ha : AtB V w r b) : AtB V w r (abT φ b) := by
  cases b with
  | cells c =>
    obtain ⟨bb, t, h1, h2⟩ := ha
    exact ⟨bb, t, h1, by rw [svTL_den h c hb]; exact h2⟩
  | deck v =>
    obtain ⟨bb, t, p, a, n, c, h1, h2, h3⟩ := ha
    exact ⟨bb, t, p, a, n, c, h1, by rw [svT_den h v hb]; exact h2, by rw [svT_den h v hb]; exact h3⟩
  | mp es => exact ha
  | list d c l => exact ha
theorem Rep.T {x : Cx} {g : Gx} {V : Vl} {s : St} {a : Act} {w : World} (hr : Rep x g V s a w) {φ : Rid → Rid} (h : RidOk V s.nb φ) : Rep x g V ⟨envT φ s.env, memT φ s.mem, s.nb⟩ a w := by
  have back : ∀ {r : Rid} {b : AB}, cont (memT φ s.mem) r = some b → ∃ b0, cont s.mem r = some b0 ∧ b = abT φ b0 := by
    intro r b hb
    rw [cont_T] at hb
    obtain ⟨b0, h1, h2⟩ := Option.map_eq_some_iff.1 hb
    exact ⟨b0, h1, h2.symm⟩
  refine ⟨hr.defers, hr.size, fun t v hv => ?_, fun t v hv => ?_, ⟨fun k m hk => ?_, fun r b hb => ?_, fun r r' b b' hb hb' hl hl' hk he => ?_, fun r b hb hl hk => ?_⟩, hr.frame, fun b hb => hr.own b ?_, hr.pin, hr.d0⟩
  · rw [envT_find] at hv
    obtain ⟨v0, h1, rfl⟩ := Option.map_eq_some_iff.1 hv
    rw [svT_den h v0 (hr.envOk _ _ h1)]
    exact hr.env t v0 h1
  · rw [envT_find] at hv
    obtain ⟨v0, h1, rfl⟩ := Option.map_eq_some_iff.1 hv
    exact svT_ok h v0 (hr.envOk _ _ h1)
  · rw [memT_find] at hk
    obtain ⟨m0, h1, rfl⟩ := Option.map_eq_some_iff.1 hk
    obtain ⟨h2, h3⟩ := hr.ents.ok _ _ h1
    refine ⟨h2, ?_⟩
    cases m0 with
    | cells c => exact svTL_ok h c h3
    | deck v => exact svT_ok h v h3
    | mp es => rfl
    | list _ _ _ => rfl
    | hole _ _ _ => rfl
    | dead => rfl
  · obtain ⟨b0, h1, rfl⟩ := back hb
    exact (hr.ents.at_ r b0 h1).T h (hr.ents.okc h1).2
  · obtain ⟨b0, h1, rfl⟩ := back hb
    obtain ⟨b0', h1', rfl⟩ := back hb'
    rw [abT_live] at hl hl'
    rw [abT_kind] at hk
    exact hr.ents.sep r r' b0 b0' h1 h1' hl hl' hk he
  · obtain ⟨b0, h1, rfl⟩ := back hb
    rw [abT_live] at hl
    rw [abT_kind] at hk
    exact hr.ents.d0 r b0 h1 hl hk
  · obtain ⟨r, y, h1, h2, h3, h4⟩ := hb
    obtain ⟨b0, h5, rfl⟩ := back h1
    exact ⟨r, b0, h5, by rw [abT_live] at h2; exact h2, by rw [abT_kind] at h3; exact h3, h4⟩

/-! ### The row -/
def ckAt : List CKd → Nat → Nat → List CKd
  | _, _, 0 => []
  | [], _, _ + 1 => []
  | k :: l, 0, n + 1 => k :: ckAt l 0 n
  | _ :: l, f + 1, n + 1 => ckAt l f (n + 1)
theorem ckAt_get : ∀ {l : List CKd} {f n : Nat} {j : Nat} {k : CKd}, (ckAt l f n)[j]? = some k → j < n ∧ l[f + j]? = some k
  | _, _, 0, j, k, h => by simp [ckAt] at h
  | [], _, _ + 1, j, k, h => by simp [ckAt] at h
  | x :: l, 0, n + 1, j, k, h => by
    cases j with
    | zero => simp only [ckAt, List.getElem?_cons_zero] at h; exact ⟨by omega, by simpa using h⟩
    | succ j =>
      simp only [ckAt, List.getElem?_cons_succ] at h
      obtain ⟨h1, h2⟩ := ckAt_get h
      refine ⟨by omega, ?_⟩
      rw [Nat.zero_add] at h2 ⊢
      simpa using h2
  | x :: l, f + 1, n + 1, j, k, h => by
    simp only [ckAt] at h
    obtain ⟨h1, h2⟩ := ckAt_get h
    refine ⟨h1, ?_⟩
    rw [show f + 1 + j = (f + j) + 1 by omega]
    simpa using h2
def mvOf : Nat → List Pr → List (Nat × Nat)
  | _, [] => []
  | f, .own k :: l => (k, f) :: mvOf (f + 1) l
  | f, .no :: l => mvOf (f + 1) l
  | f, .fz _ :: l => mvOf (f + 1) l
theorem mvOf_find : ∀ {l : List Pr} {f k j : Nat}, find (mvOf f l) k = some j → f ≤ j ∧ l[j - f]? = some (.own k)
  | [], f, k, j, h => by simp [mvOf, find] at h
  | p :: l, f, k, j, h => by
    have tail : find (mvOf (f + 1) l) k = some j → f ≤ j ∧ (p :: l)[j - f]? = some (.own k) := by
      intro h
      obtain ⟨h1, h2⟩ := mvOf_find h
      refine ⟨by omega, ?_⟩
      rw [show j - f = (j - (f + 1)) + 1 by omega]
      simpa using h2
    cases p with
    | no => exact tail h
    | fz r => exact tail h
    | own k' =>
      simp only [mvOf, find_cons] at h
      split at h
      · rename_i e; cases h; subst e; exact ⟨Nat.le_refl _, by simp⟩
      · exact tail h
/-- Names behind the store. -/
def ridT (k nb f n i : Nat) (mv : List (Nat × Nat)) : Rid → Rid
  | ⟨k', []⟩ => match Nat.beq k' k with
    | true => ⟨nb, []⟩
    | false => match find mv k' with
      | some d => ⟨nb, [(i, d)]⟩
      | none => ⟨k', []⟩
  | ⟨k', (a, j) :: q⟩ => match Nat.beq k' k with
    | true => match Nat.blt j f with
      | true => ⟨nb, (a, j) :: q⟩
      | false => match Nat.ble (Nat.add f n) j with
        | true => ⟨nb, (a, j) :: q⟩
        | false => ⟨k', (a, j) :: q⟩
    | false => match find mv k' with
      | some d => ⟨nb, (i, d) :: (a, j) :: q⟩
      | none => ⟨k', (a, j) :: q⟩
def pvS (k f n i : Nat) (ps : List Pr) : Pv := fun a j => if a = i ∧ f ≤ j ∧ j < f + n then (ps[j - f]?).bind Pr.rid else some ⟨k, [(a, j)]⟩
def valsS {c : Ty} (V : Vl) (pv : Pv) (zs : List (El c)) : List Value := (List.range (zs.length * wid c)).map fun q => match (tcells c (gt zs (q / wid c)))[q % wid c]? with
  | some t => denP V pv (q / wid c) (q % wid c) t
  | none => Go.undef
theorem valsS_get {c : Ty} {V : Vl} {pv : Pv} {zs : List (El c)} {a j : Nat} {x : El c} {t : TC} (hx : zs[a]? = some x) (hj : (tcells c x)[j]? = some t) : (valsS V pv zs)[a * wid c + j]? = some (denP V pv a j t) := by
  have ha : a < zs.length := (List.getElem?_eq_some_iff.1 hx).1
  have hjw : j < wid c := by have := (List.getElem?_eq_some_iff.1 hj).1; rw [tcells_len] at this; exact this
  have hlt : a * wid c + j < zs.length * wid c := by
    have : (a + 1) * wid c ≤ zs.length * wid c := Nat.mul_le_mul_right _ ha
    rw [Nat.succ_mul] at this; omega
  have e1 : (a * wid c + j) / wid c = a := by rw [Nat.mul_comm, Nat.mul_add_div (by omega), Nat.div_eq_of_lt hjw]; rfl
  have e2 : (a * wid c + j) % wid c = j := by rw [Nat.mul_comm, Nat.mul_add_mod, Nat.mod_eq_of_lt hjw]
  unfold valsS
  rw [List.getElem?_map, List.getElem?_range hlt, Option.map_some, e1, e2, gt_eq hx, hj]
theorem valsS_len {c : Ty} {V : Vl} {pv : Pv} {zs : List (El c)} : (valsS V pv zs).length = zs.length * wid c := by simp [valsS]
theorem valsS_inv {c : Ty} {V : Vl} {pv : Pv} {zs : List (El c)} {q : Nat} {u : Value} (h : (valsS V pv zs)[q]? = some u) : ∃ a x j t, q = a * wid c + j ∧ zs[a]? = some x ∧ (tcells c x)[j]? = some t ∧ u = denP V pv a j t := by
  have hq : q < (valsS V pv zs).length := (List.getElem?_eq_some_iff.1 h).1
  obtain ⟨h1, h2, h3⟩ := flat_idx valsS_len hq
  have hx := List.getElem?_eq_getElem h1
  have hj : q % wid c < (tcells c zs[q / wid c]).length := by rw [tcells_len]; exact h2
  have := valsS_get (V := V) (pv := pv) hx (List.getElem?_eq_getElem hj)
  rw [h3, h] at this
  exact ⟨_, _, _, _, h3.symm, hx, List.getElem?_eq_getElem hj, Option.some.inj this⟩
/-- What the new row's cells are. -/
structure RowS {c : Ty} (mem : List (Nat × MB)) (V : Vl) (vs : List SV) (ts : List TC) (ps : List Pr) (b : Bool) (f : Nat) (x x' : El c) : Prop where
  len : ts.length = vs.length ∧ ps.length = vs.length ∧ f + vs.length ≤ wid c
  cell : ∀ j t, (tcells c x')[j]? = some t → (f ≤ j ∧ j < f + vs.length ∧ ∃ v p b', vs[j - f]? = some v ∧ ps[j - f]? = some p ∧ CellOk mem V v t p b' ∧ (b' = true → b = true)) ∨ (¬ (f ≤ j ∧ j < f + vs.length) ∧ (tcells c x)[j]? = some t)
theorem rowS_of {c : Ty} {mem : List (Nat × MB)} {V : Vl} {vs : List SV} {ts : List TC} {ps : List Pr} {b : Bool} {obs : List Prop} {f : Nat} {x x' : El c} {cs : List TC} {vr : List SV} (hc : cellsT mem (ckAt (cks c) f vs.length) vs = some (ts, ps, b, obs, vr)) (ho : AllP obs) (hr : vr = []) (hs : spliceT (tcells c x) f ts = some cs) (hm : mkc c cs = some x') : RowS mem V vs ts ps b f x x' := by
  obtain ⟨k1, k2, k3, k4, k5⟩ := cellsT_ok (V := V) hc ho
  obtain ⟨g1, g2, g3⟩ := spliceT_get hs
  subst hr
  simp only [List.length_nil, Nat.add_zero] at k3
  rw [tcells_len] at g1
  refine ⟨⟨by omega, by omega, by omega⟩, fun j t hj => ?_⟩
  rw [mkc_cells hm, g3] at hj
  by_cases h : f ≤ j ∧ j < f + ts.length
  · rw [if_pos h] at hj
    obtain ⟨v, p, b', q1, q2, q3, q4⟩ := k5 _ _ hj
    exact .inl ⟨h.1, by omega, v, p, b', q1, q2, q3, q4⟩
  · rw [if_neg h] at hj
    exact .inr ⟨fun hh => h ⟨hh.1, by omega⟩, hj⟩
theorem rowsP_store {c : Ty} {mem : List (Nat × MB)} {V : Vl} {vs : List SV} {ts : List TC} {ps : List Pr} {b : Bool} {f i k : Nat} {l : List (El c)} {x' : El c} {m md : Md} (hm : find mem k = some (.list m c l)) (hi : i < l.length) (R : RowS mem V vs ts ps b f (gt l i) x')
    (hn : nodupB (kills ps) = true) (hk : notIn k (kills ps) = true) (hmm : m = .own ∨ (m = .sh ∧ md = .sh)) (hb : b = true → md = .sh) : RowsP mem V md (k :: kills ps) c (l.set i x') (valsS V (pvS k f vs.length i ps) (l.set i x')) (pvS k f vs.length i ps) := by
  have hni := notIn_spec hk
  have getr : ∀ {a : Nat} {x : El c}, (l.set i x')[a]? = some x → (a = i ∧ x = x') ∨ (a ≠ i ∧ l[a]? = some x) := by
    intro a x h
    by_cases e : a = i
    · subst e; rw [List.getElem?_set_self hi] at h; exact .inl ⟨rfl, (Option.some.inj h).symm⟩
    · rw [List.getElem?_set_ne (Ne.symm e)] at h; exact .inr ⟨e, h⟩
  have pvo : ∀ {a j : Nat}, ¬ (a = i ∧ f ≤ j ∧ j < f + vs.length) → pvS k f vs.length i ps a j = some ⟨k, [(a, j)]⟩ := fun h => if_neg h
  have pvn : ∀ {a j : Nat}, (a = i ∧ f ≤ j ∧ j < f + vs.length) → pvS k f vs.length i ps a j = (ps[j - f]?).bind Pr.rid := fun h => if_pos h
  have oldc : ∀ {a : Nat} {x : El c} {j : Nat} {c1 : Ty} {l1 : List (El c1)}, l[a]? = some x → (tcells c x)[j]? = some (.sl c1 l1) → ¬ (a = i ∧ f ≤ j ∧ j < f + vs.length) →
      (pvS k f vs.length i ps a j = none ∧ l1 = []) ∨ ∃ ρ m c0 l0, pvS k f vs.length i ps a j = some ρ ∧ find mem ρ.k = some (.list m c0 l0) ∧ desc c0 l0 ρ.p = some ⟨c1, l1⟩ ∧ ((m = .own ∧ ρ.k ∈ k :: kills ps) ∨ (m = .sh ∧ (ρ.k ∈ k :: kills ps ∨ ρ.p ≠ []) ∧ md = .sh) ∨ (m = .fz ∧ md = .sh)) := by
    intro a x j c1 l1 hx hj hnot
    refine .inr ⟨⟨k, [(a, j)]⟩, m, c, l, pvo hnot, hm, by simp only [desc, hx, hj], ?_⟩
    rcases hmm with rfl | ⟨rfl, h⟩
    · exact .inl ⟨rfl, List.mem_cons_self⟩
    · exact .inr (.inl ⟨rfl, .inl List.mem_cons_self, h⟩)
  refine ⟨valsS_len, fun a x hx j t hj => valsS_get hx hj, fun a x hx j c1 l1 hj => ?_, fun a j a' j' ρ ρ' q q' c0 l0 e1 e2 e3 e4 e5 => ?_⟩
  · rcases getr hx with ⟨rfl, rfl⟩ | ⟨hne, hx'⟩
    · rcases R.cell j _ hj with ⟨h1, h2, v, p, b', q1, q2, q3, q4⟩ | ⟨h1, h2⟩
      · rw [pvn ⟨rfl, h1, h2⟩, q2, Option.bind_some]
        rcases q3.con c1 l1 rfl with ⟨rfl, rfl⟩ | ⟨ρ, m', c0, l0, g1, g2, g3, g4⟩
        · exact .inl ⟨rfl, rfl⟩
        · refine .inr ⟨ρ, m', c0, l0, g1, g2, g3, ?_⟩
          rcases g4 with ⟨rfl, rfl⟩ | ⟨rfl, rfl, hbb⟩ | ⟨rfl, rfl, hbb⟩
          · exact .inl ⟨rfl, List.mem_cons_of_mem _ (mem_kills q2)⟩
          · exact .inr (.inl ⟨rfl, .inl (List.mem_cons_of_mem _ (mem_kills q2)), hb (q4 hbb)⟩)
          · exact .inr (.inr ⟨rfl, hb (q4 hbb)⟩)
      · exact oldc (gt_at hi) h2 (fun h => h1 h.2)
    · exact oldc hx' hj (fun h => hne h.1)
  · -- two places of one list
    have cas : ∀ {a j : Nat} {ρ : Rid}, pvS k f vs.length i ps a j = some ρ → (ρ = ⟨k, [(a, j)]⟩ ∧ ¬ (a = i ∧ f ≤ j ∧ j < f + vs.length)) ∨ (a = i ∧ f ≤ j ∧ j < f + vs.length ∧ ∃ p, ps[j - f]? = some p ∧ p.rid = some ρ) := by
      intro a j ρ h
      by_cases hc : a = i ∧ f ≤ j ∧ j < f + vs.length
      · rw [pvn hc] at h
        obtain ⟨p, h1, h2⟩ := Option.bind_eq_some_iff.1 h
        exact .inr ⟨hc.1, hc.2.1, hc.2.2, p, h1, h2⟩
      · rw [pvo hc] at h; cases h; exact .inl ⟨rfl, hc⟩
    -- a new cell's list
    have newp : ∀ {j : Nat} {p : Pr} {ρ0 : Rid}, f ≤ j → j < f + vs.length → ps[j - f]? = some p → p.rid = some ρ0 → (p = .own ρ0.k ∧ ρ0.k ∈ kills ps) ∨ ∃ c0 l0, find mem ρ0.k = some (.list .fz c0 l0) := by
      intro j p ρ0 h1 h2 hp hr
      have hjw : j < (tcells c x').length := by rw [tcells_len]; have := R.len.2.2; omega
      rcases R.cell j _ (List.getElem?_eq_getElem hjw) with ⟨_, _, v, p', b', q1, q2, q3, q4⟩ | ⟨h3, _⟩
      · rw [hp] at q2
        cases q2
        cases ht : (tcells c x')[j] with
        | sl c1 l1 =>
          rw [ht] at q3
          rcases q3.con c1 l1 rfl with ⟨rfl, _⟩ | ⟨ρ1, m1, c0', l0', g1, g2, g3, g4⟩
          · cases hr
          · rw [hr] at g1
            cases g1
            rcases g4 with ⟨_, h⟩ | ⟨_, h, _⟩ | ⟨h, _⟩
            · exact .inl ⟨h, mem_kills (by rw [hp, h])⟩
            · exact .inl ⟨h, mem_kills (by rw [hp, h])⟩
            · subst h; exact .inr ⟨_, _, g2⟩
        | int k n => rw [ht] at q3; have := q3.no rfl; subst this; cases hr
        | bool b => rw [ht] at q3; have := q3.no rfl; subst this; cases hr
        | str s => rw [ht] at q3; have := q3.no rfl; subst this; cases hr
      · exact absurd ⟨h1, h2⟩ h3
    have nofz : ∀ {r : Rid}, find mem r.k = some (.list .own c0 l0) → ¬ ∃ c0 l0, find mem r.k = some (.list .fz c0 l0) := by
      rintro r h ⟨c2, l2, h2⟩
      rw [h] at h2; cases h2
    rcases cas e1 with ⟨rfl, n1⟩ | ⟨rfl, a1, a2, p, a3, a4⟩ <;> rcases cas e2 with ⟨rfl, n2⟩ | ⟨rfl, b1, b2, p', b3, b4⟩
    · simp only [List.cons_append, List.nil_append, List.cons.injEq, Prod.mk.injEq] at e5
      exact e5.1
    · exfalso
      rcases newp b1 b2 b3 b4 with ⟨_, h⟩ | h
      · rw [← e4] at h; exact hni h
      · exact nofz (r := ρ') (by rw [← e4]; exact e3) h
    · exfalso
      rcases newp a1 a2 a3 a4 with ⟨_, h⟩ | h
      · rw [e4] at h; exact hni h
      · exact nofz e3 h
    · refine ⟨rfl, ?_⟩
      rcases newp a1 a2 a3 a4 with ⟨h, _⟩ | h
      · rcases newp b1 b2 b3 b4 with ⟨h', _⟩ | h'
        · rw [← e4] at h'
          rw [h] at a3
          rw [h'] at b3
          have := nodup_kills hn a3 b3
          omega
        · exact absurd h' (nofz (by rw [← e4]; exact e3))
      · exact absurd h (nofz e3)
theorem ridT_ok {c : Ty} {mem : List (Nat × MB)} {V : Vl} {ps : List Pr} {f n i k nb : Nat} (hl : ps.length = n) (hk : k < nb) (hlt : ∀ k1 ∈ kills ps, k1 < nb) : RidOk (V.ext nb (nlF V (pvS k f n i ps) (V ⟨k, []⟩))) (nb + 1) (ridT k nb f n i (mvOf f ps)) := by
  have vn : ∀ p, V.ext nb (nlF V (pvS k f n i ps) (V ⟨k, []⟩)) ⟨nb, p⟩ = nlF V (pvS k f n i ps) (V ⟨k, []⟩) p := fun p => Vl.ext_new
  have vo : ∀ {r : Rid}, r.k ≠ nb → V.ext nb (nlF V (pvS k f n i ps) (V ⟨k, []⟩)) r = V r := fun h => if_neg h
  have mvn : ∀ {k' d : Nat}, find (mvOf f ps) k' = some d → k' ≠ nb := fun h e => by have := hlt _ (mem_kills (mvOf_find h).2); omega
  have mvk : ∀ {k' d : Nat}, find (mvOf f ps) k' = some d → k' ≠ nb → ∀ q, V.ext nb (nlF V (pvS k f n i ps) (V ⟨k, []⟩)) ⟨nb, (i, d) :: q⟩ = V.ext nb (nlF V (pvS k f n i ps) (V ⟨k, []⟩)) ⟨k', q⟩ := by
    intro k' d h hne q
    obtain ⟨h1, h2⟩ := mvOf_find h
    have hlt := (List.getElem?_eq_some_iff.1 h2).1
    rw [vn, vo (by exact hne)]
    simp only [nlF, pvL]
    unfold pvS
    rw [if_pos ⟨rfl, h1, by omega⟩, h2]
    rfl
  have key : ∀ r : Rid, r.k < nb + 1 → V.ext nb (nlF V (pvS k f n i ps) (V ⟨k, []⟩)) (ridT k nb f n i (mvOf f ps) r) = V.ext nb (nlF V (pvS k f n i ps) (V ⟨k, []⟩)) r ∧ (ridT k nb f n i (mvOf f ps) r).k < nb + 1 := by
    rintro ⟨k', p⟩ hr
    have kne : k' = k → k' ≠ nb := fun e h => by omega
    cases p with
    | nil =>
      simp only [ridT]
      split
      · rename_i e
        have e := Nat.eq_of_beq_eq_true e
        subst e
        exact ⟨by rw [vn, vo (by exact kne rfl)]; rfl, Nat.lt_succ_self _⟩
      · split
        · rename_i d hd
          exact ⟨mvk hd (mvn hd) [], Nat.lt_succ_self _⟩
        · exact ⟨rfl, hr⟩
    | cons aj q =>
      obtain ⟨a, j⟩ := aj
      have same : k' = k → ¬ (f ≤ j ∧ j < f + n) → V.ext nb (nlF V (pvS k f n i ps) (V ⟨k, []⟩)) ⟨nb, (a, j) :: q⟩ = V.ext nb (nlF V (pvS k f n i ps) (V ⟨k, []⟩)) ⟨k', (a, j) :: q⟩ := by
        intro e h
        subst e
        rw [vn, vo (by exact kne rfl)]
        simp only [nlF, pvL, pvS]
        rw [if_neg (fun hh => h hh.2)]
        rfl
      simp only [ridT]
      split
      · rename_i e
        have e := Nat.eq_of_beq_eq_true e
        split
        · rename_i h1
          rw [Nat.blt_eq] at h1
          exact ⟨same e (by omega), Nat.lt_succ_self _⟩
        · split
          · rename_i h1
            have h1 := Nat.le_of_ble_eq_true h1
            exact ⟨same e (by simp only [Nat.add_eq] at h1; omega), Nat.lt_succ_self _⟩
          · exact ⟨rfl, hr⟩
      · split
        · rename_i d hd
          exact ⟨mvk hd (mvn hd) _, Nat.lt_succ_self _⟩
        · exact ⟨rfl, hr⟩
  exact ⟨fun r hr => (key r hr).1, fun r hr => (key r hr).2⟩

/-! ### The step -/
structure StoreD where
  k : Nat
  i : Nat
  f : Nat
  n : Nat
  ks : List Nat
  mv : List (Nat × Nat)
  m : MB
  obs : List Prop
def mdS : Md → Bool → Option Md
  | .own, b => some (match b with | true => .sh | false => .own)
  | .sh, _ => some .sh
  | _, _ => none
/-- A store of cells, of which some are lists, into a row of a list of one's own. -/
def storeD (L : Lay) (s : St) (T : TypeId) (p y : Operand) : Option StoreD := match s.get p, s.get y, find L T with
  | some (.el ⟨k, []⟩ es i f), some u, some ti => match find s.mem k, cellsO u with
    | some (.list m c l), some vs => match cellsT s.mem (ckAt (cks c) f vs.length) vs, Nat.beq vs.length ti.zs.length, Nat.beq es (wid c) with
      | some (ts, ps, b, obs, []), true, true => match spliceT (tcells c (gt l i)) f ts, nodupB (kills ps), notIn k (kills ps), mdS m b with
        | some cs, true, true, some md => match mkc c cs with
          | some x => some ⟨k, i, f, vs.length, kills ps, mvOf f ps, .list md c (l.set i x), (i < l.length) :: obs⟩
          | none => none
        | _, _, _, _ => none
      | _, _, _ => none
    | _, _ => none
  | _, _, _ => none
section
variable {x : Cx} {s : St} (hL : LayOk x.P x.L)
include hL
theorem step_storeL {T : TypeId} {p y : Operand} {ty : TypeId} {pos : String} {after : Array Edge} {gd : Option (Nat × Bool)} {d : StoreD} (h : storeD x.L s T p y = some d) (ho : AllP d.obs) :
    StepTo x s ⟨none, .store T p y, ty, pos, after, gd⟩ ⟨envT (ridT d.k s.nb d.f d.n d.i d.mv) s.env, memT (ridT d.k s.nb d.f d.n d.i d.mv) ((s.nb, d.m) :: killL (d.k :: d.ks) s.mem), s.nb + 1⟩ :=
  ⟨fun g V a w Q hr => by
    unfold storeD at h
    split at h
    · rename_i k es i f u ti hp hy ht
      split at h
      · rename_i m c l vs hm hvs
        split at h
        · rename_i ts ps b obs hct h2 hes0
          split at h
          · rename_i cs1 md hsp hnd hni hmd
            split at h
            · rename_i x' hmk
              simp only [Option.some.injEq] at h
              subst h
              obtain ⟨hi, ho'⟩ := ho
              have hes : es = wid c := Nat.eq_of_beq_eq_true hes0
              have R := rowS_of (V := V) hct ho' rfl hsp hmk
              have hmm : m = .own ∨ (m = .sh ∧ md = .sh) := by
                unfold mdS at hmd
                split at hmd
                · exact .inl rfl
                · cases hmd; exact .inr ⟨rfl, rfl⟩
                · cases hmd
              have hbb : b = true → md = .sh := by
                intro e
                subst e
                unfold mdS at hmd
                split at hmd
                · simpa using hmd.symm
                · cases hmd; rfl
                · cases hmd
              have hmd' : md = .own ∨ md = .sh := by
                unfold mdS at hmd
                split at hmd
                · cases b <;> simp only [Option.some.injEq] at hmd <;> subst hmd <;> simp
                · cases hmd; exact .inr rfl
                · cases hmd
              have RP := rowsP_store (k := k) hm hi R hnd hni hmm hbb
              have hkn := (hr.ents.ok _ _ hm).1
              have hksn : ∀ k1 ∈ kills ps, k1 < s.nb := by
                intro k1 hk1
                obtain ⟨j, hj⟩ := kills_mem hk1
                have hjl : j < ps.length := (List.getElem?_eq_some_iff.1 hj).1
                have hl2 := R.len
                have hjw : f + j < (tcells c x').length := by rw [tcells_len]; omega
                rcases R.cell (f + j) _ (List.getElem?_eq_getElem hjw) with ⟨_, _, v, p', b', q1, q2, q3, q4⟩ | ⟨h3, _⟩
                · rw [Nat.add_sub_cancel_left, hj] at q2
                  cases q2
                  cases hte : (tcells c x')[f + j] with
                  | sl c1 l1 =>
                    rw [hte] at q3
                    rcases q3.con c1 l1 rfl with ⟨h, _⟩ | ⟨ρ1, m1, c0', l0', g1, g2, g3, g4⟩
                    · cases h
                    · cases g1; exact (hr.ents.ok _ _ g2).1
                  | int k n => rw [hte] at q3; have := q3.no rfl; cases this
                  | bool b => rw [hte] at q3; have := q3.no rfl; cases this
                  | str s => rw [hte] at q3; have := q3.no rfl; cases this
                · exact absurd ⟨by omega, by omega⟩ h3
              have hmdo : m.at [] = .own := by rcases hmm with rfl | ⟨rfl, _⟩ <;> rfl
              have hc : cont s.mem ⟨k, []⟩ = some (.list .own c l) := cont_iff.2 ⟨_, hm, by simp only [contB, desc, hmdo]⟩
              have hat := hr.ents.at_ _ _ hc
              obtain ⟨ad, a1, a2, _⟩ := row_cells hat hi
              obtain ⟨q1, q2, q3, q4⟩ := hat
              obtain ⟨ad', cs, tt, b1, b2, b3, b4, b5⟩ : ∃ a cs t, (V ⟨k, []⟩).a = some a ∧ a.spot = none ∧ w.heap[a.block]? = some (.cells cs t) ∧ a.off + (V ⟨k, []⟩).cap * wid c ≤ cs.size ∧ (V ⟨k, []⟩).cap ≤ maxLen := by
                rcases q3 rfl with h | h
                · omega
                · exact h
              rw [a1] at b1
              cases b1
              obtain ⟨ii, g1, g2, g3, _⟩ := (hL.at ht).info
              have hz : (denL V vs).length = ti.zero.length := by rw [denL_length, TI.zero_len]; exact Nat.eq_of_beq_eq_true h2
              have hfw := R.len.2.2
              have hfit : ad.off + (i * wid c + f) + vs.length ≤ cs.size := by
                have : (i + 1) * wid c ≤ (V ⟨k, []⟩).cap * wid c := Nat.mul_le_mul_right _ (by omega)
                rw [Nat.add_mul] at this
                omega
              let cs' := (cs.toList.take (ad.off + (i * wid c + f)) ++ denL V vs ++ cs.toList.drop (ad.off + (i * wid c + f) + (denL V vs).length)).toArray
              have hone : ∀ v ∈ denL V vs, v.oneCell' = true := by
                intro v hv
                rw [denL_eq] at hv
                obtain ⟨v0, hv0, rfl⟩ := List.mem_map.1 hv
                obtain ⟨j, hj⟩ := List.mem_iff_getElem?.1 hv0
                have hjl : j < vs.length := (List.getElem?_eq_some_iff.1 hj).1
                have hjw : f + j < (tcells c x').length := by rw [tcells_len]; omega
                rcases R.cell (f + j) _ (List.getElem?_eq_getElem hjw) with ⟨_, _, v1, p', b', y1, y2, y3, y4⟩ | ⟨h3, _⟩
                · rw [Nat.add_sub_cancel_left, hj] at y1
                  cases y1
                  exact oneC_den _ y3.one
                · exact absurd ⟨by omega, by omega⟩ h3
              have run : (Instr.storeAt T (den V (.el ⟨k, []⟩ es i f)) (den V u)).run x.P w = .ok () (w.setRow ad.block cs') := by
                simp only [Instr.storeAt, den, Loc.at, a1, Option.map_some, Instr.sureAddr, Sem.run_bind, Sem.run_pure, Result.andThen_ok, storeVar, r_sizeOf g1, cellsO_den hvs]
                rw [if_neg (by simp [hz, g2])]
                have := run_storeCells_at (P := x.P) ad.block (ad.off + (i * wid c + f)) tt (denL V vs) 0 cs w b3 (by rw [denL_length]; omega) hone
                simp only [Nat.add_zero] at this
                rw [hes]
                exact this
              unfold Oper.wp
              have : (execOp a.eval ⟨none, .store T p y, ty, pos, after, gd⟩).run x.P w = .ok .skip (w.setRow ad.block cs') := by
                simp only [execOp, hr.env.get hp, hr.env.get hy, Sem.run_bind, run, Result.andThen_ok, Sem.run_pure]
              rw [this]
              have hbl : (V ⟨k, []⟩).b = ad.block := by unfold Loc.b; rw [a1]
              have hsz : cs'.size = cs.size := by
                simp only [cs', List.size_toArray, List.length_append, List.length_take, List.length_drop, Array.length_toList, denL_length]
                omega
              have hcell : ∀ o, cs'[o]? = if ad.off + (i * wid c + f) ≤ o ∧ o < ad.off + (i * wid c + f) + vs.length then (vs[o - (ad.off + (i * wid c + f))]?).map (den V) else cs[o]? := by
                intro o
                simp only [cs', List.getElem?_toArray]
                by_cases h1 : o < ad.off + (i * wid c + f)
                · rw [if_neg (by omega), List.append_assoc, List.getElem?_append_left (by simp; omega), List.getElem?_take, if_pos h1]; simp
                · by_cases h2 : o < ad.off + (i * wid c + f) + vs.length
                  · rw [if_pos ⟨by omega, h2⟩, List.append_assoc, List.getElem?_append_right (by simp; omega), List.getElem?_append_left (by simp [denL_length]; omega), denL_get']
                    congr 2
                    simp; omega
                  · rw [if_neg (by omega), List.getElem?_append_right (by simp [denL_length]; omega), List.getElem?_drop]
                    simp only [Array.getElem?_toList]
                    congr 1
                    simp [denL_length]; omega
              have hh := setRow_heap w ad.block cs cs' tt (0, 0) b3
              have other : ∀ b, b ≠ ad.block → (w.setRow ad.block cs').heap[b]? = w.heap[b]? := fun b hb => setRow_other w ad.block b _ hb
              have hrep := hr.list (w' := w.setRow ad.block cs') (md := md) hmd' RP (fun k1 hk1 => by
                  rcases List.mem_cons.1 hk1 with rfl | h
                  · exact hkn
                  · exact hksn k1 h) (L := V ⟨k, []⟩) (by rw [List.length_set]; exact q1) (by rw [List.length_set]; exact q2)
                (.inr ⟨ad, cs', tt, a1, a2, hh, by rw [hsz]; exact b4, b5⟩)
                (fun q v hv => by
                  refine ⟨ad, a1, a2, cell_of hh ?_⟩
                  obtain ⟨aa, xx, j, t, rfl, hx, hj, rfl⟩ := valsS_inv hv
                  have hjw : j < wid c := by have := (List.getElem?_eq_some_iff.1 hj).1; rw [tcells_len] at this; exact this
                  have oldv : ∀ {x0 : El c}, l[aa]? = some x0 → (tcells c x0)[j]? = some t → ¬ (aa = i ∧ f ≤ j ∧ j < f + vs.length) → cs'[ad.off + (aa * wid c + j)]? = some (denP V (pvS k f vs.length i ps) aa j t) := by
                    intro x0 hx0 hj0 hnot
                    obtain ⟨ad2, y1, y2, y3⟩ := q4 aa x0 hx0 j t hj0
                    rw [a1] at y1
                    cases y1
                    simp only [World.cell?, b3, Option.isSome_none, Bool.false_eq_true, if_false] at y3
                    rw [hcell, if_neg, y3]
                    · congr 1
                      cases t <;> simp only [denT, denP]
                      have e0 : pvS k f vs.length i ps aa j = some ⟨k, [(aa, j)]⟩ := if_neg hnot
                      simp only [pvL, e0, Rid.ch, List.nil_append, List.append_nil]
                    · intro hin
                      apply hnot
                      have e1 : aa = i := by
                        rcases Nat.lt_trichotomy aa i with hlt | heq | hgt
                        · have : (aa + 1) * wid c ≤ i * wid c := Nat.mul_le_mul_right _ hlt
                          rw [Nat.add_mul] at this; omega
                        · exact heq
                        · have : (i + 1) * wid c ≤ aa * wid c := Nat.mul_le_mul_right _ hgt
                          rw [Nat.add_mul] at this; omega
                      subst e1
                      exact ⟨rfl, by omega, by omega⟩
                  by_cases e : aa = i
                  · subst e
                    rw [List.getElem?_set_self hi] at hx
                    cases hx
                    rcases R.cell j t hj with ⟨h1, h2, v, p', b', y1, y2, y3, y4⟩ | ⟨h1, h2⟩
                    · rw [hcell, if_pos (by omega), show ad.off + (aa * wid c + j) - (ad.off + (aa * wid c + f)) = j - f by omega, y1, Option.map_some, y3.val]
                      congr 1
                      have e2 : pvS k f vs.length aa ps aa j = p'.rid := by unfold pvS; rw [if_pos ⟨rfl, h1, h2⟩, y2]; rfl
                      cases t <;> simp only [denP, pvL, e2]
                      cases p' <;> simp [Pr.rid]
                    · exact oldv (gt_at hi) h2 (fun h => h1 h.2)
                  · rw [List.getElem?_set_ne (Ne.symm e)] at hx
                    exact oldv hx hj (fun h => e h.1))
                (some k) (fun hcap => ⟨List.mem_cons_self, _, hc, hcap, rfl, rfl⟩) (fun kb h => by cases h; exact List.mem_cons_self)
                (fun aa j ρ kb e1 e2 e3 => by
                  cases e2
                  unfold pvS at e1
                  split at e1
                  · rename_i hc3
                    exfalso
                    obtain ⟨p', z1, z2⟩ := Option.bind_eq_some_iff.1 e1
                    have hjw : j < (tcells c x').length := by rw [tcells_len]; omega
                    rcases R.cell j _ (List.getElem?_eq_getElem hjw) with ⟨_, _, v, p2, b', y1, y2, y3, y4⟩ | ⟨h3, _⟩
                    · rw [z1] at y2
                      cases y2
                      cases hte : (tcells c x')[j] with
                      | sl c1 l1 =>
                        rw [hte] at y3
                        rcases y3.con c1 l1 rfl with ⟨rfl, _⟩ | ⟨ρ1, m1, c0', l0', g1, g2, g3, g4⟩
                        · cases z2
                        · rw [z2] at g1
                          cases g1
                          rcases g4 with ⟨_, h⟩ | ⟨_, h, _⟩ | ⟨h, _⟩
                          · have := mem_kills (by rw [z1, h] : ps[j - f]? = some (.own ρ.k))
                            rw [e3] at this
                            exact notIn_spec hni this
                          · have := mem_kills (by rw [z1, h] : ps[j - f]? = some (.own ρ.k))
                            rw [e3] at this
                            exact notIn_spec hni this
                          · subst h
                            rw [e3, hm] at g2
                            cases g2
                            rcases hmm with h | ⟨h, _⟩ <;> cases h
                      | int k n => rw [hte] at y3; have := y3.no rfl; subst this; cases z2
                      | bool b => rw [hte] at y3; have := y3.no rfl; subst this; cases z2
                      | str s => rw [hte] at y3; have := y3.no rfl; subst this; cases z2
                    · exact h3 hc3.2
                  · cases e1; intro h; cases h)
                (by rw [setRow_size]; exact Nat.le_refl _) (fun b hb hne => other b (by
                  have := hne k rfl (by omega)
                  rw [hbl] at this
                  exact this)) ⟨rfl, rfl, rfl⟩
              exact ⟨_, hrep.T (ridT_ok (c := c) (mem := s.mem) (f := f) (i := i) (R.len.2.1) hkn hksn)⟩
            · cases h
          · cases h
        · cases h
      · cases h
    · cases h⟩
omit hL
end
def envTP {β : Type u} (φ : Rid → Rid) : List (Nat × SV) → (List (Nat × SV) → β) → β
  | [], f => f []
  | (t, v) :: l, f => plV (svT φ v) fun v => envTP φ l fun r => f ((t, v) :: r)
theorem envTP_eq {β : Type u} {φ : Rid → Rid} : ∀ (l : List (Nat × SV)) (f : List (Nat × SV) → β), envTP φ l f = f (envT φ l)
  | [], f => rfl
  | (t, v) :: l, f => by simp only [envTP, plV_eq, envTP_eq l, envT]
def memTP {β : Type u} (φ : Rid → Rid) : List (Nat × MB) → (List (Nat × MB) → β) → β
  | [], f => f []
  | (t, m) :: l, f => match m with
    | .cells c => plL (svTL φ c) fun c => memTP φ l fun r => f ((t, .cells c) :: r)
    | .deck v => plV (svT φ v) fun v => memTP φ l fun r => f ((t, .deck v) :: r)
    | m => memTP φ l fun r => f ((t, m) :: r)
theorem memTP_eq {β : Type u} {φ : Rid → Rid} : ∀ (l : List (Nat × MB)) (f : List (Nat × MB) → β), memTP φ l f = f (memT φ l)
  | [], f => rfl
  | (t, m) :: l, f => by cases m <;> simp only [memTP, plV_eq, plL_eq, memTP_eq l, memT, mbT]
def storeR (d : StoreD) (s : St) (f : St → Res) : Res := match d, s with
  | ⟨k, i, fc, n, ks, mv, m, _⟩, ⟨env, mem, nb⟩ => killP (k :: ks) mem fun mem1 => memTP (ridT k nb fc n i mv) ((nb, m) :: mem1) fun mem2 => envTP (ridT k nb fc n i mv) env fun env2 => nx nb fun nb' => f ⟨env2, mem2, nb'⟩
section
variable {x : Cx} {Q : Exit → St → Prop} {obs : List Prop} {K : List Kf} {all l : List Oper} {env : List (Nat × SV)} {mem : List (Nat × MB)} {nb : Nat}
/-- A list is stored into a row of a list of one's own. -/
theorem g_storeL (hL : LayOk x.P x.L) (fuel : Nat) {T : TypeId} {p y : Operand} {ty : TypeId} {pos : String} {after : Array Edge} {gd : Option (Nat × Bool)} {d : StoreD} (ho : AllP obs) (hg : goes all env gd = some true) (hd : storeD x.L ⟨env, mem, nb⟩ T p y = some d) (ho2 : AllP d.obs)
    (hk : Good x Q (storeR d ⟨env, mem, nb⟩ fun s' => run x fuel [] (.ops all l) K s')) : Good x Q (.ops obs all (⟨none, .store T p y, ty, pos, after, gd⟩ :: l) K ⟨env, mem, nb⟩) := by
  obtain ⟨k, i, fc, n, ks, mv, m, ob⟩ := d
  simp only [storeR, killP_eq, memTP_eq, envTP_eq, nx_eq] at hk
  exact ⟨ho, sq_step hg (step_storeL hL hd ho2) (run_ok hL hk).2⟩
end
/-- A contract that says less. -/
theorem Trip.sub {P : Program} {g : Nat} {as : List SV} {pre : St} {Z : Type} {ψ : Z → Prop} {res res' : Z → SV} {post post' : Z → St} (T : Trip P g as pre ψ res post)
    (h : ∀ z, ψ z → SubG pre.nb ⟨[(0, res' z)], (post' z).mem, (post' z).nb⟩ ⟨[(0, res z)], (post z).mem, (post z).nb⟩) : Trip P g as pre ψ res' post' := by
  refine ⟨T.can, fun V D0 w hE hD => (T.runs V D0 w hE hD).mono fun e w' ⟨z, V1, hz, he, hok, hnb, hag, hE1, hfr, hown⟩ => ?_⟩
  have hT := SubG_ok (x := ⟨P, [], 1, pre.nb⟩) (h z hz)
  have hr1 : Rep ⟨P, [], 1, pre.nb⟩ ⟨w, D0, Dl V pre.mem, V⟩ V1 ⟨[(0, res z)], (post z).mem, (post z).nb⟩ { tmps := #[den V1 (res z)], defers := [] } w' := by
    refine ⟨rfl, rfl, fun t v hv => ?_, fun t v hv => ?_, hE1.env, hfr, hown, ⟨hnb, hag⟩, fun b hb => ⟨hD b hb, ?_⟩⟩
    · simp only [find_cons] at hv
      split at hv
      · rename_i e; subst e; cases hv; rfl
      · simp [find] at hv
    · simp only [find_cons] at hv
      split at hv
      · cases hv; exact hok
      · simp [find] at hv
    · rintro ⟨r, y, hc, hl, hk, rfl⟩
      exact hE.d0 r y hc hl (by rw [hk]; simp) hb
  obtain ⟨V2, h2⟩ := hT.run _ V1 _ w' hr1
  have hres : den V2 (res' z) = den V1 (res z) := by
    have := h2.env 0 (res' z) (by simp [find])
    simpa using this.symm
  exact ⟨z, V2, hz, by rw [hres]; exact he, h2.envOk 0 (res' z) (by simp [find]), h2.pin.1, h2.pin.2, h2.ents.env, h2.frame, h2.own⟩
end Go.Proofs.Ytonjbhdfimcedaa
