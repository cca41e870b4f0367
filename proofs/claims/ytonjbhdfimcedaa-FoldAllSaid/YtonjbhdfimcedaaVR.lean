/- Walks: lists that are parted (the first rows are one's own with all within, the rest shares), and lists with a hole (of a row nothing is claimed of what lies within). No condition on any program. -/
import Derived.Test.YtonjbhdfimcedaaVD
import Derived.Lib.AppendZeros
namespace Go.Proofs.Ytonjbhdfimcedaa
set_option linter.unusedSimpArgs false
set_option linter.unusedSectionVars false
set_option linter.unusedVariables false
open Go.RowKit

/-- Rows laid in a new list, whatever is claimed of what lies within. -/
structure RowsG (mem : List (Nat × MB)) (V : Vl) (B : MB) (ks : List Nat) (c : Ty) (zs : List (El c)) (vals : List Value) (pv : Pv) : Prop where
  okB : ∀ nb, okM nb B = true
  root : ∀ b', contB B [] = some b' → b' = .list .own c zs
  val : ∀ a x, zs[a]? = some x → ∀ j t, (tcells c x)[j]? = some t → vals[a * wid c + j]? = some (denP V pv a j t)
  inner : ∀ a j q b', contB B ((a, j) :: q) = some b' → (pv a j = none ∧ ∃ c2 d, b' = .list d c2 [] ∧ d ≠ .tmp) ∨ ∃ ρ d d' c2 l2, pv a j = some ρ ∧ b' = .list d' c2 l2 ∧ cont mem ⟨ρ.k, ρ.p ++ q⟩ = some (.list d c2 l2) ∧ d.le d' ∧ (d' = .own → d = .own) ∧ d' ≠ .tmp ∧ (ρ.k ∈ ks ∨ (d ≠ .own ∧ d' ≠ .own))
  inj : ∀ a j q b1 a' j' q' b2 ρ ρ', contB B ((a, j) :: q) = some b1 → contB B ((a', j') :: q') = some b2 → kindB b1 = .own → pv a j = some ρ → pv a' j' = some ρ' → ρ.k = ρ'.k → ρ.p ++ q = ρ'.p ++ q' → a = a' ∧ j = j'
theorem Rep.listG {x : Cx} {g : Gx} {V : Vl} {s : St} {act : Act} {w w' : World} (h : Rep x g V s act w) {B : MB} {ks : List Nat} {c : Ty} {zs : List (El c)} {vals : List Value} {pv : Pv} (R : RowsG s.mem V B ks c zs vals pv) (hks : ∀ k ∈ ks, k < s.nb)
    {L : Loc} (hlen : L.len = zs.length) (hcap : zs.length ≤ L.cap) (hown : OwnAt w' L (wid c)) (hcells : ∀ j u, vals[j]? = some u → ∃ a, L.a = some a ∧ a.spot = none ∧ w'.cell? ⟨a.block, a.off + j, none⟩ = some u)
    (rs : Option Nat) (hrs : L.cap ≠ 0 → match rs with | none => w.heap.size ≤ L.b | some kb => kb ∈ ks ∧ ∃ b0, cont s.mem ⟨kb, []⟩ = some b0 ∧ liveB (V ⟨kb, []⟩) b0 ∧ kindB b0 = .own ∧ L.b = (V ⟨kb, []⟩).b)
    (hrk : ∀ kb, rs = some kb → kb ∈ ks) (hrp : ∀ a j ρ kb, pv a j = some ρ → rs = some kb → ρ.k = kb → ρ.p ≠ [])
    (hsz : w.heap.size ≤ w'.heap.size) (same : ∀ b, b < w.heap.size → (∀ kb, rs = some kb → L.cap ≠ 0 → b ≠ (V ⟨kb, []⟩).b) → w'.heap[b]? = w.heap[b]?) (io : SIO w w') :
    Rep x g (V.ext s.nb (nlF V pv L)) ⟨s.env, (s.nb, B) :: killL ks s.mem, s.nb + 1⟩ act w' := by
  have ag : AgrB s.nb (V.ext s.nb (nlF V pv L)) V := Vl.ext_agr
  have vn : ∀ p, V.ext s.nb (nlF V pv L) ⟨s.nb, p⟩ = nlF V pv L p := fun p => Vl.ext_new
  have inner := R.inner
  have root := R.root
  have dead : ∀ a j q c2 d, pv a j = none → d ≠ Kd.tmp → ¬ liveB (V.ext s.nb (nlF V pv L) ⟨s.nb, (a, j) :: q⟩) (.list d c2 []) := by
    intro a j q c2 d e1 hd hl
    rw [vn] at hl
    simp only [nlF, pvL, e1] at hl
    cases d with
    | own => exact hl rfl
    | fz => exact hl rfl
    | tmp => exact hd rfl
  have locq : ∀ a j q ρ, pv a j = some ρ → V.ext s.nb (nlF V pv L) ⟨s.nb, (a, j) :: q⟩ = V ⟨ρ.k, ρ.p ++ q⟩ := by
    intro a j q ρ e1
    rw [vn]
    simp only [nlF, pvL, e1]
  have liveq : ∀ {L : Loc} {d d' : Kd} {c2 : Ty} {l2 : List (El c2)}, l2.length ≤ L.cap → (d' = .own → d = .own) → liveB L (.list d' c2 l2) → liveB L (.list d c2 l2) := by
    intro L d d' c2 l2 hc hd hl
    have pos : l2 ≠ [] → L.cap ≠ 0 := by
      intro hne e
      have := List.length_pos_iff.2 hne
      omega
    cases d' with
    | own => have := hd rfl; subst this; exact hl
    | fz => cases d with
      | own => exact pos hl
      | fz => exact hl
      | tmp => exact hl
    | tmp => cases d with
      | own => exact pos hl
      | fz => exact hl
      | tmp => exact hl
  have sameR : ∀ r b, cont s.mem r = some b → liveB (V r) b → (∀ kb, rs = some kb → r ≠ ⟨kb, []⟩) → w'.heap[(V r).b]? = w.heap[(V r).b]? := by
    intro r b hc hl hne
    refine same _ (h.ents.lt hc hl) fun kb hk hcp he => ?_
    have hr := hrs hcp
    rw [hk] at hr
    obtain ⟨_, b0, c1, c2, c3, _⟩ := hr
    exact hne kb hk (h.ents.sep ⟨kb, []⟩ r b0 b c1 hc c2 hl c3 he.symm).symm
  have hE := h.ents.turn (w' := w') (m := B) (ks := ks) s.env ag (R.okB _) hks (fun p => match p with | [] => rs.map fun k => ⟨k, []⟩ | (a, j) :: q => (pv a j).map fun ρ => ⟨ρ.k, ρ.p ++ q⟩)
    (fun r b hc hl hk => sameR r b hc hl fun kb hkb e => by
      subst e
      exact hk (hrk kb hkb))
    (fun p b' hb hl => by
      cases p with
      | nil =>
        have hb' := root b' hb
        subst hb'
        rw [vn] at hl ⊢
        have hr := hrs hl
        cases rs with
        | none => exact .inl ⟨rfl, hr⟩
        | some kb =>
          obtain ⟨k1, b0, k2, k3, k4, k5⟩ := hr
          exact .inr ⟨⟨kb, []⟩, b0, rfl, k2, k3, k5, by rw [k4]; trivial, .inl k1⟩
      | cons aj q =>
        obtain ⟨a, j⟩ := aj
        rcases inner a j q b' hb with ⟨e1, c2, d, rfl, hd⟩ | ⟨ρ, d, d', c2, l2, e1, rfl, e2, e3, e4, e5, e6⟩
        · exact absurd hl (dead a j q c2 d e1 hd)
        · refine .inr ⟨⟨ρ.k, ρ.p ++ q⟩, _, by simp only [e1, Option.map_some], e2, ?_, by rw [locq a j q ρ e1], e3, e6⟩
          rw [locq a j q ρ e1] at hl
          exact liveq (h.ents.at_ _ _ e2).2.1 e4 hl)
    (fun p1 p2 b1 b2 h1 h2 l1 l2 hk he => by
      cases p1 with
      | nil =>
        cases p2 with
        | nil => rfl
        | cons aj q =>
          exfalso
          obtain ⟨a, j⟩ := aj
          rcases inner a j q b2 h2 with ⟨e1, c2, d, rfl, hd⟩ | ⟨ρ, d, d', c2, l2', e1, rfl, e2, e3, e4, e5, e6⟩
          · exact dead a j q c2 d e1 hd l2
          · simp only [e1, Option.map_some] at he
            cases hrs' : rs with
            | none => rw [hrs'] at he; cases he
            | some kb =>
              rw [hrs'] at he
              simp only [Option.map_some, Option.some.injEq, Rid.mk.injEq] at he
              exact hrp a j ρ kb e1 hrs' he.1.symm (List.append_eq_nil_iff.1 he.2.symm).1
      | cons aj q =>
        obtain ⟨a, j⟩ := aj
        rcases inner a j q b1 h1 with ⟨e1, c2, d, rfl, hd⟩ | ⟨ρ, d, d', c2, l2', e1, rfl, e2, e3, e4, e5, e6⟩
        · exact absurd l1 (dead a j q c2 d e1 hd)
        · simp only [e1, Option.map_some] at he
          cases p2 with
          | nil =>
            exfalso
            cases hrs' : rs with
            | none => rw [hrs'] at he; cases he
            | some kb =>
              rw [hrs'] at he
              simp only [Option.map_some, Option.some.injEq, Rid.mk.injEq] at he
              exact hrp a j ρ kb e1 hrs' he.1 (List.append_eq_nil_iff.1 he.2).1
          | cons aj2 q2 =>
            obtain ⟨a2, j2⟩ := aj2
            rcases inner a2 j2 q2 b2 h2 with ⟨f1, c2', d2, rfl, hd2⟩ | ⟨ρ2, d2, d2', c2', l2'', f1, rfl, f2, f3, f4, f5, f6⟩
            · exact absurd l2 (dead a2 j2 q2 c2' d2 f1 hd2)
            · simp only [f1, Option.map_some, Option.some.injEq, Rid.mk.injEq] at he
              obtain ⟨rfl, rfl⟩ := R.inj a j q _ a2 j2 q2 _ ρ ρ2 h1 h2 hk e1 f1 he.1 he.2
              rw [e1] at f1
              cases f1
              rw [List.append_cancel_left he.2])
    (fun p b' hb => by
      cases p with
      | nil =>
        have hb' := root b' hb
        subst hb'
        refine ⟨by rw [vn]; exact hlen, by rw [vn]; exact hcap, fun _ => by rw [vn]; exact hown, fun i y hy j t ht => ?_⟩
        have := R.val i y hy j t ht
        obtain ⟨a, g1, g2, g3⟩ := hcells _ _ this
        refine ⟨a, by rw [vn]; exact g1, g2, ?_⟩
        rw [g3]
        cases t <;> simp only [denP, denT, Rid.ch, List.nil_append]
        rw [vn]; rfl
      | cons aj q =>
        obtain ⟨a, j⟩ := aj
        rcases inner a j q b' hb with ⟨e1, c2, d, rfl, hd⟩ | ⟨ρ, d, d', c2, l2, e1, rfl, e2, e3, e4, e5, e6⟩
        · have : V.ext s.nb (nlF V pv L) ⟨s.nb, (a, j) :: q⟩ = ⟨none, 0, 0⟩ := by rw [vn]; simp only [nlF, pvL, e1]
          refine ⟨by rw [this]; rfl, by rw [this]; exact Nat.le_refl _, fun _ => by rw [this]; exact .inl rfl, fun i y hy => by simp at hy⟩
        · refine (h.ents.at_ _ _ e2).move (locq a j q ρ e1) (fun i j' => ?_) e4 (fun hl => sameR _ _ e2 hl fun kb hkb e => ?_)
          · simp only [Rid.ch, List.cons_append]
            rw [locq a j _ ρ e1, List.append_assoc]
          · simp only [Rid.mk.injEq] at e
            exact hrp a j ρ kb e1 hkb e.1 (List.append_eq_nil_iff.1 e.2).1) h.d0w
  refine h.turn hsz ag hks hE io (fun b hb hd => same b hb fun kb hk hcp he => ?_) (fun p b' hb hl hk => ?_)
  · have hr := hrs hcp
    rw [hk] at hr
    obtain ⟨_, b0, c1, c2, c3, _⟩ := hr
    exact hd ⟨⟨kb, []⟩, b0, c1, c2, c3, he.symm⟩
  · cases p with
    | nil =>
      have hb' := root b' hb
      subst hb'
      rw [vn] at hl ⊢
      have hr := hrs hl
      cases rs with
      | none => exact .inl hr
      | some kb =>
        obtain ⟨k1, b0, k2, k3, k4, k5⟩ := hr
        exact .inr ⟨⟨kb, []⟩, b0, k2, k3, k4, k5.symm⟩
    | cons aj q =>
      obtain ⟨a, j⟩ := aj
      rcases inner a j q b' hb with ⟨e1, c2, d, rfl, hd⟩ | ⟨ρ, d, d', c2, l2, e1, rfl, e2, e3, e4, e5, e6⟩
      · exact absurd hl (dead a j q c2 d e1 hd)
      · rw [locq a j q ρ e1] at hl ⊢
        exact .inr ⟨_, _, e2, liveq (h.ents.at_ _ _ e2).2.1 e4 hl, e4 hk, rfl⟩
section
variable {x : Cx} {s : St} (hL : LayOk x.P x.L)
include hL
/-- A list is stored into a cell of a row. -/
theorem store_listG {g : Gx} {V : Vl} {a : Act} {w : World} (hr : Rep x g V s a w) {T : TypeId} {p y : Operand} {k es i f : Nat} {c c1 : Ty} {l : List (El c)} {l1 : List (El c1)} {x' : El c} {ρ0 : Rid} {ti : TI} {B : MB} {pr : Pr}
    (hp : s.get p = some (.el ⟨k, []⟩ es i f)) (hy : s.get y = some (.sl ρ0)) (ht : find x.L T = some ti) (hz1 : ti.zs.length = 1) (hes : es = wid c) (hc : cont s.mem ⟨k, []⟩ = some (.list .own c l)) (hi : i < l.length) (hf : f < wid c)
    (hx : ∀ j, (tcells c x')[j]? = if j = f then some (.sl c1 l1) else (tcells c (gt l i))[j]?) (hpr : pr.rid = some ρ0) (hkn : k < s.nb) (hksn : ∀ k1 ∈ kills [pr], k1 < s.nb) (hρ : ρ0.k = k → ρ0.p ≠ [])
    (RG : RowsG s.mem V B (k :: kills [pr]) c (l.set i x') (valsS V (pvS k f 1 i [pr]) (l.set i x')) (pvS k f 1 i [pr])) (ty : TypeId) (pos : String) (after : Array Edge) (gd : Option (Nat × Bool)) :
    ∃ w', (execOp a.eval ⟨none, .store T p y, ty, pos, after, gd⟩).run x.P w = .ok .skip w' ∧ Rep x g (V.ext s.nb (nlF V (pvS k f 1 i [pr]) (V ⟨k, []⟩))) ⟨s.env, (s.nb, B) :: killL (k :: kills [pr]) s.mem, s.nb + 1⟩ a w' := by
  have hat := hr.ents.at_ _ _ hc
  obtain ⟨ad, a1, a2, _⟩ := row_cells hat hi
  obtain ⟨q1, q2, q3, q4⟩ := hat
  obtain ⟨ad', cs, tt, b1, b2, b3, b4, b5⟩ : ∃ a cs t, (V ⟨k, []⟩).a = some a ∧ a.spot = none ∧ w.heap[a.block]? = some (.cells cs t) ∧ a.off + (V ⟨k, []⟩).cap * wid c ≤ cs.size ∧ (V ⟨k, []⟩).cap ≤ maxLen := by
    rcases q3 rfl with h | h
    · omega
    · exact h
  rw [a1] at b1
  cases b1
  obtain ⟨ii, g1, g2, g3, _⟩ := (hL.at ht).info
  have hz : ((denL V [.sl ρ0])).length = ti.zero.length := by rw [denL_length, TI.zero_len, hz1]; rfl
  have hfit : ad.off + (i * wid c + f) + 1 ≤ cs.size := by
    have : (i + 1) * wid c ≤ (V ⟨k, []⟩).cap * wid c := Nat.mul_le_mul_right _ (by omega)
    rw [Nat.add_mul] at this
    omega
  let cs' := (cs.toList.take (ad.off + (i * wid c + f)) ++ denL V [.sl ρ0] ++ cs.toList.drop (ad.off + (i * wid c + f) + (denL V [.sl ρ0]).length)).toArray
  have hone : ∀ v ∈ denL V [.sl ρ0], v.oneCell' = true := by
    intro v hv
    simp only [denL, List.mem_singleton] at hv
    subst hv; rfl
  have run : (Instr.storeAt T (den V (.el ⟨k, []⟩ es i f)) (den V (.sl ρ0))).run x.P w = .ok () (w.setRow ad.block cs') := by
    have hvs : cellsO (.sl ρ0) = some [.sl ρ0] := rfl
    have hcd := cellsO_den (V := V) hvs
    generalize den V (.sl ρ0) = u0 at hcd ⊢
    simp only [Instr.storeAt, den, Loc.at, a1, Option.map_some, Instr.sureAddr, Sem.run_bind, Sem.run_pure, Result.andThen_ok, storeVar, r_sizeOf g1, hcd]
    rw [if_neg (by simp [hz, g2])]
    have := run_storeCells_at (P := x.P) ad.block (ad.off + (i * wid c + f)) tt (denL V [.sl ρ0]) 0 cs w b3 (by rw [denL_length]; simp; omega) hone
    simp only [Nat.add_zero] at this
    rw [hes]
    exact this
  refine ⟨w.setRow ad.block cs', ?_, ?_⟩
  · simp only [execOp, hr.env.get hp, hr.env.get hy, Sem.run_bind, run, Result.andThen_ok, Sem.run_pure]
  have hbl : (V ⟨k, []⟩).b = ad.block := by unfold Loc.b; rw [a1]
  have hsz : cs'.size = cs.size := by
    simp only [cs', List.size_toArray, List.length_append, List.length_take, List.length_drop, Array.length_toList, denL_length, List.length_cons, List.length_nil]
    omega
  have hcell : ∀ o, cs'[o]? = if o = ad.off + (i * wid c + f) then some (den V (.sl ρ0)) else cs[o]? := by
    intro o
    simp only [cs', List.getElem?_toArray]
    by_cases h1 : o < ad.off + (i * wid c + f)
    · rw [if_neg (by omega), List.append_assoc, List.getElem?_append_left (by simp; omega), List.getElem?_take, if_pos h1]; simp
    · by_cases h2 : o = ad.off + (i * wid c + f)
      · rw [if_pos h2, List.append_assoc, List.getElem?_append_right (by simp; omega), List.getElem?_append_left (by simp [denL_length]; omega), denL_get']
        have : o - (List.take (ad.off + (i * wid c + f)) cs.toList).length = 0 := by simp; omega
        rw [this]; rfl
      · rw [if_neg h2, List.getElem?_append_right (by simp [denL_length]; omega), List.getElem?_drop]
        simp only [Array.getElem?_toList]
        congr 1
        simp [denL_length]; omega
  have hh := setRow_heap w ad.block cs cs' tt (0, 0) b3
  have other : ∀ b, b ≠ ad.block → (w.setRow ad.block cs').heap[b]? = w.heap[b]? := fun b hb => setRow_other w ad.block b _ hb
  have pvo : ∀ {a j : Nat}, ¬ (a = i ∧ j = f) → pvS k f 1 i [pr] a j = some ⟨k, [(a, j)]⟩ := fun h => if_neg (fun h2 => h ⟨h2.1, by omega⟩)
  have pvn : pvS k f 1 i [pr] i f = some ρ0 := by
    unfold pvS
    rw [if_pos ⟨rfl, Nat.le_refl _, by omega⟩, Nat.sub_self]
    exact hpr
  exact hr.listG (w' := w.setRow ad.block cs') (B := B) RG (fun k1 hk1 => by
      rcases List.mem_cons.1 hk1 with rfl | h
      · exact hkn
      · exact hksn k1 h) (L := V ⟨k, []⟩) (by rw [List.length_set]; exact q1) (by rw [List.length_set]; exact q2)
    (.inr ⟨ad, cs', tt, a1, a2, hh, by rw [hsz]; exact b4, b5⟩)
    (fun q v hv => by
      refine ⟨ad, a1, a2, cell_of hh ?_⟩
      obtain ⟨aa, xx, j, t, rfl, hxx, hj, rfl⟩ := valsS_inv hv
      have hjw : j < wid c := by have := (List.getElem?_eq_some_iff.1 hj).1; rw [tcells_len] at this; exact this
      have oldv : ∀ {x0 : El c}, l[aa]? = some x0 → (tcells c x0)[j]? = some t → ¬ (aa = i ∧ j = f) → cs'[ad.off + (aa * wid c + j)]? = some (denP V (pvS k f 1 i [pr]) aa j t) := by
        intro x0 hx0 hj0 hnot
        obtain ⟨ad2, y1, y2, y3⟩ := q4 aa x0 hx0 j t hj0
        rw [a1] at y1
        cases y1
        simp only [World.cell?, b3, Option.isSome_none, Bool.false_eq_true, if_false] at y3
        rw [hcell, if_neg, y3]
        · congr 1
          cases t <;> simp only [denT, denP]
          simp only [pvL, pvo hnot, Rid.ch, List.nil_append, List.append_nil]
        · intro hin
          apply hnot
          have e1 : aa = i := by
            rcases Nat.lt_trichotomy aa i with hlt | heq | hgt
            · have : (aa + 1) * wid c ≤ i * wid c := Nat.mul_le_mul_right _ hlt
              rw [Nat.add_mul] at this; omega
            · exact heq
            · have : (i + 1) * wid c ≤ aa * wid c := Nat.mul_le_mul_right _ hgt
              rw [Nat.add_mul] at this; omega
          subst e1
          exact ⟨rfl, by omega⟩
      by_cases e : aa = i
      · subst e
        rw [List.getElem?_set_self hi] at hxx
        cases hxx
        by_cases ej : j = f
        · subst ej
          rw [hx, if_pos rfl] at hj
          cases hj
          rw [hcell, if_pos rfl]
          simp only [den, denP, pvL, pvn, List.append_nil]
        · rw [hx, if_neg ej] at hj
          exact oldv (gt_at hi) hj (fun h => ej h.2)
      · rw [List.getElem?_set_ne (Ne.symm e)] at hxx
        exact oldv hxx hj (fun h => e h.1))
    (some k) (fun hcap => ⟨List.mem_cons_self, _, hc, hcap, rfl, rfl⟩) (fun kb h => by cases h; exact List.mem_cons_self)
    (fun aa j ρ kb e1 e2 e3 => by
      cases e2
      by_cases h : aa = i ∧ j = f
      · obtain ⟨rfl, rfl⟩ := h
        rw [pvn] at e1
        cases e1
        exact hρ e3
      · rw [pvo h] at e1; cases e1; intro h; cases h)
    (by rw [setRow_size]; exact Nat.le_refl _) (fun b hb hne => other b (by
      have := hne k rfl (by omega)
      rw [hbl] at this
      exact this)) ⟨rfl, rfl, rfl⟩
omit hL
end
/-- No cell from 'lo' to ahead of the number holds a list. -/
def noSlR (l : List CKd) (lo : Nat) : Nat → Bool
  | 0 => true
  | h + 1 => match Nat.ble lo h with
    | true => match nthC l h with
      | some (.sl _) => false
      | _ => noSlR l lo h
    | false => true
theorem noSlR_spec {l : List CKd} {lo : Nat} : ∀ {h : Nat}, noSlR l lo h = true → ∀ j, lo ≤ j → j < h → ∀ c, l[j]? ≠ some (.sl c)
  | 0, _, j, _, h2, _ => absurd h2 (Nat.not_lt_zero _)
  | h + 1, e, j, h1, h2, c => by
    unfold noSlR at e
    split at e
    · rename_i hb
      split at e
      · cases e
      · rename_i hn
        rcases Nat.lt_succ_iff_lt_or_eq.1 h2 with h3 | rfl
        · exact noSlR_spec e j h1 h3 c
        · intro hh; rw [nthC_eq] at hn; exact hn c hh
    · rename_i hb
      have : ¬ lo ≤ h := fun hh => by rw [Nat.ble_eq_true_of_le hh] at hb; cases hb
      omega
/-- A list of one's own is stored into a row of a list that is parted. -/
def storeP (L : Lay) (s : St) (T : TypeId) (p y : Operand) : Option StoreD := match s.get p, s.get y, find L T with
  | some (.el ⟨k, []⟩ es i f), some (.sl ⟨k1, []⟩), some ti => match find s.mem k, find s.mem k1, Nat.beq 1 ti.zs.length with
    | some (.list (.pt n f1) c l), some (.list .own c1 l1), true => match Nat.beq es (wid c), Nat.beq k k1, noSlR (cks c) f1 f, Nat.ble f1 f with
      | true, false, true, true => match spliceT (tcells c (gt l i)) f [.sl c1 l1] with
        | some cs => match mkc c cs with
          | some x => some ⟨k, i, f, 1, [k1], [(k1, f)], .list (.pt n (Nat.add f 1)) c (l.set i x), [i = n, i < l.length]⟩
          | none => none
        | _ => none
      | _, _, _, _ => none
    | _, _, _ => none
  | _, _, _ => none
/-- A list within a row of a list of one's own is stored into another row. -/
def storeM (L : Lay) (s : St) (T : TypeId) (p y : Operand) : Option StoreD := match s.get p, s.get y, find L T with
  | some (.el ⟨k, []⟩ es i f), some (.sl ⟨k1, [(b, f1)]⟩), some ti => match find s.mem k, Nat.beq 1 ti.zs.length, Nat.beq k k1, Nat.beq f f1 with
    | some (.list .own c l), true, true, true => match Nat.beq es (wid c), nthC (tcells c (gt l b)) f with
      | true, some (.sl c1 l1) => match spliceT (tcells c (gt l i)) f [.sl c1 l1] with
        | some cs => match mkc c cs with
          | some x => some ⟨k, i, f, 1, [], [], .hole b c (l.set i x), [i < l.length, b < l.length, i ≠ b]⟩
          | none => none
        | _ => none
      | _, _ => none
    | _, _, _, _ => none
  | _, _, _ => none
theorem splice_one {l r : List TC} {f : Nat} {t : TC} (h : spliceT l f [t] = some r) : f < l.length ∧ ∀ j, r[j]? = if j = f then some t else l[j]? := by
  obtain ⟨g1, g2, g3⟩ := spliceT_get h
  simp only [List.length_cons, List.length_nil, Nat.zero_add] at g1 g3
  refine ⟨by omega, fun j => ?_⟩
  rw [g3]
  by_cases e : j = f
  · subst e; rw [if_pos ⟨Nat.le_refl _, by omega⟩, if_pos rfl, Nat.sub_self]; rfl
  · rw [if_neg (by omega), if_neg e]
theorem ck_sl {c : Ty} {x : El c} {j : Nat} {c1 : Ty} {l1 : List (El c1)} (h : (tcells c x)[j]? = some (.sl c1 l1)) : (cks c)[j]? = some (.sl c1) := by
  rw [← tcells_ck c x, List.getElem?_map, h]; rfl
theorem desc_cons {c : Ty} {l : List (El c)} {i j : Nat} {q : Path} {y : (c : Ty) × List (El c)} (h : desc c l ((i, j) :: q) = some y) : ∃ x c1 l1, l[i]? = some x ∧ (tcells c x)[j]? = some (.sl c1 l1) ∧ desc c1 l1 q = some y := by
  simp only [desc] at h
  split at h
  · cases h
  · rename_i x hx
    split at h
    · rename_i c1 l1 hj; exact ⟨x, c1, l1, hx, hj, h⟩
    · cases h
theorem desc_mk {c : Ty} {l : List (El c)} {i j : Nat} {q : Path} {y : (c : Ty) × List (El c)} {x : El c} {c1 : Ty} {l1 : List (El c1)} (hx : l[i]? = some x) (hj : (tcells c x)[j]? = some (.sl c1 l1)) (h : desc c1 l1 q = some y) : desc c l ((i, j) :: q) = some y := by
  simp only [desc, hx, hj]; exact h
section
variable {x : Cx} {s : St} (hL : LayOk x.P x.L)
include hL
theorem step_storeP {T : TypeId} {p y : Operand} {ty : TypeId} {pos : String} {after : Array Edge} {gd : Option (Nat × Bool)} {d : StoreD} (h : storeP x.L s T p y = some d) (ho : AllP d.obs) :
    StepTo x s ⟨none, .store T p y, ty, pos, after, gd⟩ ⟨envT (ridT d.k s.nb d.f d.n d.i d.mv) s.env, memT (ridT d.k s.nb d.f d.n d.i d.mv) ((s.nb, d.m) :: killL (d.k :: d.ks) s.mem), s.nb + 1⟩ :=
  ⟨fun g V a w Q hr => by
    unfold storeP at h
    split at h
    · rename_i k es i f k1 ti hp hy ht
      split at h
      · rename_i n f1 c l c1 l1 hm hm1 hz1
        split at h
        · rename_i hes hkk hns hfb
          split at h
          · rename_i cs hsp
            split at h
            · rename_i x' hmk
              simp only [Option.some.injEq] at h
              subst h
              obtain ⟨rfl, hi, _⟩ := ho
              have hff := Nat.le_of_ble_eq_true hfb
              have hne : k ≠ k1 := Nat.ne_of_beq_eq_false hkk
              obtain ⟨hf, hx⟩ := splice_one hsp
              rw [← mkc_cells hmk] at hx
              rw [tcells_len] at hf
              have hc : cont s.mem ⟨k, []⟩ = some (.list .own c l) := cont_iff.2 ⟨_, hm, rfl⟩
              have pvo : ∀ {a j : Nat}, ¬ (a = i ∧ j = f) → pvS k f 1 i [.own k1] a j = some ⟨k, [(a, j)]⟩ := fun h => if_neg (fun h2 => h ⟨h2.1, by omega⟩)
              have pvn : pvS k f 1 i [.own k1] i f = some ⟨k1, []⟩ := by
                unfold pvS
                rw [if_pos ⟨rfl, Nat.le_refl _, by omega⟩, Nat.sub_self]; rfl
              have RG : RowsG s.mem V (.list (.pt i (Nat.add f 1)) c (l.set i x')) (k :: kills [.own k1]) c (l.set i x') (valsS V (pvS k f 1 i [.own k1]) (l.set i x')) (pvS k f 1 i [.own k1]) := by
                refine ⟨fun _ => rfl, fun b' hb => ?_, fun a x hx j t hj => valsS_get hx hj, fun a j q b' hb => ?_, fun a j q b1 a' j' q' b2 ρ ρ' h1 h2 hk e1 e2 e3 e4 => ?_⟩
                · simp only [contB, desc, Option.some.injEq, Md.at] at hb; exact hb.symm
                · simp only [contB] at hb
                  split at hb
                  · rename_i c2 l2 hd
                    cases hb
                    right
                    obtain ⟨x0, c3, l3, hx0, hj0, hd0⟩ := desc_cons hd
                    by_cases e : a = i ∧ j = f
                    · obtain ⟨rfl, rfl⟩ := e
                      rw [List.getElem?_set_self hi] at hx0
                      cases hx0
                      rw [hx, if_pos rfl] at hj0
                      cases hj0
                      refine ⟨⟨k1, []⟩, .own, .own, c2, l2, pvn, ?_, cont_iff.2 ⟨_, hm1, ?_⟩, trivial, fun h => h, by simp, .inl (List.mem_cons_of_mem _ (List.mem_singleton_self _))⟩
                      · exact congrArg (fun d => AB.list d c2 l2) (if_pos (.inr ⟨rfl, Nat.lt_succ_self _⟩))
                      · simp only [contB, List.nil_append, hd0, Md.at]
                    · have hold : ∃ xo, l[a]? = some xo ∧ (tcells c xo)[j]? = some (.sl c3 l3) := by
                        by_cases ea : a = i
                        · subst ea
                          rw [List.getElem?_set_self hi] at hx0
                          cases hx0
                          rw [hx, if_neg (fun h => e ⟨rfl, h⟩)] at hj0
                          exact ⟨_, gt_at hi, hj0⟩
                        · rw [List.getElem?_set_ne (Ne.symm ea)] at hx0
                          exact ⟨_, hx0, hj0⟩
                      obtain ⟨xo, ho1, ho2⟩ := hold
                      have hdo := desc_mk ho1 ho2 hd0
                      have key : (a < i ∨ (a = i ∧ j < Nat.add f 1)) ↔ (a < i ∨ (a = i ∧ j < f1)) := by
                        constructor
                        · rintro (h | ⟨rfl, h⟩)
                          · exact .inl h
                          · right
                            refine ⟨rfl, ?_⟩
                            have h' : j < f + 1 := h
                            have hjf : j ≠ f := fun h => e ⟨rfl, h⟩
                            by_cases hlo : f1 ≤ j
                            · exact absurd (ck_sl ho2) (noSlR_spec hns j hlo (by omega) c3)
                            · omega
                        · rintro (h | ⟨rfl, h⟩)
                          · exact .inl h
                          · exact .inr ⟨rfl, show j < f + 1 by omega⟩
                      refine ⟨⟨k, [(a, j)]⟩, (Md.pt i f1).at ((a, j) :: q), (Md.pt i (Nat.add f 1)).at ((a, j) :: q), c2, l2, pvo e, rfl, cont_iff.2 ⟨_, hm, ?_⟩, ?_, ?_, ?_, .inl List.mem_cons_self⟩
                      · simp only [contB, List.cons_append, List.nil_append, hdo]
                      · simp only [Md.at]
                        by_cases hA : a < i ∨ (a = i ∧ j < f1)
                        · rw [if_pos hA]; trivial
                        · rw [if_neg hA, if_neg (fun h => hA (key.1 h))]; trivial
                      · simp only [Md.at]
                        by_cases hA : a < i ∨ (a = i ∧ j < f1)
                        · rw [if_pos hA]; exact fun _ => rfl
                        · rw [if_neg hA, if_neg (fun h => hA (key.1 h))]; exact fun h => h
                      · simp only [Md.at]; split <;> simp
                  · cases hb
                · by_cases g1 : a = i ∧ j = f <;> by_cases g2 : a' = i ∧ j' = f
                  · exact ⟨g1.1.trans g2.1.symm, g1.2.trans g2.2.symm⟩
                  · obtain ⟨rfl, rfl⟩ := g1
                    rw [pvn] at e1; cases e1
                    rw [pvo g2] at e2; cases e2
                    exact absurd e3.symm hne
                  · obtain ⟨rfl, rfl⟩ := g2
                    rw [pvn] at e2; cases e2
                    rw [pvo g1] at e1; cases e1
                    exact absurd e3 hne
                  · rw [pvo g1] at e1; cases e1
                    rw [pvo g2] at e2; cases e2
                    simp only [List.cons_append, List.nil_append, List.cons.injEq, Prod.mk.injEq] at e4
                    exact e4.1
              have hk1 := (hr.ents.ok _ _ hm1).1
              have hkn := (hr.ents.ok _ _ hm).1
              have hksn : ∀ k2 ∈ kills [.own k1], k2 < s.nb := fun k2 h2 => by
                have : k2 = k1 := by simpa [kills] using h2
                subst this; exact hk1
              obtain ⟨w', hrun, hrep⟩ := store_listG hL hr (pr := .own k1) hp hy ht (Nat.eq_of_beq_eq_true hz1).symm (Nat.eq_of_beq_eq_true hes) hc hi hf hx rfl hkn hksn (fun h => absurd h.symm hne) RG ty pos after gd
              unfold Oper.wp
              rw [hrun]
              exact ⟨_, hrep.T (ridT_ok (c := c) (mem := s.mem) (f := f) (n := 1) (i := i) (ps := [.own k1]) rfl hkn hksn)⟩
            · cases h
          · cases h
        · cases h
      · cases h
    · cases h⟩
theorem step_storeM {T : TypeId} {p y : Operand} {ty : TypeId} {pos : String} {after : Array Edge} {gd : Option (Nat × Bool)} {d : StoreD} (h : storeM x.L s T p y = some d) (ho : AllP d.obs) :
    StepTo x s ⟨none, .store T p y, ty, pos, after, gd⟩ ⟨envT (ridT d.k s.nb d.f d.n d.i d.mv) s.env, memT (ridT d.k s.nb d.f d.n d.i d.mv) ((s.nb, d.m) :: killL (d.k :: d.ks) s.mem), s.nb + 1⟩ :=
  ⟨fun g V a w Q hr => by
    unfold storeM at h
    split at h
    · rename_i k es i f k1 b f1 ti hp hy ht
      split at h
      · rename_i c l hm hz1 hkk hffb
        split at h
        · rename_i c1 l1 hes hnth
          split at h
          · rename_i cs hsp
            split at h
            · rename_i x' hmk
              simp only [Option.some.injEq] at h
              subst h
              obtain ⟨hi, hb, hib, _⟩ := ho
              have := Nat.eq_of_beq_eq_true hkk
              subst this
              have := Nat.eq_of_beq_eq_true hffb
              subst this
              rw [nthC_eq] at hnth
              obtain ⟨hf, hx⟩ := splice_one hsp
              rw [← mkc_cells hmk] at hx
              rw [tcells_len] at hf
              have hc : cont s.mem ⟨k, []⟩ = some (.list .own c l) := cont_iff.2 ⟨_, hm, rfl⟩
              have pvo : ∀ {a j : Nat}, ¬ (a = i ∧ j = f) → pvS k f 1 i [.fz ⟨k, [(b, f)]⟩] a j = some ⟨k, [(a, j)]⟩ := fun h => if_neg (fun h2 => h ⟨h2.1, by omega⟩)
              have pvn : pvS k f 1 i [.fz ⟨k, [(b, f)]⟩] i f = some ⟨k, [(b, f)]⟩ := by
                unfold pvS
                rw [if_pos ⟨rfl, Nat.le_refl _, by omega⟩, Nat.sub_self]; rfl
              have noB : ∀ {a j : Nat} {q : Path} {b' : AB}, contB (.hole b c (l.set i x')) ((a, j) :: q) = some b' → a ≠ b ∧ ∃ c2 l2, desc c (l.set i x') ((a, j) :: q) = some ⟨c2, l2⟩ ∧ b' = .list .own c2 l2 := by
                intro a j q b' hb
                simp only [contB] at hb
                split at hb
                · cases hb
                · rename_i hne
                  split at hb
                  · rename_i c2 l2 hd
                    cases hb
                    exact ⟨hne, c2, l2, hd, rfl⟩
                  · cases hb
              have RG : RowsG s.mem V (.hole b c (l.set i x')) (k :: kills [.fz ⟨k, [(b, f)]⟩]) c (l.set i x') (valsS V (pvS k f 1 i [.fz ⟨k, [(b, f)]⟩]) (l.set i x')) (pvS k f 1 i [.fz ⟨k, [(b, f)]⟩]) := by
                refine ⟨fun _ => rfl, fun b' hb => ?_, fun a x hx j t hj => valsS_get hx hj, fun a j q b' hb => ?_, fun a j q b1 a' j' q' b2 ρ ρ' h1 h2 hk e1 e2 e3 e4 => ?_⟩
                · simp only [contB, Option.some.injEq] at hb; exact hb.symm
                · obtain ⟨hne, c2, l2, hd, rfl⟩ := noB hb
                  right
                  obtain ⟨x0, c3, l3, hx0, hj0, hd0⟩ := desc_cons hd
                  by_cases e : a = i ∧ j = f
                  · obtain ⟨rfl, rfl⟩ := e
                    rw [List.getElem?_set_self hi] at hx0
                    cases hx0
                    rw [hx, if_pos rfl] at hj0
                    cases hj0
                    refine ⟨⟨k, [(b, j)]⟩, .own, .own, c2, l2, pvn, rfl, cont_iff.2 ⟨_, hm, ?_⟩, trivial, fun h => h, by simp, .inl List.mem_cons_self⟩
                    have := desc_mk (gt_at ‹b < l.length›) hnth hd0
                    simp only [contB, List.cons_append, List.nil_append, this, Md.at]
                  · have hold : ∃ xo, l[a]? = some xo ∧ (tcells c xo)[j]? = some (.sl c3 l3) := by
                      by_cases ea : a = i
                      · subst ea
                        rw [List.getElem?_set_self hi] at hx0
                        cases hx0
                        rw [hx, if_neg (fun h => e ⟨rfl, h⟩)] at hj0
                        exact ⟨_, gt_at hi, hj0⟩
                      · rw [List.getElem?_set_ne (Ne.symm ea)] at hx0
                        exact ⟨_, hx0, hj0⟩
                    obtain ⟨xo, ho1, ho2⟩ := hold
                    have hdo := desc_mk ho1 ho2 hd0
                    refine ⟨⟨k, [(a, j)]⟩, .own, .own, c2, l2, pvo e, rfl, cont_iff.2 ⟨_, hm, ?_⟩, trivial, fun h => h, by simp, .inl List.mem_cons_self⟩
                    simp only [contB, List.cons_append, List.nil_append, hdo, Md.at]
                · have n1 := (noB h1).1
                  have n2 := (noB h2).1
                  by_cases g1 : a = i ∧ j = f <;> by_cases g2 : a' = i ∧ j' = f
                  · exact ⟨g1.1.trans g2.1.symm, g1.2.trans g2.2.symm⟩
                  · obtain ⟨rfl, rfl⟩ := g1
                    rw [pvn] at e1; cases e1
                    rw [pvo g2] at e2; cases e2
                    simp only [List.cons_append, List.nil_append, List.cons.injEq, Prod.mk.injEq] at e4
                    exact absurd e4.1.1.symm n2
                  · obtain ⟨rfl, rfl⟩ := g2
                    rw [pvn] at e2; cases e2
                    rw [pvo g1] at e1; cases e1
                    simp only [List.cons_append, List.nil_append, List.cons.injEq, Prod.mk.injEq] at e4
                    exact absurd e4.1.1 n1
                  · rw [pvo g1] at e1; cases e1
                    rw [pvo g2] at e2; cases e2
                    simp only [List.cons_append, List.nil_append, List.cons.injEq, Prod.mk.injEq] at e4
                    exact e4.1
              have hkn := (hr.ents.ok _ _ hm).1
              have hksn : ∀ k2 ∈ kills [.fz ⟨k, [(b, f)]⟩], k2 < s.nb := fun k2 h2 => by simp [kills] at h2
              obtain ⟨w', hrun, hrep⟩ := store_listG hL hr (pr := .fz ⟨k, [(b, f)]⟩) hp hy ht (Nat.eq_of_beq_eq_true hz1).symm (Nat.eq_of_beq_eq_true hes) hc hi hf hx rfl hkn hksn (fun _ => by simp) RG ty pos after gd
              unfold Oper.wp
              rw [hrun]
              exact ⟨_, hrep.T (ridT_ok (c := c) (mem := s.mem) (f := f) (n := 1) (i := i) (ps := [.fz ⟨k, [(b, f)]⟩]) rfl hkn hksn)⟩
            · cases h
          · cases h
        · cases h
      · cases h
    · cases h⟩
omit hL
end
section
variable {x : Cx} {Q : Exit → St → Prop} {obs : List Prop} {K : List Kf} {all l : List Oper} {env : List (Nat × SV)} {mem : List (Nat × MB)} {nb : Nat}
theorem g_storeP (hL : LayOk x.P x.L) (fuel : Nat) {T : TypeId} {p y : Operand} {ty : TypeId} {pos : String} {after : Array Edge} {gd : Option (Nat × Bool)} {d : StoreD} (ho : AllP obs) (hg : goes all env gd = some true) (hd : storeP x.L ⟨env, mem, nb⟩ T p y = some d) (ho2 : AllP d.obs)
    (hk : Good x Q (storeR d ⟨env, mem, nb⟩ fun s' => run x fuel [] (.ops all l) K s')) : Good x Q (.ops obs all (⟨none, .store T p y, ty, pos, after, gd⟩ :: l) K ⟨env, mem, nb⟩) := by
  obtain ⟨k, i, fc, n, ks, mv, m, ob⟩ := d
  simp only [storeR, killP_eq, memTP_eq, envTP_eq, nx_eq] at hk
  exact ⟨ho, sq_step hg (step_storeP hL hd ho2) (run_ok hL hk).2⟩
theorem g_storeM (hL : LayOk x.P x.L) (fuel : Nat) {T : TypeId} {p y : Operand} {ty : TypeId} {pos : String} {after : Array Edge} {gd : Option (Nat × Bool)} {d : StoreD} (ho : AllP obs) (hg : goes all env gd = some true) (hd : storeM x.L ⟨env, mem, nb⟩ T p y = some d) (ho2 : AllP d.obs)
    (hk : Good x Q (storeR d ⟨env, mem, nb⟩ fun s' => run x fuel [] (.ops all l) K s')) : Good x Q (.ops obs all (⟨none, .store T p y, ty, pos, after, gd⟩ :: l) K ⟨env, mem, nb⟩) := by
  obtain ⟨k, i, fc, n, ks, mv, m, ob⟩ := d
  simp only [storeR, killP_eq, memTP_eq, envTP_eq, nx_eq] at hk
  exact ⟨ho, sq_step hg (step_storeM hL hd ho2) (run_ok hL hk).2⟩
end
/-- The list without the row of which nothing is claimed. -/
def appH (L : Lay) (s : St) (T : TypeId) (p q : SV) : Option (MB × Nat × List Prop) := match find L T with
  | some ⟨_, .slice e es _, _, _⟩ => match find L e with
    | some ⟨_, _, by_, some c⟩ => match Nat.beq es (wid c), Nat.blt 0 by_ with
      | true, true => match p, q with
        | .vw ⟨k, []⟩ e1 i1 n1 (some c1), .vw ⟨k2, []⟩ e2 i2 n2 none => match find s.mem k, Nat.beq k k2, Nat.beq e1 es, Nat.beq e2 es with
          | some (.hole b c0 l0), true, true, true => match castL (c' := c) l0 with
            | some l => some (.list .own c (l.take b ++ l.drop (b + 1)), k, [i1 = 0, n1 = b, c1 = b, i2 = b + 1, i2 + n2 = l.length, b < l.length, l.length * by_ ≤ 140737488355328])
            | none => none
          | _, _, _, _ => none
        | _, _ => none
      | _, _ => none
    | _ => none
  | _ => none
section
variable {x : Cx} {s : St} (hL : LayOk x.P x.L)
include hL
theorem step_appH {args : Array Operand} {ts : Array TypeId} {a b : Operand} {T : TypeId} {t : Nat} {ty : TypeId} {pos : String} {after : Array Edge} {gd : Option (Nat × Bool)} {p q : SV} {m : MB} {k : Nat} {obs : List Prop} (hargs : args.toList = [a, b]) (hts : ts.toList = [T, T]) (ha : s.get a = some p) (hb : s.get b = some q) (h : appH x.L s T p q = some (m, k, obs)) (ho : AllP obs) (h1 : Nat.blt t x.n = true) :
    StepTo x s ⟨some t, .call ⟨.builtin .append, args, ts⟩, ty, pos, after, gd⟩ ⟨(t, .sl ⟨s.nb, []⟩) :: s.env, (s.nb, m) :: killL [k] s.mem, s.nb + 1⟩ :=
  ⟨fun g V act w Q hr => by
    have e1 : args = #[a, b] := by apply Array.ext'; simpa using hargs
    have e2 : ts = #[T, T] := by apply Array.ext'; simpa using hts
    subst e1
    subst e2
    unfold appH at h
    split at h
    · rename_i zs0 e es ea b1 cd ht
      split at h
      · rename_i zs' td by_ c he
        split at h
        · rename_i hes hby
          split at h
          · rename_i k1 e1 i1 n1 c1 k2 e2 i2 n2
            split at h
            · rename_i b0 c0 l0 hm hkk he1 he2
              split at h
              · rename_i l hcst
                simp only [Option.some.injEq, Prod.mk.injEq] at h
                obtain ⟨rfl, rfl, rfl⟩ := h
                obtain ⟨rfl, rfl, hc1, rfl, hlen, hbl, hroom, _⟩ := ho
                rw [hc1] at ha
                clear hc1
                have he0 := castL_eq hcst
                cases he0
                have := Nat.eq_of_beq_eq_true hkk
                subst this
                have hes' := Nat.eq_of_beq_eq_true hes
                subst hes'
                have := Nat.eq_of_beq_eq_true he1
                subst this
                have := Nat.eq_of_beq_eq_true he2
                subst this
                have hby' : 0 < by_ := by simpa [Nat.blt_eq] using hby
                have hc : cont s.mem ⟨k1, []⟩ = some (.list .own c l) := cont_iff.2 ⟨_, hm, rfl⟩
                have hat := hr.ents.at_ _ _ hc
                obtain ⟨⟨ab, ao, asp⟩, a1, a2, _⟩ := row_cells hat hbl
                simp only at a2
                subst a2
                obtain ⟨q1, q2, q3, q4⟩ := hat
                obtain ⟨ad', cs, tt, b1, b2, b3, b4, b5⟩ : ∃ a cs t, (V ⟨k1, []⟩).a = some a ∧ a.spot = none ∧ w.heap[a.block]? = some (.cells cs t) ∧ a.off + (V ⟨k1, []⟩).cap * wid c ≤ cs.size ∧ (V ⟨k1, []⟩).cap ≤ maxLen := by
                  rcases q3 rfl with h | h
                  · omega
                  · exact h
                rw [a1] at b1
                cases b1
                simp only at b3 b4
                obtain ⟨d, h4, h5⟩ := (hL.at ht).desc
                obtain ⟨i, de, rfl, i2, i3, i4, i5⟩ := td_slice h5
                obtain ⟨i', g1, g2, g3, g4⟩ := (hL.at he).info
                have : i' = i := Option.some.inj (g1.symm.trans i2)
                subst this
                have hsz : i'.size = wid c := i3
                have hw0 : 0 < wid c := wid_pos c
                -- the values
                have hvl := valsS_len (V := V) (pv := fun a j => some ⟨k1, [(a, j)]⟩) (zs := l)
                have hv : ∀ q u, (valsS V (fun a j => some ⟨k1, [(a, j)]⟩) l)[q]? = some u → w.cell? ⟨ab, ao + q, none⟩ = some u := by
                  intro q u hu
                  obtain ⟨aa, xx, j, t, rfl, hxx, hj, rfl⟩ := valsS_inv hu
                  obtain ⟨ad2, y1, y2, y3⟩ := q4 aa xx hxx j t hj
                  rw [a1] at y1
                  cases y1
                  rw [y3]
                  cases t <;> simp only [denT, denP, pvL, Rid.ch, List.nil_append, List.append_nil]
                have hone : ∀ u ∈ valsS V (fun a j => some ⟨k1, [(a, j)]⟩) l, u.oneCell' = true := by
                  intro u hu
                  obtain ⟨q, hq⟩ := List.mem_iff_getElem?.1 hu
                  obtain ⟨aa, xx, j, t, rfl, hxx, hj, rfl⟩ := valsS_inv hq
                  cases t <;> rfl
                generalize hvals : valsS V (fun a j => some ⟨k1, [(a, j)]⟩) l = vals at hvl hv hone
                have hpl : (vals.take (n1 * wid c)).length = n1 * i'.size := by
                  rw [List.length_take, hvl, hsz, Nat.min_eq_left (Nat.mul_le_mul_right _ (Nat.le_of_lt hbl))]
                have hmul : (n1 + 1) * wid c + n2 * wid c = l.length * wid c := by rw [← Nat.add_mul, hlen]
                have hnl : (vals.drop ((n1 + 1) * wid c)).length = n2 * i'.size := by
                  rw [List.length_drop, hvl, hsz]; omega
                have hdp : den V (.vw ⟨k1, []⟩ (wid c) 0 n1 (some n1)) = .slice (some ⟨ab, ao, none⟩) n1 n1 := by
                  simp only [den, Loc.vw, Loc.hd, Option.getD_some, a1, Option.map_some, Nat.zero_mul]
                  split <;> simp [Addr.add_mid]
                have hdq : ∃ as, den V (.vw ⟨k1, []⟩ (wid c) (n1 + 1) n2 none) = .slice (some as) n2 ((V ⟨k1, []⟩).cap - (n1 + 1)) ∧ (0 < n2 → as = ⟨ab, ao + (n1 + 1) * wid c, none⟩) := by
                  simp only [den, Loc.vw, Loc.hd, Option.getD_none, a1, Option.map_some]
                  split
                  · exact ⟨_, rfl, fun h => by omega⟩
                  · exact ⟨_, rfl, fun _ => by rw [Addr.add_mid]⟩
                obtain ⟨as, hdq, has⟩ := hdq
                have hrd1 : ReadC w (some ⟨ab, ao, none⟩) (vals.take (n1 * wid c)) := by
                  intro j u hu
                  rw [List.getElem?_take] at hu
                  split at hu
                  · exact ⟨_, rfl, by rw [Addr.add_mid]; exact hv j u hu⟩
                  · cases hu
                have hrd2 : ReadC w (some as) (vals.drop ((n1 + 1) * wid c)) := by
                  intro j u hu
                  have hjl := (List.getElem?_eq_some_iff.1 hu).1
                  rw [hnl] at hjl
                  have hn2 : 0 < n2 := Nat.pos_of_ne_zero fun e => by rw [e, Nat.zero_mul] at hjl; omega
                  rw [List.getElem?_drop] at hu
                  refine ⟨_, rfl, ?_⟩
                  rw [has hn2, Addr.add_mid]
                  have := hv _ u hu
                  rwa [← Nat.add_assoc] at this
                have big : n1 + n2 ≤ maxLen := by omega
                have hbytes : (n1 + n2) * i'.bytes ≤ 140737488355328 := by
                  rw [g4]
                  exact Nat.le_trans (Nat.mul_le_mul_right _ (by omega)) hroom
                obtain ⟨L, w', r1, r2, r3⟩ := r_append (P := x.P) w (t := T) (ty := ty) h4 i2 g3 (by rw [cells_zero (hL.at he)]; simp [← g2]) (ab := some ⟨ab, ao, none⟩) (n := n1) (cb := n1) (as := some as) (m := n2) (cs := (V ⟨k1, []⟩).cap - (n1 + 1)) hpl hrd1 (fun h => by cases h) hnl hrd2 (fun h => by cases h) (fun u hu => hone u (List.mem_of_mem_drop hu))
                  (.inr ⟨_, cs, tt, rfl, rfl, b3, by
                    have : n1 * wid c ≤ (V ⟨k1, []⟩).cap * wid c := Nat.mul_le_mul_right _ (by omega)
                    rw [hsz]; simp only; omega⟩) (Nat.le_refl _) (by omega) big hbytes
                have run : (execOp act.eval ⟨some t, .call ⟨.builtin .append, #[a, b], #[T, T]⟩, ty, pos, after, gd⟩).run x.P w = .ok (.value L.hd) w' := by
                  simp only [execOp, resolve, invoke, builtin, Sem.run_bind, Sem.run_pure, Result.andThen_ok, List.map_toArray, List.map_cons, List.map_nil, hr.env.get ha, hr.env.get hb, hdp, hdq, r1]
                unfold Oper.wp
                rw [run]
                have getz : ∀ {a : Nat} {x : El c}, (l.take n1 ++ l.drop (n1 + 1))[a]? = some x → l[if a < n1 then a else a + 1]? = some x := by
                  intro a x hx
                  by_cases h : a < n1
                  · rw [List.getElem?_append_left (by rw [List.length_take]; omega), List.getElem?_take, if_pos h] at hx
                    rw [if_pos h]; exact hx
                  · rw [List.getElem?_append_right (by rw [List.length_take]; omega), List.getElem?_drop, List.length_take, Nat.min_eq_left (Nat.le_of_lt hbl)] at hx
                    rw [if_neg h, ← hx]; congr 1; omega
                have hzl : (l.take n1 ++ l.drop (n1 + 1)).length = n1 + n2 := by rw [List.length_append, List.length_take, List.length_drop]; omega
                have RG : RowsG s.mem V (.list .own c (l.take n1 ++ l.drop (n1 + 1))) [k1] c (l.take n1 ++ l.drop (n1 + 1)) (vals.take (n1 * wid c) ++ vals.drop ((n1 + 1) * wid c)) (fun a j => some ⟨k1, [(if a < n1 then a else a + 1, j)]⟩) := by
                  refine ⟨fun _ => rfl, fun b' hb => ?_, fun a x hx j t hj => ?_, fun a j q b' hb => ?_, fun a j q b1 a' j' q' b2 ρ ρ' h1 h2 hk e1 e2 e3 e4 => ?_⟩
                  · simp only [contB, desc, Option.some.injEq, Md.at] at hb; exact hb.symm
                  · have hx' := getz hx
                    have hjw : j < wid c := by have := (List.getElem?_eq_some_iff.1 hj).1; rw [tcells_len] at this; exact this
                    have hval := valsS_get (V := V) (pv := fun a j => some ⟨k1, [(a, j)]⟩) hx' hj
                    rw [hvals] at hval
                    have hden : denP V (fun a j => some ⟨k1, [(a, j)]⟩) (if a < n1 then a else a + 1) j t = denP V (fun a j => some ⟨k1, [(if a < n1 then a else a + 1, j)]⟩) a j t := by
                      cases t <;> simp only [denP, pvL]
                    rw [hden] at hval
                    rw [← hval]
                    by_cases h : a < n1
                    · have hlt : a * wid c + j < n1 * wid c := by
                        have : (a + 1) * wid c ≤ n1 * wid c := Nat.mul_le_mul_right _ h
                        rw [Nat.add_mul] at this; omega
                      rw [List.getElem?_append_left (by rw [hpl, hsz]; exact hlt), List.getElem?_take, if_pos hlt, if_pos h]
                    · have hge : n1 * wid c ≤ a * wid c := Nat.mul_le_mul_right _ (by omega)
                      rw [List.getElem?_append_right (by rw [hpl, hsz]; omega), List.getElem?_drop, hpl, hsz, if_neg h]
                      congr 1
                      rw [Nat.add_mul, Nat.add_mul]; omega
                  · simp only [contB] at hb
                    split at hb
                    · rename_i c2 l2 hd
                      cases hb
                      right
                      obtain ⟨x0, c3, l3, hx0, hj0, hd0⟩ := desc_cons hd
                      have hx' := getz hx0
                      refine ⟨_, .own, .own, c2, l2, rfl, rfl, cont_iff.2 ⟨_, hm, ?_⟩, trivial, fun h => h, by simp, .inl (List.mem_singleton_self _)⟩
                      have := desc_mk hx' hj0 hd0
                      simp only [contB, List.cons_append, List.nil_append, this]
                      rw [if_neg (by split <;> omega)]
                    · cases hb
                  · cases e1
                    cases e2
                    simp only [List.cons_append, List.nil_append, List.cons.injEq, Prod.mk.injEq] at e4
                    refine ⟨?_, e4.1.2⟩
                    have := e4.1.1
                    split at this <;> split at this <;> omega
                have hkn := (hr.ents.ok _ _ hm).1
                have key : ∀ (rs' : Option Nat), (rs' = none ∨ rs' = some k1) → L.len = n1 + n2 → n1 + n2 ≤ L.cap → OwnAt w' L (wid c) → (∀ j u, (vals.take (n1 * wid c) ++ vals.drop ((n1 + 1) * wid c))[j]? = some u → ∃ a, L.a = some a ∧ a.spot = none ∧ w'.cell? ⟨a.block, a.off + j, none⟩ = some u) →
                    (L.cap ≠ 0 → match rs' with | none => w.heap.size ≤ L.b | some kb => kb ∈ [k1] ∧ ∃ n1, cont s.mem ⟨kb, []⟩ = some n1 ∧ liveB (V ⟨kb, []⟩) n1 ∧ kindB n1 = .own ∧ L.b = (V ⟨kb, []⟩).b) → w.heap.size ≤ w'.heap.size →
                    (∀ b, b < w.heap.size → (∀ kb, rs' = some kb → L.cap ≠ 0 → b ≠ (V ⟨kb, []⟩).b) → w'.heap[b]? = w.heap[b]?) → SIO w w' → ∃ V', Rep x g V' ⟨(t, .sl ⟨s.nb, []⟩) :: s.env, (s.nb, .list .own c (l.take n1 ++ l.drop (n1 + 1))) :: killL [k1] s.mem, s.nb + 1⟩ (act.put (some t) L.hd) w' := by
                  intro rs' hrs' p1 p2 p3 p4 p5 p6 p7 p8
                  have hlist := hr.listG RG (fun k2 h2 => by rw [List.mem_singleton.1 h2]; exact hkn) (by rw [hzl]; exact p1) (by rw [hzl]; exact p2) p3 p4 rs' p5 (fun kb hkb => by
                      rcases hrs' with rfl | rfl
                      · cases hkb
                      · cases hkb; exact List.mem_singleton_self _) (fun a' j ρ kb e1 e2 e3 => by cases e1; simp) p6 p7 p8
                  have hv : den (V.ext s.nb (nlF V (fun a j => some ⟨k1, [(if a < n1 then a else a + 1, j)]⟩) L)) (.sl ⟨s.nb, []⟩) = L.hd := by
                    simp only [den, Vl.ext_new, nlF]
                  have := hlist.put (t := t) (v := .sl ⟨s.nb, []⟩) h1 (by simp [okV, Nat.blt_eq])
                  rw [hv] at this
                  exact ⟨_, this⟩
                have hLb : (V ⟨k1, []⟩).b = ab := by unfold Loc.b; rw [a1]
                have hlive : liveB (V ⟨k1, []⟩) (.list .own c l) := by simp only [liveB]; omega
                have hbw : n1 * wid c ≤ (V ⟨k1, []⟩).cap * wid c := Nat.mul_le_mul_right _ (by omega)
                have same : ∀ (L' : Loc), L' = ⟨some ⟨ab, ao, none⟩, n1 + n2, n1⟩ → n2 = 0 → L = L' → w'.heap[ab]? = some (.cells cs tt) → w.heap.size ≤ w'.heap.size → (∀ b, b ≠ ab → w'.heap[b]? = w.heap[b]?) → SIO w w' → ∃ V', Rep x g V' ⟨(t, .sl ⟨s.nb, []⟩) :: s.env, (s.nb, .list .own c (l.take n1 ++ l.drop (n1 + 1))) :: killL [k1] s.mem, s.nb + 1⟩ (act.put (some t) L.hd) w' := by
                  intro L' hL' hn0 hLL hcs hsize hoth hsio
                  subst hL'
                  rw [hLL] at key ⊢
                  refine key (some k1) (.inr rfl) rfl (by rw [hn0]; exact Nat.le_refl _) (.inr ⟨_, cs, tt, rfl, rfl, hcs, by simp only; omega, by simp only; omega⟩) (fun j u hu => ⟨_, rfl, rfl, ?_⟩) (fun _ => ⟨List.mem_singleton_self _, _, hc, hlive, rfl, hLb.symm⟩) hsize (fun b hb _ => by
                    by_cases e : b = ab
                    · subst e; rw [hcs, b3]
                    · exact hoth b e) hsio
                  · have hdn : vals.drop ((n1 + 1) * wid c) = [] := List.eq_nil_of_length_eq_zero (by rw [hnl, hn0, Nat.zero_mul])
                    rw [hdn, List.append_nil] at hu
                    have hj := (List.getElem?_eq_some_iff.1 hu).1
                    rw [List.getElem?_take] at hu
                    split at hu
                    · have := hv j u hu
                      simp only
                      rw [cell_heap (w := w) (w' := w') (b := ab) (o := ao + j) (hcs.trans b3.symm)]; exact this
                    · cases hu
                rcases r2 with ⟨hL', hn', hw', hc'⟩ | ⟨a0, cs0, t0, hL', ha0, hs0, hh0, hf0, hc', h0', hw'⟩ | ⟨rest, hL', hl', hc', hr', hw', hcb⟩
                · exact same _ rfl (by omega) hL' (by rw [hw']; exact b3) (by rw [hw']; exact Nat.le_refl _) (fun b _ => by rw [hw']) (by rw [hw']; exact SIO.refl _)
                · cases ha0
                  simp only at hh0
                  rw [b3] at hh0
                  cases hh0
                  have hn0 : n2 = 0 := by omega
                  have hdn : vals.drop ((n1 + 1) * wid c) = [] := List.eq_nil_of_length_eq_zero (by rw [hnl, hn0, Nat.zero_mul])
                  rw [hdn, List.append_nil, List.length_nil, Nat.add_zero, List.take_append_drop] at hw'
                  simp only at hw'
                  have hh := setRow_heap w ab cs cs.toList.toArray tt (0, 0) b3
                  refine same _ rfl hn0 hL' (by rw [hw']; exact hh) (by rw [hw', setRow_size]; exact Nat.le_refl _) (fun b hb => by rw [hw']; exact setRow_other w ab b _ hb) (by rw [hw']; exact ⟨rfl, rfl, rfl⟩)
                · subst hw'
                  have hh := heap_alloc_new w.drew (.cells (vals.take (n1 * wid c) ++ vals.drop ((n1 + 1) * wid c) ++ rest).toArray e)
                  have hpn : (vals.take (n1 * wid c) ++ vals.drop ((n1 + 1) * wid c)).length = (n1 + n2) * wid c := by rw [List.length_append, hpl, hnl, hsz, Nat.add_mul]
                  refine key none (.inl rfl) hl' hc' (.inr ⟨_, _, e, hL', rfl, hh, ?_, r3⟩) (fun j u hu => ⟨_, hL', rfl, cell_of hh ?_⟩) (fun _ => ?_) (by rw [alloc_size]; exact Nat.le_succ _) (fun b hb _ => alloc_old w.drew _ hb) ⟨rfl, rfl, rfl⟩
                  · have hs2 : ∀ Y : List Value, Y.toArray.size = Y.length := fun Y => by simp
                    have hl3 : (vals.take (n1 * wid c) ++ vals.drop ((n1 + 1) * wid c) ++ rest).length = (n1 + n2) * wid c + (L.cap - (n1 + n2)) * wid c := by rw [List.length_append, hpn, hr', hsz]
                    rw [hs2, hl3]
                    simp only [Nat.zero_add]
                    have : L.cap * wid c = (n1 + n2) * wid c + (L.cap - (n1 + n2)) * wid c := by rw [← Nat.add_mul]; congr 1; omega
                    omega
                  · simp only [List.getElem?_toArray, Nat.zero_add]
                    rw [List.getElem?_append_left (List.getElem?_eq_some_iff.1 hu).1]
                    exact hu
                  · show w.heap.size ≤ L.b
                    unfold Loc.b; rw [hL']; exact Nat.le_refl _
              · cases h
            · cases h
          · cases h
        · cases h
      · cases h
    · cases h⟩
omit hL
end
section
variable {x : Cx} {Q : Exit → St → Prop} {obs : List Prop} {K : List Kf} {all l : List Oper} {env : List (Nat × SV)} {mem : List (Nat × MB)} {nb : Nat}
theorem g_appH (hL : LayOk x.P x.L) (fuel : Nat) {args : Array Operand} {ts : Array TypeId} {a b : Operand} {T : TypeId} {t : Nat} {ty : TypeId} {pos : String} {after : Array Edge} {gd : Option (Nat × Bool)} {p q : SV} {m : MB} {k : Nat} {obs2 : List Prop} (ho : AllP obs) (hargs : args.toList = [a, b]) (hts : ts.toList = [T, T]) (hg : goes all env gd = some true)
    (ha : St.get ⟨env, mem, nb⟩ a = some p) (hb : St.get ⟨env, mem, nb⟩ b = some q) (hd : appH x.L ⟨env, mem, nb⟩ T p q = some (m, k, obs2)) (h1 : Nat.blt t x.n = true) (ho2 : AllP obs2)
    (hk : Good x Q (plMB m fun m' => nx nb fun nb' => run x fuel [] (.ops all l) K ⟨(t, .sl ⟨nb, []⟩) :: env, (nb, m') :: (k, .dead) :: mem, nb'⟩)) : Good x Q (.ops obs all (⟨some t, .call ⟨.builtin .append, args, ts⟩, ty, pos, after, gd⟩ :: l) K ⟨env, mem, nb⟩) := by
  simp only [plMB_eq, nx_eq] at hk
  exact ⟨ho, sq_step hg (step_appH hL hargs hts ha hb hd ho2 h1) (run_ok hL hk).2⟩
end
section
variable {x : Cx} {Q : Exit → St → Prop} {obs : List Prop} {K : List Kf} {all l : List Oper}
/-- A literal slice that is stored becomes a list of one's own. -/
theorem g_ownT (hL : LayOk x.P x.L) (fuel : Nat) (c : Ty) {T : TypeId} {p : Operand} {ty : TypeId} {pos : String} {after : Array Edge} {gd : Option (Nat × Bool)} {t k n cp : Nat} {s s' : St} {ob : List Prop} (ho : AllP obs) (hb : find s.env t = some (.slc k 0 n cp)) (hc : ownE s t c = some (s', ob)) (ho1 : AllP ob)
    (hk : Good x Q (run x fuel [] (.ops all (⟨none, .store T p (.tmp t), ty, pos, after, gd⟩ :: l)) K s')) : Good x Q (.ops obs all (⟨none, .store T p (.tmp t), ty, pos, after, gd⟩ :: l) K s) := by
  refine ⟨ho, ?_⟩
  have h1 := (run_ok hL hk).2
  exact ⟨fun g Q' V ac w hQ hr => by
    obtain ⟨V', hr'⟩ := (ownE_ok hc ho1).run g V ac w hr
    exact h1.run g Q' V' ac w hQ hr'⟩
end
/-- append(nil, make(..)): the number of rows is handed over. -/
def appZ (L : Lay) (T Tn : TypeId) (p q : SV) : Option (MB × List Prop) := match find L T, find L Tn, p, q with
  | some ⟨_, .slice e es _, _, _⟩, some ⟨_, .int _, _, _⟩, .val (.slice none 0 0), .int _ k => match find L e with
    | some ⟨zs, _, by_, some c⟩ => match Nat.beq es (wid c), zvs (tcells c (dflt c)) with
      | true, some zs' => some (.list .own c (List.replicate k.toNat (dflt c)), [zs = zs', 0 < k, k * (by_ : Int) ≤ 140737488355328, k ≤ 4611686018427387904])
      | _, _ => none
    | _ => none
  | _, _, _, _ => none
section
variable {x : Cx} {s : St} (hL : LayOk x.P x.L)
include hL
theorem step_appZ {args : Array Operand} {ts : Array TypeId} {a b : Operand} {T Tn : TypeId} {t : Nat} {ty : TypeId} {pos : String} {after : Array Edge} {gd : Option (Nat × Bool)} {p q : SV} {m : MB} {obs : List Prop} (hargs : args.toList = [a, b]) (hts : ts.toList = [T, Tn]) (ha : s.get a = some p) (hb : s.get b = some q) (h : appZ x.L T Tn p q = some (m, obs)) (ho : AllP obs) (h1 : Nat.blt t x.n = true) :
    StepTo x s ⟨some t, .call ⟨.builtin .append, args, ts⟩, ty, pos, after, gd⟩ ⟨(t, .sl ⟨s.nb, []⟩) :: s.env, (s.nb, m) :: s.mem, s.nb + 1⟩ :=
  ⟨fun g V act w Q hr => by
    have e1 : args = #[a, b] := by apply Array.ext'; simpa using hargs
    have e2 : ts = #[T, Tn] := by apply Array.ext'; simpa using hts
    subst e1
    subst e2
    unfold appZ at h
    split at h
    · rename_i zs0 e es ea b1 cd zs1 kn b2 cd2 k1 k ht htn
      split at h
      · rename_i zs td by_ c he
        split at h
        · rename_i zs' hes hz
          simp only [Option.some.injEq, Prod.mk.injEq] at h
          obtain ⟨rfl, rfl⟩ := h
          obtain ⟨o1, o2, o3, o4, _⟩ := ho
          subst o1
          obtain ⟨n, rfl⟩ : ∃ n : Nat, k = (n : Int) := ⟨k.toNat, by omega⟩
          have hn0 : 0 < n := by omega
          obtain ⟨d, h4, h5⟩ := (hL.at ht).desc
          obtain ⟨i, de, rfl, i2, i3, i4, i5⟩ := td_slice h5
          obtain ⟨dn, h6, h7⟩ := (hL.at htn).desc
          have h7' := td_int h7
          subst h7'
          have hti := hL.at he
          obtain ⟨i', g1, g2, g3, g4⟩ := hti.info
          have : i' = i := Option.some.inj (g1.symm.trans i2)
          subst this
          have hes' := Nat.eq_of_beq_eq_true hes
          have hsz : i'.size = wid c := i3.trans hes'
          have hwp := wid_pos c
          have hby : n * i'.bytes ≤ 281474976710656 := by
            rw [g4]
            have : ((n * by_ : Nat) : Int) ≤ 140737488355328 := by rw [Int.natCast_mul]; exact o3
            show n * by_ ≤ _
            omega
          have run0 := Go.Lib.run_append_nil_zeros (P := x.P) w T Tn ty e i' _ k1 kn h4 h6 i2 g3 n hn0 (by rw [hsz]; exact hwp) (by omega) hby
          rw [cells_zero hti] at run0
          have run : (execOp act.eval ⟨some t, .call ⟨.builtin .append, #[a, b], #[T, Tn]⟩, ty, pos, after, gd⟩).run x.P w = .ok (.value (.slice (some ⟨w.heap.size, 0, none⟩) n (grownCap w n 0 e))) (w.drew.alloc (.cells (Builtin.zeroCells (TI.zero ⟨zs, td, by_, some c⟩).toArray n ++ Builtin.zeroCells (TI.zero ⟨zs, td, by_, some c⟩).toArray (grownCap w n 0 e - n)) e)) := by
            simp only [execOp, resolve, invoke, builtin, Sem.run_bind, Sem.run_pure, Result.andThen_ok, List.map_toArray, List.map_cons, List.map_nil, hr.env.get ha, hr.env.get hb, den, run0]
          unfold Oper.wp
          rw [run]
          have hcap := grownCap_ge w n 0 e
          have hcm := grownCap_le_maxLen w n 0 e (by simp only [maxLen]; omega)
          generalize grownCap w n 0 e = G at hcap hcm
          have zlen : (TI.zero ⟨zs, td, by_, some c⟩).length = wid c := by rw [← g2]; exact hsz
          obtain ⟨z1, z2⟩ := zvs_get (V := V) hz
          have zeq : TI.zero ⟨zs, td, by_, some c⟩ = denL V zs := (hti.zs V).symm
          have zsz : (TI.zero ⟨zs, td, by_, some c⟩).toArray.size = wid c := by simp [zlen]
          have mc : ∀ j, j < n * wid c → (Builtin.zeroCells (TI.zero ⟨zs, td, by_, some c⟩).toArray n ++ Builtin.zeroCells (TI.zero ⟨zs, td, by_, some c⟩).toArray (G - n))[j]? = (denL V zs)[j % wid c]? := by
            intro j hj
            rw [Array.getElem?_append_left (by rw [size_zeroCells, zsz]; exact hj)]
            rw [zeq] at zsz ⊢
            simp only [Builtin.zeroCells, Array.getElem?_map, zsz, Array.getElem?_range, if_pos hj, Option.map_some]
            have hm : j % wid c < wid c := Nat.mod_lt _ hwp
            have hlen : j % wid c < (denL V zs).length := by rw [← zeq, zlen]; exact hm
            rw [List.getElem?_eq_getElem hlen]
            simp [hlen]
          let L : Loc := ⟨some ⟨w.heap.size, 0, none⟩, n, G⟩
          let vals := (List.range (n * wid c)).map fun j => (denL V zs).getD (j % wid c) Go.undef
          have hR : RowsP s.mem V .own [] c (List.replicate (n : Int).toNat (dflt c)) vals (fun _ _ => none) := by
            rw [Int.toNat_natCast]
            refine ⟨by simp [vals], fun a x hx j t hj => ?_, fun a x hx j c1 l1 hj => .inl ⟨rfl, ?_⟩, fun a j a' j' ρ ρ' q q' c0 l0 h => by cases h⟩
            · have hjw : j < wid c := by have := (List.getElem?_eq_some_iff.1 hj).1; rw [tcells_len] at this; exact this
              rw [List.getElem?_replicate] at hx
              split at hx
              · rename_i hal
                cases hx
                have hlt : a * wid c + j < n * wid c := by
                  have : (a + 1) * wid c ≤ n * wid c := Nat.mul_le_mul_right _ hal
                  rw [Nat.succ_mul] at this; omega
                simp only [vals, List.getElem?_map, List.getElem?_range hlt, Option.map_some]
                have hm : (a * wid c + j) % wid c = j := by rw [Nat.mul_comm, Nat.mul_add_mod, Nat.mod_eq_of_lt hjw]
                rw [hm, List.getD_eq_getElem?_getD, (z2 j t hj).1]
                rfl
              · cases hx
            · rw [List.getElem?_replicate] at hx
              split at hx
              · cases hx; exact (z2 j _ hj).2 c1 l1 rfl
              · cases hx
          have hh := heap_alloc_new w.drew (.cells (Builtin.zeroCells (TI.zero ⟨zs, td, by_, some c⟩).toArray n ++ Builtin.zeroCells (TI.zero ⟨zs, td, by_, some c⟩).toArray (G - n)) e)
          have hlist := hr.list (md := .own) (.inl rfl) hR (by simp) (L := L) (by simp [L]) (by rw [List.length_replicate]; simp [L]; exact hcap) (w' := w.drew.alloc (.cells (Builtin.zeroCells (TI.zero ⟨zs, td, by_, some c⟩).toArray n ++ Builtin.zeroCells (TI.zero ⟨zs, td, by_, some c⟩).toArray (G - n)) e))
            (.inr ⟨_, _, e, rfl, rfl, hh, by
              simp only [L, Array.size_append, size_zeroCells, zsz, Nat.zero_add, ← Nat.add_mul]
              have : n + (G - n) = G := by omega
              rw [this]; exact Nat.le_refl _, hcm⟩) (fun j u hu => ⟨_, rfl, rfl, cell_of hh (by
              have hj : j < n * wid c := by have := (List.getElem?_eq_some_iff.1 hu).1; simpa [vals] using this
              rw [Nat.zero_add, mc j hj]
              simp only [vals, List.getElem?_map, List.getElem?_range hj, Option.map_some, Option.some.injEq] at hu
              have hlen : j % wid c < (denL V zs).length := by rw [← zeq, zlen]; exact Nat.mod_lt _ hwp
              rw [List.getElem?_eq_getElem hlen, ← hu, List.getD_eq_getElem?_getD, List.getElem?_eq_getElem hlen]
              rfl)⟩) none (fun _ => Nat.le_refl _) (fun kb h => by cases h) (fun a j ρ kb h => by cases h) (by rw [alloc_size]; exact Nat.le_succ _) (fun b hb _ => alloc_old w.drew _ hb) ⟨rfl, rfl, rfl⟩
          have := hlist.put (t := t) (v := .sl ⟨s.nb, []⟩) h1 (by simp [okV, Nat.blt_eq])
          have hv : den (V.ext s.nb (nlF V (fun _ _ => none) L)) (.sl ⟨s.nb, []⟩) = L.hd := by simp only [den, Vl.ext_new, nlF]
          rw [hv] at this
          exact ⟨_, this⟩
        · cases h
      · cases h
    · cases h⟩
omit hL
end
section
variable {x : Cx} {Q : Exit → St → Prop} {obs : List Prop} {K : List Kf} {all l : List Oper} {env : List (Nat × SV)} {mem : List (Nat × MB)} {nb : Nat}
theorem g_appZ (hL : LayOk x.P x.L) (fuel : Nat) {args : Array Operand} {ts : Array TypeId} {a b : Operand} {T Tn : TypeId} {t : Nat} {ty : TypeId} {pos : String} {after : Array Edge} {gd : Option (Nat × Bool)} {p q : SV} {m : MB} {obs2 : List Prop} (ho : AllP obs) (hargs : args.toList = [a, b]) (hts : ts.toList = [T, Tn]) (hg : goes all env gd = some true)
    (ha : St.get ⟨env, mem, nb⟩ a = some p) (hb : St.get ⟨env, mem, nb⟩ b = some q) (hd : appZ x.L T Tn p q = some (m, obs2)) (h1 : Nat.blt t x.n = true) (ho2 : AllP obs2)
    (hk : Good x Q (plMB m fun m' => nx nb fun nb' => run x fuel [] (.ops all l) K ⟨(t, .sl ⟨nb, []⟩) :: env, (nb, m') :: mem, nb'⟩)) : Good x Q (.ops obs all (⟨some t, .call ⟨.builtin .append, args, ts⟩, ty, pos, after, gd⟩ :: l) K ⟨env, mem, nb⟩) := by
  simp only [plMB_eq, nx_eq] at hk
  exact ⟨ho, sq_step hg (step_appZ hL hargs hts ha hb hd ho2 h1) (run_ok hL hk).2⟩
end
end Go.Proofs.Ytonjbhdfimcedaa
