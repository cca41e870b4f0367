/- Walks, third framework: an append to a list within a row, stored back into its cell. No condition on any program. -/
import Derived.Test.YtonjbhdfimcedaaVD
namespace Go.Proofs.Ytonjbhdfimcedaa
set_option linter.unusedSimpArgs false
set_option linter.unusedSectionVars false
set_option linter.unusedVariables false
open Go.RowKit
universe u

/-- A list without lists has no way into it. -/
theorem desc_flat {c : Ty} (h : noSl (cks c) = true) {l : List (El c)} {p : Path} {y : (c : Ty) × List (El c)} (hd : desc c l p = some y) : p = [] ∧ y = ⟨c, l⟩ := by
  cases p with
  | nil => simp only [desc, Option.some.injEq] at hd; exact ⟨rfl, hd.symm⟩
  | cons ij p =>
    obtain ⟨i, j⟩ := ij
    simp only [desc] at hd
    split at hd
    · cases hd
    · rename_i x hx
      split at hd
      · rename_i c1 l1 hj; exact absurd hj (flat_no h)
      · cases hd
def nlI (V : Vl) (k i f : Nat) (L : Loc) : Path → Loc
  | [] => V ⟨k, []⟩
  | (a, j) :: q => if a = i ∧ j = f then (match q with | [] => L | _ :: _ => ⟨none, 0, 0⟩) else V ⟨k, (a, j) :: q⟩
/-- **A list within a row has become another one**, in its own block or in a new one. -/
theorem Rep.inPlace {x : Cx} {g : Gx} {V : Vl} {s : St} {act : Act} {w w' : World} (h : Rep x g V s act w) {k i f : Nat} {c c1 : Ty} {l : List (El c)} {xs zs : List (El c1)} {x' : El c} (hm : find s.mem k = some (.list .own c l)) (hi : i < l.length)
    (hcell : (tcells c (gt l i))[f]? = some (.sl c1 xs)) (hflat : noSl (cks c1) = true) (hx' : ∀ j, (tcells c x')[j]? = if j = f then some (.sl c1 zs) else (tcells c (gt l i))[j]?)
    {L : Loc} (hlen : L.len = zs.length) (hcap : zs.length ≤ L.cap) (hown : OwnAt w' L (wid c1)) (hrows : ∀ a y, zs[a]? = some y → ∀ j d, (tcells c1 y)[j]? = some d → ∃ ad, L.a = some ad ∧ ad.spot = none ∧ w'.cell? ⟨ad.block, ad.off + (a * wid c1 + j), none⟩ = some (denT V0 ⟨0, []⟩ d))
    (hblk : L.cap ≠ 0 → ((V ⟨k, [(i, f)]⟩).cap ≠ 0 ∧ L.b = (V ⟨k, [(i, f)]⟩).b) ∨ w.heap.size ≤ L.b)
    {ad : Addr} {cs cs' : Array Value} {tt : TypeId} (a1 : (V ⟨k, []⟩).a = some ad) (a2 : ad.spot = none) (hh : w.heap[ad.block]? = some (.cells cs tt)) (hh' : w'.heap[ad.block]? = some (.cells cs' tt)) (hsz : cs'.size = cs.size)
    (hcs : ∀ o, cs'[o]? = if o = ad.off + (i * wid c + f) then some L.hd else cs[o]?)
    (hoth : ∀ b, b < w.heap.size → b ≠ ad.block → ((V ⟨k, [(i, f)]⟩).cap ≠ 0 → b ≠ (V ⟨k, [(i, f)]⟩).b) → w'.heap[b]? = w.heap[b]?) (hws : w.heap.size ≤ w'.heap.size) (io : SIO w w') :
    Rep x g (V.ext s.nb (nlI V k i f L)) ⟨s.env, (s.nb, .list .own c (l.set i x')) :: killL [k] s.mem, s.nb + 1⟩ act w' := by
  have hE := h.ents
  have hkn := (hE.ok _ _ hm).1
  have ag : AgrB s.nb (V.ext s.nb (nlI V k i f L)) V := Vl.ext_agr
  have vn : ∀ p, V.ext s.nb (nlI V k i f L) ⟨s.nb, p⟩ = nlI V k i f L p := fun p => Vl.ext_new
  have hfw : f < wid c := by have := (List.getElem?_eq_some_iff.1 hcell).1; rw [tcells_len] at this; exact this
  have c0 : cont s.mem ⟨k, []⟩ = some (.list .own c l) := cont_iff.2 ⟨_, hm, rfl⟩
  have c1' : cont s.mem ⟨k, [(i, f)]⟩ = some (.list .own c1 xs) := cont_iff.2 ⟨_, hm, by simp only [contB, desc, gt_at hi, hcell]; rfl⟩
  have hat0 := hE.at_ _ _ c0
  have hat1 := hE.at_ _ _ c1'
  have live0 : liveB (V ⟨k, []⟩) (.list .own c l) := by have := hat0.2.1; simp only [liveB]; omega
  have hb0 : (V ⟨k, []⟩).b = ad.block := by unfold Loc.b; rw [a1]
  -- rows of the outer list
  have getr : ∀ {a : Nat} {y : El c}, (l.set i x')[a]? = some y → (a = i ∧ y = x') ∨ (a ≠ i ∧ l[a]? = some y) := by
    intro a y h
    by_cases e : a = i
    · subst e; rw [List.getElem?_set_self hi] at h; exact .inl ⟨rfl, (Option.some.inj h).symm⟩
    · rw [List.getElem?_set_ne (Ne.symm e)] at h; exact .inr ⟨e, h⟩
  -- what is within
  have inner : ∀ a j q b', contB (.list .own c (l.set i x')) ((a, j) :: q) = some b' → (a = i ∧ j = f ∧ q = [] ∧ b' = .list .own c1 zs) ∨ (¬ (a = i ∧ j = f) ∧ cont s.mem ⟨k, (a, j) :: q⟩ = some b') := by
    intro a j q b' hb
    simp only [contB, desc] at hb
    split at hb
    · rename_i c2 l2 hd
      cases hb
      split at hd
      · cases hd
      · rename_i y hy
        split at hd
        · rename_i c3 l3 hj
          rcases getr hy with ⟨rfl, rfl⟩ | ⟨hne, hy'⟩
          · rw [hx'] at hj
            split at hj
            · rename_i e
              cases hj
              obtain ⟨rfl, e2⟩ := desc_flat hflat hd
              cases e2
              exact .inl ⟨rfl, e, rfl, rfl⟩
            · rename_i e
              refine .inr ⟨fun h => e h.2, cont_iff.2 ⟨_, hm, ?_⟩⟩
              simp only [contB, desc, gt_at hi, hj, hd, Md.at]
          · refine .inr ⟨fun h => hne h.1, cont_iff.2 ⟨_, hm, ?_⟩⟩
            simp only [contB, desc, hy', hj, hd, Md.at]
        · cases hd
    · cases hb
  have root : ∀ b', contB (.list .own c (l.set i x')) [] = some b' → b' = .list .own c (l.set i x') := by
    intro b' hb
    simp only [contB, desc, Option.some.injEq] at hb
    rw [← hb]; rfl
  have locI : nlI V k i f L [(i, f)] = L := by simp [nlI]
  have locO : ∀ {a j : Nat} {q : Path}, ¬ (a = i ∧ j = f) → nlI V k i f L ((a, j) :: q) = V ⟨k, (a, j) :: q⟩ := fun h => by simp only [nlI]; rw [if_neg h]
  -- blocks that stay
  have stay : ∀ r b, cont s.mem r = some b → liveB (V r) b → r ≠ ⟨k, []⟩ → r ≠ ⟨k, [(i, f)]⟩ → w'.heap[(V r).b]? = w.heap[(V r).b]? := by
    intro r b hc hl n0 n1
    refine hoth _ (hE.lt hc hl) (fun e => n0 ?_) (fun hcp e => n1 ?_)
    · exact (hE.sep ⟨k, []⟩ r _ b c0 hc live0 hl rfl (by rw [hb0, e])).symm
    · exact (hE.sep ⟨k, [(i, f)]⟩ r _ b c1' hc hcp hl rfl e.symm).symm
  have hE' := hE.turn (w' := w') (m := .list .own c (l.set i x')) (ks := [k]) s.env ag rfl (fun k1 hk1 => by rw [List.mem_singleton] at hk1; subst hk1; exact hkn)
    (fun p => match p with
      | [] => some ⟨k, []⟩
      | (a, j) :: q => if (a = i ∧ j = f) ∧ ¬ ((V ⟨k, [(i, f)]⟩).cap ≠ 0 ∧ L.b = (V ⟨k, [(i, f)]⟩).b) then none else some ⟨k, (a, j) :: q⟩)
    (fun r b hc hl hk => stay r b hc hl (fun e => hk (by subst e; exact List.mem_singleton_self _)) (fun e => hk (by subst e; exact List.mem_singleton_self _)))
    (fun p b' hb hl => by
      cases p with
      | nil =>
        have hb' := root b' hb
        subst hb'
        refine .inr ⟨⟨k, []⟩, _, rfl, c0, live0, by rw [vn]; rfl, trivial, .inl (List.mem_singleton_self _)⟩
      | cons aj q =>
        obtain ⟨a, j⟩ := aj
        rcases inner a j q b' hb with ⟨rfl, rfl, rfl, rfl⟩ | ⟨hn, hc⟩
        · rw [vn, locI] at hl ⊢
          dsimp only
          by_cases hc2 : (V ⟨k, [(a, j)]⟩).cap ≠ 0 ∧ L.b = (V ⟨k, [(a, j)]⟩).b
          · rw [if_neg (fun h => h.2 hc2)]
            exact .inr ⟨⟨k, [(a, j)]⟩, _, rfl, c1', hc2.1, hc2.2, trivial, .inl (List.mem_singleton_self _)⟩
          · rw [if_pos ⟨⟨rfl, rfl⟩, hc2⟩]
            rcases hblk hl with h1 | h1
            · exact absurd h1 hc2
            · exact .inl ⟨rfl, h1⟩
        · rw [vn, locO hn] at hl ⊢
          simp only
          rw [if_neg (fun h => hn h.1)]
          exact .inr ⟨⟨k, (a, j) :: q⟩, b', rfl, hc, hl, rfl, (by cases kindB b' <;> trivial), .inl (List.mem_singleton_self _)⟩)
    (fun p1 p2 b1 b2 h1 h2 l1 l2 hk he => by
      cases p1 with
      | nil =>
        cases p2 with
        | nil => rfl
        | cons aj q =>
          exfalso
          obtain ⟨a, j⟩ := aj
          simp only at he
          split at he
          · cases he
          · simp only [Option.some.injEq, Rid.mk.injEq, true_and] at he; cases he
      | cons aj q =>
        obtain ⟨a, j⟩ := aj
        cases p2 with
        | nil =>
          exfalso
          simp only at he
          split at he
          · cases he
          · simp only [Option.some.injEq, Rid.mk.injEq, true_and] at he; cases he
        | cons aj2 q2 =>
          obtain ⟨a2, j2⟩ := aj2
          simp only at he
          split at he
          · rename_i hc1
            split at he
            · rename_i hc2
              rcases inner a j q b1 h1 with ⟨_, _, e1, _⟩ | ⟨hn, _⟩
              · rcases inner a2 j2 q2 b2 h2 with ⟨_, _, e2, _⟩ | ⟨hn, _⟩
                · rw [e1, e2, hc1.1.1, hc1.1.2, hc2.1.1, hc2.1.2]
                · exact absurd hc2.1 hn
              · exact absurd hc1.1 hn
            · cases he
          · split at he
            · cases he
            · simp only [Option.some.injEq, Rid.mk.injEq, true_and] at he; exact he)
    (fun p b' hb => by
      cases p with
      | nil =>
        have hb' := root b' hb
        subst hb'
        obtain ⟨q1, q2, q3, q4⟩ := hat0
        refine ⟨by rw [vn]; show (V ⟨k, []⟩).len = _; rw [List.length_set]; exact q1, by rw [vn]; show _ ≤ (V ⟨k, []⟩).cap; rw [List.length_set]; exact q2, fun _ => ?_, fun a y hy j t ht => ?_⟩
        · rw [vn]
          show OwnAt w' (V ⟨k, []⟩) (wid c)
          rcases q3 rfl with h | ⟨ad', cs0, t0, b1, b2, b3, b4, b5⟩
          · exact .inl h
          · rw [a1] at b1
            cases b1
            rw [hh] at b3
            cases b3
            exact .inr ⟨ad, cs', tt, a1, a2, hh', by rw [hsz]; exact b4, b5⟩
        · refine ⟨ad, by rw [vn]; exact a1, a2, cell_of hh' ?_⟩
          rw [hcs]
          have hjw : j < wid c := by have := (List.getElem?_eq_some_iff.1 ht).1; rw [tcells_len] at this; exact this
          have pos : ad.off + (a * wid c + j) = ad.off + (i * wid c + f) → a = i ∧ j = f := by
            intro e
            have e1 : a = i := by
              rcases Nat.lt_trichotomy a i with hlt | heq | hgt
              · have : (a + 1) * wid c ≤ i * wid c := Nat.mul_le_mul_right _ hlt
                rw [Nat.add_mul] at this; omega
              · exact heq
              · have : (i + 1) * wid c ≤ a * wid c := Nat.mul_le_mul_right _ hgt
                rw [Nat.add_mul] at this; omega
            subst e1
            exact ⟨rfl, by omega⟩
          have oldv : ∀ {y0 : El c}, l[a]? = some y0 → (tcells c y0)[j]? = some t → ¬ (a = i ∧ j = f) → (if ad.off + (a * wid c + j) = ad.off + (i * wid c + f) then some L.hd else cs[ad.off + (a * wid c + j)]?) = some (denT (V.ext s.nb (nlI V k i f L)) (Rid.ch ⟨s.nb, []⟩ a j) t) := by
            intro y0 hy0 ht0 hn
            rw [if_neg (fun e => hn (pos e))]
            obtain ⟨ad2, y1, y2, y3⟩ := q4 a y0 hy0 j t ht0
            rw [a1] at y1
            cases y1
            simp only [World.cell?, hh, Option.isSome_none, Bool.false_eq_true, if_false] at y3
            rw [y3]
            cases t <;> simp only [denT, Rid.ch, List.nil_append]
            rw [vn, locO hn]
          rcases getr hy with ⟨rfl, rfl⟩ | ⟨hne, hy'⟩
          · rw [hx'] at ht
            by_cases e : j = f
            · subst e
              rw [if_pos rfl] at ht
              cases ht
              rw [if_pos rfl]
              simp only [denT, Rid.ch, List.nil_append]
              rw [vn, locI]
            · rw [if_neg e] at ht
              exact oldv (gt_at hi) ht (fun h => e h.2)
          · exact oldv hy' ht (fun h => hne h.1)
      | cons aj q =>
        obtain ⟨a, j⟩ := aj
        rcases inner a j q b' hb with ⟨rfl, rfl, rfl, rfl⟩ | ⟨hn, hc⟩
        · refine ⟨by rw [vn, locI]; exact hlen, by rw [vn, locI]; exact hcap, fun _ => by rw [vn, locI]; exact hown, fun b y hy j2 d hd => ?_⟩
          obtain ⟨ad2, y1, y2, y3⟩ := hrows b y hy j2 d hd
          refine ⟨ad2, by rw [vn, locI]; exact y1, y2, y3.trans ?_⟩
          cases d with
          | int _ _ => rfl
          | bool _ => rfl
          | str _ => rfl
          | sl c2 l2 => exact absurd hd (flat_no hflat)
        · have hlt := (hE.okc hc).1
          obtain ⟨m, z1, z2⟩ := cont_iff.1 hc
          rw [hm] at z1
          cases z1
          simp only [contB] at z2
          split at z2
          · rename_i c2 l2 hd
            cases z2
            have hat2 := hE.at_ _ _ hc
            refine hat2.move (by rw [vn, locO hn]) (fun i' j' => ?_) (fun h => h) (fun hl => stay _ _ hc hl (fun e => by cases e) (fun e => ?_))
            · simp only [Rid.ch, List.cons_append]
              rw [vn, locO hn]
            · simp only [Rid.mk.injEq, true_and, List.cons.injEq, Prod.mk.injEq] at e
              exact hn e.1
          · cases z2) h.d0w
  refine h.turn hws ag (fun k1 hk1 => by rw [List.mem_singleton] at hk1; subst hk1; exact hkn) hE' io (fun b hb hd => ?_) (fun p b' hb hl hk => ?_)
  · refine hoth b hb (fun e => hd ⟨⟨k, []⟩, _, c0, live0, rfl, by rw [hb0, e]⟩) (fun hcp e => hd ⟨⟨k, [(i, f)]⟩, _, c1', hcp, rfl, e.symm⟩)
  · cases p with
    | nil => exact .inr ⟨⟨k, []⟩, _, c0, live0, rfl, by rw [vn]; rfl⟩
    | cons aj q =>
      obtain ⟨a, j⟩ := aj
      rcases inner a j q b' hb with ⟨rfl, rfl, rfl, rfl⟩ | ⟨hn, hc⟩
      · rw [vn, locI] at hl ⊢
        rcases hblk hl with ⟨h1, h2⟩ | h1
        · exact .inr ⟨⟨k, [(a, j)]⟩, _, c1', h1, rfl, h2.symm⟩
        · exact .inl h1
      · rw [vn, locO hn] at hl ⊢
        exact .inr ⟨⟨k, (a, j) :: q⟩, b', hc, hl, hk, rfl⟩

theorem Ents.nested {D0 : Nat → Prop} {V V' : Vl} {s : St} {w w1 : World} (h : Ents D0 V s w) (ag : AgrB s.nb V' V) {r0 : Rid} {c1 : Ty} {xs : List (El c1)} (c1' : cont s.mem r0 = some (.list .own c1 xs)) (hn : AtB V w1 r0 (.list .own c1 xs))
    (hoth : ∀ b, b < w.heap.size → ((V r0).cap ≠ 0 → b ≠ (V r0).b) → w1.heap[b]? = w.heap[b]?) (e' : List (Nat × SV)) : Ents D0 V' ⟨e', s.mem, s.nb + 1⟩ w1 := by
  have old : ∀ {r b}, cont s.mem r = some b → V' r = V r := fun hc => ag _ (h.okc hc).1
  refine ⟨fun k m' hk => ?_, fun r b hc => ?_, fun r r' b b' hc hc' hl hl' hk he => ?_, fun r b hc hl hk => ?_⟩
  · obtain ⟨h1, h2⟩ := h.ok k m' hk
    exact ⟨Nat.lt_succ_of_lt h1, okM_mono (Nat.le_succ _) h2⟩
  · obtain ⟨h1, h2⟩ := h.okc hc
    by_cases e : r = r0
    · subst e
      rw [c1'] at hc
      cases hc
      exact hn.keep h2 h1 ag fun _ => rfl
    · refine (h.at_ r b hc).keep h2 h1 ag fun hl => hoth _ (h.lt hc hl) fun hcp he => e ?_
      exact (h.sep r0 r _ b c1' hc hcp hl rfl he.symm).symm
  · rw [old hc, old hc'] at he
    rw [old hc] at hl
    rw [old hc'] at hl'
    exact h.sep r r' b b' hc hc' hl hl' hk he
  · rw [old hc] at hl ⊢
    exact h.d0 r b hc hl hk

/-! ### The operations between -/
def midS (x : Cx) (all : List Oper) (mem : List (Nat × MB)) (nb : Nat) : List Oper → List (Nat × SV) → List Prop → Option (List (Nat × SV) × Oper × List Oper × List Prop)
  | [], _, _ => none
  | o :: l, env, obs => match o.dst with
    | none => some (env, o, l, obs)
    | some t => match Nat.blt t x.n, goes all env o.guard, ev x.L ⟨env, mem, nb⟩ o.op with
      | true, some true, some (v, ob) => plV v fun v => match okV nb v with
        | true => midS x all mem nb l ((t, v) :: env) (app ob obs)
        | false => none
      | _, _, _ => none
theorem midS_ok {x : Cx} (hL : LayOk x.P x.L) {all : List Oper} {mem : List (Nat × MB)} {nb : Nat} : ∀ {l : List Oper} {env env' : List (Nat × SV)} {obs obs' : List Prop} {o : Oper} {rest : List Oper}, midS x all mem nb l env obs = some (env', o, rest, obs') → AllP obs' → AllP obs ∧ o.dst = none ∧
    ∀ {D0 : Nat → Prop} {V : Vl} {a : Act} {w : World} {Q : Exit → Act → World → Prop}, a.defers = [] → a.tmps.size = x.n → EnvR V env a → (∀ t v, find env t = some v → okV nb v = true) → (∀ e, Ents D0 V ⟨e, mem, nb⟩ w) →
      (∀ a', a'.defers = [] → a'.tmps.size = x.n → EnvR V env' a' → (∀ t v, find env' t = some v → okV nb v = true) → wpList x.P all.toArray Q (o :: rest) a' w) → wpList x.P all.toArray Q l a w
  | [], env, env', obs, obs', o, rest, h, _ => by simp [midS] at h
  | q :: l, env, env', obs, obs', o, rest, h, ho => by
    unfold midS at h
    split at h
    · rename_i hd
      simp only [Option.some.injEq, Prod.mk.injEq] at h
      obtain ⟨rfl, rfl, rfl, rfl⟩ := h
      exact ⟨ho, hd, fun h1 h2 h3 h4 h5 hk => hk _ h1 h2 h3 h4⟩
    · rename_i t hd
      split at h
      · rename_i v ob h1 hg hv
        rw [plV_eq] at h
        split at h
        · rename_i hok
          obtain ⟨g1, g2, g3⟩ := midS_ok hL h ho
          obtain ⟨o1, o2⟩ := AllP_app.1 g1
          refine ⟨o2, g2, fun {D0 V a w Q} d1 d2 d3 d4 d5 hk => ?_⟩
          obtain ⟨dst, op, ty, pos, after, gd⟩ := q
          simp only at hd
          subst hd
          have he := ev_ok (s := ⟨env, mem, nb⟩) hL hv o1
          unfold wpList
          rw [if_pos (goes_wanted hg d3)]
          refine .inl ?_
          unfold Oper.wp
          rw [he.run D0 V a w d3 (d5 _)]
          have hlt : t < a.tmps.size := by rw [d2]; simpa [Nat.blt_eq] using h1
          exact g3 d1 (by show (a.tmps.setIfInBounds t _).size = _; rw [Array.size_setIfInBounds, d2]) (d3.put hlt) (envOk_put d4 hok) d5 hk
        · cases h
      · cases h
structure AppN where
  k : Nat
  i : Nat
  f : Nat
  m : MB
  env : List (Nat × SV)
  rest : List Oper
  obs : List Prop
/-- An append to a list in a row, what follows up to the store into its cell. -/
def appN (x : Cx) (all : List Oper) (env : List (Nat × SV)) (mem : List (Nat × MB)) (nb : Nat) (o : Oper) (l : List Oper) : Option AppN := match o with
  | ⟨some t, .call ⟨.builtin .append, args, ts⟩, _, _, _, gd⟩ => match args.toList, ts.toList, goes all env gd, Nat.blt t x.n with
    | [a, b], [T, T'], some true, true => match St.get ⟨env, mem, nb⟩ a, St.get ⟨env, mem, nb⟩ b, find x.L T, Nat.beq T T' with
      | some (.sl ⟨k, [(i, f)]⟩), some q, some ⟨_, .slice e es _, _, _⟩, true => match find x.L e, find mem k with
        | some ⟨_, _, by_, some c1⟩, some (.list .own c l0) => match nthC (tcells c (gt l0 i)) f, noSl (cks c1), Nat.beq es (wid c1), Nat.blt 0 by_ with
          | some (.sl c2 xs0), true, true, true => match castL (c' := c1) xs0, srcS mem c1 q with
            | some xs, some (ys, [], false, o2) => match spliceT (tcells c (gt l0 i)) f [.sl c1 (xs ++ ys)], nx nb fun nb1 => midS x all mem nb1 l ((t, .sl ⟨nb, [(i, f)]⟩) :: env) [] with
              | some cs, some (env', o', rest, o3) => match mkc c cs, o' with
                | some x', ⟨none, .store T2 p y, _, _, _, gd2⟩ => match goes all env' gd2, St.get ⟨env', mem, nb⟩ p, St.get ⟨env', mem, nb⟩ y, find x.L T2 with
                  | some true, some (.el ⟨k2, []⟩ es2 i2 f2), some (.sl ⟨nb2, [(i3, f3)]⟩), some ti2 => match Nat.beq k2 k, Nat.beq es2 (wid c), Nat.beq f2 f, Nat.beq nb2 nb, Nat.beq f3 f, Nat.beq ti2.zs.length 1 with
                    | true, true, true, true, true, true => some ⟨k, i, f, .list .own c (l0.set i x'), env', rest, (i < l0.length) :: ((xs.length + ys.length) * by_ ≤ 140737488355328) :: (i2 = i) :: (i3 = i) :: app o2 o3⟩
                    | _, _, _, _, _, _ => none
                  | _, _, _, _ => none
                | _, _ => none
              | _, _ => none
            | _, _ => none
          | _, _, _, _ => none
        | _, _ => none
      | _, _, _, _ => none
    | _, _, _, _ => none
  | _ => none
theorem ridI_ok {V : Vl} {k i f nb : Nat} {L : Loc} (hk : k < nb) : RidOk (V.ext nb (nlI V k i f L)) (nb + 1) (ridT k nb f 1 i []) := by
  have vn : ∀ p, V.ext nb (nlI V k i f L) ⟨nb, p⟩ = nlI V k i f L p := fun p => Vl.ext_new
  have vo : ∀ {r : Rid}, r.k ≠ nb → V.ext nb (nlI V k i f L) r = V r := fun h => if_neg h
  have key : ∀ r : Rid, r.k < nb + 1 → V.ext nb (nlI V k i f L) (ridT k nb f 1 i [] r) = V.ext nb (nlI V k i f L) r ∧ (ridT k nb f 1 i [] r).k < nb + 1 := by
    rintro ⟨k', p⟩ hr
    have kne : k' = k → k' ≠ nb := fun e h => by omega
    cases p with
    | nil =>
      simp only [ridT, find]
      split
      · rename_i e
        have e := Nat.eq_of_beq_eq_true e
        subst e
        exact ⟨by rw [vn, vo (by exact kne rfl)]; rfl, Nat.lt_succ_self _⟩
      · exact ⟨rfl, hr⟩
    | cons aj q =>
      obtain ⟨a, j⟩ := aj
      have same : k' = k → ¬ (f ≤ j ∧ j < f + 1) → V.ext nb (nlI V k i f L) ⟨nb, (a, j) :: q⟩ = V.ext nb (nlI V k i f L) ⟨k', (a, j) :: q⟩ := by
        intro e h
        subst e
        rw [vn, vo (by exact kne rfl)]
        simp only [nlI]
        rw [if_neg (fun hh => h (by omega))]
      simp only [ridT, find]
      split
      · rename_i e
        have e := Nat.eq_of_beq_eq_true e
        split
        · rename_i h1
          rw [Nat.blt_eq] at h1
          exact ⟨same e (by omega), Nat.lt_succ_self _⟩
        · split
          · rename_i h1
            have h1 := Nat.le_of_ble_eq_true h1
            exact ⟨same e (by simp only [Nat.add_eq] at h1; omega), Nat.lt_succ_self _⟩
          · exact ⟨rfl, hr⟩
      · exact ⟨rfl, hr⟩
  exact ⟨fun r hr => (key r hr).1, fun r hr => (key r hr).2⟩

section
variable {x : Cx} {all l : List Oper} {o : Oper} {env : List (Nat × SV)} {mem : List (Nat × MB)} {nb : Nat} {K : St → Prop}
theorem appN_core (hL : LayOk x.P x.L) {d : AppN} (h : appN x all env mem nb o l = some d) (ho : AllP d.obs)
    (hk : Sq x all d.rest ⟨envT (ridT d.k nb d.f 1 d.i []) d.env, memT (ridT d.k nb d.f 1 d.i []) ((nb, d.m) :: killL [d.k] mem), nb + 1⟩ K) {g : Gx} {Q : Exit → Act → World → Prop} {V : Vl} {act : Act} {w : World}
    (hQ : ∀ s' V' a' w', K s' → Rep x g V' s' a' w' → Q .normal a' w') (hr : Rep x g V ⟨env, mem, nb⟩ act w) :
    ∃ t v w1 V', o.dst = some t ∧ t < act.tmps.size ∧ Region.wanted o (yielded all.toArray act.tmps) = true ∧ (execOp act.eval o).run x.P w = .ok (.value v) w1 ∧ EnvR V' ((t, .sl ⟨nb, [(d.i, d.f)]⟩) :: env) (act.put (some t) v) ∧ (∀ e, Ents g.D0 V' ⟨e, mem, nb + 1⟩ w1) ∧ wpList x.P all.toArray Q l (act.put (some t) v) w1 := by
    unfold appN at h
    split at h
    · rename_i t args ts ty pos after gd
      split at h
      · rename_i a b T T' hargs hts hg h1
        split at h
        · rename_i k i f q zs0 e es ea by0 cd ha hb ht hTT
          split at h
          · rename_i zs1 td1 by_ c1 c l0 he hm
            split at h
            · rename_i c2 xs0 hnth hflat hes hby
              split at h
              · rename_i xs ys o2 hcst hsrc
                split at h
                · rename_i cs1 env' o' rest o3 hspl hmid
                  split at h
                  · rename_i x' T2 p y ty2 pos2 after2 gd2 hmk
                    split at h
                    · rename_i k2 es2 i2 f2 nb2 i3 f3 ti2 hg2 hp hy ht2
                      split at h
                      · rename_i e1 e2 e3 e4 e5 e6
                        simp only [Option.some.injEq] at h
                        subst h
                        obtain ⟨hi, hroom, hi2, hi3, ho'⟩ := ho
                        have hi2 := hi2.symm
                        have hi3 := hi3.symm
                        subst hi2; subst hi3
                        obtain ⟨ho2, ho3⟩ := AllP_app.1 ho'
                        have e1 := (Nat.eq_of_beq_eq_true e1).symm
                        have e2 := Nat.eq_of_beq_eq_true e2
                        have e3 := (Nat.eq_of_beq_eq_true e3).symm
                        have e4 := (Nat.eq_of_beq_eq_true e4).symm
                        have e5 := (Nat.eq_of_beq_eq_true e5).symm
                        have e6 := Nat.eq_of_beq_eq_true e6
                        subst e1; subst e2; subst e3; subst e4; subst e5
                        have hT := Nat.eq_of_beq_eq_true hTT
                        subst hT
                        have e7 : args = #[a, b] := by apply Array.ext'; simpa using hargs
                        have e8 : ts = #[T, T] := by apply Array.ext'; simpa using hts
                        subst e7; subst e8
                        have hcc := castL_eq hcst
                        cases hcc
                        rw [nthC_eq] at hnth
                        have hby' : 0 < by_ := by simpa [Nat.blt_eq] using hby
                        have hes' := Nat.eq_of_beq_eq_true hes
                        rw [nx_eq] at hmid
                        obtain ⟨_, hd0, hmidok⟩ := midS_ok hL hmid ho3
                        have c1' : cont mem ⟨k, [(i, f)]⟩ = some (.list .own c1 xs) := cont_iff.2 ⟨_, hm, by simp only [contB, desc, gt_at hi, hnth]; rfl⟩
                        have c0 : cont mem ⟨k, []⟩ = some (.list .own c l0) := cont_iff.2 ⟨_, hm, rfl⟩
                        have hat0 := hr.ents.at_ _ _ c0
                        have hat1 := hr.ents.at_ _ _ c1'
                        have hS0 : srcS mem c1 (.sl ⟨k, [(i, f)]⟩) = some (xs, [], false, [i < l0.length]) := by
                          simp only [srcS, hm, descE, nthC_eq, hnth, hcst, srcK, hflat]
                        obtain ⟨as0, cs0, pre, pv0, S0⟩ := srcS_ok (md := .own) hr.ents hS0 ⟨hi, trivial⟩ (fun h => by cases h)
                        obtain ⟨as, css, news, pv2, S⟩ := srcS_ok (md := .own) hr.ents hsrc ho2 (fun h => by cases h)
                        obtain ⟨dd, h4, h5⟩ := (hL.at ht).desc
                        obtain ⟨ii, de, rfl, j2, j3, j4, j5⟩ := td_slice h5
                        obtain ⟨ii', g1, g2, g3, g4⟩ := (hL.at he).info
                        have : ii' = ii := Option.some.inj (g1.symm.trans j2)
                        subst this
                        have hsz : ii'.size = wid c1 := j3.trans hes'
                        have big : xs.length + ys.length ≤ maxLen := by
                          have := Nat.le_mul_of_pos_right (xs.length + ys.length) hby'
                          simp only [maxLen]; omega
                        have hpl : pre.length = xs.length * ii'.size := by rw [hsz]; exact S0.rows.len
                        have hnl : news.length = ys.length * ii'.size := by rw [hsz]; exact S.rows.len
                        have hden0 := S0.den
                        simp only [den, Loc.hd, Value.slice.injEq] at hden0
                        obtain ⟨rfl, hln, rfl⟩ := hden0
                        obtain ⟨q1, q2, q3, q4⟩ := hat1
                        have hcm : (V ⟨k, [(i, f)]⟩).cap ≤ maxLen := by
                          rcases q3 rfl with h | ⟨_, _, _, _, _, _, _, h⟩
                          · omega
                          · exact h
                        obtain ⟨L, w1, r1, r2, r3⟩ := r_append (P := x.P) w (t := T) (ty := ty) h4 j2 g3 (by rw [cells_zero (hL.at he)]; simp [← g2]) (cs := css) hpl S0.read S0.none hnl S.read S.none S.rows.one
                          (by
                            rcases q3 rfl with h | ⟨a0, cs9, t9, w1, w2, w3, w4, w5⟩
                            · exact .inl h
                            · exact .inr ⟨a0, cs9, t9, w1, w2, w3, by rw [hsz]; exact w4⟩) q2 hcm big (by rw [g4]; exact hroom)
                        have run : (execOp act.eval ⟨some t, .call ⟨.builtin .append, #[a, b], #[T, T]⟩, ty, pos, after, gd⟩).run x.P w = .ok (.value L.hd) w1 := by
                          simp only [execOp, resolve, invoke, builtin, Sem.run_bind, Sem.run_pure, Result.andThen_ok, List.map_toArray, List.map_cons, List.map_nil, hr.env.get ha, hr.env.get hb, S0.den, S.den, r1]
                        -- the outer list's block
                        obtain ⟨ad, a1, a2, _⟩ := row_cells hat0 hi
                        have hb0 : (V ⟨k, []⟩).b = ad.block := by unfold Loc.b; rw [a1]
                        have live0 : liveB (V ⟨k, []⟩) (.list .own c l0) := by have := hat0.2.1; simp only [liveB]; omega
                        obtain ⟨cs, tt, b3, b4, b5⟩ : ∃ cs t, w.heap[ad.block]? = some (.cells cs t) ∧ ad.off + (V ⟨k, []⟩).cap * wid c ≤ cs.size ∧ (V ⟨k, []⟩).cap ≤ maxLen := by
                          rcases hat0.2.2.1 rfl with h | ⟨ad', cs, t9, z1, z2, z3, z4, z5⟩
                          · have := hat0.2.1; omega
                          · rw [a1] at z1; cases z1; exact ⟨cs, t9, z3, z4, z5⟩
                        have hadn : (V ⟨k, [(i, f)]⟩).cap ≠ 0 → ad.block ≠ (V ⟨k, [(i, f)]⟩).b := by
                          intro hcp e
                          have := hr.ents.sep ⟨k, []⟩ ⟨k, [(i, f)]⟩ _ _ c0 c1' live0 hcp rfl (by rw [hb0, e])
                          cases this
                        have hfw : f < wid c := by have := (List.getElem?_eq_some_iff.1 hnth).1; rw [tcells_len] at this; exact this
                        have hx' : ∀ j, (tcells c x')[j]? = if j = f then some (.sl c1 (xs ++ ys)) else (tcells c (gt l0 i))[j]? := by
                          intro j
                          obtain ⟨y1, y2, y3⟩ := spliceT_get hspl
                          rw [mkc_cells hmk, y3]
                          by_cases hj : j = f
                          · subst hj
                            rw [if_pos ⟨Nat.le_refl _, by simp⟩, if_pos rfl, Nat.sub_self]; rfl
                          · rw [if_neg hj, if_neg (by simp only [List.length_cons, List.length_nil]; omega)]
                        have key : L.len = (xs ++ ys).length → (xs ++ ys).length ≤ L.cap → OwnAt w1 L (wid c1) → (∀ j u, (pre ++ news)[j]? = some u → ∃ a, L.a = some a ∧ a.spot = none ∧ w1.cell? ⟨a.block, a.off + j, none⟩ = some u) →
                            (L.cap ≠ 0 → ((V ⟨k, [(i, f)]⟩).cap ≠ 0 ∧ L.b = (V ⟨k, [(i, f)]⟩).b) ∨ w.heap.size ≤ L.b) → w.heap.size ≤ w1.heap.size →
                            (∀ b, b < w.heap.size → ((V ⟨k, [(i, f)]⟩).cap ≠ 0 → b ≠ (V ⟨k, [(i, f)]⟩).b) → w1.heap[b]? = w.heap[b]?) → SIO w w1 → AtB V w1 ⟨k, [(i, f)]⟩ (.list .own c1 xs) →
                            ∃ t' v w1 V', (⟨some t, .call ⟨.builtin .append, #[a, b], #[T, T]⟩, ty, pos, after, gd⟩ : Oper).dst = some t' ∧ t' < act.tmps.size ∧ Region.wanted ⟨some t, .call ⟨.builtin .append, #[a, b], #[T, T]⟩, ty, pos, after, gd⟩ (yielded all.toArray act.tmps) = true ∧ (execOp act.eval ⟨some t, .call ⟨.builtin .append, #[a, b], #[T, T]⟩, ty, pos, after, gd⟩).run x.P w = .ok (.value v) w1 ∧ EnvR V' ((t', .sl ⟨nb, [(i, f)]⟩) :: env) (act.put (some t') v) ∧ (∀ e, Ents g.D0 V' ⟨e, mem, nb + 1⟩ w1) ∧ wpList x.P all.toArray Q l (act.put (some t') v) w1 := by
                          intro p1 p2 p3 p4 p5 p6 p7 p8 p9
                          have vn : ∀ p, V.ext nb (nlI V k i f L) ⟨nb, p⟩ = nlI V k i f L p := fun p => Vl.ext_new
                          have ag : AgrB nb (V.ext nb (nlI V k i f L)) V := Vl.ext_agr
                          have locI : nlI V k i f L [(i, f)] = L := by simp [nlI]
                          have hkn := (hr.ents.ok _ _ hm).1
                          have hdy : den (V.ext nb (nlI V k i f L)) (.sl ⟨nb, [(i, f)]⟩) = L.hd := by simp only [den, vn, locI]
                          have Lad : L.cap ≠ 0 → L.b ≠ ad.block := by
                            intro hcp e
                            have hadlt : ad.block < w.heap.size := lt_of_heap b3
                            rcases p5 hcp with ⟨y1, y2⟩ | y1
                            · exact hadn y1 (by rw [← e, y2])
                            · omega
                          have hw1 : w1.heap[ad.block]? = some (.cells cs tt) := (p7 _ (lt_of_heap b3) hadn).trans b3
                          have hlt : t < act.tmps.size := by rw [hr.size]; simpa [Nat.blt_eq] using h1
                          have env1 : EnvR (V.ext nb (nlI V k i f L)) ((t, .sl ⟨nb, [(i, f)]⟩) :: env) (act.put (some t) L.hd) := by
                            have hold : EnvR (V.ext nb (nlI V k i f L)) env act := fun t' v hv => by rw [den_agree ag v (hr.envOk t' v hv)]; exact hr.env t' v hv
                            have := hold.put (t := t) (v := .sl ⟨nb, [(i, f)]⟩) hlt
                            rw [hdy] at this
                            exact this
                          refine ⟨t, L.hd, w1, _, rfl, hlt, goes_wanted hg hr.env, run, env1, fun e => hr.ents.nested (s := ⟨env, mem, nb⟩) ag c1' p9 p7 e, ?_⟩
                          refine hmidok (D0 := g.D0) (V := V.ext nb (nlI V k i f L)) (a := act.put (some t) L.hd) (w := w1) hr.defers (by show (act.tmps.setIfInBounds t _).size = _; rw [Array.size_setIfInBounds, hr.size]) env1 (envOk_put (fun t' v hv => okV_mono (Nat.le_succ _) _ (hr.envOk t' v hv)) (by simp [okV, Nat.blt_eq])) (fun e => hr.ents.nested (s := ⟨env, mem, nb⟩) ag c1' p9 p7 e) (fun a' d1 d2 d3 d4 => ?_)
                          unfold wpList
                          rw [if_pos (goes_wanted hg2 d3)]
                          refine .inl ?_
                          let cs' := (cs.toList.take (ad.off + (i * wid c + f)) ++ [L.hd] ++ cs.toList.drop (ad.off + (i * wid c + f) + 1)).toArray
                          have hfit : ad.off + (i * wid c + f) + 1 ≤ cs.size := by
                            have : (i + 1) * wid c ≤ (V ⟨k, []⟩).cap * wid c := Nat.mul_le_mul_right _ (by have := hat0.2.1; omega)
                            rw [Nat.add_mul] at this
                            omega
                          have hpv : (V.ext nb (nlI V k i f L)) ⟨k, []⟩ = V ⟨k, []⟩ := ag _ hkn
                          obtain ⟨iz, gz1, gz2, gz3, _⟩ := (hL.at ht2).info
                          have store : (Instr.storeAt T2 (den (V.ext nb (nlI V k i f L)) (.el ⟨k, []⟩ (wid c) i f)) (den (V.ext nb (nlI V k i f L)) (.sl ⟨nb, [(i, f)]⟩))).run x.P w1 = .ok () (w1.setRow ad.block cs') := by
                            rw [hdy]
                            simp only [Instr.storeAt, den, hpv, Loc.at, a1, Option.map_some, Instr.sureAddr, Sem.run_bind, Sem.run_pure, Result.andThen_ok, storeVar, r_sizeOf gz1]
                            have hcl : L.hd.cells = #[L.hd] := rfl
                            rw [hcl, if_neg (by rw [gz2, TI.zero_len, e6]; simp)]
                            have := run_storeCells_at (P := x.P) ad.block (ad.off + (i * wid c + f)) tt [L.hd] 0 cs w1 hw1 (by simp only [List.length_cons, List.length_nil]; omega) (by intro u hu; rw [List.mem_singleton] at hu; subst hu; rfl)
                            simp only [Nat.add_zero] at this
                            exact this
                          unfold Oper.wp
                          have hst : (execOp a'.eval ⟨none, .store T2 p y, ty2, pos2, after2, gd2⟩).run x.P w1 = .ok .skip (w1.setRow ad.block cs') := by
                            simp only [execOp, d3.get (s := ⟨env', mem, nb⟩) hp, d3.get (s := ⟨env', mem, nb⟩) hy, Sem.run_bind, store, Result.andThen_ok, Sem.run_pure]
                          rw [hst]
                          have hh := setRow_heap w1 ad.block cs cs' tt (0, 0) hw1
                          have other : ∀ b, b ≠ ad.block → (w1.setRow ad.block cs').heap[b]? = w1.heap[b]? := fun b hb => setRow_other w1 ad.block b _ hb
                          have hcs : ∀ o, cs'[o]? = if o = ad.off + (i * wid c + f) then some L.hd else cs[o]? := by
                            intro o
                            simp only [cs', List.getElem?_toArray]
                            by_cases h1 : o < ad.off + (i * wid c + f)
                            · rw [if_neg (by omega), List.append_assoc, List.getElem?_append_left (by simp; omega), List.getElem?_take, if_pos h1]; simp
                            · by_cases h2 : o = ad.off + (i * wid c + f)
                              · rw [if_pos h2, List.append_assoc, List.getElem?_append_right (by simp; omega)]
                                have : o - (cs.toList.take (ad.off + (i * wid c + f))).length = 0 := by simp; omega
                                rw [this]; rfl
                              · rw [if_neg h2, List.getElem?_append_right (by simp; omega), List.getElem?_drop]
                                simp only [Array.getElem?_toList]
                                congr 1
                                simp; omega
                          have hrep := hr.inPlace (w' := w1.setRow ad.block cs') (i := i) (f := f) (x' := x') (zs := xs ++ ys) (L := L) hm hi hnth hflat hx' p1 p2
                            (by
                              rcases p3 with h | ⟨aL, csL, tL, y1, y2, y3, y4, y5⟩
                              · exact .inl h
                              · rcases Nat.eq_zero_or_pos L.cap with hz | hz
                                · exact .inl hz
                                · have hne := Lad (by omega)
                                  unfold Loc.b at hne
                                  rw [y1] at hne
                                  exact .inr ⟨aL, csL, tL, y1, y2, (other _ hne).trans y3, y4, y5⟩)
                            (fun a9 y9 hy9 j9 d9 hd9 => by
                              have hin : (pre ++ news)[a9 * wid c1 + j9]? = some (denT V0 ⟨0, []⟩ d9) := by
                                have hjw : j9 < wid c1 := by have := (List.getElem?_eq_some_iff.1 hd9).1; rw [tcells_len] at this; exact this
                                have dsl : ∀ pv, denP V pv a9 j9 d9 = denT V0 ⟨0, []⟩ d9 ∧ ∀ a8, denP V pv a8 j9 d9 = denT V0 ⟨0, []⟩ d9 := by
                                  intro pv
                                  cases d9 with
                                  | int _ _ => exact ⟨rfl, fun _ => rfl⟩
                                  | bool _ => exact ⟨rfl, fun _ => rfl⟩
                                  | str _ => exact ⟨rfl, fun _ => rfl⟩
                                  | sl c5 l5 => exact absurd hd9 (flat_no hflat)
                                by_cases hlt9 : a9 < xs.length
                                · rw [List.getElem?_append_left hlt9] at hy9
                                  have hlp : a9 * wid c1 + j9 < pre.length := by
                                    rw [hpl, hsz]
                                    have : (a9 + 1) * wid c1 ≤ xs.length * wid c1 := Nat.mul_le_mul_right _ hlt9
                                    rw [Nat.succ_mul] at this; omega
                                  rw [List.getElem?_append_left hlp, S0.rows.val a9 y9 hy9 j9 d9 hd9, (dsl _).1]
                                · rw [List.getElem?_append_right (by omega)] at hy9
                                  have e9 : a9 * wid c1 = xs.length * wid c1 + (a9 - xs.length) * wid c1 := by rw [← Nat.add_mul]; congr 1; omega
                                  rw [List.getElem?_append_right (by rw [hpl, hsz]; omega), show a9 * wid c1 + j9 - pre.length = (a9 - xs.length) * wid c1 + j9 by rw [hpl, hsz]; omega, S.rows.val _ y9 hy9 j9 d9 hd9, (dsl _).2]
                              obtain ⟨aL, y1, y2, y3⟩ := p4 _ _ hin
                              refine ⟨aL, y1, y2, ?_⟩
                              have hcp : L.cap ≠ 0 := by
                                have := (List.getElem?_eq_some_iff.1 hy9).1
                                omega
                              have hne := Lad hcp
                              unfold Loc.b at hne
                              rw [y1] at hne
                              rw [cell_heap (other _ hne)]
                              exact y3)
                            p5 a1 a2 b3 hh (by simp only [cs', List.size_toArray, List.length_append, List.length_take, List.length_drop, Array.length_toList, List.length_cons, List.length_nil]; omega) hcs
                            (fun b hb hb1 hb2 => (other b hb1).trans (p7 b hb hb2)) (by rw [setRow_size]; exact p6) (p8.trans ⟨rfl, rfl, rfl⟩)
                          have hfin : Rep x g (V.ext nb (nlI V k i f L)) ⟨env', (nb, .list .own c (l0.set i x')) :: killL [k] mem, nb + 1⟩ a' (w1.setRow ad.block cs') := ⟨d1, d2, d3, d4, hrep.ents.env, hrep.frame, hrep.own, hrep.pin, hrep.d0⟩
                          have hT := hfin.T (ridI_ok (V := V) (k := k) (i := i) (f := f) (nb := nb) (L := L) hkn)
                          exact hk.run g Q _ _ _ hQ hT
                        have hcap0 : (xs ++ ys).length = xs.length + ys.length := List.length_append
                        rcases r2 with ⟨hL', hn', hw', hc'⟩ | ⟨a0, cs5, t5, hL', ha0, hs0, hh0, hf0, hc', h0', hw'⟩ | ⟨rst, hL', hl', hc', hr', hw', hcb⟩
                        · subst hL'
                          subst hw'
                          refine key (by rw [hcap0]) (by rw [hcap0]; exact hc') (q3 rfl) (fun j u hu => ?_) (fun hne => .inl ⟨hne, rfl⟩) (Nat.le_refl _) (fun b hb _ => rfl) (SIO.refl _) ⟨q1, q2, q3, q4⟩
                          rw [hn', List.append_nil] at hu
                          have hpos : 0 < pre.length := by have := (List.getElem?_eq_some_iff.1 hu).1; omega
                          have hx0 : 0 < xs.length := Nat.pos_of_ne_zero fun e => by rw [hpl, e, Nat.zero_mul] at hpos; omega
                          rcases q3 rfl with h | ⟨⟨b0, o0, s0⟩, cs9, t9, w1, w2, w3, w4, w5⟩
                          · omega
                          · obtain ⟨ad9, e1, e2⟩ := S0.read j u hu
                            rw [w1] at e1
                            cases e1
                            simp only at w2
                            subst w2
                            rw [Addr.add_mid] at e2
                            exact ⟨_, w1, rfl, e2⟩
                        · subst hL'
                          rw [hsz] at hf0 hw'
                          subst hw'
                          have hfit : a0.off + xs.length * wid c1 + news.length ≤ cs5.size := by
                            have : (xs.length + ys.length) * wid c1 ≤ (V ⟨k, [(i, f)]⟩).cap * wid c1 := Nat.mul_le_mul_right _ hc'
                            rw [Nat.add_mul] at this
                            rw [hnl, hsz]; omega
                          have hh := setRow_heap w a0.block cs5 (cs5.toList.take (a0.off + xs.length * wid c1) ++ news ++ cs5.toList.drop (a0.off + xs.length * wid c1 + news.length)).toArray t5 (0, 0) hh0
                          have hbn : (V ⟨k, [(i, f)]⟩).b = a0.block := by unfold Loc.b; rw [ha0]
                          have hfit2 : a0.off + (V ⟨k, [(i, f)]⟩).cap * wid c1 ≤ (cs5.toList.take (a0.off + xs.length * wid c1) ++ news ++ cs5.toList.drop (a0.off + xs.length * wid c1 + news.length)).toArray.size := by
                            simp only [List.size_toArray, List.length_append, List.length_take, List.length_drop, Array.length_toList]; omega
                          refine key (by rw [hcap0]) (by rw [hcap0]; exact hc') (.inr ⟨a0, _, t5, ha0, hs0, hh, hfit2, r3⟩) (fun j u hu => ⟨a0, ha0, hs0, cell_of hh ?_⟩) (fun hne => .inl ⟨hne, rfl⟩) (by rw [setRow_size]; exact Nat.le_refl _) (fun b hb hne => setRow_other w a0.block b _ fun e => hne (by omega) (by rw [hbn, e])) ⟨rfl, rfl, rfl⟩ ⟨q1, q2, fun _ => .inr ⟨a0, _, t5, ha0, hs0, hh, hfit2, hcm⟩, fun a9 y9 hy9 j9 d9 hd9 => ?_⟩
                          · simp only [List.getElem?_toArray]
                            by_cases hj : j < pre.length
                            · rw [List.getElem?_append_left hj] at hu
                              rw [List.append_assoc, List.getElem?_append_left (by simp; rw [hpl, hsz] at hj; omega), List.getElem?_take, if_pos (by rw [hpl, hsz] at hj; omega)]
                              obtain ⟨ad9, e1, e2⟩ := S0.read j u hu
                              rw [ha0] at e1
                              cases e1
                              obtain ⟨b1, o1, s1⟩ := a0
                              simp only at hs0
                              subst hs0
                              rw [Addr.add_mid] at e2
                              simp only [World.cell?, hh0, Option.isSome_none, Bool.false_eq_true, if_false] at e2
                              simpa using e2
                            · rw [List.getElem?_append_right (by omega)] at hu
                              have hjl := (List.getElem?_eq_some_iff.1 hu).1
                              rw [hpl, hsz] at hj hu hjl
                              rw [List.append_assoc, List.getElem?_append_right (by simp; omega), List.getElem?_append_left (by simp; omega), ← hu]
                              congr 1
                              simp; omega
                          · obtain ⟨ad9, y1, y2, y3⟩ := q4 a9 y9 hy9 j9 d9 hd9
                            rw [ha0] at y1
                            cases y1
                            refine ⟨a0, ha0, hs0, cell_of hh ?_⟩
                            simp only [World.cell?, hh0, Option.isSome_none, Bool.false_eq_true, if_false] at y3
                            have hlt9 : a9 < xs.length := (List.getElem?_eq_some_iff.1 hy9).1
                            have hjw : j9 < wid c1 := by have := (List.getElem?_eq_some_iff.1 hd9).1; rw [tcells_len] at this; exact this
                            have hlp : a9 * wid c1 + j9 < xs.length * wid c1 := by
                              have : (a9 + 1) * wid c1 ≤ xs.length * wid c1 := Nat.mul_le_mul_right _ hlt9
                              rw [Nat.succ_mul] at this; omega
                            simp only [List.getElem?_toArray]
                            rw [List.append_assoc, List.getElem?_append_left (by simp; omega), List.getElem?_take, if_pos (by omega)]
                            simpa using y3
                        · subst hw'
                          have hh := heap_alloc_new w.drew (.cells (pre ++ news ++ rst).toArray e)
                          have hpn : (pre ++ news).length = (xs.length + ys.length) * wid c1 := by rw [List.length_append, hpl, hnl, hsz, Nat.add_mul]
                          refine key (by rw [hcap0]; exact hl') (by rw [hcap0]; exact hc') (.inr ⟨_, _, e, hL', rfl, hh, ?_, r3⟩) (fun j u hu => ⟨_, hL', rfl, cell_of hh ?_⟩) (fun _ => .inr ?_) (by rw [alloc_size]; exact Nat.le_succ _) (fun b hb _ => alloc_old w.drew _ hb) ⟨rfl, rfl, rfl⟩ ?_
                          · simp only [List.size_toArray, List.length_append, hpn, hr', hsz, Nat.zero_add]
                            have : L.cap * wid c1 = (xs.length + ys.length) * wid c1 + (L.cap - (xs.length + ys.length)) * wid c1 := by rw [← Nat.add_mul]; congr 1; omega
                            simp only [List.length_append] at hpn
                            omega
                          · simp only [List.getElem?_toArray, Nat.zero_add]
                            rw [List.getElem?_append_left (List.getElem?_eq_some_iff.1 hu).1]
                            exact hu
                          · show w.heap.size ≤ L.b
                            unfold Loc.b; rw [hL']; exact Nat.le_refl _
                          · have hold : AtB V w ⟨k, [(i, f)]⟩ (.list .own c1 xs) := ⟨q1, q2, q3, q4⟩
                            obtain ⟨z1, z2⟩ := hr.ents.okc c1'
                            exact hold.keep z2 z1 (AgrB.refl _ _) (fun hl => alloc_old w.drew _ (hr.ents.lt c1' hl))
                      · cases h
                    · cases h
                  · cases h
                · cases h
              · cases h
            · cases h
          · cases h
        · cases h
      · cases h
    · cases h
theorem sq_appN (hL : LayOk x.P x.L) {d : AppN} (h : appN x all env mem nb o l = some d) (ho : AllP d.obs)
    (hk : Sq x all d.rest ⟨envT (ridT d.k nb d.f 1 d.i []) d.env, memT (ridT d.k nb d.f 1 d.i []) ((nb, d.m) :: killL [d.k] mem), nb + 1⟩ K) : Sq x all (o :: l) ⟨env, mem, nb⟩ K :=
  ⟨fun g Q V act w hQ hr => by
    obtain ⟨t, v, w1, V', e1, _, e2, e3, _, _, e4⟩ := appN_core hL h ho hk hQ hr
    unfold wpList
    rw [if_pos e2]
    refine .inl ?_
    unfold Oper.wp
    rw [e3]
    simp only [Oper.upon, e1]
    exact e4⟩
end
def appNR (d : AppN) (mem : List (Nat × MB)) (nb : Nat) (g : List Oper → St → Res) : Res := match d with
  | ⟨k, i, f, m, env, rest, _⟩ => killP [k] mem fun mem1 => memTP (ridT k nb f 1 i []) ((nb, m) :: mem1) fun mem2 => envTP (ridT k nb f 1 i []) env fun env2 => nx nb fun nb' => g rest ⟨env2, mem2, nb'⟩
section
variable {x : Cx} {Q : Exit → St → Prop} {obs : List Prop} {K : List Kf} {all l : List Oper} {env : List (Nat × SV)} {mem : List (Nat × MB)} {nb : Nat} {o : Oper}
/-- An append to a list in a row, stored back. -/
theorem g_appN (hL : LayOk x.P x.L) (fuel : Nat) {d : AppN} (ho : AllP obs) (hd : appN x all env mem nb o l = some d) (ho2 : AllP d.obs)
    (hk : Good x Q (appNR d mem nb fun rest s' => run x fuel [] (.ops all rest) K s')) : Good x Q (.ops obs all (o :: l) K ⟨env, mem, nb⟩) := by
  obtain ⟨k, i, f, m, env', rest, ob⟩ := d
  simp only [appNR, killP_eq, memTP_eq, envTP_eq, nx_eq] at hk
  exact ⟨ho, sq_appN hL hd ho2 (run_ok hL hk).2⟩
end
end Go.Proofs.Ytonjbhdfimcedaa
