/- Ranging over a map of numbers while entries with a value are deleted. No condition on any program. -/
import Derived.Test.YtonjbhdfimcedaaVC
import Derived.Maps.RangeRun
namespace Go.Proofs.Ytonjbhdfimcedaa
set_option linter.unusedSimpArgs false
set_option linter.unusedSectionVars false
set_option linter.unusedVariables false
open Go.RowKit
open Go.ChangeMaps (setBlock)
section
variable {x : Cx} {g : Gx} {V : Vl} {s : St} {a : Act} {w w' : World}
/-- Blocks of which the state says nothing may change. -/
theorem Rep.world (h : Rep x g V s a w) (hsz : w.heap.size ≤ w'.heap.size) (same : ∀ r c, cont s.mem r = some c → liveB (V r) c → w'.heap[(V r).b]? = w.heap[(V r).b]?) (old : ∀ b, b < g.w0.heap.size → w'.heap[b]? = w.heap[b]?) (io : SIO w w') : Rep x g V s a w' := by
  refine ⟨h.defers, h.size, h.env, h.envOk, ?_, ⟨Nat.le_trans h.frame.1 hsz, fun b hb hd => (old b hb).trans (h.frame.2.1 b hb hd), h.frame.2.2.trans io⟩, h.own, h.pin, h.d0⟩
  refine h.ents.re (s' := s) h.ents.ok (fun r => some r) (fun r b hc hl => .inr ⟨r, b, rfl, hc, hl, rfl, by cases kindB b <;> trivial⟩) (fun r1 r2 b1 b2 _ _ _ _ _ he => Option.some.inj he) (fun r b hc => ?_) (fun b hb => ⟨hb, h.d0w b hb⟩)
  obtain ⟨h1, h2⟩ := h.ents.okc hc
  exact (h.ents.at_ r b hc).keep h2 h1 (AgrB.refl _ _) fun hl => same r b hc hl
theorem Rep.drop (h : Rep x g V s a w) {env' : List (Nat × SV)} (he : ∀ t v, find env' t = some v → find s.env t = some v) : Rep x g V ⟨env', s.mem, s.nb⟩ a w :=
  ⟨h.defers, h.size, fun t v hv => h.env t v (he t v hv), fun t v hv => h.envOk t v (he t v hv), h.ents.env, h.frame, h.own, h.pin, h.d0⟩
end
theorem Rep.mem_eq {x : Cx} {g : Gx} {V : Vl} {s : St} {a : Act} {w : World} (h : Rep x g V s a w) {m' : List (Nat × MB)} (he : ∀ j, find m' j = find s.mem j) : Rep x g V ⟨s.env, m', s.nb⟩ a w := by
  have hc : ∀ r, cont m' r = cont s.mem r := fun r => by unfold cont; rw [he]
  refine ⟨h.defers, h.size, h.env, h.envOk, ⟨fun k m hk => h.ents.ok k m (by rw [← he]; exact hk), fun r b hb => h.ents.at_ r b (by rw [← hc]; exact hb), fun r r' b b' h1 h2 => h.ents.sep r r' b b' (by rw [← hc]; exact h1) (by rw [← hc]; exact h2), fun r b hb => h.ents.d0 r b (by rw [← hc]; exact hb)⟩, h.frame, fun b hb => h.own b ?_, h.pin, h.d0⟩
  obtain ⟨r, y, h1, h2⟩ := hb
  exact ⟨r, y, by rw [← hc]; exact h1, h2⟩
/-- Operations that only yield values. -/
def evs (x : Cx) (all : List Oper) : List Oper → St → List Prop → Option (St × List Prop)
  | [], s, obs => some (s, obs)
  | o :: l, ⟨env, mem, nb⟩, obs => match goes all env o.guard with
    | some true => match o.dst with
      | some t => match ev x.L ⟨env, mem, nb⟩ o.op with
        | some (v, ob) => match Nat.blt t x.n with
          | true => match okV nb v with
            | true => evs x all l ⟨(t, v) :: env, mem, nb⟩ (app ob obs)
            | false => none
          | false => none
        | none => none
      | none => none
    | _ => none
def allE : List (Nat × SV) → List (Nat × SV) → Prop
  | [], _ => True
  | (t, v) :: l, env => find env t = some v ∧ allE l env
theorem allE_find : ∀ {l env : List (Nat × SV)} {t : Nat} {v : SV}, allE l env → find l t = some v → find env t = some v
  | [], env, t, v, h, hf => by simp [find] at hf
  | (u, z) :: l, env, t, v, h, hf => by
    rw [find_cons] at hf
    split at hf
    · rename_i e; subst e; cases hf; exact h.1
    · exact allE_find h.2 hf
/-- The operations lead to an environment of which a part is named. -/
def EvsTo (x : Cx) (all l : List Oper) (s : St) (env' : List (Nat × SV)) : Prop := ∃ env obs, evs x all l s [] = some (⟨env, s.mem, s.nb⟩, obs) ∧ AllP obs ∧ allE env' env
section
variable {x : Cx} {g : Gx} {V : Vl} {w : World} {all : List Oper} {Q : Exit → Act → World → Prop}
theorem evs_ok (hL : LayOk x.P x.L) {rest : List Oper} : ∀ {l : List Oper} {s s' : St} {obs obs' : List Prop} {a : Act}, evs x all l s obs = some (s', obs') → AllP obs' → Rep x g V s a w → (AllP obs → ∀ a', Rep x g V s' a' w → wpList x.P all.toArray Q rest a' w) → wpList x.P all.toArray Q (l ++ rest) a w
  | [], s, s', obs, obs', a, h, ho, hr, hk => by
    simp only [evs, Option.some.injEq, Prod.mk.injEq] at h
    obtain ⟨rfl, rfl⟩ := h
    exact hk ho a hr
  | o :: l, ⟨env, mem, nb⟩, s', obs, obs', a, h, ho, hr, hk => by
    obtain ⟨dst, op, ty, pos, after, gd⟩ := o
    unfold evs at h
    simp only at h
    split at h
    · rename_i hg
      split at h
      · rename_i t
        split at h
        · rename_i v ob hv
          split at h
          · rename_i h1
            split at h
            · rename_i h2
              show wpList x.P all.toArray Q (_ :: (l ++ rest)) a w
              unfold wpList
              rw [if_pos (goes_wanted (o := ⟨some t, op, ty, pos, after, gd⟩) hg hr.env)]
              refine .inl ?_
              have hob : AllP ob := by
                have key : ∀ {l : List Oper} {s s' : St} {o1 o2 : List Prop}, evs x all l s o1 = some (s', o2) → AllP o2 → AllP o1 := by
                  intro l
                  induction l with
                  | nil => intro s s' o1 o2 h ho; simp only [evs, Option.some.injEq, Prod.mk.injEq] at h; obtain ⟨rfl, rfl⟩ := h; exact ho
                  | cons o l ih =>
                    intro s s' o1 o2 h ho
                    obtain ⟨e1, m1, n1⟩ := s
                    unfold evs at h
                    split at h <;> first | (cases h; done) | skip
                    split at h <;> first | (cases h; done) | skip
                    split at h <;> first | (cases h; done) | skip
                    split at h <;> first | (cases h; done) | skip
                    split at h <;> first | (cases h; done) | skip
                    exact (AllP_app.1 (ih h ho)).2
                exact (AllP_app.1 (key h ho)).1
              unfold Oper.wp
              rw [(ev_ok (x := x) (s := ⟨env, mem, nb⟩) hL hv hob).run g.D0 V a w hr.env hr.ents]
              exact evs_ok hL h ho (hr.put h1 h2) fun ho2 a' hr' => hk (AllP_app.1 ho2).2 a' hr'
            · cases h
          · cases h
        · cases h
      · cases h
    · cases h
theorem evsTo_ok (hL : LayOk x.P x.L) {rest l : List Oper} {s : St} {a : Act} {env' : List (Nat × SV)} (h : EvsTo x all l s env') (hr : Rep x g V s a w) (hk : ∀ a', Rep x g V ⟨env', s.mem, s.nb⟩ a' w → wpList x.P all.toArray Q rest a' w) : wpList x.P all.toArray Q (l ++ rest) a w := by
  obtain ⟨env, obs, h1, h2, h3⟩ := h
  exact evs_ok hL h1 h2 hr fun _ a' hr' => hk a' (hr'.drop fun t v hf => allE_find h3 hf)
theorem wp_reg {P : Program} {id : Nat} {ops : Array Oper} {a : Act} (h : wpList P ops.toList.toArray Q ops.toList a w) : (Code.region id ops false).wp P Q a w := wp_region_lit h
theorem one_val {P : Program} {ops : Array Oper} {o : Oper} {rest : List Oper} {a : Act} {v : Value} {w' : World} (hg : o.guard = none) (hrun : (execOp a.eval o).run P w = .ok (.value v) w') (hk : wpList P ops Q rest (a.put o.dst v) w') : wpList P ops Q (o :: rest) a w := by
  unfold wpList
  rw [if_pos (by unfold Region.wanted; rw [hg])]
  refine .inl ?_
  unfold Oper.wp
  rw [hrun]
  exact hk
theorem mp_delS {P : Program} {T kt e b cl : Nat} {arr : Array MapEntry} {d : MpD} {z : Int} {ts : Array TypeId} {ty : TypeId} (h0 : ts[0]? = some T) (hT : P.underlying T = some (.map kt e)) (hk : P.underlying kt = some (.int .i64)) (hb : w.heap[b]? = some (.map arr cl)) (he : mpE d arr cl) :
    ∃ arr', (Builtin.delete_ ts ty #[.map (some b), .int .i64 z]).run P w = .ok (.tuple #[]) { w with heap := w.heap.setIfInBounds b (.map arr' cl) } ∧ arr'.toList.Sublist arr.toList ∧ mpE ⟨d.bl, mpDel d.es z⟩ arr' cl := by
  unfold Builtin.delete_
  have a0 : (#[Value.map (some b), .int .i64 z] : Array Value)[0]? = some (.map (some b)) := rfl
  have a1 : (#[Value.map (some b), .int .i64 z] : Array Value)[1]? = some (.int .i64 z) := rfl
  simp only [h0, a0, a1, Sem.run_bind, mp_under hT, Result.andThen_ok, mp_getObj hb, mp_checkKey hk, Sem.run_pure]
  rcases findNow_mp (n := z) (i := 0) he.1 with ⟨g1, g2, g3, g6⟩ | ⟨j, v, e', g1, g2, g3, g4, g5, g6⟩
  · simp only [mp_findKey hk g2, Result.andThen_ok, mp_setObj _ hb, Sem.run_bind, Sem.run_pure]
    obtain ⟨h1, h2, h3, h4⟩ := he
    exact ⟨_, rfl, List.Sublist.refl _, by rw [g6]; exact h1, h2, h3, mpDel_keys h4⟩
  · simp only [mp_findKey hk g2, Result.andThen_ok, Sem.run_bind, Nat.zero_add, mp_setObj _ hb, Sem.run_pure]
    have hlt : j < arr.size := by have := (List.getElem?_eq_some_iff.1 g3).1; simpa using this
    obtain ⟨h1, h2, h3, h4⟩ := he
    have hsub : (arr.eraseIdxIfInBounds j).toList.Sublist arr.toList := by
      simp only [Array.eraseIdxIfInBounds, hlt, dif_pos]
      rw [Array.toList_eraseIdx]; exact List.eraseIdx_sublist _ _
    refine ⟨_, rfl, hsub, ?_, (hsub.map _).nodup h2, fun e he => h3 e (hsub.subset he), mpDel_keys h4⟩
    rw [g6]
    simp only [Array.eraseIdxIfInBounds, hlt, dif_pos, Array.toList_eraseIdx]
    rw [map_erase, map_erase, h1]
end
/-! ### Plain facts -/
theorem len_filter_lt {α : Type} {p q : α → Bool} {e : α} (hpq : ∀ y, q y = true → p y = true) : ∀ {l : List α}, e ∈ l → p e = true → q e = false → (l.filter q).length < (l.filter p).length
  | [], h, _, _ => absurd h List.not_mem_nil
  | y :: l, h, h1, h2 => by
    have le : ∀ l : List α, (l.filter q).length ≤ (l.filter p).length := by
      intro l
      induction l with
      | nil => exact Nat.le_refl _
      | cons z l ih =>
        simp only [List.filter_cons]
        cases hq : q z with
        | true => simp [hpq z hq]; exact ih
        | false => cases p z <;> simp <;> omega
    rcases List.mem_cons.1 h with rfl | h
    · simp only [List.filter_cons, h1, h2, if_true]
      have := le l
      simp
      omega
    · have ih := len_filter_lt hpq h h1 h2
      simp only [List.filter_cons]
      cases hq : q y with
      | true => simp [hpq y hq]; exact ih
      | false => cases p y <;> simp <;> omega
theorem mpDel_filter : ∀ {l : List (Int × Int)} {k v : Int}, (k, v) ∈ l → (l.map Prod.fst).Nodup → (mpDel l k).filter (fun p => !decide (p.2 = v)) = l.filter (fun p => !decide (p.2 = v))
  | [], k, v, h, _ => absurd h List.not_mem_nil
  | (b, u) :: l, k, v, h, hn => by
    simp only [List.map_cons, List.nodup_cons] at hn
    unfold mpDel
    split
    · rename_i e
      subst e
      have : v = u := by
        rcases List.mem_cons.1 h with h | h
        · cases h; rfl
        · exact absurd (List.mem_map_of_mem (f := Prod.fst) h) hn.1
      subst this
      simp
    · rename_i e
      have hm : (k, v) ∈ l := by
        rcases List.mem_cons.1 h with h | h
        · cases h; exact absurd rfl e
        · exact h
      have ih := mpDel_filter hm hn.2
      simp only [List.filter_cons, ih]
theorem mpDel_not {l : List (Int × Int)} {k : Int} (hn : (l.map Prod.fst).Nodup) : k ∉ (mpDel l k).map Prod.fst := by
  induction l with
  | nil => simp [mpDel]
  | cons p l ih =>
    obtain ⟨b, u⟩ := p
    simp only [List.map_cons, List.nodup_cons] at hn
    unfold mpDel
    split
    · rename_i e; subst e; exact hn.1
    · rename_i e
      simp only [List.map_cons, List.mem_cons, not_or]
      exact ⟨e, ih hn.2⟩
theorem mpE_mem {es : List (Int × Int)} {arr : Array MapEntry} {cl : Nat} (h : mpE ⟨false, es⟩ arr cl) {e : MapEntry} (he : e ∈ arr.toList) : ∃ k u, e.key = .int .i64 k ∧ e.val = .int .i64 u ∧ (k, u) ∈ es := by
  have h1 := h.1
  have : (e.key, e.val) ∈ es.map fun p => (Value.int .i64 p.1, mpV false p.2) := by rw [← h1]; exact List.mem_map_of_mem (f := fun e : MapEntry => (e.key, e.val)) he
  obtain ⟨p, hp, q⟩ := List.mem_map.1 this
  simp only [Prod.mk.injEq] at q
  exact ⟨p.1, p.2, q.1.symm, q.2.symm, hp⟩
theorem mpE_mem2 {es : List (Int × Int)} {arr : Array MapEntry} {cl : Nat} (h : mpE ⟨false, es⟩ arr cl) {p : Int × Int} (hp : p ∈ es) : ∃ e ∈ arr.toList, e.key = .int .i64 p.1 ∧ e.val = .int .i64 p.2 := by
  have : (Value.int .i64 p.1, mpV false p.2) ∈ arr.toList.map fun e => (e.key, e.val) := by rw [h.1]; exact List.mem_map_of_mem (f := fun p : Int × Int => (Value.int .i64 p.1, mpV false p.2)) hp
  obtain ⟨e, he, q⟩ := List.mem_map.1 this
  simp only [Prod.mk.injEq] at q
  exact ⟨e, he, q.1, q.2⟩
theorem nodup_inj {α β : Type} {f : α → β} : ∀ {l : List α} {a b : α}, (l.map f).Nodup → a ∈ l → b ∈ l → f a = f b → a = b
  | [], a, b, _, h, _, _ => absurd h List.not_mem_nil
  | y :: l, a, b, hn, ha, hb, e => by
    simp only [List.map_cons, List.nodup_cons] at hn
    rcases List.mem_cons.1 ha with ha | ha <;> rcases List.mem_cons.1 hb with hb | hb
    · rw [ha, hb]
    · rw [ha] at e; exact absurd (e ▸ List.mem_map_of_mem (f := f) hb) hn.1
    · rw [hb] at e; exact absurd (e ▸ List.mem_map_of_mem (f := f) ha) hn.1
    · exact nodup_inj hn.2 ha hb e
/-! ### The sweep -/
abbrev swE (v : Int) : List (Nat × SV) := [(1, .int .i64 v), (0, .ptr 0 0)]
abbrev swM (w1 : MpD) (es : List (Int × Int)) : List (Nat × MB) := [(2, .mp ⟨false, es⟩), (0, .cells [.mp 1, .mp 2]), (1, .mp w1)]
abbrev swI (tI r : Nat) (v : Int) : List (Nat × SV) := (tI, .val (.pointer (some ⟨r, 0, none⟩))) :: swE v
structure SwI (x : Cx) (g : Gx) (w1 : MpD) (v : Int) (es0 : List (Int × Int)) (tI r b : Nat) (es : List (Int × Int)) (arr : Array MapEntry) (seen : Array Nat) (cl last : Nat) (V : Vl) (a : Act) (w : World) : Prop where
  rep : Rep x g V ⟨swI tI r v, swM w1 es, 3⟩ a w
  it : w.heap[r]? = some (.mapIter (some b) cl seen last)
  mp : (V ⟨2, []⟩).a = some ⟨b, 0, none⟩
  hb : w.heap[b]? = some (.map arr cl)
  fit : mpE ⟨false, es⟩ arr cl
  far : ∀ q c, cont (swM w1 es) q = some c → liveB (V q) c → (V q).b ≠ r
  new : g.w0.heap.size ≤ r
  le : cl ≤ last
  met : ∀ e ∈ arr.toList, seen.contains e.born = true → e.val ≠ .int .i64 v
  same : es.filter (fun p => !decide (p.2 = v)) = es0.filter (fun p => !decide (p.2 = v))
theorem leftOf_len (arr : Array MapEntry) (seen : Array Nat) : (leftOf arr seen).size = (arr.toList.filter fun e => !seen.contains e.born).length := by
  unfold leftOf
  rw [← Array.length_toList, Array.toList_filter]
theorem far_es {V : Vl} {w1 : MpD} {es es' : List (Int × Int)} {r : Nat} (h : ∀ q c, cont (swM w1 es) q = some c → liveB (V q) c → (V q).b ≠ r) : ∀ q c, cont (swM w1 es') q = some c → liveB (V q) c → (V q).b ≠ r := by
  intro q c hc hl
  obtain ⟨m, h1, h2⟩ := cont_iff.1 hc
  rw [find_cons] at h1
  split at h1
  · rename_i e
    cases h1
    obtain ⟨k, p⟩ := q
    simp only at e h2
    subst e
    obtain ⟨rfl, rfl⟩ := contB_mp h2
    exact h ⟨2, []⟩ (.mp ⟨false, es⟩) (cont_iff.2 ⟨_, rfl, rfl⟩) trivial
  · rename_i e
    exact h q c (cont_iff.2 ⟨m, by rw [find_cons, if_neg e]; exact h1, h2⟩) hl
/-- **'for x, of := range m { if of == v { delete(m, x) } }'** -/
theorem tr_sweep {x : Cx} (hL : LayOk x.P x.L) {Q : Exit → St → Prop} {i2 i3 i4 i5 i6 b0 b1 tM tI tN tC tE tX tV tD tB tK T2 : Nat} {ops2 ops3 ops4 ops5 ops6 : Array Oper} {l2 l3 l4 l6 : List Oper} {T kt et : Nat} {z1 z2 : List SV} {n1 n2 : Nat} {c1 c2 : Option Ty}
    {ty2 ty3 ty4 ty6 : TypeId} {p2 p3 p4 p6 : String} {af2 af3 af4 af6 : Array Edge}
    (v : Int) (w1 : MpD) (es0 : List (Int × Int)) (k2 k6 : Nat) (hl2 : l2 = ops2.toList.take k2) (hl3 : l3 = ops3.toList.tail) (hl4 : l4 = ops4.toList.tail) (hl6 : l6 = ops6.toList.take k6)
    (hT : find x.L T = some ⟨z1, .map kt et, n1, c1⟩) (hK : find x.L kt = some ⟨z2, .int .i64, n2, c2⟩)
    (h2 : ops2.toList = l2 ++ [⟨some tI, .range T (.tmp tM), ty2, p2, af2, none⟩])
    (h3 : ops3.toList = ⟨some tN, .next (.tmp tI) false, ty3, p3, af3, none⟩ :: l3)
    (h4 : ops4.toList = ⟨some tE, .entry (.tmp tI), ty4, p4, af4, none⟩ :: l4)
    (h6 : ops6.toList = l6 ++ [⟨none, .call ⟨.builtin .delete, #[.tmp tD, .tmp tK], #[T, T2]⟩, ty6, p6, af6, none⟩])
    (bI : Nat.blt tI x.n = true) (bN : Nat.blt tN x.n = true) (bE : Nat.blt tE x.n = true)
    (e2 : EvsTo x ops2.toList l2 ⟨swE v, swM w1 es0, 3⟩ ((tM, .mp 2) :: swE v))
    (e3f : ∀ r es, EvsTo x ops3.toList l3 ⟨(tN, .tup [.tf false]) :: swI tI r v, swM w1 es, 3⟩ ((tC, .tf false) :: swE v))
    (e3t : ∀ r es k u, EvsTo x ops3.toList l3 ⟨(tN, .tup [.tf true, .int .i64 k, .int .i64 u]) :: swI tI r v, swM w1 es, 3⟩ ((tC, .tf true) :: swI tI r v))
    (e4 : ∀ r es k u, EvsTo x ops4.toList l4 ⟨(tE, .tup [.int .i64 k, .int .i64 u]) :: (tC, .tf true) :: swI tI r v, swM w1 es, 3⟩ ((tX, .int .i64 k) :: (tV, .int .i64 u) :: swI tI r v))
    (e5 : ∀ r es k u, EvsTo x ops5.toList ops5.toList ⟨(tX, .int .i64 k) :: (tV, .int .i64 u) :: swI tI r v, swM w1 es, 3⟩ ((tB, .bool (decide (u = v))) :: (tX, .int .i64 k) :: swI tI r v))
    (e6 : ∀ r es k, EvsTo x ops6.toList l6 ⟨(tX, .int .i64 k) :: swI tI r v, swM w1 es, 3⟩ ((tD, .mp 2) :: (tK, .int .i64 k) :: swI tI r v))
    (hne : tX ≠ tI ∧ tX ≠ 0 ∧ tX ≠ 1 ∧ tV ≠ tI ∧ tV ≠ 0 ∧ tV ≠ 1 ∧ tB ≠ tI ∧ tB ≠ 0 ∧ tB ≠ 1 ∧ tB ≠ tX ∧ tD ≠ tI ∧ tD ≠ 0 ∧ tD ≠ 1 ∧ tK ≠ tI ∧ tK ≠ 0 ∧ tK ≠ 1 ∧ tD ≠ tK ∧ tI ≠ 0 ∧ tI ≠ 1 ∧ tC ≠ tI ∧ tC ≠ 0 ∧ tC ≠ 1)
    (hm : tM ≠ 0 ∧ tM ≠ 1)
    (hQ : Q .normal ⟨swE v, swM w1 (es0.filter fun p => !decide (p.2 = v)), 3⟩) :
    Tr x (.seq (.region i2 ops2 false) (.block b0 (.loop (.seq (.region i3 ops3 false) (.seq (.cond (.tmp tC) .skip (.exit b0)) (.block b1 (.seq (.region i4 ops4 false) (.seq (.region i5 ops5 false) (.cond (.tmp tB) (.region i6 ops6 false) .skip))))))))) Q ⟨swE v, swM w1 es0, 3⟩ :=
  ⟨fun g V a w hr => by
    obtain ⟨d1, g1, g2⟩ := (hL.at hT).desc
    obtain ⟨d2, g3, g4⟩ := (hL.at hK).desc
    rw [td_map g2] at g1
    rw [td_int g4] at g3
    refine wp_seq (wp_reg ?_)
    conv => arg 4; rw [h2]
    refine evsTo_ok hL e2 hr fun a1 hr1 => ?_
    -- range
    have hc2 : ∀ es, cont (swM w1 es) ⟨2, []⟩ = some (.mp ⟨false, es⟩) := fun es => cont_iff.2 ⟨_, rfl, rfl⟩
    obtain ⟨b, arr, cl, k1, k2, k3⟩ := hr1.ents.at_ ⟨2, []⟩ _ (hc2 es0)
    have hb : den V (.mp 2) = .map (some b) := by simp only [den, k1]; rfl
    have ht : a1.eval (.tmp tM) = .map (some b) := by rw [← hb]; exact hr1.env.get (s := ⟨(tM, .mp 2) :: swE v, swM w1 es0, 3⟩) (by simp [St.get, find_cons])
    have hrange : (Instr.range T (.map (some b))).run x.P w = .ok (.pointer (some ⟨w.heap.size, 0, none⟩)) (w.alloc (.mapIter (some b) cl #[] cl)) := by
      unfold Instr.range
      simp only [Sem.run_bind, mp_under g1, Result.andThen_ok, mp_getObj k2, Sem.run_pure]
      rfl
    have run : (execOp a1.eval ⟨some tI, .range T (.tmp tM), ty2, p2, af2, none⟩).run x.P w = .ok (.value (.pointer (some ⟨w.heap.size, 0, none⟩))) (w.alloc (.mapIter (some b) cl #[] cl)) := by
      simp only [execOp, ht, Sem.run_bind, hrange, Result.andThen_ok, Sem.run_pure]
    refine one_val rfl run ?_
    have hr2 : Rep x g V ⟨swE v, swM w1 es0, 3⟩ a1 (w.alloc (.mapIter (some b) cl #[] cl)) := by
      have h0 : Rep x g V ⟨swE v, swM w1 es0, 3⟩ a1 w := hr1.drop (env' := swE v) fun t u hf => allE_find (l := swE v) ⟨by simp [find_cons, hm.2], by simp [find_cons, hm.1], trivial⟩ hf
      refine h0.world (by rw [alloc_size]; omega) (fun r c hc hl => alloc_old w _ (h0.ents.lt hc hl)) (fun b hb => alloc_old w _ (Nat.lt_of_lt_of_le hb h0.frame.1)) ⟨rfl, rfl, rfl⟩
    have hr3 := hr2.put (t := tI) (v := .val (.pointer (some ⟨w.heap.size, 0, none⟩))) bI rfl
    refine wpList_nil ?_
    show (Code.block b0 _).wp _ _ _ _
    refine wp_block ?_
    have far0 : ∀ q c, cont (swM w1 es0) q = some c → liveB (V q) c → (V q).b ≠ w.heap.size := fun q c hc hl => Nat.ne_of_lt (hr1.ents.lt (r := q) hc hl)
    refine wp_loop_ghost (fun n a w' => ∃ es arr seen last V, (leftOf arr seen).size = n ∧ SwI x g w1 v es0 tI w.heap.size b es arr seen cl last V a w') _ ⟨es0, arr, #[], cl, V, rfl, ⟨hr3, heap_alloc_new w _, k1, (alloc_old w _ (lt_of_heap k2)).trans k2, k3, far0, hr1.frame.1, Nat.le_refl _, fun e he hs => absurd hs (by simp), rfl⟩⟩ ?_
    clear run hrange hr2 hr3 far0 ht
    intro n a w' ⟨es, arr, seen, last, V, hn, I⟩
    obtain ⟨m1, m2, m3, m4, m5, m6, m7, m8, m9, m10, m11, m12, m13, m14, m15, m16, m17, m18, m19, m20, m21, m22⟩ := hne
    generalize w.heap.size = r at I ⊢
    have hIt : a.eval (.tmp tI) = .pointer (some ⟨r, 0, none⟩) := I.rep.env.get (s := ⟨swI tI r v, swM w1 es, 3⟩) (x := .tmp tI) (v := .val (.pointer (some ⟨r, 0, none⟩))) (by simp [St.get, find_cons])
    refine wp_seq (wp_reg ?_)
    conv => arg 4; rw [h3]
    rcases run_next_at (P := x.P) w' ty3 r b cl last seen arr cl I.it I.hb I.fit.2.2.1 I.le with ⟨hz, hrun⟩ | ⟨e, hel, w2, hw2, hrun⟩
    · have run : (execOp a.eval ⟨some tN, .next (.tmp tI) false, ty3, p3, af3, none⟩).run x.P w' = .ok (.value (.tuple #[.bool false])) w' := by
        simp only [execOp, hIt, Sem.run_bind, hrun, Result.andThen_ok, Sem.run_pure]
      refine one_val rfl run ?_
      have hp := I.rep.put (t := tN) (v := .tup [.tf false]) bN rfl
      rw [show l3 = l3 ++ [] from (List.append_nil _).symm]
      refine evsTo_ok hL (e3f r es) hp fun a2 hr2 => wpList_nil ?_
      show (Code.seq _ _).wp _ _ _ _
      refine wp_seq (wp_cond_false (hr2.env.get (s := ⟨(tC, .tf false) :: swE v, swM w1 es, 3⟩) (x := .tmp tC) (v := .tf false) (by simp [St.get, find_cons])) (wp_exit ?_))
      show (if b0 = b0 then _ else _)
      rw [if_pos rfl]
      have hall : ∀ p ∈ es, ¬ p.2 = v := by
        intro p hp he
        obtain ⟨e, h1, h2, h3⟩ := mpE_mem2 I.fit hp
        have : seen.contains e.born = true := by
          cases hc : seen.contains e.born with
          | true => rfl
          | false =>
            have : e ∈ (leftOf arr seen).toList := by unfold leftOf; rw [Array.toList_filter]; exact List.mem_filter.2 ⟨h1, by rw [hc]; rfl⟩
            rw [Array.eq_empty_of_size_eq_zero hz] at this
            exact absurd this (by simp)
        exact I.met e h1 this (by rw [h3, he])
      have hes : es0.filter (fun p => !decide (p.2 = v)) = es := by
        rw [← I.same]
        exact List.filter_eq_self.2 fun p hp => by simp [hall p hp]
      rw [hes] at hQ
      exact ⟨_, V, hQ, hr2.drop fun t u hf => allE_find (l := swE v) ⟨by simp [find_cons, m22], by simp [find_cons, m21], trivial⟩ hf⟩
    · have hmem : e ∈ arr.toList ∧ seen.contains e.born = false := by
        unfold leftOf at hel
        rw [Array.toList_filter] at hel
        obtain ⟨h1, h2⟩ := List.mem_filter.1 hel
        exact ⟨h1, by simpa using h2⟩
      obtain ⟨k, u, hek, hev, hku⟩ := mpE_mem I.fit hmem.1
      have run : (execOp a.eval ⟨some tN, .next (.tmp tI) false, ty3, p3, af3, none⟩).run x.P w' = .ok (.value (.tuple #[.bool true, .int .i64 k, .int .i64 u])) (setBlock w2 r (.mapIter (some b) cl (seen.push e.born) cl)) := by
        simp only [execOp, hIt, Sem.run_bind, hrun, Result.andThen_ok, Sem.run_pure, hek, hev]
      have heq : w2.heap = w'.heap := by rcases hw2 with rfl | rfl <;> rfl
      have hio : SIO w' w2 := by rcases hw2 with rfl | rfl <;> exact ⟨rfl, rfl, rfl⟩
      have hb2 : ∀ j, j ≠ r → (setBlock w2 r (.mapIter (some b) cl (seen.push e.born) cl)).heap[j]? = w'.heap[j]? := fun j hj => by simp [setBlock, Ne.symm hj, heq]
      have hit2 : (setBlock w2 r (.mapIter (some b) cl (seen.push e.born) cl)).heap[r]? = some (.mapIter (some b) cl (seen.push e.born) cl) := by
        have := lt_of_heap I.it
        simp [setBlock, heq, this]
      have hbr : b ≠ r := by
        have := I.far ⟨2, []⟩ _ (hc2 es) trivial
        unfold Loc.b at this
        rw [I.mp] at this
        exact this
      refine one_val rfl run ?_
      have hw3 : Rep x g V ⟨swI tI r v, swM w1 es, 3⟩ a (setBlock w2 r (.mapIter (some b) cl (seen.push e.born) cl)) := I.rep.world (by simp [setBlock, heq]) (fun q c hc hl => hb2 _ (I.far q c hc hl)) (fun j hj => hb2 j (by have := I.new; omega)) ⟨hio.os, hio.tape, hio.output⟩
      have hbk := (hb2 b hbr).trans I.hb
      clear hrun run hIt
      generalize setBlock w2 r (.mapIter (some b) cl (seen.push e.born) cl) = w3 at hw3 hbk hit2 hb2 ⊢
      have hp := hw3.put (t := tN) (v := .tup [.tf true, .int .i64 k, .int .i64 u]) bN rfl
      rw [show l3 = l3 ++ [] from (List.append_nil _).symm]
      refine evsTo_ok hL (e3t r es k u) hp fun a2 hr2 => wpList_nil ?_
      show (Code.seq _ _).wp _ _ _ _
      refine wp_seq (wp_cond_true (hr2.env.get (s := ⟨(tC, .tf true) :: swI tI r v, swM w1 es, 3⟩) (x := .tmp tC) (v := .tf true) (by simp [St.get, find_cons])) (wp_skip ?_))
      show (Code.block b1 _).wp _ _ _ _
      refine wp_block (wp_seq (wp_reg ?_))
      conv => arg 4; rw [h4]
      have hIt2 : a2.eval (.tmp tI) = .pointer (some ⟨r, 0, none⟩) := hr2.env.get (s := ⟨(tC, .tf true) :: swI tI r v, swM w1 es, 3⟩) (x := .tmp tI) (v := .val (.pointer (some ⟨r, 0, none⟩))) (by simp [St.get, find_cons, m20])
      have run4 : (execOp a2.eval ⟨some tE, .entry (.tmp tI), ty4, p4, af4, none⟩).run x.P w3 = .ok (.value (.tuple #[.int .i64 k, .int .i64 u])) w3 := by
        simp only [execOp, hIt2, Sem.run_bind, run_entry_at (P := x.P) w3 r b cl seen arr cl e hit2 hbk hmem.1 I.fit.2.1, Result.andThen_ok, Sem.run_pure, hek, hev]
      refine one_val rfl run4 ?_
      have hp4 := hr2.put (t := tE) (v := .tup [.int .i64 k, .int .i64 u]) bE rfl
      rw [show l4 = l4 ++ [] from (List.append_nil _).symm]
      refine evsTo_ok hL (e4 r es k u) hp4 fun a4 hr4 => wpList_nil ?_
      show (Code.seq _ _).wp _ _ _ _
      refine wp_seq (wp_reg ?_)
      conv => arg 4; rw [show ops5.toList = ops5.toList ++ [] from (List.append_nil _).symm]
      refine evsTo_ok hL (e5 r es k u) hr4 fun a5 hr5 => wpList_nil ?_
      show (Code.cond _ _ _).wp _ _ _ _
      have hB := hr5.env.get (s := ⟨(tB, .bool (decide (u = v))) :: (tX, .int .i64 k) :: swI tI r v, swM w1 es, 3⟩) (x := .tmp tB) (v := .bool (decide (u = v))) (by simp [St.get, find_cons])
      have drop5 : Rep x g V ⟨(tX, .int .i64 k) :: swI tI r v, swM w1 es, 3⟩ a5 w3 := hr5.drop fun t z hf => allE_find (l := (tX, .int .i64 k) :: swI tI r v) ⟨by simp [find_cons, m10], by simp [find_cons, m7, m1], by simp [find_cons, m9, m3, m19], by simp [find_cons, m8, m2, m18], trivial⟩ hf
      have hleft : ∀ {arr' : Array MapEntry}, arr'.toList.Sublist arr.toList → (leftOf arr' (seen.push e.born)).size < n := by
        intro arr' hs
        rw [← hn, leftOf_len, leftOf_len]
        refine Nat.lt_of_le_of_lt (hs.filter _).length_le ?_
        refine len_filter_lt (e := e) (fun y hy => ?_) hmem.1 (by rw [hmem.2]; rfl) (by simp)
        rw [Array.contains_push] at hy
        cases hc : seen.contains y.born with
        | false => rfl
        | true => rw [hc] at hy; exact absurd hy (by simp)
      by_cases huv : u = v
      · subst huv
        refine wp_cond_true (by rw [hB]; simp [den]) (wp_reg ?_)
        conv => arg 4; rw [h6]
        refine evsTo_ok hL (e6 r es k) drop5 fun a6 hr6 => ?_
        have dD : a6.eval (.tmp tD) = .map (some b) := by
          have : den V (.mp 2) = .map (some b) := by simp only [den, I.mp]; rfl
          rw [← this]; exact hr6.env.get (s := ⟨(tD, .mp 2) :: (tK, .int .i64 k) :: swI tI r u, swM w1 es, 3⟩) (by simp [St.get, find_cons])
        have dK : a6.eval (.tmp tK) = .int .i64 k := hr6.env.get (s := ⟨(tD, .mp 2) :: (tK, .int .i64 k) :: swI tI r u, swM w1 es, 3⟩) (v := .int .i64 k) (by simp [St.get, find_cons, m17])
        obtain ⟨arr', run6, hs6, fit6⟩ := mp_delS (P := x.P) (ts := #[T, T2]) (ty := ty6) (z := k) rfl g1 g3 hbk I.fit
        have run6' : (execOp a6.eval ⟨none, .call ⟨.builtin .delete, #[.tmp tD, .tmp tK], #[T, T2]⟩, ty6, p6, af6, none⟩).run x.P w3 = .ok (.value (.tuple #[])) { w3 with heap := w3.heap.setIfInBounds b (.map arr' cl) } := by
          simp only [execOp, resolve, invoke, builtin, Sem.run_bind, Sem.run_pure, Result.andThen_ok, List.map_toArray, List.map_cons, List.map_nil, dD, dK, run6]
        refine one_val rfl run6' (wpList_nil ?_)
        have hr7 : Rep x g V ⟨swI tI r u, swM w1 es, 3⟩ a6 w3 := hr6.drop fun t z hf => allE_find (l := swI tI r u) ⟨by simp [find_cons, m11, m14], by simp [find_cons, m13, m16, m19], by simp [find_cons, m12, m15, m18], trivial⟩ hf
        have hr8 := (hr7.mpTo (k := 2) rfl I.mp hbk fit6).mem_eq (m' := swM w1 (mpDel es k)) (fun j => by simp only [find_cons]; split <;> rfl)
        have hself : ({ w3 with heap := w3.heap.setIfInBounds b (.map arr' cl) } : World).heap[b]? = some (.map arr' cl) := by
          have := lt_of_heap hbk
          simp [this]
        refine ⟨_, hleft hs6, mpDel es k, arr', seen.push e.born, cl, V, rfl, hr8, ?_, I.mp, hself, fit6, far_es I.far, I.new, Nat.le_refl _, ?_, ?_⟩
        · simpa [hbr] using hit2
        · intro y hy hc
          rw [Array.contains_push, Bool.or_eq_true] at hc
          rcases hc with hc | hc
          · exact I.met y (hs6.subset hy) hc
          · have hye : y = e := nodup_inj I.fit.2.1 (hs6.subset hy) hmem.1 (by simpa using hc)
            obtain ⟨k', u', q1, q2, q3⟩ := mpE_mem fit6 hy
            rw [hye, hek] at q1
            cases q1
            exact absurd (List.mem_map_of_mem (f := Prod.fst) q3) (mpDel_not I.fit.2.2.2)
        · rw [mpDel_filter hku I.fit.2.2.2]; exact I.same
      · refine wp_cond_false (by rw [hB]; simp [den, huv]) (wp_skip ?_)
        have hr7 : Rep x g V ⟨swI tI r v, swM w1 es, 3⟩ a5 w3 := drop5.drop fun t z hf => allE_find (l := swI tI r v) ⟨by simp [find_cons, m1], by simp [find_cons, m3, m19], by simp [find_cons, m2, m18], trivial⟩ hf
        refine ⟨_, hleft (List.Sublist.refl _), es, arr, seen.push e.born, cl, V, rfl, hr7, hit2, I.mp, hbk, I.fit, I.far, I.new, Nat.le_refl _, ?_, I.same⟩
        intro y hy hc
        rw [Array.contains_push, Bool.or_eq_true] at hc
        rcases hc with hc | hc
        · exact I.met y hy hc
        · have hye : y = e := nodup_inj I.fit.2.1 hy hmem.1 (by simpa using hc)
          rw [hye, hev]
          intro h
          cases h
          exact huv rfl⟩
end Go.Proofs.Ytonjbhdfimcedaa
