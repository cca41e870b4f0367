/- Runs of graphs; a folded graph runs as the graph does, and folding once more changes nothing. No condition on any program. -/
import Derived.Test.YtonjbhdfimcedaaND
import Derived.Test.YtonjbhdfimcedaaVW
import Derived.Test.YtonjbhdfimcedaaVU
/- F1 -/
namespace Go.Proofs.Ytonjbhdfimcedaa
set_option linter.unusedVariables false
set_option linter.unusedSimpArgs false
open Go.RowKit
def placeI (n m : Int) : Int := (n.tmod m + m).tmod m
theorem tmod_bd {n m : Int} (h : 0 < m) : -m < n.tmod m ∧ n.tmod m < m := ⟨Int.lt_tmod_of_pos n h, Int.tmod_lt_of_pos n h⟩
theorem placeI_bd {n m : Int} (h : 0 < m) : 0 ≤ placeI n m ∧ placeI n m < m := by
  have b := tmod_bd (n := n) h
  unfold placeI
  exact ⟨Int.tmod_nonneg _ (by omega), Int.tmod_lt_of_pos _ h⟩
abbrev VS := List Int × List (List Int)
def rd (l : List Int) (v : Int) : Int := gt (c := .int) l v.toNat
/-- What an operation does to variables and arrays. -/
def doS (o : Op_) (s : VS) : VS :=
  if o.kind = 1 then (s.1.set o.dst.toNat o.imm, s.2)
  else if o.kind = 2 then (s.1.set o.dst.toNat (rd s.1 o.a), s.2)
  else if o.kind = 3 then (s.1.set o.dst.toNat (doI o.imm (rd s.1 o.a) (rd s.1 o.b)), s.2)
  else if o.kind = 4 then (s.1.set o.dst.toNat (rd (gt (c := .ints) s.2 o.imm.toNat) (placeI (rd s.1 o.a) ((gt (c := .ints) s.2 o.imm.toNat : List Int).length : Int))), s.2)
  else if o.kind = 5 then (s.1, s.2.set o.imm.toNat ((gt (c := .ints) s.2 o.imm.toNat : List Int).set (placeI (rd s.1 o.a) ((gt (c := .ints) s.2 o.imm.toNat : List Int).length : Int)).toNat (rd s.1 o.b)))
  else s
def execL : List Op_ → VS → VS
  | [], s => s
  | o :: l, s => execL l (doS o s)
/-- The block that follows. -/
def nextB (b : Blk) (vs : List Int) : Int := if b.next.length = 1 ∨ rd vs b.cond ≠ 0 then gt (c := .int) b.next 0 else gt (c := .int) b.next 1
abbrev Out := VS × List Int × Int
def runG (g : Grf) : Nat → Nat → VS → Int → List Int → Int → Option Out
  | 0, _, _, _, _, _ => none
  | f + 1, i, s, left, counts, steps =>
    if left < 1 + ((gt (c := .block) g.blks i).ops.length : Int) then none
    else if (gt (c := .block) g.blks i).next.length = 0 then some (execL (gt (c := .block) g.blks i).ops s, counts.set i (gt (c := .int) counts i + 1), steps + ((gt (c := .block) g.blks i).ops.length : Int))
    else runG g f (nextB (gt (c := .block) g.blks i) (execL (gt (c := .block) g.blks i).ops s).1).toNat (execL (gt (c := .block) g.blks i).ops s) (left - 1 - ((gt (c := .block) g.blks i).ops.length : Int)) (counts.set i (gt (c := .int) counts i + 1)) (steps + ((gt (c := .block) g.blks i).ops.length : Int))
theorem doS_len {o : Op_} {s : VS} : (doS o s).1.length = s.1.length := by
  unfold doS
  repeat' split
  all_goals first | rfl | exact List.length_set
theorem execL_len : ∀ {l : List Op_} {s : VS}, (execL l s).1.length = s.1.length
  | [], s => rfl
  | o :: l, s => by show (execL l (doS o s)).1.length = _; rw [execL_len, doS_len]
/-! ### What is known holds -/
structure Snd (n : Nat) (m : MS) (vs : List Int) : Prop where
  len : vs.length = n
  k1 : (m.1.map Prod.fst).Nodup
  k2 : (m.2.map Prod.fst).Nodup
  w : ∀ v x : Int, 0 ≤ v → v < n → mpGet m.1 v = some x → rd vs v = x
  c : ∀ v u : Int, 0 ≤ v → v < n → mpGet m.2 v = some u → (0 ≤ u ∧ u < n) ∧ rd vs u = rd vs v ∧ mpGet m.2 u = none
theorem snd_zero {n : Nat} {vs : List Int} (h : vs.length = n) : Snd n ([], []) vs := ⟨h, List.nodup_nil, List.nodup_nil, fun v x _ _ h => (by cases h), fun v u _ _ h => (by cases h)⟩
theorem rd_set {l : List Int} {d v x : Int} (h0 : 0 ≤ d) (h1 : d < l.length) (v0 : 0 ≤ v) (v1 : v < l.length) : rd (l.set d.toNat x) v = if v = d then x else rd l v := by
  unfold rd
  rw [gt_set' (c := .int) (by omega) (by omega)]
  by_cases h : v = d
  · rw [if_pos (by rw [h]), if_pos h]
  · rw [if_neg (by omega), if_neg h]
theorem snd_use {n : Nat} {m : MS} {vs : List Int} (S : Snd n m vs) {v : Int} (h0 : 0 ≤ v) (h1 : v < n) : (0 ≤ useP m.2 v ∧ useP m.2 v < n) ∧ rd vs (useP m.2 v) = rd vs v ∧ mpGet m.2 (useP m.2 v) = none := by
  unfold useP
  cases h : mpGet m.2 v with
  | none => exact ⟨⟨h0, h1⟩, rfl, h⟩
  | some u =>
    obtain ⟨a, b, c⟩ := S.c v u h0 h1 h
    exact ⟨a, b, c⟩
theorem useP_none {cs : List (Int × Int)} {v : Int} (h : mpGet cs v = none) : useP cs v = v := by unfold useP; rw [h]; rfl
/-- The operands are in range and no copies. -/
def RngP (n : Nat) (m : MS) (o : Op_) : Prop := (o.kind = 1 ∨ o.kind = 2 ∨ o.kind = 3 ∨ o.kind = 4 → 0 ≤ o.dst ∧ o.dst < (n : Int)) ∧ (o.kind = 2 ∨ o.kind = 3 ∨ o.kind = 4 ∨ o.kind = 5 → (0 ≤ o.a ∧ o.a < (n : Int)) ∧ mpGet m.2 o.a = none) ∧ (o.kind = 3 ∨ o.kind = 5 → (0 ≤ o.b ∧ o.b < (n : Int)) ∧ mpGet m.2 o.b = none)
theorem snd_useO {n : Nat} {m : MS} {s : VS} (S : Snd n m s.1) {o : Op_} (ho : OpOK n o) : doS (useOP m.2 o) s = doS o s ∧ RngP n m (useOP m.2 o) := by
  obtain ⟨o1, o2, o3, o4⟩ := ho
  obtain ⟨kd, dst, a, b, imm⟩ := o
  dsimp only at o1 o2 o3 o4
  by_cases h1 : kd = 2 ∨ kd = 4
  · obtain ⟨ua, ea, na⟩ := snd_use S (o2 (by omega)).1 (o2 (by omega)).2
    rw [useOP_1 h1]
    refine ⟨?_, o1, fun _ => ⟨ua, na⟩, fun h => by dsimp only at h; omega⟩
    unfold doS
    dsimp only
    rw [ea]
  · by_cases h2 : kd = 3 ∨ kd = 5
    · obtain ⟨ua, ea, na⟩ := snd_use S (o2 (by omega)).1 (o2 (by omega)).2
      obtain ⟨ub, eb, nb⟩ := snd_use S (o3 h2).1 (o3 h2).2
      rw [useOP_2 h2]
      refine ⟨?_, o1, fun _ => ⟨ua, na⟩, fun _ => ⟨ub, nb⟩⟩
      unfold doS
      dsimp only
      rw [ea, eb]
    · rw [useOP_0 h1 h2]
      exact ⟨rfl, o1, fun h => by dsimp only at h; omega, fun h => by dsimp only at h; omega⟩
theorem snd_cst {n : Nat} {m : MS} {s : VS} (S : Snd n m s.1) {o : Op_} (ho : RngP n m o) : doS (cstP m.1 o) s = doS o s ∧ RngP n m (cstP m.1 o) := by
  obtain ⟨o1, o2, o3⟩ := ho
  have one : ∀ x, o.kind = 2 ∨ o.kind = 3 → RngP n m ⟨1, o.dst, 0, 0, x⟩ := fun x h => ⟨fun _ => o1 (by omega), fun h => by dsimp only at h; omega, fun h => by dsimp only at h; omega⟩
  by_cases h2 : o.kind = 2
  · have ha := (o2 (by omega)).1
    cases hk : mpGet m.1 o.a with
    | none => rw [cst_4 (by rw [hk]; rfl)]; exact ⟨rfl, o1, o2, o3⟩
    | some x =>
      have := S.w o.a x ha.1 ha.2 hk
      rw [cst_1 h2 (by rw [hk]; rfl), hk]
      refine ⟨?_, one _ (.inl h2)⟩
      unfold doS
      simp [h2, this]
  · by_cases h3 : o.kind = 3
    · have ha := (o2 (by omega)).1
      have hb := (o3 (by omega)).1
      cases hka : mpGet m.1 o.a with
      | none => rw [cst_4 (by rw [hka]; rfl)]; exact ⟨rfl, o1, o2, o3⟩
      | some x =>
        cases hkb : mpGet m.1 o.b with
        | none => rw [cst_5 h3 (by rw [hkb]; rfl)]; exact ⟨rfl, o1, o2, o3⟩
        | some y =>
          have e1 := S.w o.a x ha.1 ha.2 hka
          have e2 := S.w o.b y hb.1 hb.2 hkb
          rw [cst_2 h3 (by rw [hka]; rfl) (by rw [hkb]; rfl), hka, hkb]
          refine ⟨?_, one _ (.inr h3)⟩
          unfold doS
          simp [h3, e1, e2]
    · rw [cst_3 h2 h3]; exact ⟨rfl, o1, o2, o3⟩
theorem snd_fgt {n : Nat} {m : MS} {vs : List Int} (S : Snd n m vs) {d x : Int} (h0 : 0 ≤ d) (h1 : d < n) : Snd n (mpDel m.1 d, swp m.2 d) (vs.set d.toNat x) := by
  refine ⟨by rw [List.length_set]; exact S.len, mpDel_keys S.k1, swp_keys S.k2, fun v y v0 v1 hv => ?_, fun v u v0 v1 hv => ?_⟩
  · dsimp only at hv
    rw [mpGet_del S.k1] at hv
    split at hv
    · cases hv
    · rename_i hne
      rw [rd_set h0 (by rw [S.len]; exact h1) v0 (by rw [S.len]; exact v1), if_neg hne]
      exact S.w v y v0 v1 hv
  · dsimp only at hv ⊢
    rw [mpGet_swp S.k2] at hv
    split at hv
    · cases hv
    · rename_i hne
      split at hv
      · cases hv
      · rename_i hnd
        obtain ⟨a, b, c⟩ := S.c v u v0 v1 hv
        have hud : ¬ u = d := fun e => hnd (by rw [hv, e])
        refine ⟨a, ?_, ?_⟩
        · rw [rd_set h0 (by rw [S.len]; exact h1) a.1 (by rw [S.len]; exact a.2), rd_set h0 (by rw [S.len]; exact h1) v0 (by rw [S.len]; exact v1), if_neg hud, if_neg hne]
          exact b
        · rw [mpGet_swp S.k2, if_neg hud, c]; simp
theorem snd_upd {n : Nat} {m : MS} {s : VS} (S : Snd n m s.1) {o : Op_} (ho : RngP n m o) : Snd n (updP o m) (doS o s).1 := by
  obtain ⟨o1, o2, o3⟩ := ho
  by_cases h1 : o.kind = 1
  · have hd := o1 (.inl h1)
    have F := snd_fgt S (x := o.imm) hd.1 hd.2
    have e : (doS o s).1 = s.1.set o.dst.toNat o.imm := by unfold doS; rw [if_pos h1]
    rw [updP_1 h1, e]
    refine ⟨F.len, mpSet_keys F.k1, F.k2, fun v y v0 v1 hv => ?_, F.c⟩
    dsimp only at hv
    rw [mpGet_set] at hv
    split at hv
    · rename_i he
      subst he
      cases hv
      rw [rd_set hd.1 (by rw [S.len]; exact hd.2) v0 (by rw [S.len]; exact v1), if_pos rfl]
    · exact F.w v y v0 v1 hv
  · by_cases h2 : o.kind = 2
    · have hd := o1 (.inr (.inl h2))
      obtain ⟨ha, hn⟩ := o2 (.inl h2)
      have F := snd_fgt S (x := rd s.1 o.a) hd.1 hd.2
      have e : (doS o s).1 = s.1.set o.dst.toNat (rd s.1 o.a) := by unfold doS; rw [if_neg h1, if_pos h2]
      rw [e]
      by_cases h3 : o.a = o.dst
      · rw [updP_2 h2 h3]; exact F
      · rw [updP_2n h2 h3]
        refine ⟨F.len, F.k1, mpSet_keys F.k2, F.w, fun v u v0 v1 hv => ?_⟩
        dsimp only at hv ⊢
        rw [mpGet_set] at hv
        have hna : mpGet (mpSet (swp m.2 o.dst) o.dst o.a) o.a = none := by
          rw [mpGet_set, if_neg h3, mpGet_swp S.k2, if_neg h3, hn]; simp
        split at hv
        · rename_i he
          subst he
          cases hv
          refine ⟨ha, ?_, hna⟩
          rw [rd_set hd.1 (by rw [S.len]; exact hd.2) ha.1 (by rw [S.len]; exact ha.2), rd_set hd.1 (by rw [S.len]; exact hd.2) v0 (by rw [S.len]; exact v1), if_neg h3, if_pos rfl]
        · obtain ⟨a, b, c⟩ := F.c v u v0 v1 hv
          refine ⟨a, b, ?_⟩
          have hud : ¬ u = o.dst := by
            intro e
            rw [mpGet_swp S.k2] at hv
            split at hv
            · cases hv
            · split at hv
              · cases hv
              · rename_i q; exact q (by rw [hv, e])
          rw [mpGet_set, if_neg hud]; exact c
    · by_cases h3 : o.kind = 3
      · have hd := o1 (.inr (.inr (.inl h3)))
        have e : ∃ x, (doS o s).1 = s.1.set o.dst.toNat x := ⟨_, by unfold doS; rw [if_neg h1, if_neg h2, if_pos h3]⟩
        obtain ⟨x, e⟩ := e
        rw [updP_3 (.inl h3), e]
        exact snd_fgt S hd.1 hd.2
      · by_cases h4 : o.kind = 4
        · have hd := o1 (.inr (.inr (.inr h4)))
          have e : ∃ x, (doS o s).1 = s.1.set o.dst.toNat x := ⟨_, by unfold doS; rw [if_neg h1, if_neg h2, if_neg h3, if_pos h4]⟩
          obtain ⟨x, e⟩ := e
          rw [updP_3 (.inr h4), e]
          exact snd_fgt S hd.1 hd.2
        · have e : (doS o s).1 = s.1 := by
            unfold doS; rw [if_neg h1, if_neg h2, if_neg h3, if_neg h4]
            split <;> rfl
          rw [updP_0 (by omega), e]
          exact S
theorem snd_fld {n : Nat} {m : MS} {s : VS} (S : Snd n m s.1) {o : Op_} (ho : OpOK n o) : doS (fldP o m).1 s = doS o s ∧ Snd n (fldP o m).2 (doS o s).1 ∧ RngP n m (fldP o m).1 := by
  obtain ⟨e1, r1⟩ := snd_useO S ho
  obtain ⟨e2, r2⟩ := snd_cst S r1
  have U := snd_upd S r2
  unfold fldP
  dsimp only
  rw [e2, e1] at U
  exact ⟨e2.trans e1, U, r2⟩
theorem snd_fldL {n : Nat} : ∀ {l : List Op_} {m : MS} {s : VS}, Snd n m s.1 → (∀ o ∈ l, OpOK n o) → execL (mpL l m).1 s = execL l s ∧ Snd n (mpL l m).2 (execL l s).1
  | [], m, s, S, _ => ⟨rfl, S⟩
  | o :: l, m, s, S, h => by
    obtain ⟨e, S2, _⟩ := snd_fld S (h o List.mem_cons_self)
    obtain ⟨e2, S3⟩ := snd_fldL (l := l) S2 fun q hq => h q (List.mem_cons_of_mem o hq)
    refine ⟨?_, S3⟩
    show execL (mpL l (fldP o m).2).1 (doS (fldP o m).1 s) = execL l (doS o s)
    rw [e, e2]
/-- What a graph is like that folding is right for. -/
structure FOk (n : Nat) (g : Grf) : Prop where
  o : ∀ b ∈ g.blks, ∀ o ∈ b.ops, OpOK n o
  c : ∀ b ∈ g.blks, b.next.length = 2 → 0 ≤ b.cond ∧ b.cond < (n : Int)
  x : ∀ b ∈ g.blks, b.next.length ≤ 2 ∧ ∀ y ∈ b.next, 0 ≤ y ∧ y < g.blks.length
theorem blkP_run {n : Nat} {b : Blk} {s : VS} (hs : s.1.length = n) (ho : ∀ o ∈ b.ops, OpOK n o) (hc : b.next.length = 2 → 0 ≤ b.cond ∧ b.cond < (n : Int)) (hx : b.next.length ≤ 2) :
    (blkP b).ops.length = b.ops.length ∧ execL (blkP b).ops s = execL b.ops s ∧ ((blkP b).next.length = 0 ↔ b.next.length = 0) ∧ (b.next.length ≠ 0 → nextB (blkP b) (execL b.ops s).1 = nextB b (execL b.ops s).1) := by
  obtain ⟨e, S⟩ := snd_fldL (l := b.ops) (m := ([], [])) (s := s) (snd_zero hs) ho
  have hops : (blkP b).ops = (mpL b.ops ([], [])).1 := by unfold blkP; split <;> rfl
  refine ⟨by rw [hops, mpL_len], by rw [hops, e], ?_, fun hn0 => ?_⟩
  · unfold blkP
    cases hk : knwP b with
    | false => exact Iff.rfl
    | true =>
      unfold knwP at hk
      rw [Bool.and_eq_true] at hk
      have := of_decide_eq_true hk.1
      rw [if_pos rfl]
      simp
      intro h; rw [h] at this; exact absurd this (by decide)
  · by_cases h2 : b.next.length = 2
    · obtain ⟨c0, c1⟩ := hc h2
      obtain ⟨u0, u1, _⟩ := snd_use S c0 c1
      cases hk : knwP b with
      | false =>
        have e1 : (blkP b).next = b.next := by unfold blkP; rw [hk]; rfl
        have e2 : (blkP b).cond = useP (mpL b.ops ([], [])).2.2 b.cond := by unfold blkP cndP; rw [hk, if_pos (by omega : 2 ≤ b.next.length)]; rfl
        unfold nextB
        rw [e1, e2, u1]
      | true =>
        have e1 : (blkP b).next = [wayP b] := by unfold blkP; rw [hk]; rfl
        have hkk := hk
        unfold knwP at hkk
        rw [Bool.and_eq_true] at hkk
        have hs2 := hkk.2
        obtain ⟨x, hx2⟩ := Option.isSome_iff_exists.1 hs2
        have hw := S.w _ x u0.1 u0.2 hx2
        have ew : wayP b = nextB b (execL b.ops s).1 := by
          unfold wayP nextB
          rw [hx2, ← u1, hw]
          simp only [Option.getD_some]
          by_cases hx0 : x = 0
          · rw [if_pos hx0, if_neg (by rw [hx0]; simp [h2])]
          · rw [if_neg hx0, if_pos (.inr hx0)]
        rw [← ew]
        unfold nextB
        rw [e1]
        simp
        rfl
    · have hk : knwP b = false := by unfold knwP; rw [decide_eq_false (by omega), Bool.false_and]
      have e1 : (blkP b).next = b.next := by unfold blkP; rw [hk]; rfl
      unfold nextB
      rw [e1, if_pos (.inl (by omega)), if_pos (.inl (by omega))]
theorem gt_map {l : List Blk} {i : Nat} (h : i < l.length) : gt (c := .block) (l.map blkP) i = blkP (gt (c := .block) l i) := gt_eq (c := .block) (by rw [List.getElem?_map, gt_at (c := .block) h]; rfl)
theorem fold_run {n : Nat} {g : Grf} (G : FOk n g) : ∀ {f i : Nat} {s : VS} {left steps : Int} {counts : List Int}, s.1.length = n → i < g.blks.length → runG (fldGP g) f i s left counts steps = runG g f i s left counts steps
  | 0, i, s, left, steps, counts, hs, hi => rfl
  | f + 1, i, s, left, steps, counts, hs, hi => by
    have hm := mem_gt (c := .block) hi
    obtain ⟨b1, b2, b3, b4⟩ := blkP_run hs (G.o _ hm) (G.c _ hm) (G.x _ hm).1
    have e : gt (c := .block) (fldGP g).blks i = blkP (gt (c := .block) g.blks i) := gt_map hi
    show (if _ then _ else if _ then _ else _) = (if _ then _ else if _ then _ else _)
    rw [e, b1, b2]
    by_cases h1 : left < 1 + ((gt (c := .block) g.blks i).ops.length : Int)
    · rw [if_pos h1, if_pos h1]
    · rw [if_neg h1, if_neg h1]
      by_cases h2 : (gt (c := .block) g.blks i).next.length = 0
      · rw [if_pos h2, if_pos (b3.2 h2)]
      · rw [if_neg h2, if_neg (fun q => h2 (b3.1 q)), b4 h2]
        refine fold_run G (by rw [execL_len]; exact hs) ?_
        have hx := G.x _ hm
        have key : ∀ j, j < (gt (c := .block) g.blks i).next.length → (gt (c := .int) (gt (c := .block) g.blks i).next j : Int).toNat < g.blks.length := fun j hj => by
          have := hx.2 _ (mem_gt (c := .int) hj)
          omega
        unfold nextB
        split
        · exact key 0 (by omega)
        · rename_i q; exact key 1 (by have := not_or.1 q; omega)
/-! ### Folding once more -/
theorem fld_twice {n : Nat} {m : MS} {o : Op_} (h : RngP n m (fldP o m).1) (hu : useOP m.2 (fldP o m).1 = (fldP o m).1) (hc : cstP m.1 (fldP o m).1 = (fldP o m).1) : fldP (fldP o m).1 m = fldP o m := by
  show (cstP m.1 (useOP m.2 (fldP o m).1), updP (cstP m.1 (useOP m.2 (fldP o m).1)) m) = fldP o m
  rw [hu, hc]
  rfl
theorem useOP_rng {n : Nat} {m : MS} {o : Op_} (h : RngP n m o) : useOP m.2 o = o := by
  obtain ⟨o1, o2, o3⟩ := h
  obtain ⟨kd, dst, a, b, imm⟩ := o
  dsimp only at o1 o2 o3
  by_cases h1 : kd = 2 ∨ kd = 4
  · rw [useOP_1 h1]; dsimp only; rw [useP_none (o2 (by omega)).2]
  · by_cases h2 : kd = 3 ∨ kd = 5
    · rw [useOP_2 h2]; dsimp only; rw [useP_none (o2 (by omega)).2, useP_none (o3 h2).2]
    · rw [useOP_0 h1 h2]
theorem cstP_twice {ws : List (Int × Int)} {o : Op_} : cstP ws (cstP ws o) = cstP ws o := by
  by_cases h : o.kind = 2 ∧ (mpGet ws o.a).isSome = true
  · rw [cst_1 h.1 h.2]; exact cst_3 (by show ¬ (1 : Int) = 2; decide) (by show ¬ (1 : Int) = 3; decide)
  · by_cases h2 : o.kind = 3 ∧ (mpGet ws o.a).isSome = true ∧ (mpGet ws o.b).isSome = true
    · rw [cst_2 h2.1 h2.2.1 h2.2.2]; exact cst_3 (by show ¬ (1 : Int) = 2; decide) (by show ¬ (1 : Int) = 3; decide)
    · have e : cstP ws o = o := by unfold cstP; rw [if_neg h, if_neg h2]
      rw [e, e]
theorem mpL_twice {n : Nat} : ∀ {l : List Op_} {m : MS} {s : VS}, Snd n m s.1 → (∀ o ∈ l, OpOK n o) → mpL (mpL l m).1 m = mpL l m
  | [], m, s, S, _ => rfl
  | o :: l, m, s, S, h => by
    obtain ⟨e, S2, r⟩ := snd_fld S (h o List.mem_cons_self)
    have t : fldP (fldP o m).1 m = fldP o m := fld_twice r (useOP_rng r) (by show cstP m.1 (cstP m.1 (useOP m.2 o)) = _; exact cstP_twice)
    have ih := mpL_twice (l := l) S2 fun q hq => h q (List.mem_cons_of_mem o hq)
    show ((fldP (fldP o m).1 m).1 :: (mpL (mpL l (fldP o m).2).1 (fldP (fldP o m).1 m).2).1, (mpL (mpL l (fldP o m).2).1 (fldP (fldP o m).1 m).2).2) = ((fldP o m).1 :: (mpL l (fldP o m).2).1, (mpL l (fldP o m).2).2)
    rw [t, ih]
theorem blkP_twice {n : Nat} {b : Blk} (ho : ∀ o ∈ b.ops, OpOK n o) (hc : b.next.length = 2 → 0 ≤ b.cond ∧ b.cond < (n : Int)) (hx : b.next.length ≤ 2) : blkP (blkP b) = blkP b := by
  have S0 : Snd n ([], []) (List.replicate n 0, ([] : List (List Int))).1 := snd_zero List.length_replicate
  have t := mpL_twice (s := (List.replicate n 0, [])) S0 ho
  obtain ⟨_, S⟩ := snd_fldL (l := b.ops) (s := (List.replicate n 0, [])) S0 ho
  cases hk : knwP b with
  | true =>
    have e : blkP b = ⟨(mpL b.ops ([], [])).1, 0, [wayP b]⟩ := if_pos hk
    rw [e]
    have k2 : knwP ⟨(mpL b.ops ([], [])).1, 0, [wayP b]⟩ = false := by unfold knwP; rw [decide_eq_false (by simp), Bool.false_and]
    have e2 : blkP ⟨(mpL b.ops ([], [])).1, 0, [wayP b]⟩ = ⟨(mpL (mpL b.ops ([], [])).1 ([], [])).1, cndP ⟨(mpL b.ops ([], [])).1, 0, [wayP b]⟩, [wayP b]⟩ := if_neg (by rw [k2]; decide)
    rw [e2, t]
    have e3 : cndP ⟨(mpL b.ops ([], [])).1, 0, [wayP b]⟩ = 0 := if_neg (by simp)
    rw [e3]
  | false =>
    have e : blkP b = ⟨(mpL b.ops ([], [])).1, cndP b, b.next⟩ := if_neg (by rw [hk]; decide)
    rw [e]
    by_cases h2 : 2 ≤ b.next.length
    · obtain ⟨c0, c1⟩ := hc (by omega)
      obtain ⟨u0, u1, u2⟩ := snd_use S c0 c1
      have ec : cndP b = useP (mpL b.ops ([], [])).2.2 b.cond := if_pos h2
      have eu : useP (mpL b.ops ([], [])).2.2 (cndP b) = cndP b := by rw [ec]; exact useP_none u2
      have k2 : knwP ⟨(mpL b.ops ([], [])).1, cndP b, b.next⟩ = knwP b := by
        unfold knwP
        dsimp only
        rw [t, eu, ← ec]
      have e2 : blkP ⟨(mpL b.ops ([], [])).1, cndP b, b.next⟩ = ⟨(mpL (mpL b.ops ([], [])).1 ([], [])).1, cndP ⟨(mpL b.ops ([], [])).1, cndP b, b.next⟩, b.next⟩ := if_neg (by rw [k2, hk]; decide)
      rw [e2, t]
      have e3 : cndP ⟨(mpL b.ops ([], [])).1, cndP b, b.next⟩ = cndP b := by
        have q : cndP ⟨(mpL b.ops ([], [])).1, cndP b, b.next⟩ = useP (mpL (mpL b.ops ([], [])).1 ([], [])).2.2 (cndP b) := if_pos h2
        rw [q, t, eu]
      rw [e3]
    · have ec : cndP b = b.cond := if_neg h2
      have k2 : knwP ⟨(mpL b.ops ([], [])).1, cndP b, b.next⟩ = false := by unfold knwP; rw [decide_eq_false h2, Bool.false_and]
      have e2 : blkP ⟨(mpL b.ops ([], [])).1, cndP b, b.next⟩ = ⟨(mpL (mpL b.ops ([], [])).1 ([], [])).1, cndP ⟨(mpL b.ops ([], [])).1, cndP b, b.next⟩, b.next⟩ := if_neg (by rw [k2]; decide)
      rw [e2, t]
      have e3 : cndP ⟨(mpL b.ops ([], [])).1, cndP b, b.next⟩ = cndP b := if_neg h2
      rw [e3]
theorem fold_twice {n : Nat} {g : Grf} (G : FOk n g) : fldGP (fldGP g) = fldGP g := by
  unfold fldGP
  dsimp only
  rw [List.map_map]
  have : g.blks.map (blkP ∘ blkP) = g.blks.map blkP := List.map_congr_left fun b hb => blkP_twice (G.o b hb) (G.c b hb) (G.x b hb).1
  rw [this]
end Go.Proofs.Ytonjbhdfimcedaa

/- VX -/
namespace Go.Proofs.Ytonjbhdfimcedaa
set_option linter.unusedSimpArgs false
set_option linter.unusedSectionVars false
set_option linter.unusedVariables false
open Go.RowKit
def putL (l : List Int) (i : Nat) : List Int → List Int
  | [] => l
  | v :: r => putL (l.set i v) (i + 1) r
theorem putL_eq : ∀ {r l : List Int} {i : Nat}, i + r.length ≤ l.length → putL l i r = l.take i ++ r ++ l.drop (i + r.length)
  | [], l, i, h => by show l = _; simp
  | v :: r, l, i, h => by
    have h1 : i < l.length := by simp at h; omega
    show putL (l.set i v) (i + 1) r = _
    rw [putL_eq (by simp at h ⊢; omega)]
    rw [List.take_succ_eq_append_getElem (by simpa using h1)]
    simp only [List.getElem_set_self, List.length_cons]
    rw [List.take_set_of_le (Nat.le_refl _), List.drop_set_of_lt (by omega)]
    simp only [List.append_assoc, List.singleton_append, List.cons_append, List.nil_append]
    rw [show i + 1 + r.length = i + (r.length + 1) by omega]
theorem addr_add {b o i : Nat} : (⟨b, o, none⟩ : Addr).add i = ⟨b, o + i, none⟩ := by
  unfold Addr.add
  by_cases h : i = 0
  · subst h; rfl
  · rw [if_neg h]
section
variable {x : Cx} {g : Gx} {s : St} {a : Act}
theorem copy_rounds (hL : LayOk x.P x.L) {tI : TypeId} {tiI : TI} {kd td : Nat} {m : Md} {N : Nat} {env : List (Nat × SV)} {mem : List (Nat × MB)} {nb b o n1 n2 : Nat} (hI : find x.L tI = some tiI) (hI1 : tiI.zs.length = 1)
    (hd : find env td = some (.sl ⟨kd, []⟩)) (hw : (m.at []).own? = true) (hN : x.n ≤ N) (hk : ∀ t v, find env t = some v → t < N) (had : a.tmps.getD td Go.undef = .slice (some ⟨b, o, none⟩) n1 n2) :
    ∀ (rest : List Int) (i : Nat) (V : Vl) (w : World) (l : List Int), i + rest.length ≤ l.length → Rep x g V ⟨env, (kd, .list m .int l) :: mem, nb⟩ a w →
      ∃ w', (storeCells ⟨b, o, none⟩ (rest.map (Value.int .i64)) i).run x.P w = .ok () w' ∧ ∃ V', Rep x g V' ⟨env, (kd, .list m .int (putL l i rest)) :: mem, nb⟩ a w'
  | [], i, V, w, l, _, hr => ⟨w, rfl, V, hr⟩
  | v :: rest, i, V, w, l, hi, hr => by
    have h1 : i < l.length := by simp at hi; omega
    have hm : find ((kd, MB.list m .int l) :: mem) kd = some (.list m .int l) := by rw [find_cons, if_pos rfl]
    have hkn := (hr.ents.ok _ _ hm).1
    have hkb : Nat.blt kd nb = true := by rw [Nat.blt_eq]; exact hkn
    have hloc : (V ⟨kd, []⟩).a = some ⟨b, o, none⟩ := by
      have := (hr.env td _ hd).symm.trans had
      simp only [den, Loc.hd, Value.slice.injEq] at this
      exact this.1
    have hr1 := hr.virt (p := .el ⟨kd, []⟩ 1 i 0) (u := .int .i64 v) hkb rfl hN hk
    have st1 := step_storeEl (x := x.two N) (s := ⟨(N + 1, .int .i64 v) :: (N, .el ⟨kd, []⟩ 1 i 0) :: env, (kd, .list m .int l) :: mem, nb⟩) hL (e := tI) (p := .tmp N) (y := .tmp (N + 1)) (ty := 0) (pos := "") (after := #[]) (gd := none) (k := kd) (pa := []) (es := 1) (i := i) (f := 0) (n := 1) (u := .int .i64 v) (ti := tiI) (m := m) (c := .int) (l := l) (l' := l.set i v) (vs := [.int .i64 v]) (ts := [.int .i64 v]) (obs := [i < l.length])
      (by simp [St.get, find_cons]) (by simp [St.get, find_cons]) hI hm rfl rfl (by rw [hI1]; rfl) hw rfl rfl ⟨h1, trivial⟩
    obtain ⟨w1, run1, V1, hr1'⟩ := store_out (P := x.P) (st1.run g V _ w (fun _ _ _ => False) hr1)
    have ev1 : (vAct a x.n N (den V (.el ⟨kd, []⟩ 1 i 0)) (den V (.int .i64 v))).eval (.tmp N) = .pointer (some ⟨b, o + (i * 1 + 0), none⟩) := by
      have : den V (.el ⟨kd, []⟩ 1 i 0) = .pointer (some ⟨b, o + (i * 1 + 0), none⟩) := by simp only [den, Loc.at, hloc, Option.map_some]
      rw [← this]; exact vAct_p hr.size hN
    have ev2 : (vAct a x.n N (den V (.el ⟨kd, []⟩ 1 i 0)) (den V (.int .i64 v))).eval (.tmp (N + 1)) = .int .i64 v := vAct_u hr.size hN
    have hsz : (sizeOf tI).run x.P w = .ok 1 w := by
      obtain ⟨ii, g1, g2, _⟩ := (hL.at hI).info
      rw [r_sizeOf g1, g2, TI.zero_len, hI1]
    have hs1 : (store ((⟨b, o, none⟩ : Addr).add i) (Value.int .i64 v)).run x.P w = .ok () w1 := by
      rw [ev1, ev2] at run1
      simp only [Instr.storeAt, Instr.sureAddr, Sem.run_bind, Sem.run_pure, Result.andThen_ok, storeVar, hsz] at run1
      rw [if_neg (by simp [Value.cells])] at run1
      have hc : (Value.int .i64 v).cells.toList = [Value.int .i64 v] := rfl
      simp only [hc, storeCells, Sem.run_bind, Sem.run_pure] at run1
      rw [addr_add] at run1 ⊢
      rw [show o + (i * 1 + 0) + 0 = o + i by omega] at run1
      cases hh : (store ⟨b, o + i, none⟩ (Value.int .i64 v)).run x.P w with
      | ok u w2 => rw [hh] at run1; simpa [Result.andThen] using run1
      | halt h w2 => rw [hh] at run1; simp [Result.andThen] at run1
    have hr2 : Rep x g V1 ⟨env, (kd, .list m .int (l.set i v)) :: mem, nb⟩ a w1 := by
      have h0 : Rep x g V1 ⟨env, (kd, .list m .int (l.set i v)) :: (kd, .list m .int l) :: mem, nb⟩ a w1 := hr.back hr1' (e1 := env) fun t u hv => ⟨by
        have := hk t u hv
        simp only [find_cons]
        rw [if_neg (by omega), if_neg (by omega)]; exact hv, hk t u hv⟩
      exact h0.mem_eq (m' := (kd, .list m .int (l.set i v)) :: mem) fun j => by simp only [find_cons]; split <;> rfl
    obtain ⟨w', hw', V', hr'⟩ := copy_rounds hL hI hI1 hd hw hN hk had rest (i + 1) V1 w1 (l.set i v) (by simp at hi ⊢; omega) hr2
    refine ⟨w', ?_, V', hr'⟩
    simp only [List.map_cons, storeCells, Sem.run_bind, hs1, Result.andThen_ok]
    exact hw'
theorem step_copy (hL : LayOk x.P x.L) {T T' tI : TypeId} {tiI : TI} {t td tsr kd es by_ : Nat} {ea : Bool} {zs : List SV} {co : Option Ty} {rs : Rid} {dk : Kd} {m : Md} {l vs : List Int} {obs : List Prop} {ty : TypeId} {pos : String} {after : Array Edge} {gd : Option (Nat × Bool)}
    (hd : find s.env td = some (.sl ⟨kd, []⟩)) (hsr : find s.env tsr = some (.sl rs)) (hT : find x.L T = some ⟨zs, .slice tI es ea, by_, co⟩) (hI : find x.L tI = some tiI) (hI1 : tiI.zs.length = 1)
    (hm : find s.mem kd = some (.list m .int l)) (hw : (m.at []).own? = true) (hs : listE s.mem rs = some (dk, ⟨.int, vs⟩, obs)) (ho : AllP obs) (hle : vs.length ≤ l.length) (h1 : Nat.blt t x.n = true) (hk : keysE s.env x.n = true) :
    StepTo x s ⟨some t, .call ⟨.builtin .copy, #[.tmp td, .tmp tsr], #[T, T']⟩, ty, pos, after, gd⟩ ⟨(t, .int .i64 (vs.length : Int)) :: s.env, (kd, .list m .int (vs ++ l.drop vs.length)) :: s.mem, s.nb⟩ :=
  ⟨fun g V a w Q hr => by
    obtain ⟨dsc, g1, g2⟩ := (hL.at hT).desc
    obtain ⟨ii, dd, g3, _⟩ := td_slice g2
    rw [g3] at g1
    have hkd := Kd.own?_eq hw
    have hcd : cont s.mem ⟨kd, []⟩ = some (.list (m.at []) .int l) := cont_iff.2 ⟨_, hm, by simp only [contB, desc]⟩
    have hcs := listE_eq hs ho
    have hatd := hr.ents.at_ _ _ hcd
    have hats := hr.ents.at_ _ _ hcs
    have evd : a.eval (.tmp td) = .slice (V ⟨kd, []⟩).a (V ⟨kd, []⟩).len (V ⟨kd, []⟩).cap := hr.env td _ hd
    have evs : a.eval (.tmp tsr) = .slice (V rs).a (V rs).len (V rs).cap := hr.env tsr _ hsr
    obtain ⟨q1, q2, q3, q4⟩ := hatd
    obtain ⟨p1, p2, p3, p4⟩ := hats
    have hsz : (sizeOf tI).run x.P w = .ok 1 w := by
      obtain ⟨ii, g1, g2, _⟩ := (hL.at hI).info
      rw [r_sizeOf g1, g2, TI.zero_len, hI1]
    have hmin : Nat.min (V rs).len (V ⟨kd, []⟩).len = vs.length := by rw [p1, q1]; exact Nat.min_eq_left hle
    have hfirst : (Builtin.firstCells 1 vs.length (.slice (V rs).a (V rs).len (V rs).cap)).run x.P w = .ok (vs.map (Value.int .i64)).toArray w := by
      cases hv : (V rs).a with
      | none =>
        have : vs = [] := by
          cases vs with
          | nil => rfl
          | cons y vs =>
            obtain ⟨a2, y1, _⟩ := p4 0 y rfl 0 _ rfl
            rw [hv] at y1; cases y1
        subst this
        exact run_firstCells_none w 1 0 _ _
      | some ad =>
        refine run_firstCells_some w 1 vs.length ad _ _ (vs.map (Value.int .i64)) (by simp) fun j u hj => ?_
        rw [List.getElem?_map] at hj
        cases hy : vs[j]? with
        | none => rw [hy] at hj; cases hj
        | some y =>
          rw [hy] at hj
          simp only [Option.map_some, Option.some.injEq] at hj
          subst hj
          obtain ⟨a2, y1, y2, y3⟩ := p4 j y hy 0 _ rfl
          rw [hv] at y1
          cases y1
          have e : ad.add j = ⟨ad.block, ad.off + j, none⟩ := by
            obtain ⟨b0, o0, s0⟩ := ad
            simp only at y2
            subst y2
            exact addr_add
          rw [e]
          have : ad.off + (j * wid .int + 0) = ad.off + j := by show ad.off + (j * 1 + 0) = _; omega
          rw [this] at y3
          exact y3
    have key : ∃ w', ((match (V ⟨kd, []⟩).a with | some ad => storeCells ad ((vs.map (Value.int .i64)).toArray.toList) | none => pure () : Sem Unit)).run x.P w = .ok () w' ∧ ∃ V', Rep x g V' ⟨s.env, (kd, .list m .int (vs ++ l.drop vs.length)) :: s.mem, s.nb⟩ a w' := by
      have hp : putL l 0 vs = vs ++ l.drop vs.length := by rw [putL_eq (by omega)]; simp
      have hr0 : Rep x g V ⟨s.env, (kd, .list m .int l) :: s.mem, s.nb⟩ a w := hr.mem_eq (m' := (kd, .list m .int l) :: s.mem) fun j => by
        rw [find_cons]
        split
        · rename_i e; rw [← e]; exact hm.symm
        · rfl
      cases hv : (V ⟨kd, []⟩).a with
      | none =>
        have hl : l = [] := by
          cases l with
          | nil => rfl
          | cons y l =>
            obtain ⟨a2, y1, _⟩ := q4 0 y rfl 0 _ rfl
            rw [hv] at y1; cases y1
        subst hl
        have : vs = [] := List.length_eq_zero_iff.1 (Nat.le_zero.1 hle)
        subst this
        exact ⟨w, rfl, V, hr0⟩
      | some ad =>
        by_cases hl : l = []
        · subst hl
          have : vs = [] := List.length_eq_zero_iff.1 (Nat.le_zero.1 hle)
          subst this
          exact ⟨w, rfl, V, hr0⟩
        · have hpos : 0 < l.length := List.length_pos_iff.2 hl
          obtain ⟨a2, y1, y2, _⟩ := q4 0 _ (gt_at (c := .int) hpos) 0 _ rfl
          rw [hv] at y1
          cases y1
          obtain ⟨b0, o0, s0⟩ := ad
          simp only at y2
          subst y2
          obtain ⟨w', h1, V', h2⟩ := copy_rounds (n1 := (V ⟨kd, []⟩).len) (n2 := (V ⟨kd, []⟩).cap) hL hI hI1 hd hw (Nat.le_refl _) (keysE_ok hk) (by have := evd; rw [hv] at this; exact this) vs 0 V w l (by omega) hr0
          rw [hp] at h2
          exact ⟨w', h1, V', h2⟩
    obtain ⟨w', hw', V', hr'⟩ := key
    have hrun : (Builtin.copy_ #[T, T'] ty #[.slice (V ⟨kd, []⟩).a (V ⟨kd, []⟩).len (V ⟨kd, []⟩).cap, .slice (V rs).a (V rs).len (V rs).cap]).run x.P w = .ok (.int .i64 (vs.length : Int)) w' := by
      unfold Builtin.copy_
      have a0 : (#[T, T'] : Array TypeId)[0]? = some T := rfl
      have a1 : (#[Value.slice (V ⟨kd, []⟩).a (V ⟨kd, []⟩).len (V ⟨kd, []⟩).cap, .slice (V rs).a (V rs).len (V rs).cap] : Array Value)[0]? = some (.slice (V ⟨kd, []⟩).a (V ⟨kd, []⟩).len (V ⟨kd, []⟩).cap) := rfl
      have a2 : (#[Value.slice (V ⟨kd, []⟩).a (V ⟨kd, []⟩).len (V ⟨kd, []⟩).cap, .slice (V rs).a (V rs).len (V rs).cap] : Array Value)[1]? = some (.slice (V rs).a (V rs).len (V rs).cap) := rfl
      simp only [a0, a1, a2, Sem.run_bind, mp_under g1, Result.andThen_ok, Builtin.lenOf, Sem.run_pure, hsz, hmin, hfirst]
      cases hv : (V ⟨kd, []⟩).a with
      | none => rw [hv] at hw'; simp only at hw' ⊢; rw [Sem.run_pure] at hw' ⊢; cases hw'; rfl
      | some ad =>
        rw [hv] at hw'
        simp only at hw' ⊢
        simp only [Sem.run_bind, hw', Result.andThen_ok, Sem.run_pure]
        rfl
    unfold Oper.wp
    have : (execOp a.eval ⟨some t, .call ⟨.builtin .copy, #[.tmp td, .tmp tsr], #[T, T']⟩, ty, pos, after, gd⟩).run x.P w = .ok (.value (.int .i64 (vs.length : Int))) w' := by
      simp only [execOp, resolve, invoke, builtin, Sem.run_bind, Sem.run_pure, Result.andThen_ok, List.map_toArray, List.map_cons, List.map_nil, evd, evs, hrun]
    rw [this]
    exact ⟨V', hr'.put (v := .int .i64 (vs.length : Int)) h1 rfl⟩⟩
end
section
variable {x : Cx} {Q : Exit → St → Prop} {obs : List Prop} {K : List Kf} {all lo : List Oper} {env : List (Nat × SV)} {mem : List (Nat × MB)} {nb : Nat}
/-- 'copy(d, s)' where d is at least as long. -/
theorem g_copy (hL : LayOk x.P x.L) (fuel : Nat) {T T' tI : TypeId} {tiI : TI} {t td tsr kd es by_ : Nat} {ea : Bool} {zs : List SV} {co : Option Ty} {rs : Rid} {dk : Kd} {m : Md} {l vs : List Int} {obs1 : List Prop} {ty : TypeId} {pos : String} {after : Array Edge} {gd : Option (Nat × Bool)} (ho : AllP obs) (hg : goes all env gd = some true)
    (hd : find env td = some (.sl ⟨kd, []⟩)) (hsr : find env tsr = some (.sl rs)) (hT : find x.L T = some ⟨zs, .slice tI es ea, by_, co⟩) (hI : find x.L tI = some tiI) (hI1 : tiI.zs.length = 1)
    (hm : find mem kd = some (.list m .int l)) (hw : (m.at []).own? = true) (hs : listE mem rs = some (dk, ⟨.int, vs⟩, obs1)) (ho1 : AllP obs1) (hle : vs.length ≤ l.length) (h1 : Nat.blt t x.n = true) (hk : keysE env x.n = true)
    (h : Good x Q (run x fuel [] (.ops all lo) K ⟨(t, .int .i64 (vs.length : Int)) :: env, (kd, .list m .int (vs ++ l.drop vs.length)) :: mem, nb⟩)) :
    Good x Q (.ops obs all (⟨some t, .call ⟨.builtin .copy, #[.tmp td, .tmp tsr], #[T, T']⟩, ty, pos, after, gd⟩ :: lo) K ⟨env, mem, nb⟩) :=
  ⟨ho, sq_step hg (step_copy (s := ⟨env, mem, nb⟩) hL hd hsr hT hI hI1 hm hw hs ho1 hle h1 hk) (run_ok hL h).2⟩
end
end Go.Proofs.Ytonjbhdfimcedaa

/- F2 -/
namespace Go.Proofs.Ytonjbhdfimcedaa
set_option linter.unusedVariables false
set_option linter.unusedSimpArgs false
open Go.RowKit
theorem r_place (n m : Int) (h0 : 0 < m) (h1 : m ≤ 1048576) : Trip Try.prog 67 [.int .i64 n, .int .i64 m] ⟨[], [], 0⟩ (Z := Unit) (fun _ => True) (fun _ => .int .i64 (placeI n m)) (fun _ => ⟨[], [], 0⟩) := by
  obtain ⟨b1, b2⟩ := tmod_bd (n := n) h0
  obtain ⟨c1, c2⟩ := tmod_bd (n := n.tmod m + m) h0
  refine trip_by (rs := [_]) 400 lay_ok Try.func67 rfl (by kernel_rfl) Try.ntmps67 Try.results67 rfl rfl ?_
  repeat' (first | (((with_reducible refine g_id ?_); (conv => arg 3; whnf)); first | (with_reducible refine g_fin ?_ ?_)) | ((with_reducible refine o_id ?_); (conv => arg 1; whnf); first | (with_reducible exact o_nil) | (with_reducible refine o_cons ?_ ?_)) | (intro h; ((try simp only [Int.toNat_natCast] at h); repeat (first | replace h := of_decide_eq_true h | fail)); (try (first | (exfalso; omega) | fail))) | omega | fail)
  all_goals (((with_reducible refine e_id ?_); (conv => whnf)); refine ⟨(), trivial, ?_⟩; ((with_reducible refine s_id ?_); (conv => arg 1; whnf); (with_reducible refine s_some ?_); repeat' (first | ((with_reducible refine o_id ?_); (conv => arg 1; whnf); first | (with_reducible exact o_nil) | (with_reducible refine o_cons ?_ ?_)) | rfl | fail)))
theorem r_one13 (g : Grf) (vars : List Int) (arrs : List (List Int)) (held : List Bool) (st lf : Int) (h : -9000000000000000000 ≤ lf) (h1 : lf ≤ 9000000000000000000) : Trip Try.prog 34 [.ptr 0 0] ⟨[], [(0, .cells [.sl ⟨4, []⟩, .int .i64 g.vars, .int .i64 g.keep, .sl ⟨5, []⟩, .int .i64 g.shared, .sl ⟨6, []⟩, .sl ⟨7, []⟩, .sl ⟨8, []⟩, .sl ⟨1, []⟩, .sl ⟨2, []⟩, .sl ⟨3, []⟩, .int .i64 (st), .int .i64 (lf)]), (1, .list .own .int (vars)), (2, .list .own .ints (arrs)), (3, .list .own .bool held), (4, .list .tmp .input g.inp), (5, .list .tmp .array g.arrs), (6, .list .tmp .block g.blks), (7, .list .tmp .ints g.pts), (8, .list .tmp .head g.hds)], 9⟩ (Z := Unit) (fun _ => True) (fun _ => .bool (decide (0 ≤ lf - 1))) (fun _ => ⟨[], [(0, .cells [.sl ⟨4, []⟩, .int .i64 g.vars, .int .i64 g.keep, .sl ⟨5, []⟩, .int .i64 g.shared, .sl ⟨6, []⟩, .sl ⟨7, []⟩, .sl ⟨8, []⟩, .sl ⟨1, []⟩, .sl ⟨2, []⟩, .sl ⟨3, []⟩, .int .i64 (st), .int .i64 (lf - 1)]), (1, .list .own .int (vars)), (2, .list .own .ints (arrs)), (3, .list .own .bool held), (4, .list .tmp .input g.inp), (5, .list .tmp .array g.arrs), (6, .list .tmp .block g.blks), (7, .list .tmp .ints g.pts), (8, .list .tmp .head g.hds)], 9⟩) := by
  refine trip_by (rs := [_]) 400 lay_ok Try.func34 rfl (by kernel_rfl) Try.ntmps34 Try.results34 rfl rfl ?_
  repeat' (first | (((with_reducible refine g_id ?_); (conv => arg 3; whnf)); first | (with_reducible refine g_fin ?_ ?_)) | ((with_reducible refine o_id ?_); (conv => arg 1; whnf); first | (with_reducible exact o_nil) | (with_reducible refine o_cons ?_ ?_)) | omega | fail)
  all_goals (((with_reducible refine e_id ?_); (conv => whnf)); refine ⟨(), trivial, ?_⟩; ((with_reducible refine s_id ?_); (conv => arg 1; whnf); (with_reducible refine s_some ?_); repeat' (first | ((with_reducible refine o_id ?_); (conv => arg 1; whnf); first | (with_reducible exact o_nil) | (with_reducible refine o_cons ?_ ?_)) | rfl | fail)))
attribute [local irreducible] doI placeI
set_option maxHeartbeats 8000000 in
set_option maxRecDepth 4000 in
theorem r_doS (g : Grf) (vars : List Int) (arrs : List (List Int)) (held : List Bool) (st lf : Int) (o : Op_) (hk : o.kind = 1 ∨ o.kind = 2 ∨ o.kind = 3 ∨ o.kind = 4 ∨ o.kind = 5) (hv : vars.length ≤ 1048576) (hn : arrs.length ≤ 1048576) (ho : OpOK vars.length o) (hm : o.kind = 4 ∨ o.kind = 5 → 0 ≤ o.imm ∧ o.imm < (arrs.length : Int) ∧ 0 < ((gt (c := .ints) arrs o.imm.toNat : List Int).length : Int) ∧ ((gt (c := .ints) arrs o.imm.toNat : List Int).length : Int) ≤ 1048576) (hs : -9000000000000000000 ≤ st) (hs1 : st ≤ 9000000000000000000) : Trip Try.prog 35 [.ptr 0 0, .agg [.int .i64 o.kind, .int .i64 o.dst, .int .i64 o.a, .int .i64 o.b, .int .i64 o.imm]] ⟨[], [(0, .cells [.sl ⟨4, []⟩, .int .i64 g.vars, .int .i64 g.keep, .sl ⟨5, []⟩, .int .i64 g.shared, .sl ⟨6, []⟩, .sl ⟨7, []⟩, .sl ⟨8, []⟩, .sl ⟨1, []⟩, .sl ⟨2, []⟩, .sl ⟨3, []⟩, .int .i64 (st), .int .i64 (lf)]), (1, .list .own .int (vars)), (2, .list .own .ints (arrs)), (3, .list .own .bool held), (4, .list .tmp .input g.inp), (5, .list .tmp .array g.arrs), (6, .list .tmp .block g.blks), (7, .list .tmp .ints g.pts), (8, .list .tmp .head g.hds)], 9⟩ (Z := VS) (fun z => doS o (vars, arrs) = z) (fun _ => .int .i64 0) (fun z => ⟨[], [(0, .cells [.sl ⟨4, []⟩, .int .i64 g.vars, .int .i64 g.keep, .sl ⟨5, []⟩, .int .i64 g.shared, .sl ⟨6, []⟩, .sl ⟨7, []⟩, .sl ⟨8, []⟩, .sl ⟨1, []⟩, .sl ⟨2, []⟩, .sl ⟨3, []⟩, .int .i64 (st + 1), .int .i64 (lf)]), (1, .list .own .int (z.1)), (2, .list .own .ints (z.2)), (3, .list .own .bool held), (4, .list .tmp .input g.inp), (5, .list .tmp .array g.arrs), (6, .list .tmp .block g.blks), (7, .list .tmp .ints g.pts), (8, .list .tmp .head g.hds)], 9⟩) := by
  obtain ⟨kd, dst, a, b, imm⟩ := o
  unfold OpOK at ho
  dsimp only at hk ho hm ⊢
  obtain ⟨o1, o2, o3, o4⟩ := ho
  rcases hk with rfl | rfl | rfl | rfl | rfl
  · obtain ⟨d0, d1⟩ := o1 (by decide)
    clear o1 o2 o3 o4 hm
    refine trip_by (rs := [_]) 400 lay_ok Try.func35 rfl (by kernel_rfl) Try.ntmps35 Try.results35 rfl rfl ?_
    repeat' (first | (((with_reducible refine g_id ?_); (conv => arg 3; whnf)); first | (with_reducible refine g_cond lay_ok 400 ?_ ?_ ?_) | (with_reducible refine g_fin ?_ ?_) | (refine g_flow 3 lay_ok mixed_ok 400 512 [0, 1, 3, 7, 0, 16, 0, 64, 255, 511] (.q 0 (.q 1 (.q 2 (.q 3 (.q 4 (.q 5 (.q 6 (.q 7 (.q 8 (.e 9 [] (.fin) .stop)))))))))) (by kernel_rfl) ?_ ?_) | fail) | (((with_reducible refine w_id ?_); (conv => arg 4; whnf)); first | (with_reducible refine w_fin ?_ ?_) | (with_reducible refine w_tt ?_) | (with_reducible refine w_eff lay_ok 400 ?_ rfl rfl ?_ ?_)) | (with_reducible refine q_flow ?_ ?_) | ((with_reducible refine h_id ?_); (conv => arg 1; whnf); (with_reducible refine s_some ?_)) | (with_reducible exact o_nil) | ((with_reducible refine o_id ?_); (conv => arg 1; whnf); first | (with_reducible exact o_nil) | (with_reducible refine o_cons ?_ ?_)) | (intro h; ((try simp only [Int.toNat_natCast] at h); repeat (first | replace h := of_decide_eq_true h | replace h := of_decide_eq_false h | fail)); (try (first | contradiction | fail))) | omega | fail)
    all_goals (((with_reducible refine e_id ?_); (conv => whnf)); refine ⟨(vars.set dst.toNat imm, arrs), by unfold doS rd; simp, ?_⟩; ((with_reducible refine s_id ?_); (conv => arg 1; whnf); (with_reducible refine s_some ?_); repeat' (first | ((with_reducible refine o_id ?_); (conv => arg 1; whnf); first | (with_reducible exact o_nil) | (with_reducible refine o_cons ?_ ?_)) | rfl | fail)))
  · obtain ⟨d0, d1⟩ := o1 (by decide)
    obtain ⟨a0, a1⟩ := o2 (by decide)
    clear o1 o2 o3 o4 hm
    refine trip_by (rs := [_]) 400 lay_ok Try.func35 rfl (by kernel_rfl) Try.ntmps35 Try.results35 rfl rfl ?_
    repeat' (first | (((with_reducible refine g_id ?_); (conv => arg 3; whnf)); first | (with_reducible refine g_cond lay_ok 400 ?_ ?_ ?_) | (with_reducible refine g_fin ?_ ?_) | (refine g_flow 5 lay_ok mixed_ok 400 32768 [0, 1, 3, 7, 0, 16, 0, 64, 192, 448, 0, 1024, 4032, 8128, 16383, 32767] (.q 0 (.q 1 (.q 2 (.q 3 (.q 4 (.q 5 (.q 6 (.q 7 (.q 8 (.q 9 (.q 10 (.q 11 (.q 12 (.q 13 (.q 14 (.e 15 [] (.fin) .stop)))))))))))))))) (by kernel_rfl) ?_ ?_) | fail) | (((with_reducible refine w_id ?_); (conv => arg 4; whnf)); first | (with_reducible refine w_fin ?_ ?_) | (with_reducible refine w_tt ?_) | (with_reducible refine w_eff lay_ok 400 ?_ rfl rfl ?_ ?_)) | (with_reducible refine q_flow ?_ ?_) | ((with_reducible refine h_id ?_); (conv => arg 1; whnf); (with_reducible refine s_some ?_)) | (with_reducible exact o_nil) | ((with_reducible refine o_id ?_); (conv => arg 1; whnf); first | (with_reducible exact o_nil) | (with_reducible refine o_cons ?_ ?_)) | (intro h; ((try simp only [Int.toNat_natCast] at h); repeat (first | replace h := of_decide_eq_true h | replace h := of_decide_eq_false h | fail)); (try (first | contradiction | fail))) | omega | fail)
    all_goals (((with_reducible refine e_id ?_); (conv => whnf)); refine ⟨(vars.set dst.toNat (gt (c := .int) vars a.toNat : Int), arrs), by unfold doS rd; simp, ?_⟩; ((with_reducible refine s_id ?_); (conv => arg 1; whnf); (with_reducible refine s_some ?_); repeat' (first | ((with_reducible refine o_id ?_); (conv => arg 1; whnf); first | (with_reducible exact o_nil) | (with_reducible refine o_cons ?_ ?_)) | rfl | fail)))
  · obtain ⟨d0, d1⟩ := o1 (by decide)
    obtain ⟨a0, a1⟩ := o2 (by decide)
    obtain ⟨b0, b1⟩ := o3 (by decide)
    obtain ⟨i0, i1⟩ := o4 rfl
    clear o1 o2 o3 o4 hm
    refine trip_by (rs := [_]) 400 lay_ok Try.func35 rfl (by kernel_rfl) Try.ntmps35 Try.results35 rfl rfl ?_
    repeat' (first | (((with_reducible refine g_id ?_); (conv => arg 3; whnf)); first | (with_reducible refine g_cond lay_ok 400 ?_ ?_ ?_) | (with_reducible refine g_fin ?_ ?_) | (refine g_call lay_ok 400 ?_ ?_ ?_ (r_do ?_ ?_ ?_ ?_ ?_) rfl) | (refine g_flow 7 lay_ok mixed_ok 400 553648128 [0, 1, 3, 7, 0, 16, 0, 64, 0, 256, 768, 1792, 0, 4096, 16128, 32512, 0, 65536, 196608, 458752, 0, 1048576, 4128768, 8323072, 16777152, 33554368, 67108800, 67108800, 134217727, 402653183] (.q 0 (.q 1 (.q 2 (.q 3 (.q 4 (.q 5 (.q 6 (.q 7 (.q 8 (.q 9 (.q 10 (.q 11 (.q 12 (.q 13 (.q 14 (.q 15 (.q 16 (.q 17 (.q 18 (.q 19 (.q 20 (.q 21 (.q 22 (.q 23 (.e 24 [0, 1, 2, 3, 4, 5] (.q 25 (.q 26 (.q 27 (.q 28 (.e 29 [27] (.fin) .stop))))) .stop))))))))))))))))))))))))) (by kernel_rfl) ?_ ?_) | fail) | (((with_reducible refine w_id ?_); (conv => arg 4; whnf)); first | (with_reducible refine w_fin ?_ ?_) | (with_reducible refine w_tt ?_) | (with_reducible refine w_eff lay_ok 400 ?_ rfl rfl ?_ ?_)) | (with_reducible refine q_flow ?_ ?_) | ((with_reducible refine h_id ?_); (conv => arg 1; whnf); (with_reducible refine s_some ?_)) | (with_reducible exact o_nil) | ((with_reducible refine o_id ?_); (conv => arg 1; whnf); first | (with_reducible exact o_nil) | (with_reducible refine o_cons ?_ ?_)) | (intro h; ((try simp only [Int.toNat_natCast] at h); repeat (first | replace h := of_decide_eq_true h | replace h := of_decide_eq_false h | fail)); (try (first | contradiction | fail))) | rfl | omega | fail)
    all_goals (((with_reducible refine e_id ?_); (conv => whnf)); refine ⟨(vars.set dst.toNat (doI imm (gt (c := .int) vars a.toNat : Int) (gt (c := .int) vars b.toNat : Int)), arrs), by unfold doS rd; simp, ?_⟩; ((with_reducible refine s_id ?_); (conv => arg 1; whnf); (with_reducible refine s_some ?_); repeat' (first | ((with_reducible refine o_id ?_); (conv => arg 1; whnf); first | (with_reducible exact o_nil) | (with_reducible refine o_cons ?_ ?_)) | rfl | fail)))
  · obtain ⟨d0, d1⟩ := o1 (by decide)
    obtain ⟨a0, a1⟩ := o2 (by decide)
    obtain ⟨m0, m1, m2, m3⟩ := hm (by decide)
    obtain ⟨p0, p1⟩ := placeI_bd (n := (gt (c := .int) vars a.toNat : Int)) m2
    clear o1 o2 o3 o4 hm
    refine trip_by (rs := [_]) 400 lay_ok Try.func35 rfl (by kernel_rfl) Try.ntmps35 Try.results35 rfl rfl ?_
    repeat' (first | (((with_reducible refine g_id ?_); (conv => arg 3; whnf)); first | (with_reducible refine g_cond lay_ok 400 ?_ ?_ ?_) | (with_reducible refine g_fin ?_ ?_) | (refine g_call lay_ok 400 ?_ ?_ ?_ (r_place ?_ ?_ ?_ ?_) rfl) | (refine g_flow 9 lay_ok mixed_ok 400 0 [0, 1, 3, 7, 0, 16, 63, 127, 255] (.q 0 (.q 1 (.q 2 (.q 3 (.q 4 (.q 5 (.q 6 (.q 7 (.q 8 .fin))))))))) (by kernel_rfl) ?_ ?_) | (refine g_flow 10 lay_ok mixed_ok 400 2228224 [0, 1, 3, 7, 0, 16, 0, 0, 128, 384, 896, 0, 2048, 8064, 16256, 0, 32768, 130944, 262080, 524224, 1048575, 2097151] (.q 0 (.q 1 (.q 2 (.q 3 (.q 4 (.q 5 (.q 6 (.q 7 (.q 8 (.q 9 (.q 10 (.q 11 (.q 12 (.q 13 (.q 14 (.q 15 (.q 16 (.e 17 [0, 1, 2, 3, 4, 5, 6] (.q 18 (.q 19 (.q 20 (.e 21 [] (.fin) .stop)))) .stop)))))))))))))))))) (by kernel_rfl) ?_ ?_) | fail) | (((with_reducible refine w_id ?_); (conv => arg 4; whnf)); first | (with_reducible refine w_fin ?_ ?_) | (with_reducible refine w_tt ?_) | (with_reducible refine w_eff lay_ok 400 ?_ rfl rfl ?_ ?_)) | (with_reducible refine q_flow ?_ ?_) | ((with_reducible refine h_id ?_); (conv => arg 1; whnf); (with_reducible refine s_some ?_)) | (with_reducible exact o_nil) | ((with_reducible refine o_id ?_); (conv => arg 1; whnf); first | (with_reducible exact o_nil) | (with_reducible refine o_cons ?_ ?_)) | (intro h; ((try simp only [Int.toNat_natCast] at h); repeat (first | replace h := of_decide_eq_true h | replace h := of_decide_eq_false h | fail)); (try (first | contradiction | fail))) | rfl | omega | fail)
    all_goals (((with_reducible refine e_id ?_); (conv => whnf)); refine ⟨(vars.set dst.toNat (gt (c := .int) (gt (c := .ints) arrs imm.toNat : List Int) (placeI (gt (c := .int) vars a.toNat : Int) ((gt (c := .ints) arrs imm.toNat : List Int).length : Int)).toNat), arrs), by unfold doS rd; simp, ?_⟩; ((with_reducible refine s_id ?_); (conv => arg 1; whnf); (with_reducible refine s_some ?_); repeat' (first | ((with_reducible refine o_id ?_); (conv => arg 1; whnf); first | (with_reducible exact o_nil) | (with_reducible refine o_cons ?_ ?_)) | rfl | fail)))
  · obtain ⟨a0, a1⟩ := o2 (by decide)
    obtain ⟨b0, b1⟩ := o3 (by decide)
    obtain ⟨m0, m1, m2, m3⟩ := hm (by decide)
    obtain ⟨p0, p1⟩ := placeI_bd (n := (gt (c := .int) vars a.toNat : Int)) m2
    clear o1 o2 o3 o4 hm
    refine trip_by (rs := [_]) 400 lay_ok Try.func35 rfl (by kernel_rfl) Try.ntmps35 Try.results35 rfl rfl ?_
    repeat' (first | (((with_reducible refine g_id ?_); (conv => arg 3; whnf)); first | (with_reducible refine g_cond lay_ok 400 ?_ ?_ ?_) | (with_reducible refine g_fin ?_ ?_) | (refine g_call lay_ok 400 ?_ ?_ ?_ (r_place ?_ ?_ ?_ ?_) rfl) | (refine g_flow 12 lay_ok mixed_ok 400 0 [0, 1, 3, 7, 0, 16, 63, 127, 255] (.q 0 (.q 1 (.q 2 (.q 3 (.q 4 (.q 5 (.q 6 (.q 7 (.q 8 .fin))))))))) (by kernel_rfl) ?_ ?_) | (refine g_flow 13 lay_ok mixed_ok 400 2099200 [0, 0, 2, 6, 14, 0, 32, 126, 254, 0, 512, 2046, 0, 4096, 12288, 28672, 0, 65536, 258048, 520192, 1048575, 2097151] (.q 0 (.q 1 (.q 2 (.q 3 (.q 4 (.q 5 (.q 6 (.q 7 (.q 8 (.q 9 (.q 10 (.q 12 (.q 13 (.q 14 (.q 15 (.q 16 (.q 17 (.q 18 (.q 19 (.e 11 [0, 12, 13, 14, 15, 16, 17, 18, 19] (.q 20 (.e 21 [] (.fin) .stop)) .stop)))))))))))))))))))) (by kernel_rfl) ?_ ?_) | fail) | (((with_reducible refine w_id ?_); (conv => arg 4; whnf)); first | (with_reducible refine w_fin ?_ ?_) | (with_reducible refine w_tt ?_) | (with_reducible refine w_eff lay_ok 400 ?_ rfl rfl ?_ ?_)) | (with_reducible refine q_flow ?_ ?_) | ((with_reducible refine h_id ?_); (conv => arg 1; whnf); (with_reducible refine s_some ?_)) | (with_reducible exact o_nil) | ((with_reducible refine o_id ?_); (conv => arg 1; whnf); first | (with_reducible exact o_nil) | (with_reducible refine o_cons ?_ ?_)) | (intro h; ((try simp only [Int.toNat_natCast] at h); repeat (first | replace h := of_decide_eq_true h | replace h := of_decide_eq_false h | fail)); (try (first | contradiction | fail))) | rfl | omega | fail)
    all_goals (((with_reducible refine e_id ?_); (conv => whnf)); refine ⟨(vars, arrs.set imm.toNat ((gt (c := .ints) arrs imm.toNat : List Int).set (placeI (gt (c := .int) vars a.toNat : Int) ((gt (c := .ints) arrs imm.toNat : List Int).length : Int)).toNat (gt (c := .int) vars b.toNat : Int))), by unfold doS rd; simp, ?_⟩; ((with_reducible refine s_id ?_); (conv => arg 1; whnf); (with_reducible refine s_some ?_); repeat' (first | ((with_reducible refine o_id ?_); (conv => arg 1; whnf); first | (with_reducible exact o_nil) | (with_reducible refine o_cons ?_ ?_)) | rfl | fail)))
end Go.Proofs.Ytonjbhdfimcedaa

/- F3 -/
namespace Go.Proofs.Ytonjbhdfimcedaa
set_option linter.unusedVariables false
set_option linter.unusedSimpArgs false
open Go.RowKit
/-- Inputs fit. -/
def InOk (inp : List Inp) (vs : List Int) : Prop := vs.length = inp.length ∧ ∀ i, i < inp.length → (gt (c := .input) inp i).lo ≤ gt (c := .int) vs i ∧ (gt (c := .int) vs i : Int) ≤ (gt (c := .input) inp i).hi
/-- The arrays at the beginning. -/
def zArr (a : Arr) : List Int := List.replicate a.size.toNat 0
def zArrs (g : Grf) (z : Nat) : List (List Int) := (g.arrs.take z).map zArr
theorem zArrs_zero {g : Grf} : zArrs g 0 = [] := rfl
theorem zArrs_len {g : Grf} {z : Nat} (h : z ≤ g.arrs.length) : (zArrs g z).length = z := by unfold zArrs; rw [List.length_map, List.length_take]; omega
theorem zArrs_snoc {g : Grf} {z : Nat} (h : z < g.arrs.length) : zArrs g z ++ [List.replicate (gt (c := .array) g.arrs z).size.toNat (dflt .int)] = zArrs g (z + 1) := by
  unfold zArrs; rw [take_snoc (c := .array) h, List.map_append]; rfl
/-- Arrays of the sizes of a graph. -/
def ArOk (g : Grf) (a : List (List Int)) : Prop := a.length = g.arrs.length ∧ ∀ j, j < g.arrs.length → (gt (c := .ints) a j : List Int).length = (gt (c := .array) g.arrs j).size.toNat
theorem zArrs_ok {g : Grf} : ArOk g (zArrs g g.arrs.length) := by
  refine ⟨zArrs_len (Nat.le_refl _), fun j hj => ?_⟩
  have : (gt (c := .ints) (zArrs g g.arrs.length) j : List Int) = zArr (gt (c := .array) g.arrs j) := gt_eq (c := .ints) (by unfold zArrs; rw [List.take_length, List.getElem?_map, gt_at (c := .array) hj]; rfl)
  rw [this]; exact List.length_replicate
theorem doS_arr {g : Grf} {o : Op_} {s : VS} (h : ArOk g s.2) (hm : o.kind = 4 ∨ o.kind = 5 → o.imm.toNat < g.arrs.length) : ArOk g (doS o s).2 := by
  have hs : (doS o s).2 = s.2 ∨ (o.kind = 5 ∧ ∃ i x, (doS o s).2 = s.2.set o.imm.toNat ((gt (c := .ints) s.2 o.imm.toNat : List Int).set i x)) := by
    unfold doS
    by_cases h5 : o.kind = 5
    · right; refine ⟨h5, (placeI (rd s.1 o.a) ((gt (c := .ints) s.2 o.imm.toNat : List Int).length : Int)).toNat, rd s.1 o.b, ?_⟩
      rw [if_neg (by omega), if_neg (by omega), if_neg (by omega), if_neg (by omega), if_pos h5]
    · left
      repeat' split
      all_goals first | rfl | (exfalso; omega)
  rcases hs with e | ⟨h5, i, x, e⟩
  · rw [e]; exact h
  · rw [e]
    have hi := hm (.inr h5)
    refine ⟨by rw [List.length_set]; exact h.1, fun j hj => ?_⟩
    rw [gt_set' (c := .ints) (by rw [h.1]; exact hi) (by rw [h.1]; exact hj)]
    split
    · rename_i q; subst q; rw [List.length_set]; exact h.2 _ hj
    · exact h.2 j hj
theorem execL_arr {g : Grf} : ∀ {l : List Op_} {s : VS}, ArOk g s.2 → (∀ o ∈ l, o.kind = 4 ∨ o.kind = 5 → o.imm.toNat < g.arrs.length) → ArOk g (execL l s).2
  | [], s, h, _ => h
  | o :: l, s, h, hm => execL_arr (l := l) (doS_arr h (hm o List.mem_cons_self)) fun q hq => hm q (List.mem_cons_of_mem o hq)
theorem execL_snoc : ∀ {l : List Op_} {o : Op_} {s : VS}, execL (l ++ [o]) s = doS o (execL l s)
  | [], o, s => rfl
  | x :: l, o, s => by show execL (l ++ [o]) (doS x s) = doS o (execL l (doS x s)); exact execL_snoc
theorem execL_step {l : List Op_} {z : Nat} {s : VS} {r : VS} (hz : z < l.length) (e : doS (gt (c := .op) l z) (execL (l.take z) s) = r) : execL (l.take (z + 1)) s = r := by
  rw [take_snoc (c := .op) hz, execL_snoc, e]
/-- What a graph that is right has, as running asks. -/
theorem chk_run {g : Grf} (h : chkG g = 0) : (0 ≤ g.keep ∧ g.keep ≤ g.vars ∧ (g.inp.length : Int) ≤ g.keep ∧ g.arrs.length ≤ 8) ∧ (∀ a ∈ g.arrs, 0 < a.size ∧ a.size ≤ 16) ∧ ∀ b ∈ g.blks, ∀ o ∈ b.ops, o.kind = 4 ∨ o.kind = 5 → 0 ≤ o.imm ∧ o.imm < (g.arrs.length : Int) := by
  unfold chkG at h
  split at h
  · exact absurd h (by decide)
  · rename_i hl
    split at h
    · rename_i ho
      unfold limG at hl
      unfold okG at ho
      simp only [Bool.and_eq_true, decide_eq_true_eq] at ho
      obtain ⟨o1, o2, o3, o4⟩ := ho
      unfold decB at o3
      simp only [Bool.and_eq_true, Bool.not_eq_true'] at o3
      obtain ⟨q1, q2, q3⟩ := o3
      have hv := of_decide_eq_true q1
      refine ⟨⟨hv.2.1, hv.2.2.1, hv.2.2.2.1, by omega⟩, fun a ha => ?_, fun b hb o hob => ?_⟩
      · have := List.any_eq_false.1 q3 a ha
        unfold badA sizB at this
        simp at this
        omega
      · obtain ⟨i, hi, rfl⟩ := mem_at (c := .block) hb
        have h1 := allN_at o1 hi
        unfold blkB at h1
        simp only [Bool.and_eq_true] at h1
        obtain ⟨j, hj, rfl⟩ := mem_at (c := .op) hob
        have h4 := allN_at h1.1.1 hj
        unfold opkB at h4
        simp only [Bool.and_eq_true] at h4
        have h5 := of_decide_eq_true h4.1.1
        omega
    · exact absurd h (by decide)
set_option maxHeartbeats 2000000 in
theorem r_inputs (inp : List Inp) (vs : List Int) (h : InOk inp vs) (hl : inp.length ≤ 1048576) : Trip Try.prog 32 [.sl ⟨0, []⟩, .sl ⟨1, []⟩] ⟨[], [(0, .list .tmp .input inp), (1, .list .tmp .int vs)], 2⟩ (Z := Unit) (fun _ => True) (fun _ => .tf true) (fun _ => ⟨[], [(0, .list .tmp .input inp), (1, .list .tmp .int vs)], 2⟩) := by
  obtain ⟨h1, h2⟩ := h
  refine trip_by (rs := [_]) 400 lay_ok Try.func32 rfl (by kernel_rfl) Try.ntmps32 Try.results32 rfl rfl ?_
  repeat' (first | (((with_reducible refine g_id ?_); (conv => arg 3; whnf)); first | (with_reducible refine g_cond lay_ok 400 ?_ ?_ ?_) | fail) | ((with_reducible refine o_id ?_); (conv => arg 1; whnf); first | (with_reducible exact o_nil) | fail) | (intro h; ((try simp only [Int.toNat_natCast] at h); repeat (first | replace h := of_decide_eq_true h | replace h := of_decide_eq_false h | replace h := not_t h | replace h := not_f h | fail)); (try (first | (exfalso; omega) | fail))) | fail)
  refine g_loop lay_ok 400 (Z := Nat) (fun z => z ≤ inp.length) (fun z => ⟨[(0, .sl ⟨0, []⟩), (1, .sl ⟨1, []⟩), (5, .int .i64 (z : Int))], [(0, .list .tmp .input inp), (1, .list .tmp .int vs)], 2⟩) (fun z => inp.length - z) ?_ ⟨0, Nat.zero_le _, ?_⟩ (fun z hz => ?_)
  · repeat' (first | ((with_reducible refine o_id ?_); (conv => arg 1; whnf); first | (with_reducible exact o_nil) | fail) | fail)
  · ((with_reducible refine s_id ?_); (conv => arg 1; whnf); (with_reducible refine s_some ?_); repeat' (first | ((with_reducible refine o_id ?_); (conv => arg 1; whnf); first | (with_reducible exact o_nil) | (with_reducible refine o_cons ?_ ?_)) | rfl | fail))
  by_cases hz2 : z < inp.length
  · obtain ⟨l1, l2⟩ := h2 z hz2
    repeat' (first | (((with_reducible refine g_id ?_); (conv => arg 3; whnf)); first | (with_reducible refine g_cond lay_ok 400 ?_ ?_ ?_) | (with_reducible refine g_fin ?_ ?_) | (refine g_flow 6 lay_ok mixed_ok 400 0 [0, 0, 3, 7, 0, 0, 48, 112, 240, 511, 1023, 2047, 2047, 8191, 16383, 2047, 2047, 100351, 231423, 493567, 1048575, 2097151] (.q 0 (.q 1 (.q 2 (.q 3 (.q 4 (.q 5 (.q 6 (.q 7 (.q 8 (.q 9 (.q 10 (.q 11 (.q 12 (.q 13 (.q 14 (.q 15 (.q 16 (.q 17 (.q 18 (.q 19 (.q 20 (.q 21 .fin)))))))))))))))))))))) (by kernel_rfl) ?_ ?_)) | (((with_reducible refine w_id ?_); (conv => arg 4; whnf)); first | (with_reducible refine w_fin ?_ ?_) | (with_reducible refine w_split lay_ok 400 ?_ ?_ ?_) | fail) | (with_reducible exact o_nil) | ((with_reducible refine o_id ?_); (conv => arg 1; whnf); first | (with_reducible exact o_nil) | (with_reducible refine o_cons ?_ ?_)) | (intro h; ((try simp only [Int.toNat_natCast] at h); repeat (first | replace h := of_decide_eq_true h | replace h := of_decide_eq_false h | fail)); (try (first | (exfalso; omega) | (exact absurd h (Int.not_lt.2 l2))))) | omega | fail)
    all_goals (refine q_round ⟨z + 1, by omega, by omega, ?_⟩; ((with_reducible refine s_id ?_); (conv => arg 1; whnf); (with_reducible refine s_some ?_); repeat' (first | ((with_reducible refine o_id ?_); (conv => arg 1; whnf); first | (with_reducible exact o_nil) | (with_reducible refine o_cons ?_ ?_)) | rfl | fail)))
  · repeat' (first | (((with_reducible refine g_id ?_); (conv => arg 3; whnf)); first | (with_reducible refine g_cond lay_ok 400 ?_ ?_ ?_) | (with_reducible refine g_fin ?_ ?_) | fail) | (with_reducible refine q_leave lay_ok 400 ?_) | (with_reducible exact o_nil) | ((with_reducible refine o_id ?_); (conv => arg 1; whnf); first | (with_reducible exact o_nil) | fail) | (intro h; ((try simp only [Int.toNat_natCast] at h); repeat (first | replace h := of_decide_eq_true h | replace h := of_decide_eq_false h | fail)); (try (first | (exfalso; omega) | fail))) | fail)
    all_goals (((with_reducible refine e_id ?_); (conv => whnf)); refine ⟨(), trivial, ?_⟩; ((with_reducible refine s_id ?_); (conv => arg 1; whnf); (with_reducible refine s_some ?_); repeat' (first | ((with_reducible refine o_id ?_); (conv => arg 1; whnf); first | (with_reducible exact o_nil) | (with_reducible refine o_cons ?_ ?_)) | rfl | fail)))
end Go.Proofs.Ytonjbhdfimcedaa

/- F4 -/
namespace Go.Proofs.Ytonjbhdfimcedaa
set_option linter.unusedVariables false
set_option linter.unusedSimpArgs false
open Go.RowKit
abbrev RZ := Nat × Nat × VS × Int × List Int × Int
structure RunI (g : Grf) (out : Out) (z : RZ) : Prop where
  e : runG g z.1 z.2.1 z.2.2.1 z.2.2.2.1 z.2.2.2.2.1 z.2.2.2.2.2 = some out
  i : z.2.1 < g.blks.length
  v : z.2.2.1.1.length = g.vars.toNat
  a : ArOk g z.2.2.1.2
  c : z.2.2.2.2.1.length = g.blks.length
  l : 0 ≤ z.2.2.2.1 ∧ z.2.2.2.1 ≤ 40000
  t : 0 ≤ z.2.2.2.2.2 ∧ z.2.2.2.2.2 + z.2.2.2.1 ≤ 40000
  k : ∀ j, j < g.blks.length → 0 ≤ rd z.2.2.2.2.1 (j : Int) ∧ rd z.2.2.2.2.1 (j : Int) + z.2.2.2.1 ≤ 40000
theorem rd_nat {l : List Int} {j : Nat} : rd l (j : Int) = gt (c := .int) l j := rfl
theorem run_step {g : Grf} {out : Out} {f i : Nat} {s : VS} {left steps : Int} {counts : List Int} (h : RunI g out (f, i, s, left, counts, steps)) (w : Wf g) (hm : ∀ b ∈ g.blks, ∀ o ∈ b.ops, o.kind = 4 ∨ o.kind = 5 → 0 ≤ o.imm ∧ o.imm < (g.arrs.length : Int)) :
    ∃ f', f = f' + 1 ∧ ¬ left < 1 + ((gt (c := .block) g.blks i).ops.length : Int) ∧ ((gt (c := .block) g.blks i).next.length = 0 → out = (execL (gt (c := .block) g.blks i).ops s, counts.set i (gt (c := .int) counts i + 1), steps + ((gt (c := .block) g.blks i).ops.length : Int))) ∧
      ((gt (c := .block) g.blks i).next.length ≠ 0 → RunI g out (f', (nextB (gt (c := .block) g.blks i) (execL (gt (c := .block) g.blks i).ops s).1).toNat, execL (gt (c := .block) g.blks i).ops s, left - 1 - ((gt (c := .block) g.blks i).ops.length : Int), counts.set i (gt (c := .int) counts i + 1), steps + ((gt (c := .block) g.blks i).ops.length : Int))) := by
  obtain ⟨e, hi, hv, ha, hc, hl, ht, hk⟩ := h
  dsimp only at e hi hv ha hc hl ht hk
  cases f with
  | zero => cases e
  | succ f =>
    have e' : (if left < 1 + ((gt (c := .block) g.blks i).ops.length : Int) then none else if (gt (c := .block) g.blks i).next.length = 0 then some (execL (gt (c := .block) g.blks i).ops s, counts.set i (gt (c := .int) counts i + 1), steps + ((gt (c := .block) g.blks i).ops.length : Int)) else runG g f (nextB (gt (c := .block) g.blks i) (execL (gt (c := .block) g.blks i).ops s).1).toNat (execL (gt (c := .block) g.blks i).ops s) (left - 1 - ((gt (c := .block) g.blks i).ops.length : Int)) (counts.set i (gt (c := .int) counts i + 1)) (steps + ((gt (c := .block) g.blks i).ops.length : Int))) = some out := e
    clear e
    have hmem := mem_gt (c := .block) hi
    refine ⟨f, rfl, ?_, fun h0 => ?_, fun h0 => ?_⟩
    · intro q; rw [if_pos q] at e'; cases e'
    · split at e'
      · cases e'
      · first | (rw [if_pos h0] at e'; cases e'; rfl) | (cases e'; rfl)
    · split at e'
      · cases e'
      · rename_i hlt
        try rw [if_neg h0] at e'
        have hx := (w.n _ hmem).2
        have key : ∀ j, j < (gt (c := .block) g.blks i).next.length → (gt (c := .int) (gt (c := .block) g.blks i).next j : Int).toNat < g.blks.length := fun j hj => by
          have := hx _ (mem_gt (c := .int) hj)
          omega
        refine ⟨e', ?_, by dsimp only; rw [execL_len]; exact hv, execL_arr ha fun o ho q => by have := hm _ hmem o ho q; omega, by dsimp only; rw [List.length_set]; exact hc, by dsimp only; omega, by dsimp only; omega, fun j hj => ?_⟩
        · dsimp only
          unfold nextB
          split
          · exact key 0 (by omega)
          · rename_i q; exact key 1 (by have := not_or.1 q; omega)
        · dsimp only
          have h1 := hk j hj
          have h2 := hk i hi
          rw [rd_nat] at h1 h2 ⊢
          rw [gt_set' (c := .int) (by omega) (by omega)]
          split <;> omega
theorem ex0 {s : VS} : execL [] s = s := rfl
theorem nextB_1 {b : Blk} {vs : List Int} (h : b.next.length = 1) : nextB b vs = gt (c := .int) b.next 0 := if_pos (.inl h)
theorem nextB_t {b : Blk} {vs : List Int} (h : ¬ (gt (c := .int) vs b.cond.toNat : Int) = 0) : nextB b vs = gt (c := .int) b.next 0 := if_pos (.inr h)
theorem nextB_f {b : Blk} {vs : List Int} (h1 : ¬ b.next.length = 1) (h : (gt (c := .int) vs b.cond.toNat : Int) = 0) : nextB b vs = gt (c := .int) b.next 1 := if_neg (fun q => q.elim h1 (fun r => r h))
/-- The variables at the beginning. -/
def vars0 (g : Grf) (ins : List Int) : List Int := ins ++ List.replicate (g.vars.toNat - ins.length) 0
theorem vars0_len {g : Grf} {ins : List Int} (h : ins.length ≤ g.vars.toNat) : (vars0 g ins).length = g.vars.toNat := by unfold vars0; rw [List.length_append, List.length_replicate]; omega
theorem vars0_eq {g : Grf} {ins : List Int} : ins ++ (List.replicate g.vars.toNat (dflt .int)).drop ins.length = vars0 g ins := by unfold vars0; rw [List.drop_replicate]; rfl
theorem run_start {g : Grf} {out : Out} {fu : Nat} {ins : List Int} {most : Int} (w : Wf g) (hi : ins.length ≤ g.vars.toNat) (hm : 0 ≤ most ∧ most ≤ 40000) (h : runG g fu 0 (vars0 g ins, zArrs g g.arrs.length) most (List.replicate g.blks.length 0) 0 = some out) : RunI g out (fu, 0, (vars0 g ins, zArrs g g.arrs.length), most, List.replicate g.blks.length 0, 0) := by
  refine ⟨h, w.b.1, vars0_len hi, zArrs_ok, List.length_replicate, hm, by dsimp only; omega, fun j hj => ?_⟩
  have : (gt (c := .int) (List.replicate g.blks.length 0) j : Int) = 0 := gt_eq (c := .int) (by rw [List.getElem?_replicate, if_pos hj])
  dsimp only
  rw [rd_nat, this]; omega
attribute [local irreducible] doS placeI runG zArrs vars0 chkG execL nextB
set_option maxHeartbeats 8000000 in
set_option maxRecDepth 8000 in
theorem r_run13 (g : Grf) (hB : Bnd g) (he : chkG g = 0) (hs : g.shared = 0) (hkd : ∀ b ∈ g.blks, ∀ o ∈ b.ops, o.kind = 1 ∨ o.kind = 2 ∨ o.kind = 3 ∨ o.kind = 4 ∨ o.kind = 5) (ins : List Int) (hin : InOk g.inp ins) (most : Int) (hm0 : 0 ≤ most ∧ most ≤ 40000) (fu : Nat) (out : Out) (hr : runG g fu 0 (vars0 g ins, zArrs g g.arrs.length) most (List.replicate g.blks.length 0) 0 = some out) : Trip Try.prog 14 [.agg [.sl ⟨0, []⟩, .int .i64 g.vars, .int .i64 g.keep, .sl ⟨1, []⟩, .int .i64 g.shared, .sl ⟨2, []⟩, .sl ⟨3, []⟩, .sl ⟨4, []⟩], .sl ⟨5, []⟩, .val (.slice none 0 0), .int .i64 most] ⟨[], [(0, .list .tmp .input g.inp), (1, .list .tmp .array g.arrs), (2, .list .tmp .block g.blks), (3, .list .tmp .ints g.pts), (4, .list .tmp .head g.hds), (5, .list .tmp .int ins)], 6⟩ (Z := Unit) (fun _ => True) (fun _ => .tup [.agg [.vw ⟨6, []⟩ 1 0 g.keep.toNat none, .vw ⟨7, []⟩ 1 0 g.arrs.length none, .vw ⟨7, []⟩ 1 g.arrs.length 0 none, .sl ⟨8, []⟩, .int .i64 out.2.2], .int .i64 0]) (fun _ => ⟨[], [(0, .list .tmp .input g.inp), (1, .list .tmp .array g.arrs), (2, .list .tmp .block g.blks), (3, .list .tmp .ints g.pts), (4, .list .tmp .head g.hds), (5, .list .tmp .int ins), (6, .list .own .int out.1.1), (7, .list .own .ints out.1.2), (8, .list .own .int out.2.1)], 9⟩) := by
  have w := chk_wf hB he
  have hb0 := w.b
  have hwi := w.i
  obtain ⟨⟨vv0, vv1⟩, hf⟩ := chk_fold he
  obtain ⟨⟨kp0, kp1, kp2, kp3⟩, har, him⟩ := chk_run he
  have hil := hin.1
  have hvn : ((g.vars.toNat : Nat) : Int) = g.vars := Int.toNat_of_nonneg vv0
  have hiv : ins.length ≤ g.vars.toNat := by omega
  refine trip_by (rs := [_, _]) 400 lay_ok Try.func14 rfl (by kernel_rfl) Try.ntmps14 Try.results14 rfl rfl ?_
  repeat' (first | (((with_reducible refine g_id ?_); (conv => arg 3; whnf)); first | (with_reducible refine g_cond lay_ok 400 ?_ ?_ ?_) | (refine g_call lay_ok 400 ?_ ?_ ?_ (r_check1 ?_ ?_) rfl) | (refine g_call lay_ok 400 ?_ ?_ ?_ (r_inputs ?_ ?_ ?_ ?_) rfl)) | ((with_reducible refine o_id ?_); (conv => arg 1; whnf); first | (with_reducible exact o_nil) | (with_reducible refine o_cons ?_ ?_)) | (intro h; ((try simp only [Int.toNat_natCast] at h); repeat (first | replace h := of_decide_eq_true h | replace h := of_decide_eq_false h | replace h := not_t h | replace h := not_f h | fail)); (try (first | contradiction | (exfalso; omega) | fail))) | rfl | omega | fail)
  refine g_rounds lay_ok 400 1 ?_ ?_
  · repeat' (first | ((with_reducible refine o_id ?_); (conv => arg 1; whnf); first | (with_reducible exact o_nil) | fail) | fail)
  repeat' (first | (((with_reducible refine g_id ?_); (conv => arg 3; whnf)); first | (with_reducible refine g_split lay_ok 400 ?_ ?_ ?_) | (with_reducible refine g_cond lay_ok 400 ?_ ?_ ?_) | (with_reducible refine g_fin ?_ ?_)) | (with_reducible refine q_leave lay_ok 400 ?_) | (with_reducible exact o_nil) | ((with_reducible refine o_id ?_); (conv => arg 1; whnf); first | (with_reducible exact o_nil) | fail) | (intro h; ((try simp only [Int.toNat_natCast] at h); repeat (first | replace h := of_decide_eq_true h | replace h := of_decide_eq_false h | fail)); (try (first | (exfalso; omega) | fail))) | fail)
  ((with_reducible refine g_id ?_); (conv => arg 3; whnf))
  refine g_mid lay_ok 0 400 (Z := Unit) (fun _ => True) (fun _ => ⟨[(1, .sl ⟨5, []⟩), (4, .ptr 6 0), (8, .ptr 7 0), (11, .int .i64 (g.arrs.length : Int)), (14, .ptr 10 0)], [(0, .list .tmp .input g.inp), (1, .list .tmp .array g.arrs), (2, .list .tmp .block g.blks), (3, .list .tmp .ints g.pts), (4, .list .tmp .head g.hds), (5, .list .tmp .int ins), (6, .cells [.sl ⟨0, []⟩, .int .i64 g.vars, .int .i64 g.keep, .sl ⟨1, []⟩, .int .i64 g.shared, .sl ⟨2, []⟩, .sl ⟨3, []⟩, .sl ⟨4, []⟩]), (7, .cells [.val (.slice none 0 0), .val (.slice none 0 0), .val (.slice none 0 0), .val (.slice none 0 0), .int .i64 0]), (8, .list .own .int (List.replicate g.vars.toNat (dflt .int))), (9, .list .own .bool (List.replicate 4 (dflt .bool))), (10, .cells [.sl ⟨0, []⟩, .int .i64 g.vars, .int .i64 g.keep, .sl ⟨1, []⟩, .int .i64 g.shared, .sl ⟨2, []⟩, .sl ⟨3, []⟩, .sl ⟨4, []⟩, .sl ⟨8, []⟩, .val (.slice none 0 0), .sl ⟨9, []⟩, .int .i64 (0), .int .i64 (most)])], 11⟩) rfl ?_ (fun z hz => ?_)
  · repeat' (first | (((with_reducible refine g_id ?_); (conv => arg 3; whnf)); first | (with_reducible refine g_fin ?_ ?_) | (refine g_flow 21 lay_ok mixed_ok 400 152 [0, 0, 2, 6, 0, 0, 63, 127, 255] (.q 0 (.q 1 (.q 2 (.q 5 (.e 3 [0, 5] (.e 4 [0, 1, 2, 5] (.q 6 (.e 7 [] (.q 8 .fin) .stop)) .stop) (.e 4 [0, 1, 2, 5] (.e 3 [0, 5] (.q 6 (.e 7 [] (.q 8 .fin) .stop)) .stop) .stop)))))) (by kernel_rfl) ?_ ?_) | fail) | (((with_reducible refine w_id ?_); (conv => arg 4; whnf)); first | (with_reducible refine w_fin ?_ ?_) | (with_reducible refine w_tt ?_) | (with_reducible refine w_eff lay_ok 400 ?_ rfl rfl ?_ ?_)) | (with_reducible refine q_flow ?_ ?_) | ((with_reducible refine h_id ?_); (conv => arg 1; whnf); (with_reducible refine s_some ?_)) | (with_reducible exact o_nil) | ((with_reducible refine o_id ?_); (conv => arg 1; whnf); first | (with_reducible exact o_nil) | (with_reducible refine o_cons ?_ ?_)) | rfl | omega | fail)
    all_goals (refine q_round ⟨(), trivial, ?_⟩; ((with_reducible refine s_id ?_); (conv => arg 1; whnf); (with_reducible refine s_some ?_); repeat' (first | ((with_reducible refine o_id ?_); (conv => arg 1; whnf); first | (with_reducible exact o_nil) | (with_reducible refine o_cons ?_ ?_)) | rfl | omega | fail)))
  clear hz
  repeat' (first | (((with_reducible refine g_id ?_); (conv => arg 3; whnf)); first | (refine g_copy lay_ok 400 ?_ rfl rfl rfl rfl rfl rfl rfl rfl rfl ?_ ?_ rfl rfl ?_) | fail) | (with_reducible exact o_nil) | ((with_reducible refine o_id ?_); (conv => arg 1; whnf); first | (with_reducible exact o_nil) | fail) | (rw [List.length_replicate]; exact hiv) | fail)
  refine g_loop lay_ok 400 (Z := Nat) (fun z => z ≤ g.arrs.length) (fun z => ⟨[(4, .ptr 6 0), (8, .ptr 7 0), (11, .int .i64 (g.arrs.length : Int)), (14, .ptr 10 0), (15, .int .i64 (z : Int))], [(0, .list .tmp .input g.inp), (1, .list .tmp .array g.arrs), (2, .list .tmp .block g.blks), (3, .list .tmp .ints g.pts), (4, .list .tmp .head g.hds), (5, .list .tmp .int ins), (6, .cells [.sl ⟨0, []⟩, .int .i64 g.vars, .int .i64 g.keep, .sl ⟨1, []⟩, .int .i64 g.shared, .sl ⟨2, []⟩, .sl ⟨3, []⟩, .sl ⟨4, []⟩]), (7, .cells [.val (.slice none 0 0), .val (.slice none 0 0), .val (.slice none 0 0), .val (.slice none 0 0), .int .i64 0]), (8, .list .own .int (vars0 g ins)), (9, .list .own .bool (List.replicate 4 (dflt .bool))), (10, .cells [.sl ⟨0, []⟩, .int .i64 g.vars, .int .i64 g.keep, .sl ⟨1, []⟩, .int .i64 g.shared, .sl ⟨2, []⟩, .sl ⟨3, []⟩, .sl ⟨4, []⟩, .sl ⟨8, []⟩, .sl ⟨11, []⟩, .sl ⟨9, []⟩, .int .i64 (0), .int .i64 (most)]), (11, .list .own .ints (zArrs g z))], 12⟩) (fun z => g.arrs.length - z) ?_ ⟨0, Nat.zero_le _, ?_⟩ (fun z hz => ?_)
  · repeat' (first | ((with_reducible refine o_id ?_); (conv => arg 1; whnf); first | (with_reducible exact o_nil) | fail) | fail)
  · ((with_reducible refine s_id ?_); (conv => arg 1; whnf); (with_reducible refine s_some ?_); repeat' (first | ((with_reducible refine o_id ?_); (conv => arg 1; whnf); first | (with_reducible exact o_nil) | (with_reducible refine o_cons ?_ ?_)) | rfl | (exact vars0_eq.symm) | (exact zArrs_zero) | fail))
  by_cases hk : z < g.arrs.length
  · obtain ⟨ar0, ar1⟩ := har _ (mem_gt (c := .array) hk)
    have hzl := zArrs_len hz
    repeat' (first | (((with_reducible refine g_id ?_); (conv => arg 3; whnf)); first | (with_reducible refine g_cond lay_ok 400 ?_ ?_ ?_) | (with_reducible refine g_fin ?_ ?_) | fail) | ((with_reducible refine o_id ?_); (conv => arg 1; whnf); first | (with_reducible exact o_nil) | (with_reducible refine o_cons ?_ ?_)) | (intro h; ((try simp only [Int.toNat_natCast] at h); repeat (first | replace h := of_decide_eq_true h | replace h := of_decide_eq_false h | fail)); (try (first | (exfalso; omega) | fail))) | rfl | omega | (simp only [List.length_append, List.length_cons, List.length_nil]; omega) | (simp only [Int.toNat_natCast]; omega) | fail)
    all_goals (refine q_round ⟨z + 1, by omega, by omega, ?_⟩; ((with_reducible refine s_id ?_); (conv => arg 1; whnf); (with_reducible refine s_some ?_); repeat' (first | ((with_reducible refine o_id ?_); (conv => arg 1; whnf); first | (with_reducible exact o_nil) | (with_reducible refine o_cons ?_ ?_)) | rfl | (exact (zArrs_snoc hk).symm) | fail)))
  have e : z = g.arrs.length := by omega
  subst e
  clear hk hz
  repeat' (first | (((with_reducible refine g_id ?_); (conv => arg 3; whnf)); first | (with_reducible refine g_cond lay_ok 400 ?_ ?_ ?_) | (with_reducible refine g_fin ?_ ?_) | fail) | (with_reducible refine q_leave lay_ok 400 ?_) | (with_reducible exact o_nil) | ((with_reducible refine o_id ?_); (conv => arg 1; whnf); first | (with_reducible exact o_nil) | fail) | (intro h; ((try simp only [Int.toNat_natCast] at h); repeat (first | replace h := of_decide_eq_true h | replace h := of_decide_eq_false h | fail)); (try (first | (exfalso; omega) | fail))) | fail)
  refine g_loop lay_ok 400 (Z := RZ) (fun z => RunI g out z) (fun z => ⟨[(4, .ptr 6 0), (8, .ptr 7 0), (11, .int .i64 (g.arrs.length : Int)), (14, .ptr 10 0), (17, .sl ⟨12, []⟩), (18, .int .i64 (z.2.1 : Int))], [(0, .list .tmp .input g.inp), (1, .list .tmp .array g.arrs), (2, .list .tmp .block g.blks), (3, .list .tmp .ints g.pts), (4, .list .tmp .head g.hds), (5, .list .tmp .int ins), (6, .cells [.sl ⟨0, []⟩, .int .i64 g.vars, .int .i64 g.keep, .sl ⟨1, []⟩, .int .i64 g.shared, .sl ⟨2, []⟩, .sl ⟨3, []⟩, .sl ⟨4, []⟩]), (7, .cells [.val (.slice none 0 0), .val (.slice none 0 0), .val (.slice none 0 0), .val (.slice none 0 0), .int .i64 0]), (8, .list .own .int (z.2.2.1.1)), (9, .list .own .bool (List.replicate 4 (dflt .bool))), (10, .cells [.sl ⟨0, []⟩, .int .i64 g.vars, .int .i64 g.keep, .sl ⟨1, []⟩, .int .i64 g.shared, .sl ⟨2, []⟩, .sl ⟨3, []⟩, .sl ⟨4, []⟩, .sl ⟨8, []⟩, .sl ⟨11, []⟩, .sl ⟨9, []⟩, .int .i64 (z.2.2.2.2.2), .int .i64 (z.2.2.2.1)]), (11, .list .own .ints (z.2.2.1.2)), (12, .list .own .int (z.2.2.2.2.1))], 13⟩) (fun z => z.1) ?_ ⟨(fu, 0, (vars0 g ins, zArrs g g.arrs.length), most, List.replicate g.blks.length 0, 0), run_start w hiv hm0 hr, ?_⟩ (fun z hz => ?_)
  · repeat' (first | ((with_reducible refine o_id ?_); (conv => arg 1; whnf); first | (with_reducible exact o_nil) | (with_reducible refine o_cons ?_ ?_)) | rfl | omega | fail)
  · ((with_reducible refine s_id ?_); (conv => arg 1; whnf); (with_reducible refine s_some ?_); repeat' (first | ((with_reducible refine o_id ?_); (conv => arg 1; whnf); first | (with_reducible exact o_nil) | (with_reducible refine o_cons ?_ ?_)) | rfl | fail))
  clear hr
  obtain ⟨f, i, s, left, counts, steps⟩ := z
  have hv := hz.v
  have ha := hz.a
  have hi := hz.i
  have hc := hz.c
  have hl := hz.l
  have ht := hz.t
  obtain ⟨k0, k1⟩ := hz.k i hi
  obtain ⟨f', rfl, hlt, hend, hnx⟩ := run_step hz w him
  dsimp only at hv ha hi hc hl ht k0 k1 ⊢
  rw [rd_nat] at k0 k1
  clear hz
  have hmem := mem_gt (c := .block) hi
  have hkk := hkd _ hmem
  have hok := (hf _ hmem).1
  have hcd := (hf _ hmem).2
  have hx := w.n _ hmem
  have hi3 := him _ hmem
  repeat' (first | (((with_reducible refine g_id ?_); (conv => arg 3; whnf)); first | (with_reducible refine g_cond lay_ok 400 ?_ ?_ ?_) | (refine g_call lay_ok 400 ?_ ?_ ?_ (r_one13 ?_ ?_ ?_ ?_ ?_ ?_ ?_ ?_) rfl)) | ((with_reducible refine o_id ?_); (conv => arg 1; whnf); first | (with_reducible exact o_nil) | (with_reducible refine o_cons ?_ ?_)) | (intro h; ((try simp only [Int.toNat_natCast] at h); repeat (first | replace h := of_decide_eq_true h | replace h := of_decide_eq_false h | replace h := not_t h | replace h := not_f h | fail)); (try (first | (exfalso; omega) | fail))) | rfl | omega | fail)
  ((with_reducible refine g_id ?_); (conv => arg 3; whnf))
  refine g_mid lay_ok 1 400 (Z := Unit) (fun _ => True) (fun _ => ⟨[(4, .ptr 6 0), (8, .ptr 7 0), (11, .int .i64 (g.arrs.length : Int)), (14, .ptr 10 0), (17, .sl ⟨12, []⟩), (18, .int .i64 (i : Int)), (19, .ptr 13 0)], [(0, .list .tmp .input g.inp), (1, .list .tmp .array g.arrs), (2, .list .tmp .block g.blks), (3, .list .tmp .ints g.pts), (4, .list .tmp .head g.hds), (5, .list .tmp .int ins), (6, .cells [.sl ⟨0, []⟩, .int .i64 g.vars, .int .i64 g.keep, .sl ⟨1, []⟩, .int .i64 g.shared, .sl ⟨2, []⟩, .sl ⟨3, []⟩, .sl ⟨4, []⟩]), (7, .cells [.val (.slice none 0 0), .val (.slice none 0 0), .val (.slice none 0 0), .val (.slice none 0 0), .int .i64 0]), (8, .list .own .int ((execL (gt (c := .block) g.blks i).ops s).1)), (9, .list .own .bool (List.replicate 4 (dflt .bool))), (10, .cells [.sl ⟨0, []⟩, .int .i64 g.vars, .int .i64 g.keep, .sl ⟨1, []⟩, .int .i64 g.shared, .sl ⟨2, []⟩, .sl ⟨3, []⟩, .sl ⟨4, []⟩, .sl ⟨8, []⟩, .sl ⟨11, []⟩, .sl ⟨9, []⟩, .int .i64 (steps + ((gt (c := .block) g.blks i).ops.length : Int)), .int .i64 (left - 1 - ((gt (c := .block) g.blks i).ops.length : Int))]), (11, .list .own .ints ((execL (gt (c := .block) g.blks i).ops s).2)), (12, .list .own .int (counts.set i (gt (c := .int) counts i + 1))), (13, .cells [.sl ⟨2, [(i, 0)]⟩, .int .i64 (gt (c := .block) g.blks i).cond, .sl ⟨2, [(i, 2)]⟩])], 14⟩) rfl ?_ (fun y hy => ?_)
  · refine g_loop lay_ok 400 (Z := Nat) (fun y => y ≤ (gt (c := .block) g.blks i).ops.length) (fun y => ⟨[(4, .ptr 6 0), (8, .ptr 7 0), (11, .int .i64 (g.arrs.length : Int)), (14, .ptr 10 0), (17, .sl ⟨12, []⟩), (18, .int .i64 (i : Int)), (19, .ptr 13 0), (20, .int .i64 (y : Int))], [(0, .list .tmp .input g.inp), (1, .list .tmp .array g.arrs), (2, .list .tmp .block g.blks), (3, .list .tmp .ints g.pts), (4, .list .tmp .head g.hds), (5, .list .tmp .int ins), (6, .cells [.sl ⟨0, []⟩, .int .i64 g.vars, .int .i64 g.keep, .sl ⟨1, []⟩, .int .i64 g.shared, .sl ⟨2, []⟩, .sl ⟨3, []⟩, .sl ⟨4, []⟩]), (7, .cells [.val (.slice none 0 0), .val (.slice none 0 0), .val (.slice none 0 0), .val (.slice none 0 0), .int .i64 0]), (8, .list .own .int ((execL ((gt (c := .block) g.blks i).ops.take y) s).1)), (9, .list .own .bool (List.replicate 4 (dflt .bool))), (10, .cells [.sl ⟨0, []⟩, .int .i64 g.vars, .int .i64 g.keep, .sl ⟨1, []⟩, .int .i64 g.shared, .sl ⟨2, []⟩, .sl ⟨3, []⟩, .sl ⟨4, []⟩, .sl ⟨8, []⟩, .sl ⟨11, []⟩, .sl ⟨9, []⟩, .int .i64 (steps + (y : Int)), .int .i64 (left - 1 - (y : Int))]), (11, .list .own .ints ((execL ((gt (c := .block) g.blks i).ops.take y) s).2)), (12, .list .own .int (counts.set i (gt (c := .int) counts i + 1))), (13, .cells [.sl ⟨2, [(i, 0)]⟩, .int .i64 (gt (c := .block) g.blks i).cond, .sl ⟨2, [(i, 2)]⟩])], 14⟩) (fun y => (gt (c := .block) g.blks i).ops.length - y) ?_ ⟨0, Nat.zero_le _, ?_⟩ (fun y hy0 => ?_)
    · repeat' (first | ((with_reducible refine o_id ?_); (conv => arg 1; whnf); first | (with_reducible exact o_nil) | (with_reducible refine o_cons ?_ ?_)) | omega | (simp only [Int.toNat_natCast]; omega) | fail)
    · ((with_reducible refine s_id ?_); (conv => arg 1; whnf); (with_reducible refine s_some ?_); repeat' (first | ((with_reducible refine o_id ?_); (conv => arg 1; whnf); first | (with_reducible exact o_nil) | (with_reducible refine o_cons ?_ ?_)) | rfl | omega | (rw [List.take_zero, ex0])))
    by_cases hy : y < (gt (c := .block) g.blks i).ops.length
    · have hom := mem_gt (c := .op) hy
      have hvy : (execL ((gt (c := .block) g.blks i).ops.take y) s).1.length = g.vars.toNat := by rw [execL_len]; exact hv
      have hay : ArOk g (execL ((gt (c := .block) g.blks i).ops.take y) s).2 := execL_arr ha fun o ho q => by have := hi3 o (List.mem_of_mem_take ho) q; omega
      have q1 := hkk _ hom
      have q2 : OpOK (execL ((gt (c := .block) g.blks i).ops.take y) s).1.length (gt (c := .op) (gt (c := .block) g.blks i).ops y) := by rw [hvy]; exact hok _ hom
      have q3 : (gt (c := .op) (gt (c := .block) g.blks i).ops y).kind = 4 ∨ (gt (c := .op) (gt (c := .block) g.blks i).ops y).kind = 5 → 0 ≤ (gt (c := .op) (gt (c := .block) g.blks i).ops y).imm ∧ (gt (c := .op) (gt (c := .block) g.blks i).ops y).imm < ((execL ((gt (c := .block) g.blks i).ops.take y) s).2.length : Int) ∧ 0 < ((gt (c := .ints) (execL ((gt (c := .block) g.blks i).ops.take y) s).2 (gt (c := .op) (gt (c := .block) g.blks i).ops y).imm.toNat : List Int).length : Int) ∧ ((gt (c := .ints) (execL ((gt (c := .block) g.blks i).ops.take y) s).2 (gt (c := .op) (gt (c := .block) g.blks i).ops y).imm.toNat : List Int).length : Int) ≤ 1048576 := by
        intro q
        have r1 := hi3 _ hom q
        have r2 : (gt (c := .op) (gt (c := .block) g.blks i).ops y).imm.toNat < g.arrs.length := by omega
        have r3 := hay.2 _ r2
        have r4 := har _ (mem_gt (c := .array) r2)
        rw [r3, hay.1]
        omega
      have q4 := hay.1
      clear hend hnx hkk hok hi3 hf har him hkd
      repeat' (first | (((with_reducible refine g_id ?_); (conv => arg 3; whnf)); first | (with_reducible refine g_cond lay_ok 400 ?_ ?_ ?_) | (with_reducible refine g_fin ?_ ?_) | (refine g_call lay_ok 400 ?_ ?_ ?_ (r_one13 ?_ ?_ ?_ ?_ ?_ ?_ ?_ ?_) rfl) | (refine g_call lay_ok 400 ?_ ?_ ?_ (r_doS ?_ ?_ ?_ ?_ ?_ ?_ ?_ ?_ ?_ ?_ ?_ ?_ ?_ ?_) rfl) | fail) | ((with_reducible refine o_id ?_); (conv => arg 1; whnf); first | (with_reducible exact o_nil) | (with_reducible refine o_cons ?_ ?_)) | (intro h; ((try simp only [Int.toNat_natCast] at h); repeat (first | replace h := of_decide_eq_true h | replace h := of_decide_eq_false h | replace h := not_t h | replace h := not_f h | fail)); (try (first | contradiction | (exfalso; omega) | fail))) | rfl | omega | assumption | (simp only [Int.toNat_natCast]; omega) | fail)
      all_goals (have hs := execL_step hy (s := s) (by assumption); refine q_round ⟨y + 1, by omega, by omega, ?_⟩; ((with_reducible refine s_id ?_); (conv => arg 1; whnf); (with_reducible refine s_some ?_); repeat' (first | ((with_reducible refine o_id ?_); (conv => arg 1; whnf); first | (with_reducible exact o_nil) | (with_reducible refine o_cons ?_ ?_)) | rfl | omega | (rw [hs]) | fail)))
    · have e : y = (gt (c := .block) g.blks i).ops.length := by omega
      subst e
      rw [List.take_length]
      repeat' (first | (((with_reducible refine g_id ?_); (conv => arg 3; whnf)); first | (with_reducible refine g_cond lay_ok 400 ?_ ?_ ?_) | (with_reducible refine g_fin ?_ ?_) | fail) | (with_reducible refine q_leave lay_ok 400 ?_) | (with_reducible exact o_nil) | ((with_reducible refine o_id ?_); (conv => arg 1; whnf); first | (with_reducible exact o_nil) | (with_reducible refine o_cons ?_ ?_)) | (intro h; ((try simp only [Int.toNat_natCast] at h); repeat (first | replace h := of_decide_eq_true h | replace h := of_decide_eq_false h | fail)); (try (first | (exfalso; omega) | fail))) | omega | fail)
      all_goals (refine q_round ⟨(), trivial, ?_⟩; ((with_reducible refine s_id ?_); (conv => arg 1; whnf); (with_reducible refine s_some ?_); repeat' (first | ((with_reducible refine o_id ?_); (conv => arg 1; whnf); first | (with_reducible exact o_nil) | (with_reducible refine o_cons ?_ ?_)) | rfl | fail)))
  by_cases h0 : (gt (c := .block) g.blks i).next.length = 0
  · have eo := hend h0
    subst eo
    have hve : (execL (gt (c := .block) g.blks i).ops s).1.length = g.vars.toNat := by rw [execL_len]; exact hv
    have hae := (execL_arr ha (l := (gt (c := .block) g.blks i).ops) fun o ho q => by have := hi3 o ho q; omega).1
    repeat' (first | (((with_reducible refine g_id ?_); (conv => arg 3; whnf)); first | (with_reducible refine g_cond lay_ok 400 ?_ ?_ ?_) | (with_reducible refine g_fin ?_ ?_) | (refine g_flow 46 lay_ok mixed_ok 400 33554432 [0, 1, 3, 7, 0, 16, 63, 0, 128, 384, 896, 0, 3968, 0, 8192, 24576, 57344, 0, 253952, 0, 0, 1048576, 3145728, 7340032, 16777215, 33554431, 67108863] (.q 0 (.q 1 (.q 2 (.q 3 (.q 4 (.q 5 (.q 6 (.q 7 (.q 8 (.q 9 (.q 10 (.q 11 (.q 12 (.q 13 (.q 14 (.q 15 (.q 16 (.q 17 (.q 18 (.q 19 (.q 20 (.q 21 (.q 22 (.q 23 (.q 24 (.e 25 [] (.q 26 .fin) .stop)))))))))))))))))))))))))) (by kernel_rfl) ?_ ?_) | fail) | (((with_reducible refine w_id ?_); (conv => arg 4; whnf)); first | (with_reducible refine w_fin ?_ ?_) | (with_reducible refine w_tt ?_) | (with_reducible refine w_eff lay_ok 400 ?_ rfl rfl ?_ ?_)) | (with_reducible refine q_flow ?_ ?_) | ((with_reducible refine h_id ?_); (conv => arg 1; whnf); (with_reducible refine s_some ?_)) | (with_reducible refine q_ret lay_ok 400 ?_) | (with_reducible exact o_nil) | ((with_reducible refine o_id ?_); (conv => arg 1; whnf); first | (with_reducible exact o_nil) | (with_reducible refine o_cons ?_ ?_)) | (intro h; ((try simp only [Int.toNat_natCast] at h); repeat (first | replace h := of_decide_eq_true h | replace h := of_decide_eq_false h | fail)); (try (first | (exfalso; omega) | fail))) | omega | (show _ ≤ (((execL (gt (c := .block) g.blks i).ops s).2.length : Nat) : Int); omega) | (show _ ≤ (((execL (gt (c := .block) g.blks i).ops s).1.length : Nat) : Int); omega) | fail)
    all_goals (((with_reducible refine e_id ?_); (conv => whnf)); refine ⟨(), trivial, ?_⟩; ((with_reducible refine s_id ?_); (conv => arg 1; whnf); (with_reducible refine s_some ?_); repeat' (first | ((with_reducible refine o_id ?_); (conv => arg 1; whnf); first | (with_reducible exact o_nil) | (with_reducible refine o_cons ?_ ?_)) | rfl | (show _ = (execL (gt (c := .block) g.blks i).ops s).2.length - g.arrs.length; omega) | fail)))
  have hn := hnx h0
  have hb0' : 0 < (gt (c := .block) g.blks i).next.length := by omega
  have hve : (execL (gt (c := .block) g.blks i).ops s).1.length = g.vars.toNat := by rw [execL_len]; exact hv
  have hp0 := hx.2 _ (mem_gt (c := .int) hb0')
  clear hend hnx hkd hkk hok hi3 har him hf
  by_cases h1 : (gt (c := .block) g.blks i).next.length = 1
  · have hnb := nextB_1 (vs := (execL (gt (c := .block) g.blks i).ops s).1) h1
    (repeat' (first | (((with_reducible refine g_id ?_); (conv => arg 3; whnf)); first | (with_reducible refine g_cond lay_ok 400 ?_ ?_ ?_) | (with_reducible refine g_fin ?_ ?_) | (refine g_flow 47 lay_ok mixed_ok 400 0 [0, 1, 3, 7, 15, 31, 63, 127, 255, 31, 543, 2047, 4095, 8191, 16383, 32767] (.q 0 (.q 1 (.q 2 (.q 3 (.q 4 (.q 5 (.q 6 (.q 7 (.q 8 (.q 9 (.q 10 (.q 11 (.q 12 (.q 13 (.q 14 (.q 15 .fin)))))))))))))))) (by kernel_rfl) ?_ ?_)) | (((with_reducible refine w_id ?_); (conv => arg 4; whnf)); first | (with_reducible refine w_fin ?_ ?_) | (with_reducible refine w_split lay_ok 400 ?_ ?_ ?_) | fail) | (with_reducible exact o_nil) | ((with_reducible refine o_id ?_); (conv => arg 1; whnf); first | (with_reducible exact o_nil) | (with_reducible refine o_cons ?_ ?_)) | (intro h; ((try simp only [Int.toNat_natCast] at h); repeat (first | replace h := of_decide_eq_true h | replace h := of_decide_eq_false h | fail)); (try (first | (exfalso; omega) | fail))) | omega | fail)); all_goals (refine q_round ⟨_, hn, Nat.lt_succ_self _, ?_⟩; ((with_reducible refine s_id ?_); (conv => arg 1; whnf); (with_reducible refine s_some ?_); repeat' (first | ((with_reducible refine o_id ?_); (conv => arg 1; whnf); first | (with_reducible exact o_nil) | (with_reducible refine o_cons ?_ ?_)) | rfl | (rw [hnb]; exact Int.toNat_of_nonneg hp0.1) | fail)))
  · have hp1 := hx.2 _ (mem_gt (c := .int) (by omega : 1 < (gt (c := .block) g.blks i).next.length))
    obtain ⟨c0, c1⟩ := hcd (by omega)
    by_cases h2 : (gt (c := .int) (execL (gt (c := .block) g.blks i).ops s).1 (gt (c := .block) g.blks i).cond.toNat : Int) = 0
    · have hnb := nextB_f h1 h2
      (repeat' (first | (((with_reducible refine g_id ?_); (conv => arg 3; whnf)); first | (with_reducible refine g_cond lay_ok 400 ?_ ?_ ?_) | (with_reducible refine g_fin ?_ ?_) | (refine g_flow 47 lay_ok mixed_ok 400 0 [0, 1, 3, 7, 15, 31, 63, 127, 255, 31, 543, 2047, 4095, 8191, 16383, 32767] (.q 0 (.q 1 (.q 2 (.q 3 (.q 4 (.q 5 (.q 6 (.q 7 (.q 8 (.q 9 (.q 10 (.q 11 (.q 12 (.q 13 (.q 14 (.q 15 .fin)))))))))))))))) (by kernel_rfl) ?_ ?_)) | (((with_reducible refine w_id ?_); (conv => arg 4; whnf)); first | (with_reducible refine w_fin ?_ ?_) | (with_reducible refine w_split lay_ok 400 ?_ ?_ ?_) | fail) | (with_reducible exact o_nil) | ((with_reducible refine o_id ?_); (conv => arg 1; whnf); first | (with_reducible exact o_nil) | (with_reducible refine o_cons ?_ ?_)) | (intro h; ((try simp only [Int.toNat_natCast] at h); repeat (first | replace h := of_decide_eq_true h | replace h := of_decide_eq_false h | replace h := not_t h | replace h := not_f h | fail)); (try (first | contradiction | (exfalso; omega) | fail))) | omega | fail)); all_goals (refine q_round ⟨_, hn, Nat.lt_succ_self _, ?_⟩; ((with_reducible refine s_id ?_); (conv => arg 1; whnf); (with_reducible refine s_some ?_); repeat' (first | ((with_reducible refine o_id ?_); (conv => arg 1; whnf); first | (with_reducible exact o_nil) | (with_reducible refine o_cons ?_ ?_)) | rfl | (rw [hnb]; exact Int.toNat_of_nonneg hp1.1) | fail)))
    · have hnb := nextB_t h2
      (repeat' (first | (((with_reducible refine g_id ?_); (conv => arg 3; whnf)); first | (with_reducible refine g_cond lay_ok 400 ?_ ?_ ?_) | (with_reducible refine g_fin ?_ ?_) | (refine g_flow 47 lay_ok mixed_ok 400 0 [0, 1, 3, 7, 15, 31, 63, 127, 255, 31, 543, 2047, 4095, 8191, 16383, 32767] (.q 0 (.q 1 (.q 2 (.q 3 (.q 4 (.q 5 (.q 6 (.q 7 (.q 8 (.q 9 (.q 10 (.q 11 (.q 12 (.q 13 (.q 14 (.q 15 .fin)))))))))))))))) (by kernel_rfl) ?_ ?_)) | (((with_reducible refine w_id ?_); (conv => arg 4; whnf)); first | (with_reducible refine w_fin ?_ ?_) | (with_reducible refine w_split lay_ok 400 ?_ ?_ ?_) | fail) | (with_reducible exact o_nil) | ((with_reducible refine o_id ?_); (conv => arg 1; whnf); first | (with_reducible exact o_nil) | (with_reducible refine o_cons ?_ ?_)) | (intro h; ((try simp only [Int.toNat_natCast] at h); repeat (first | replace h := of_decide_eq_true h | replace h := of_decide_eq_false h | replace h := not_t h | replace h := not_f h | fail)); (try (first | contradiction | (exfalso; omega) | fail))) | omega | fail)); all_goals (refine q_round ⟨_, hn, Nat.lt_succ_self _, ?_⟩; ((with_reducible refine s_id ?_); (conv => arg 1; whnf); (with_reducible refine s_some ?_); repeat' (first | ((with_reducible refine o_id ?_); (conv => arg 1; whnf); first | (with_reducible exact o_nil) | (with_reducible refine o_cons ?_ ?_)) | rfl | (rw [hnb]; exact Int.toNat_of_nonneg hp0.1) | fail)))
end Go.Proofs.Ytonjbhdfimcedaa
