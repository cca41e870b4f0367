/- Walks over lists, fourth part: numbers, structs, pointers, lengths. No condition on any program. -/
import Derived.Test.YtjhjhjmdbhackaaZ3
namespace Go.Proofs.Ytjhjhjmdbhackaa
set_option linter.unusedSimpArgs false
set_option linter.unusedSectionVars false
set_option linter.unusedVariables false
open Go.RowKit

section
variable {x : Cx} {s : St}
theorem g_int {P : Program} {op : BinOp} {t : TypeId} {x y : Operand} {k k' : IntKind} {a b : Int} {w : World} : (eqGuard op t x y (.int k a) (.int k' b)).run P w = .ok () w := by
  unfold eqGuard
  split <;> rfl
theorem e_bin {op : BinOp} {a b : Operand} {t t' : TypeId} {p q v : SV} (ha : s.get a = some p) (hb : s.get b = some q)
    (h : ∀ V y z w, (do eqGuard op t y z (den V p) (den V q); binOp op t (den V p) (den V q) : Sem Value).run x.P w = .ok (den V v) w) : EvTo x s (.binOp op t a b t') v :=
  ⟨fun _ V ac w he _ _ _ _ _ _ => by simp only [execOp, he.get ha, he.get hb]; exact fin_v (h V a b w)⟩
section
variable {a b : Operand} {t t' : TypeId} {k k' : IntKind} {m n c : Int}
theorem e_add (ha : s.get a = some (.int k m)) (hb : s.get b = some (.int k n)) (hw : k.wrap (m + n) = c) : EvTo x s (.binOp .add t a b t') (.int k c) :=
  e_bin ha hb fun V y z w => by subst hw; simp only [den, Sem.run_bind, g_int, Result.andThen_ok, binOp, ne_eq, not_true_eq_false, if_false]; rfl
theorem e_sub (ha : s.get a = some (.int k m)) (hb : s.get b = some (.int k n)) (hw : k.wrap (m - n) = c) : EvTo x s (.binOp .sub t a b t') (.int k c) :=
  e_bin ha hb fun V y z w => by subst hw; simp only [den, Sem.run_bind, g_int, Result.andThen_ok, binOp, ne_eq, not_true_eq_false, if_false]; rfl
theorem e_mul (ha : s.get a = some (.int k m)) (hb : s.get b = some (.int k n)) (hw : k.wrap (m * n) = c) : EvTo x s (.binOp .mul t a b t') (.int k c) :=
  e_bin ha hb fun V y z w => by subst hw; simp only [den, Sem.run_bind, g_int, Result.andThen_ok, binOp, ne_eq, not_true_eq_false, if_false]; rfl
theorem e_quo (ha : s.get a = some (.int k m)) (hb : s.get b = some (.int k n)) (h0 : n ≠ 0) (hw : k.wrap (m.tdiv n) = c) : EvTo x s (.binOp .quo t a b t') (.int k c) :=
  e_bin ha hb fun V y z w => by subst hw; simp only [den, Sem.run_bind, g_int, Result.andThen_ok, binOp, ne_eq, not_true_eq_false, if_false, Op.intDiv, h0]; rfl
theorem e_rem (ha : s.get a = some (.int k m)) (hb : s.get b = some (.int k n)) (h0 : n ≠ 0) (hw : m.tmod n = c) : EvTo x s (.binOp .rem t a b t') (.int k c) :=
  e_bin ha hb fun V y z w => by subst hw; simp only [den, Sem.run_bind, g_int, Result.andThen_ok, binOp, ne_eq, not_true_eq_false, if_false, Op.intDiv, h0]; rfl
theorem e_and (ha : s.get a = some (.int k m)) (hb : s.get b = some (.int k n)) (hw : bitI .and k m n = c) : EvTo x s (.binOp .and t a b t') (.int k c) :=
  e_bin ha hb fun V y z w => by subst hw; simp only [den, Sem.run_bind, g_int, Result.andThen_ok, binOp, ne_eq, not_true_eq_false, if_false]; rfl
theorem e_or (ha : s.get a = some (.int k m)) (hb : s.get b = some (.int k n)) (hw : bitI .or k m n = c) : EvTo x s (.binOp .or t a b t') (.int k c) :=
  e_bin ha hb fun V y z w => by subst hw; simp only [den, Sem.run_bind, g_int, Result.andThen_ok, binOp, ne_eq, not_true_eq_false, if_false]; rfl
theorem e_xor (ha : s.get a = some (.int k m)) (hb : s.get b = some (.int k n)) (hw : bitI .xor k m n = c) : EvTo x s (.binOp .xor t a b t') (.int k c) :=
  e_bin ha hb fun V y z w => by subst hw; simp only [den, Sem.run_bind, g_int, Result.andThen_ok, binOp, ne_eq, not_true_eq_false, if_false]; rfl
theorem e_andNot (ha : s.get a = some (.int k m)) (hb : s.get b = some (.int k n)) (hw : bitI .andNot k m n = c) : EvTo x s (.binOp .andNot t a b t') (.int k c) :=
  e_bin ha hb fun V y z w => by subst hw; simp only [den, Sem.run_bind, g_int, Result.andThen_ok, binOp, ne_eq, not_true_eq_false, if_false]; rfl
theorem e_eql (ha : s.get a = some (.int k m)) (hb : s.get b = some (.int k n)) : EvTo x s (.binOp .eql t a b t') (.bool (m == n)) :=
  e_bin ha hb fun V y z w => by simp only [den, Sem.run_bind, g_int, Result.andThen_ok, binOp, ne_eq, not_true_eq_false, if_false]; rfl
theorem e_neq (ha : s.get a = some (.int k m)) (hb : s.get b = some (.int k n)) : EvTo x s (.binOp .neq t a b t') (.bool (m != n)) :=
  e_bin ha hb fun V y z w => by simp only [den, Sem.run_bind, g_int, Result.andThen_ok, binOp, ne_eq, not_true_eq_false, if_false]; rfl
theorem e_lss (ha : s.get a = some (.int k m)) (hb : s.get b = some (.int k n)) : EvTo x s (.binOp .lss t a b t') (.bool (decide (m < n))) :=
  e_bin ha hb fun V y z w => by simp only [den, Sem.run_bind, g_int, Result.andThen_ok, binOp, ne_eq, not_true_eq_false, if_false]; rfl
theorem e_leq (ha : s.get a = some (.int k m)) (hb : s.get b = some (.int k n)) : EvTo x s (.binOp .leq t a b t') (.bool (decide (m ≤ n))) :=
  e_bin ha hb fun V y z w => by simp only [den, Sem.run_bind, g_int, Result.andThen_ok, binOp, ne_eq, not_true_eq_false, if_false]; rfl
theorem e_gtr (ha : s.get a = some (.int k m)) (hb : s.get b = some (.int k n)) : EvTo x s (.binOp .gtr t a b t') (.bool (decide (n < m))) :=
  e_bin ha hb fun V y z w => by simp only [den, Sem.run_bind, g_int, Result.andThen_ok, binOp, ne_eq, not_true_eq_false, if_false]; rfl
theorem e_geq (ha : s.get a = some (.int k m)) (hb : s.get b = some (.int k n)) : EvTo x s (.binOp .geq t a b t') (.bool (decide (n ≤ m))) :=
  e_bin ha hb fun V y z w => by simp only [den, Sem.run_bind, g_int, Result.andThen_ok, binOp, ne_eq, not_true_eq_false, if_false]; rfl
theorem e_shl (ha : s.get a = some (.int k m)) (hb : s.get b = some (.int k' n)) (h0 : 0 ≤ n) (hw : k.wrap (m * 2 ^ (min n.toNat k.bits)) = c) : EvTo x s (.binOp .shl t a b t') (.int k c) :=
  e_bin ha hb fun V y z w => by
    subst hw
    simp only [den, Sem.run_bind, g_int, Result.andThen_ok]
    show (Op.shift .shl k m k' n).run x.P w = _
    unfold Op.shift
    rw [if_neg (by omega)]
    rfl
theorem e_shr (ha : s.get a = some (.int k m)) (hb : s.get b = some (.int k' n)) (h0 : 0 ≤ n) (hw : m.fdiv (2 ^ (min n.toNat k.bits)) = c) : EvTo x s (.binOp .shr t a b t') (.int k c) :=
  e_bin ha hb fun V y z w => by
    subst hw
    simp only [den, Sem.run_bind, g_int, Result.andThen_ok]
    show (Op.shift .shr k m k' n).run x.P w = _
    unfold Op.shift
    rw [if_neg (by omega)]
    rfl
def asBl : SV → Option Bool
  | .tf b => some b
  | .bool b => some b
  | _ => none
theorem asBl_den {p : SV} {u : Bool} (h : asBl p = some u) (V : Vl) : den V p = .bool u := by cases p <;> simp only [asBl, Option.some.injEq, reduceCtorEq] at h <;> (subst h; rfl)
theorem r_eqB' {P : Program} {t : TypeId} (hu : P.underlying t = some .bool) (d : Nat) (a b : Bool) (w : World) : (Op.equalIn (d + 1) t (.bool a) (.bool b)).run P w = .ok (a == b) w := by
  simp only [Op.equalIn, Sem.run_bind, r_underlying hu, Result.andThen_ok]
  rfl
theorem r_eqB {P : Program} {t : TypeId} (hu : P.underlying t = some .bool) (a b : Bool) (w : World) : (Op.equal t (.bool a) (.bool b)).run P w = .ok (a == b) w := r_eqB' hu 9999 a b w
theorem e_beq {p q : SV} {u v : Bool} (ha : s.get a = some p) (hb : s.get b = some q) (hu : asBl p = some u) (hv : asBl q = some v) (ht : x.P.underlying t = some .bool) : EvTo x s (.binOp .eql t a b t') (.bool (u == v)) :=
  e_bin ha hb fun V y z w => by
    simp only [asBl_den hu, asBl_den hv]
    show (do let z ← Op.equal t (.bool u) (.bool v); pure (.bool z) : Sem Value).run x.P w = _
    simp only [Sem.run_bind, r_eqB ht, Result.andThen_ok]
    rfl
theorem e_bne {p q : SV} {u v : Bool} (ha : s.get a = some p) (hb : s.get b = some q) (hu : asBl p = some u) (hv : asBl q = some v) (ht : x.P.underlying t = some .bool) : EvTo x s (.binOp .neq t a b t') (.bool (u != v)) :=
  e_bin ha hb fun V y z w => by
    simp only [asBl_den hu, asBl_den hv]
    show (do let z ← Op.equal t (.bool u) (.bool v); pure (.bool !z) : Sem Value).run x.P w = _
    simp only [Sem.run_bind, r_eqB ht, Result.andThen_ok]
    rfl
theorem den_ok0 {v : SV} (h : okV 0 v = true) (V : Vl) : den V v = den V0 v := den_agree (fun _ hk => absurd hk (Nat.not_lt_zero _)) v h
/-- Structs (or other values) that are compared, by the run's own equation. -/
theorem e_cmp {op : BinOp} {p q : SV} {u v : Value} {r : Bool} (ha : s.get a = some p) (hb : s.get b = some q) (h1 : okV 0 p = true) (h2 : okV 0 q = true) (hu : den V0 p = u) (hv : den V0 q = v)
    (h : ∀ y z w, (do eqGuard op t y z u v; binOp op t u v : Sem Value).run x.P w = .ok (.bool r) w) : EvTo x s (.binOp op t a b t') (.bool r) :=
  e_bin ha hb fun V y z w => by rw [den_ok0 h1, den_ok0 h2, hu, hv]; exact h y z w
theorem e_not {v : Bool} (ha : s.get a = some (.bool v)) : EvTo x s (.unOp .not t a) (.bool (!v)) := ⟨fun _ V ac w he _ _ _ _ _ _ => by simp only [execOp, he.get ha]; exact fin_v rfl⟩
theorem e_not_t (ha : s.get a = some (.tf true)) : EvTo x s (.unOp .not t a) (.tf false) := ⟨fun _ V ac w he _ _ _ _ _ _ => by simp only [execOp, he.get ha]; exact fin_v rfl⟩
theorem e_not_f (ha : s.get a = some (.tf false)) : EvTo x s (.unOp .not t a) (.tf true) := ⟨fun _ V ac w he _ _ _ _ _ _ => by simp only [execOp, he.get ha]; exact fin_v rfl⟩
theorem e_neg (ha : s.get a = some (.int k n)) (hw : k.wrap (0 - n) = c) : EvTo x s (.unOp .neg t a) (.int k c) := ⟨fun _ V ac w he _ _ _ _ _ _ => by subst hw; simp only [execOp, he.get ha]; exact fin_v rfl⟩
theorem e_com (ha : s.get a = some (.int k n)) (hw : bitI .xor k (if k.signed then -1 else k.max) n = c) : EvTo x s (.unOp .xor t a) (.int k c) := ⟨fun _ V ac w he _ _ _ _ _ _ => by subst hw; simp only [execOp, he.get ha]; exact fin_v rfl⟩
theorem e_conv {ts td : TI} (hs : find x.L t = some ts) (hd : find x.L t' = some td) (hk : td.td = .int k) (ha : s.get a = some (.int k' n)) (hw : k.wrap n = c) : EvTo x s (.convert t t' a) (.int k c) :=
  ⟨fun hL V ac w he _ _ _ _ _ _ => by
    subst hw
    obtain ⟨ds, h4, _⟩ := (hL.at hs).desc
    obtain ⟨dd, h5, h6⟩ := (hL.at hd).desc
    rw [hk] at h6
    have := td_int h6
    subst this
    simp only [execOp, he.get ha]
    refine fin_v ?_
    simp only [convert, Sem.run_bind, r_underlying h4, r_underlying h5, Result.andThen_ok, den]
    cases ds <;> rfl⟩
end

/-! ### Literals of structs -/
def placeS : List FI → Nat → Option (Nat × Nat)
  | [], _ => none
  | f :: _, 0 => some (f.off, f.size)
  | _ :: l, i + 1 => placeS l i
def fillS (place : Nat → Option (Nat × Nat)) (cells : List SV) : List (Nat × SV) → Option (List SV)
  | [] => some cells
  | (i, v) :: rest => match place i with
    | none => none
    | some (off, size) => match cellsO v with
      | none => none
      | some cv => match Nat.beq cv.length size with
        | true => match splice cells off cv with
          | some c => fillS place c rest
          | none => none
        | false => none
def partsS (s : St) : List (Nat × Operand) → Option (List (Nat × SV))
  | [] => some []
  | (i, x) :: l => match s.get x, partsS s l with
    | some v, some r => some ((i, v) :: r)
    | _, _ => none
theorem foldl_set (off : Nat) : ∀ (vs : List Value) (i : Nat) (cs : Array Value), off + i + vs.length ≤ cs.size →
    (vs.zipIdx i).foldl (fun cs (x : Value × Nat) => cs.setIfInBounds (off + x.2) x.1) cs = (cs.toList.take (off + i) ++ vs ++ cs.toList.drop (off + i + vs.length)).toArray
  | [], i, cs, _ => by simp
  | v :: vs, i, cs, h => by
    simp only [List.zipIdx_cons, List.foldl_cons]
    rw [foldl_set off vs (i + 1) _ (by simp at h ⊢; omega)]
    have e := list_seg_step cs.toList (off + i) v vs (by simp at h ⊢; omega)
    simpa [Array.toList_setIfInBounds, Nat.add_assoc] using e
theorem denL_splice (V : Vl) {c vs c' : List SV} {o : Nat} (h : splice c o vs = some c') : denL V c' = (denL V c).take o ++ denL V vs ++ (denL V c).drop (o + (denL V vs).length) ∧ o + vs.length ≤ c.length := by
  obtain ⟨h1, h2⟩ := splice_eq _ _ _ h
  subst h2
  exact ⟨by rw [denL_append, denL_append, denL_take, denL_drop, denL_length], h1⟩
theorem fill_sound {V : Vl} (hV : V.One) {place : Nat → Option (Nat × Nat)} : ∀ {parts : List (Nat × SV)} {cells out : List SV}, fillS place cells parts = some out →
    Instr.fill place (denL V cells).toArray (parts.map fun x => (x.1, den V x.2)) = some (denL V out).toArray
  | [], cells, out, h => by simp only [fillS, Option.some.injEq] at h; subst h; rfl
  | (i, v) :: rest, cells, out, h => by
    unfold fillS at h
    cases hp : place i with
    | none => simp [hp] at h
    | some q =>
      obtain ⟨off, size⟩ := q
      simp only [hp] at h
      cases hc : cellsO v with
      | none => simp [hc] at h
      | some cv =>
        cases hs : Nat.beq cv.length size with
        | false => simp [hc, hs] at h
        | true =>
          simp only [hc, hs] at h
          cases hq : splice cells off cv with
          | none => simp [hq] at h
          | some c =>
            simp only [hq] at h
            obtain ⟨h1, h2⟩ := denL_splice V hq
            have ih := fill_sound hV h
            have hz : cv.length = size := Nat.eq_of_beq_eq_true hs
            simp only [List.map_cons, Instr.fill, hp, cellsO_den hV hc]
            have e1 : (denL V cv).toArray.size = size := by simp [denL_length, hz]
            rw [if_neg (by simp [denL_length] at h2 e1 ⊢; omega)]
            have e2 := foldl_set off (denL V cv) 0 (denL V cells).toArray (by simp [denL_length]; omega)
            simp only [Nat.add_zero] at e2
            rw [h1] at ih
            rw [← ih]
            congr 1
            rw [← e2]
            simp
theorem parts_eval {V : Vl} {a : Act} (he : EnvR V s a) : ∀ {l : List (Nat × Operand)} {q}, partsS s l = some q → l.map (fun x => (x.1, a.eval x.2)) = q.map fun x => (x.1, den V x.2)
  | [], q, h => by simp only [partsS, Option.some.injEq] at h; subst h; rfl
  | (i, x) :: l, q, h => by
    unfold partsS at h
    cases hx : s.get x with
    | none => simp [hx] at h
    | some v =>
      cases hl : partsS s l with
      | none => simp [hx, hl] at h
      | some u =>
        simp only [hx, hl, Option.some.injEq] at h
        subst h
        simp only [List.map_cons, he.get hx, parts_eval he hl]
theorem places_of {P : Program} : ∀ {l : List Field} {fs : List FI}, fisOf P l = some fs → l.mapM (fun f => (P.info? f.type).map fun i => (f.offset, i.size)) = some (fs.map fun f => (f.off, f.size))
  | [], fs, h => by simp only [fisOf, Option.some.injEq] at h; subst h; rfl
  | f :: l, fs, h => by
    unfold fisOf at h
    cases hf : fiOf P f with
    | none => simp [hf] at h
    | some x =>
      cases hl : fisOf P l with
      | none => simp [hf, hl] at h
      | some y =>
        simp only [hf, hl, Option.some.injEq] at h
        subst h
        have ih := places_of hl
        unfold fiOf at hf
        cases hi : P.info? f.type with
        | none => simp [hi] at hf
        | some i =>
          cases hu : P.underlying f.type with
          | none => simp [hi, hu] at hf
          | some d =>
            simp only [hi, hu] at hf
            split at hf
            · cases hf
            · cases hf
              simp [List.mapM_cons, hi, ih]
theorem placeS_eq : ∀ (fs : List FI) (i : Nat), placeS fs i = (fs.map fun f => (f.off, f.size))[i]?
  | [], i => by simp [placeS]
  | f :: l, 0 => by simp [placeS]
  | f :: l, i + 1 => by simp [placeS, placeS_eq l i]
theorem e_build {t : TypeId} {ps : Array (Nat × Operand)} {zs : List SV} {by_ : Nat} {q : List (Nat × SV)} {fs : List FI} {l : List SV} (ht : find x.L t = some ⟨zs, .struct fs, by_⟩) (hq : partsS s ps.toList = some q) (hf : fillS (placeS fs) zs q = some l) : EvTo x s (.build t ps) (.agg l) :=
  ⟨fun hL V a w he hE _ _ _ _ _ => by
    have hti := hL.at ht
    obtain ⟨i, h1, h2, h3, _⟩ := hti.info
    obtain ⟨d, h4, h5⟩ := hti.desc
    have pe : ((ps.map fun (x : Nat × Operand) => (x.1, a.eval x.2)).toList) = q.map fun x => (x.1, den V x.2) := by simp [parts_eval he hq]
    simp only [execOp]
    refine fin_v (run_build w t _ _ ?_)
    obtain ⟨fields, rfl, h6⟩ := td_struct h5
    have hz : i.zero = some (.agg (TI.zero ⟨zs, .struct fs, by_⟩).toArray) := by rw [h3]; simp [TI.zval, TD.agg]
    simp only [Program.built, h1, h4, hz, places_of h6, Value.cells]
    have := fill_sound hE.one hf
    rw [hti.zs] at this
    rw [show (fun (i : Nat) => (fs.map fun f => (f.off, f.size)).toArray[i]?) = placeS fs from funext fun i => by simp [placeS_eq]]
    rw [← this]
    exact congrArg _ pe⟩
theorem e_buildA {t : TypeId} {ps : Array (Nat × Operand)} {zs : List SV} {by_ : Nat} {q : List (Nat × SV)} {n es : Nat} {ea : Bool} {l : List SV} (ht : find x.L t = some ⟨zs, .array n es ea, by_⟩) (hq : partsS s ps.toList = some q) (hf : fillS (fun i => some (i * es, es)) zs q = some l) : EvTo x s (.build t ps) (.agg l) :=
  ⟨fun hL V a w he hE _ _ _ _ _ => by
    have hti := hL.at ht
    obtain ⟨i, h1, h2, h3, _⟩ := hti.info
    obtain ⟨d, h4, h5⟩ := hti.desc
    have pe : ((ps.map fun (x : Nat × Operand) => (x.1, a.eval x.2)).toList) = q.map fun x => (x.1, den V x.2) := by simp [parts_eval he hq]
    simp only [execOp]
    refine fin_v (run_build w t _ _ ?_)
    obtain ⟨e, ie, de, rfl, e2, e3, e4, e5⟩ := td_array h5
    have hz : i.zero = some (.agg (TI.zero ⟨zs, .array n es ea, by_⟩).toArray) := by rw [h3]; simp [TI.zval, TD.agg]
    simp only [Program.built, h1, h4, hz, e2, Value.cells, e3]
    have := fill_sound hE.one hf
    rw [hti.zs] at this
    rw [← this]
    exact congrArg _ pe⟩

/-! ### Fields, pointers -/
section
variable {a b : Operand} {t : TypeId} {zs : List SV} {by_ : Nat} {fs : List FI} {f : FI} {l q : List SV} {v : SV} {i k o es n cc e : Nat} {ea : Bool} {z : Int} {ik : IntKind}
theorem e_field1 (ht : find x.L t = some ⟨zs, .struct fs, by_⟩) (ha : s.get a = some (.agg l)) (hf : nthC fs i = some f) (hg : f.agg = false) (hv : nthC l f.off = some v) : EvTo x s (.field t a i) v :=
  ⟨fun hL V ac w he _ _ _ _ _ _ => by
    obtain ⟨d, h4, h5⟩ := (hL.at ht).desc
    obtain ⟨fields, rfl, h6⟩ := td_struct h5
    rw [nthC_eq] at hf hv
    obtain ⟨g, j, de, e1, e2, e3, e4, e5, e6, _⟩ := field_of h6 hf
    have e1' : fields[i]? = some g := by simpa using e1
    simp only [execOp, he.get ha, den]
    refine fin_v ?_
    simp only [Instr.field, Sem.run_bind, r_underlying h4, Result.andThen_ok, e1', asAgg, Sem.run_pure, part, r_isAgg e3, ← e6, hg, Bool.false_eq_true, if_false, ← e4]
    have := denL_get V hv
    simp [this]⟩
theorem e_fieldA (ht : find x.L t = some ⟨zs, .struct fs, by_⟩) (ha : s.get a = some (.agg l)) (hf : nthC fs i = some f) (hg : f.agg = true) (hv : takeC (dropC l f.off) f.size = some q) : EvTo x s (.field t a i) (.agg q) :=
  ⟨fun hL V ac w he _ _ _ _ _ _ => by
    obtain ⟨d, h4, h5⟩ := (hL.at ht).desc
    obtain ⟨fields, rfl, h6⟩ := td_struct h5
    rw [nthC_eq] at hf
    obtain ⟨g, j, de, e1, e2, e3, e4, e5, e6, _⟩ := field_of h6 hf
    have e1' : fields[i]? = some g := by simpa using e1
    obtain ⟨q1, q2⟩ := takeC_eq _ _ hv
    rw [dropC_eq] at q1 q2
    simp only [execOp, he.get ha, den]
    refine fin_v ?_
    simp only [Instr.field, Sem.run_bind, r_underlying h4, Result.andThen_ok, e1', asAgg, Sem.run_pure, part, r_isAgg e3, ← e6, hg, if_true, r_sizeOf e2, ← e4, ← e5]
    show Result.ok _ _ = Result.ok _ _
    congr 1
    rw [q2]
    simp only [denL_take, denL_drop]
    congr 1
    apply Array.ext'
    simp⟩
theorem e_faddrV {p : SV} {bb : Vl → Nat} {bo : Vl → Nat} (ht : find x.L t = some ⟨zs, .struct fs, by_⟩) (ha : s.get a = some p) (hf : nthC fs i = some f) (hp : ∀ V w, Ents x.D0 V s w → den V p = .pointer (some ⟨bb V, bo V, none⟩)) (hv : ∀ V w, Ents x.D0 V s w → den V v = .pointer (some ⟨bb V, bo V + f.off, none⟩)) : EvTo x s (.fieldAddr t a i) v :=
  ⟨fun hL V ac w he hE _ _ _ _ _ => by
    obtain ⟨d, h4, h5⟩ := (hL.at ht).desc
    obtain ⟨fields, rfl, h6⟩ := td_struct h5
    rw [nthC_eq] at hf
    obtain ⟨g, j, de, e1, e2, e3, e4, e5, e6, e7⟩ := field_of h6 hf
    have e1' : fields[i]? = some g := by simpa using e1
    simp only [execOp, he.get ha, hp V w hE, hv V w hE]
    refine fin_v ?_
    simp only [Instr.fieldAt, Sem.run_bind, r_underlying h4, Result.andThen_ok, e1', Instr.sureAddr, Sem.run_pure, fieldPlace, r_sizeOf e2, if_neg e7, Addr.add_mid, e4]⟩
theorem e_faddr {j : Nat} (ht : find x.L t = some ⟨zs, .struct fs, by_⟩) (ha : s.get a = some (.ptr k o)) (hf : nthC fs i = some f) (hj : o + f.off = j) : EvTo x s (.fieldAddr t a i) (.ptr k j) :=
  e_faddrV (bb := fun V => V.r k) (bo := fun _ => o) ht ha hf (fun _ _ _ => rfl) (fun _ _ _ => by subst hj; rfl)
theorem e_faddrEl {j r : Nat} (ht : find x.L t = some ⟨zs, .struct fs, by_⟩) (ha : s.get a = some (.el k es r o)) (hf : nthC fs i = some f) (hj : o + f.off = j) : EvTo x s (.fieldAddr t a i) (.el k es r j) :=
  e_faddrV (bb := fun V => V.r k) (bo := fun _ => r * es + o) ht ha hf (fun _ _ _ => rfl) (fun _ _ _ => by subst hj; simp only [den, Nat.add_assoc])
theorem e_faddrRel {j r : Nat} {fz : Bool} {rows : List (List DV)} {row : List DV} (ht : find x.L t = some ⟨zs, .struct fs, by_⟩) (ha : s.get a = some (.rel k es r o)) (hk : find s.ro k = some ⟨fz, rows⟩) (hr : rows[r]? = some row) (hf : nthC fs i = some f) (hj : o + f.off = j) : EvTo x s (.fieldAddr t a i) (.rel k es r j) :=
  ⟨fun hL V ac w he hE _ _ _ _ _ => by
    obtain ⟨b, o', c, e, _, _⟩ := row_ro hE hk hr
    obtain ⟨d, h4, h5⟩ := (hL.at ht).desc
    obtain ⟨fields, rfl, h6⟩ := td_struct h5
    rw [nthC_eq] at hf
    obtain ⟨g, jj, de, e1, e2, e3, e4, e5, e6, e7⟩ := field_of h6 hf
    have e1' : fields[i]? = some g := by simpa using e1
    subst hj
    simp only [execOp, he.get ha, den, e, elAt]
    refine fin_v ?_
    simp only [Instr.fieldAt, Sem.run_bind, r_underlying h4, Result.andThen_ok, e1', Instr.sureAddr, Sem.run_pure, fieldPlace, r_sizeOf e2, if_neg e7, Addr.add_mid, e4, Nat.add_assoc]⟩
end
end
end Go.Proofs.Ytjhjhjmdbhackaa
