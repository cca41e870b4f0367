/- Walks over lists, fifth part: elements, lengths, the next operation of a row. No condition on any program. -/
import Derived.Test.YtjhjhjmdbhackaaZ4
namespace Go.Proofs.Ytjhjhjmdbhackaa
set_option linter.unusedSimpArgs false
set_option linter.unusedSectionVars false
set_option linter.unusedVariables false
open Go.RowKit

theorem toNat_add1 (k : Nat) : ((k : Int) + 1).toNat = k + 1 := by omega
theorem toNat_addn (k n : Nat) : ((k : Int) + (n : Int)).toNat = k + n := by omega
section
variable {x : Cx} {s : St}
section
variable {a b : Operand} {t : TypeId} {zs : List SV} {by_ : Nat} {l q : List SV} {v : SV} {i j k o es n m cc e ty : Nat} {ea fz : Bool} {z : Int} {ik : IntKind} {rows xs : List (List DV)} {row : List DV}
theorem e_ixV {p : SV} {u : SV} (hb : s.get b = some (.int ik z)) (ha : s.get a = some p) (h : LayOk x.P x.L → ∀ V w, Ents x.D0 V s w → (Instr.indexAt t (den V p) (.int ik z)).run x.P w = .ok (den V u) w) : EvTo x s (.indexAddr t a b) u :=
  ⟨fun hL V ac w he hE _ _ _ _ _ => by simp only [execOp, he.get ha, he.get hb, den]; exact fin_v (h hL V w hE)⟩
theorem e_ixArr {j : Nat} (hb : s.get b = some (.int ik z)) (ha : s.get a = some (.ptr k o)) (ht : find x.L t = some ⟨zs, .array n es ea, by_⟩) (h0 : 0 ≤ z) (h1 : z < (n : Int)) (hj : o + z.toNat * es = j) : EvTo x s (.indexAddr t a b) (.ptr k j) :=
  e_ixV hb ha fun hL V w hE => by
    obtain ⟨d, h4, h5⟩ := (hL.at ht).desc
    obtain ⟨e, i, de, rfl, e2, e3, e4, e5⟩ := td_array h5
    subst hj
    simp only [den, Instr.indexAt, asIntOf, Instr.sureAddr, Sem.run_bind, Sem.run_pure, r_underlying h4, Result.andThen_ok, if_pos (And.intro h0 h1), r_sizeOf e2, Addr.add_mid, e3]
theorem r_ixSl {P : Program} {bb bo c : Nat} {w : World} (h4 : P.underlying t = some (.slice e)) {i : TypeInfo} (e2 : P.info? e = some i) (e3 : i.size = es) (h0 : 0 ≤ z) (h1 : z < (n : Int)) : (Instr.indexAt t (.slice (some ⟨bb, bo, none⟩) n c) (.int ik z)).run P w = .ok (.pointer (some ⟨bb, bo + z.toNat * es, none⟩)) w := by
  simp only [Instr.indexAt, asIntOf, Instr.sureAddr, Sem.run_bind, Sem.run_pure, r_underlying h4, Result.andThen_ok, if_pos (And.intro h0 h1), r_sizeOf e2, Addr.add_mid, e3]
theorem e_ixSl {j : Nat} (hb : s.get b = some (.int ik z)) (ha : s.get a = some (.slc k o n cc)) (ht : find x.L t = some ⟨zs, .slice e es ea, by_⟩) (h0 : 0 ≤ z) (h1 : z < (n : Int)) (hj : o + z.toNat * es = j) : EvTo x s (.indexAddr t a b) (.ptr k j) :=
  e_ixV hb ha fun hL V w hE => by
    obtain ⟨d, h4, h5⟩ := (hL.at ht).desc
    obtain ⟨i, de, rfl, e2, e3, e4, e5⟩ := td_slice h5
    subst hj
    exact r_ixSl h4 e2 e3 h0 h1
/-- Into a list that nobody changes: the row is known. -/
theorem e_ixRo (hb : s.get b = some (.int ik z)) (ha : s.get a = some (.ro k)) (ht : find x.L t = some ⟨zs, .slice e es ea, by_⟩) (hk : find s.ro k = some ⟨fz, rows⟩) (h0 : 0 ≤ z) (hj : z.toNat = j) (hr : rows[j]? = some row) : EvTo x s (.indexAddr t a b) (.rel k es j 0) :=
  e_ixV hb ha fun hL V w hE => by
    obtain ⟨d, h4, h5⟩ := (hL.at ht).desc
    obtain ⟨i, de, rfl, e2, e3, e4, e5⟩ := td_slice h5
    obtain ⟨bb, bo, c, e1, _, _⟩ := row_ro hE hk hr
    have hlt : j < rows.length := (List.getElem?_eq_some_iff.1 hr).1
    simp only [den, e1, elAt]
    rw [r_ixSl h4 e2 e3 h0 (by omega), hj, Nat.add_zero]
theorem nil_of {D0 : Nat → Prop} {V : Vl} {w : World} (h : Ents D0 V s w) (hk : find s.mem k = some (.rows es ty xs)) (h0 : 0 < xs.length) : V.nil k = false := by
  have hm := h.mem k _ hk
  unfold MBat at hm
  cases hn : V.nil k with
  | false => rfl
  | true => rw [hn] at hm; simp only at hm; subst hm; simp at h0
theorem cap_of {D0 : Nat → Prop} {V : Vl} {w : World} (h : Ents D0 V s w) (hk : find s.mem k = some (.rows es ty xs)) (hn : V.nil k = false) : xs.length ≤ V.cap k ∧ V.cap k ≤ maxLen := by
  have hm := h.mem k _ hk
  unfold MBat at hm
  rw [hn] at hm
  obtain ⟨_, cs, _, _, h2, _⟩ := hm
  exact h2
theorem e_ixOwn (hb : s.get b = some (.int ik z)) (ha : s.get a = some (.osl k n)) (ht : find x.L t = some ⟨zs, .slice e es ea, by_⟩) (hk : find s.mem k = some (.rows es ty xs)) (hn : n ≤ xs.length) (h0 : 0 ≤ z) (h1 : z < (n : Int)) (hj : z.toNat = j) : EvTo x s (.indexAddr t a b) (.el k es j 0) :=
  e_ixV hb ha fun hL V w hE => by
    obtain ⟨d, h4, h5⟩ := (hL.at ht).desc
    obtain ⟨i, de, rfl, e2, e3, e4, e5⟩ := td_slice h5
    have hnil := nil_of hE hk (by omega)
    simp only [den, hnil]
    rw [r_ixSl h4 e2 e3 h0 h1, hj, Nat.zero_add, Nat.add_zero]
theorem e_ixOtl (hb : s.get b = some (.int ik z)) (ha : s.get a = some (.otl k es i n)) (ht : find x.L t = some ⟨zs, .slice e es ea, by_⟩) (hk : find s.mem k = some (.rows es ty xs)) (hn : i + n ≤ xs.length) (h0 : 0 ≤ z) (h1 : z < (n : Int)) (hj : i + z.toNat = j) : EvTo x s (.indexAddr t a b) (.el k es j 0) :=
  e_ixV hb ha fun hL V w hE => by
    obtain ⟨d, h4, h5⟩ := (hL.at ht).desc
    obtain ⟨i', de, rfl, e2, e3, e4, e5⟩ := td_slice h5
    have hnil := nil_of hE hk (by omega)
    have hc := cap_of hE hk hnil
    simp only [den, hnil]
    rw [if_neg (by omega), r_ixSl h4 e2 e3 h0 h1, ← hj, Nat.add_zero, Nat.add_mul]
theorem e_index1 (hb : s.get b = some (.int ik z)) (ht : find x.L t = some ⟨zs, .array n es false, by_⟩) (ha : s.get a = some (.agg l)) (h0 : 0 ≤ z) (h1 : z < (n : Int)) (hv : nthC l (z.toNat * es) = some v) : EvTo x s (.index t a b) v :=
  ⟨fun hL V ac w he hE _ _ _ _ _ => by
    obtain ⟨d, h4, h5⟩ := (hL.at ht).desc
    obtain ⟨e, i, de, rfl, e2, e3, e4, e5⟩ := td_array h5
    rw [nthC_eq] at hv
    have := denL_get V hv
    simp only [execOp, he.get ha, he.get hb, den]
    refine fin_v ?_
    simp only [Instr.index, asIntOf, Sem.run_bind, Sem.run_pure, r_underlying h4, Result.andThen_ok, if_pos (And.intro h0 h1), r_sizeOf e2, e3, part, r_isAgg e4, e5, Bool.false_eq_true, if_false]
    simp [this]⟩
theorem e_extract (ha : s.get a = some (.tup l)) (hv : nthC l i = some v) : EvTo x s (.extract a i) v :=
  ⟨fun hL V ac w he _ _ _ _ _ _ => by
    rw [nthC_eq] at hv
    have := denL_get V hv
    simp only [execOp, he.get ha, den]
    refine fin_v ?_
    simp [Instr.extract, this]⟩
theorem e_nil_ptr (ha : s.get a = some (.ptr k o)) : EvTo x s (.nilCheck a) (.ptr k o) := ⟨fun hL V ac w he _ _ _ _ _ _ => by simp only [execOp, he.get ha, den]; rfl⟩
theorem e_nil_el {r f : Nat} (ha : s.get a = some (.el k es r f)) : EvTo x s (.nilCheck a) (.el k es r f) := ⟨fun hL V ac w he _ _ _ _ _ _ => by simp only [execOp, he.get ha, den]; rfl⟩
theorem e_nil_clo {g : FuncId} (ha : s.get a = some (.clo g l)) : EvTo x s (.nilCheck a) (.clo g l) := ⟨fun hL V ac w he _ _ _ _ _ _ => by simp only [execOp, he.get ha, den]; rfl⟩
theorem e_makeFunc {g : FuncId} {first caps : Array Operand} (hf : first.toList = []) (hc : argsS s caps.toList = some l) : EvTo x s (.makeFunc (.func g) first caps) (.clo g l) :=
  ⟨fun hL V ac w he _ _ _ _ _ _ => by
    simp only [execOp]
    refine fin_v ?_
    have e1 : first = #[] := by apply Array.ext'; simpa using hf
    subst e1
    simp only [Instr.makeFunc, args_arr he hc, den, Array.map_empty]
    rfl⟩
end
section
variable {args : Array Operand} {ts : Array TypeId} {t : TypeId} {zs : List SV} {by_ k o n c e es i m ty : Nat} {ea fz : Bool} {rows xs : List (List DV)}
theorem e_builtin {b : Builtin} {q : List SV} {v : SV} (hq : argsS s args.toList = some q) (h : LayOk x.P x.L → ∀ V w, Ents x.D0 V s w → ∀ ty cs, (builtin b ts ty cs (denL V q).toArray).run x.P w = .ok (.value (den V v)) w) : EvTo x s (.call ⟨.builtin b, args, ts⟩) v :=
  ⟨fun hL V ac w he hE _ _ _ _ _ => by
    simp only [execOp, resolve, Sem.run_bind, Sem.run_pure, Result.andThen_ok, invoke, args_arr he hq]
    exact h hL V w hE _ _⟩
theorem r_len {P : Program} {w : World} {a : Option Addr} {n c : Nat} (h0 : ts[0]? = some t) (h4 : P.underlying t = some (.slice e)) (ty : TypeId) (cs : Array Bool) : (builtin .len ts ty cs #[.slice a n c]).run P w = .ok (.value (.int .i64 n)) w := by
  simp only [builtin, Builtin.len_, h0, Sem.run_bind, List.getElem?_toArray, List.getElem?_cons_zero, r_underlying h4, Result.andThen_ok]
  rfl
theorem e_len (hq : argsS s args.toList = some [.slc k o n c]) (h0 : ts[0]? = some t) (ht : find x.L t = some ⟨zs, .slice e es ea, by_⟩) : EvTo x s (.call ⟨.builtin .len, args, ts⟩) (.int .i64 n) :=
  e_builtin hq fun hL V w hE ty cs => by
    obtain ⟨d, h4, h5⟩ := (hL.at ht).desc
    obtain ⟨i, de, rfl, _⟩ := td_slice h5
    exact r_len h0 h4 ty cs
theorem e_lenV {a : Option Addr} (hq : argsS s args.toList = some [.val (.slice a n c)]) (h0 : ts[0]? = some t) (ht : find x.L t = some ⟨zs, .slice e es ea, by_⟩) : EvTo x s (.call ⟨.builtin .len, args, ts⟩) (.int .i64 n) :=
  e_builtin hq fun hL V w hE ty cs => by
    obtain ⟨d, h4, h5⟩ := (hL.at ht).desc
    obtain ⟨i, de, rfl, _⟩ := td_slice h5
    exact r_len h0 h4 ty cs
theorem e_lenRo (hq : argsS s args.toList = some [.ro k]) (h0 : ts[0]? = some t) (ht : find x.L t = some ⟨zs, .slice e es ea, by_⟩) (hk : find s.ro k = some ⟨fz, rows⟩) (hn : rows.length = n) : EvTo x s (.call ⟨.builtin .len, args, ts⟩) (.int .i64 n) :=
  e_builtin hq fun hL V w hE ty cs => by
    obtain ⟨d, h4, h5⟩ := (hL.at ht).desc
    obtain ⟨i, de, rfl, _⟩ := td_slice h5
    simp only [denL, den]
    rcases hE.ro k _ hk with ⟨e1, a, c, e2⟩ | ⟨es, b, o, c, cs', t', fz', e2, _⟩
    · simp only at e1; subst e1; subst hn
      rw [e2]; exact r_len h0 h4 ty cs
    · subst hn
      rw [e2]; exact r_len h0 h4 ty cs
theorem e_lenOwn (hq : argsS s args.toList = some [.osl k n]) (h0 : ts[0]? = some t) (ht : find x.L t = some ⟨zs, .slice e es ea, by_⟩) (hk : find s.mem k = some (.rows m ty xs)) (hn : n ≤ xs.length) : EvTo x s (.call ⟨.builtin .len, args, ts⟩) (.int .i64 n) :=
  e_builtin hq fun hL V w hE tt cs => by
    obtain ⟨d, h4, h5⟩ := (hL.at ht).desc
    obtain ⟨i, de, rfl, _⟩ := td_slice h5
    have hm := hE.mem k _ hk
    unfold MBat at hm
    simp only [denL, den]
    cases hnil : V.nil k with
    | false => exact r_len h0 h4 tt cs
    | true =>
      rw [hnil] at hm
      simp only at hm
      subst hm
      simp at hn
      subst hn
      exact r_len h0 h4 tt cs
theorem e_lenOtl (hq : argsS s args.toList = some [.otl k m i n]) (h0 : ts[0]? = some t) (ht : find x.L t = some ⟨zs, .slice e es ea, by_⟩) (hk : find s.mem k = some (.rows m ty xs)) (hn : i + n ≤ xs.length) : EvTo x s (.call ⟨.builtin .len, args, ts⟩) (.int .i64 n) :=
  e_builtin hq fun hL V w hE tt cs => by
    obtain ⟨d, h4, h5⟩ := (hL.at ht).desc
    obtain ⟨i', de, rfl, _⟩ := td_slice h5
    have hm := hE.mem k _ hk
    unfold MBat at hm
    simp only [denL, den]
    cases hnil : V.nil k with
    | false => exact r_len h0 h4 tt cs
    | true =>
      rw [hnil] at hm
      simp only at hm
      subst hm
      simp at hn
      obtain ⟨rfl, rfl⟩ := hn
      exact r_len h0 h4 tt cs
def minS : Int → IntKind → List SV → Option Int
  | a, _, [] => some a
  | a, k, .int k' b :: l => match decide (k = k') with
    | true => minS (imin a b) k l
    | false => none
  | _, _, _ => none
def maxS : Int → IntKind → List SV → Option Int
  | a, _, [] => some a
  | a, k, .int k' b :: l => match decide (k = k') with
    | true => maxS (imax a b) k l
    | false => none
  | _, _, _ => none
theorem minS_sound {P : Program} {k : IntKind} : ∀ {l : List SV} {a c : Int}, minS a k l = some c → ∀ (V : Vl) w, ((denL V l).foldlM Builtin.min2 (.int k a)).run P w = .ok (.int k c) w
  | [], a, c, h, V, w => by simp only [minS, Option.some.injEq] at h; subst h; rfl
  | x :: l, a, c, h, V, w => by
    cases x <;> simp only [minS] at h <;> first | (cases h; done) | skip
    case int k' b =>
      by_cases hk : k = k'
      · simp only [hk, decide_true] at h
        subst hk
        simp only [denL, den, List.foldlM_cons, Sem.run_bind]
        exact minS_sound h V w
      · simp [hk] at h
theorem maxS_sound {P : Program} {k : IntKind} : ∀ {l : List SV} {a c : Int}, maxS a k l = some c → ∀ (V : Vl) w, ((denL V l).foldlM Builtin.max2 (.int k a)).run P w = .ok (.int k c) w
  | [], a, c, h, V, w => by simp only [maxS, Option.some.injEq] at h; subst h; rfl
  | x :: l, a, c, h, V, w => by
    cases x <;> simp only [maxS] at h <;> first | (cases h; done) | skip
    case int k' b =>
      by_cases hk : k = k'
      · simp only [hk, decide_true] at h
        subst hk
        simp only [denL, den, List.foldlM_cons, Sem.run_bind]
        exact maxS_sound h V w
      · simp [hk] at h
theorem e_min {ik : IntKind} {m z : Int} {l : List SV} (hq : argsS s args.toList = some (.int ik m :: l)) (hm : minS m ik l = some z) : EvTo x s (.call ⟨.builtin .min, args, ts⟩) (.int ik z) :=
  e_builtin hq fun hL V w hE ty cs => by
    have := minS_sound (P := x.P) hm V w
    simp only [builtin, Builtin.min_, denL, den, Sem.run_bind, this, Result.andThen_ok, Sem.run_pure]
theorem e_max {ik : IntKind} {m z : Int} {l : List SV} (hq : argsS s args.toList = some (.int ik m :: l)) (hm : maxS m ik l = some z) : EvTo x s (.call ⟨.builtin .max, args, ts⟩) (.int ik z) :=
  e_builtin hq fun hL V w hE ty cs => by
    have := maxS_sound (P := x.P) hm V w
    simp only [builtin, Builtin.max_, denL, den, Sem.run_bind, this, Result.andThen_ok, Sem.run_pure]
end

/-! ### Parts of the walk's own lists -/
section
variable {a h : Operand} {t : TypeId} {zs : List SV} {by_ k n e es i ty : Nat} {ea : Bool} {xs : List (List DV)} {z : Int} {ik : IntKind}
theorem r_slice {P : Program} {w : World} {i : TypeInfo} {A : Option Addr} {n c : Nat} {lo hi : Option Value} {l h : Nat} (h4 : P.underlying t = some (.slice e)) (e2 : P.info? e = some i) (hb : (Instr.sliceBounds true n c lo hi none).run P w = .ok (l, h, c) w) :
    (Instr.sliceAt t (.slice A n c) lo hi none).run P w = .ok (.slice (if c = l then A else A.map (·.add (l * i.size))) (h - l) (c - l)) w := by
  simp only [Instr.sliceAt, Instr.slice, Sem.run_bind, r_underlying h4, Result.andThen_ok, hb, r_sizeOf e2, Sem.run_pure]
theorem r_boundsHi {P : Program} {w : World} {n c : Nat} (h0 : 0 ≤ z) (h1 : z ≤ (c : Int)) : (Instr.sliceBounds true n c none (some (.int ik z)) none).run P w = .ok (0, z.toNat, c) w := by
  simp only [Instr.sliceBounds, Instr.sliceBound, asIntOf, Sem.run_bind, Sem.run_pure, Result.andThen_ok, if_pos (And.intro h0 h1)]
theorem r_boundsLo {P : Program} {w : World} {n c : Nat} (h0 : 0 ≤ z) (h1 : z ≤ (n : Int)) : (Instr.sliceBounds true n c (some (.int ik z)) none none).run P w = .ok (z.toNat, n, c) w := by
  simp only [Instr.sliceBounds, Instr.sliceBound, asIntOf, Sem.run_bind, Sem.run_pure, Result.andThen_ok, if_pos (And.intro h0 h1)]
/-- x[:h] of a list of the walk's own. -/
theorem e_sliceHi {j : Nat} (ha : s.get a = some (.osl k n)) (hh : s.get h = some (.int ik z)) (ht : find x.L t = some ⟨zs, .slice e es ea, by_⟩) (hk : find s.mem k = some (.rows es ty xs)) (hn : n ≤ xs.length) (h0 : 0 ≤ z) (h1 : z ≤ (n : Int)) (hj : z.toNat = j) : EvTo x s (.slice t a none (some h) none) (.osl k j) :=
  ⟨fun hL V ac w he hE _ _ _ _ _ => by
    obtain ⟨d, h4, h5⟩ := (hL.at ht).desc
    obtain ⟨i, de, rfl, e2, e3, e4, e5⟩ := td_slice h5
    have hm := hE.mem k _ hk
    unfold MBat at hm
    subst hj
    simp only [execOp, he.get ha, Option.map_some, Option.map_none, he.get hh, den]
    refine fin_v ?_
    cases hnil : V.nil k with
    | false =>
      rw [hnil] at hm
      obtain ⟨_, cs, _, _, h2, _⟩ := hm
      simp only
      rw [r_slice h4 e2 (r_boundsHi h0 (by omega))]
      have : (if V.cap k = 0 then (some ⟨V.r k, 0, none⟩ : Option Addr) else Option.map (fun (a : Addr) => a.add (0 * i.size)) (some (⟨V.r k, 0, none⟩ : Addr))) = some ⟨V.r k, 0, none⟩ := by
        split
        · rfl
        · simp [Addr.add_mid]
      rw [this]; rfl
    | true =>
      rw [hnil] at hm
      simp only at hm
      subst hm
      simp at hn
      subst hn
      have : z = 0 := by omega
      subst this
      simp only
      rw [r_slice h4 e2 (r_boundsHi (by omega) (by omega))]
      rfl⟩
/-- x[l:] of a list of the walk's own. -/
theorem e_sliceLo {j m : Nat} (ha : s.get a = some (.osl k n)) (hh : s.get h = some (.int ik z)) (ht : find x.L t = some ⟨zs, .slice e es ea, by_⟩) (hk : find s.mem k = some (.rows es ty xs)) (hn : n ≤ xs.length) (h0 : 0 ≤ z) (h1 : z ≤ (n : Int)) (hj : z.toNat = j) (hm : n - j = m) : EvTo x s (.slice t a (some h) none none) (.otl k es j m) :=
  ⟨fun hL V ac w he hE _ _ _ _ _ => by
    obtain ⟨d, h4, h5⟩ := (hL.at ht).desc
    obtain ⟨i, de, rfl, e2, e3, e4, e5⟩ := td_slice h5
    have hmm := hE.mem k _ hk
    unfold MBat at hmm
    subst hj
    subst hm
    simp only [execOp, he.get ha, Option.map_some, Option.map_none, he.get hh, den]
    refine fin_v ?_
    cases hnil : V.nil k with
    | false =>
      simp only
      rw [r_slice h4 e2 (r_boundsLo h0 h1)]
      have : (if V.cap k = z.toNat then (some ⟨V.r k, 0, none⟩ : Option Addr) else Option.map (fun (a : Addr) => a.add (z.toNat * i.size)) (some (⟨V.r k, 0, none⟩ : Addr))) = some ⟨V.r k, if V.cap k = z.toNat then 0 else z.toNat * es, none⟩ := by
        split
        · rfl
        · simp [Addr.add_mid, e3]
      rw [this]
    | true =>
      rw [hnil] at hmm
      simp only at hmm
      subst hmm
      simp at hn
      subst hn
      have : z = 0 := by omega
      subst this
      simp only
      rw [r_slice h4 e2 (r_boundsLo (by omega) (by omega))]
      rfl⟩
end
end

/-! ### Is the next operation carried out? -/
def goes (ops : List Oper) (env : List (Nat × SV)) (g : Option (Nat × Bool)) : Option Bool :=
  match g with
  | none => some true
  | some (j, b) => match (nth ops j).bind (·.dst) with
    | none => none
    | some t => match find env t with
      | some (.tf c) => match c, b with
        | true, true => some true
        | false, false => some true
        | true, false => some false
        | false, true => some false
      | some .undef => some false
      | _ => none
theorem wanted_of {ops : List Oper} {o : Oper} {j t : Nat} {b : Bool} {tmps : Array Value} (hg : o.guard = some (j, b)) (hj : (nth ops j).bind (·.dst) = some t) :
    Region.wanted o (yielded ops.toArray tmps) = ((match tmps[t]? with | some (.bool c) => some c | _ => none) == some b) := by
  unfold Region.wanted
  rw [hg]
  have e : (ops.toArray[j]?).bind (·.dst) = some t := by rw [nth_eq]; exact hj
  show (yielded ops.toArray tmps j == some b) = _
  unfold yielded
  rw [e]
  rfl
theorem tmps_bool {a : Act} {t : Nat} {c : Bool} (h : a.tmps.getD t Go.undef = .bool c) : a.tmps[t]? = some (.bool c) := by
  rw [Array.getD_eq_getD_getElem?] at h
  cases ht : a.tmps[t]? with
  | none => simp [ht, Go.undef] at h
  | some v => simp [ht] at h; rw [h]
theorem tmps_undef {a : Act} {t : Nat} (h : a.tmps.getD t Go.undef = Go.undef) : (match a.tmps[t]? with | some (.bool c) => some c | _ => none) = none := by
  rw [Array.getD_eq_getD_getElem?] at h
  cases ht : a.tmps[t]? with
  | none => rfl
  | some v => simp [ht, Go.undef] at h; subst h; rfl
theorem goes_wanted {ops : List Oper} {o : Oper} {env : List (Nat × SV)} {y : Bool} {V : Vl} {a : Act} (h : goes ops env o.guard = some y) (he : ∀ t v, find env t = some v → a.tmps.getD t Go.undef = den V v) : Region.wanted o (yielded ops.toArray a.tmps) = y := by
  unfold goes at h
  cases hg : o.guard with
  | none => simp only [hg, Option.some.injEq] at h; subst h; unfold Region.wanted; rw [hg]
  | some q =>
    obtain ⟨j, b⟩ := q
    simp only [hg] at h
    cases hj : (nth ops j).bind (·.dst) with
    | none => simp [hj] at h
    | some t =>
      simp only [hj] at h
      rw [wanted_of hg hj]
      split at h
      · rename_i c hf
        rw [tmps_bool (he t _ hf)]
        cases c <;> cases b <;> (simp only [Option.some.injEq] at h; subst h; rfl)
      · rename_i hf
        rw [tmps_undef (he t _ hf)]
        simp only [Option.some.injEq] at h; subst h; rfl
      · cases h
/-- The operations 'l' of a region whose operations are 'ops', in a row, behind which K holds. -/
structure Sq (x : Cx) (ops l : List Oper) (s : St) (K : St → Prop) : Prop where
  run : LayOk x.P x.L → ∀ (Q : Exit → Act → World → Prop) V a w, (∀ s' V' a' w', K s' → Rep x V' s' a' w' → Q .normal a' w') → Rep x V s a w → wpList x.P ops.toArray Q l a w
section
variable {x : Cx} {ops l : List Oper} {env : List (Nat × SV)} {mem : List (Nat × MB)} {ro : List (Nat × RO)} {nb t : Nat} {K : St → Prop} {op : Op} {ty : TypeId} {pos : String} {after : Array Edge} {g : Option (Nat × Bool)} {v : SV}
theorem sq_step {o : Oper} {s : St} (K' : St → Prop) (hg : goes ops s.env o.guard = some true) (h : LayOk x.P x.L → ∀ (Q : Exit → Act → World → Prop) V a w, Rep x V s a w → o.wp x.P a w (fun a' w' => ∃ s' V', K' s' ∧ Rep x V' s' a' w') Q) (hk : ∀ s', K' s' → Sq x ops l s' K) : Sq x ops (o :: l) s K :=
  ⟨fun hL Q V a w hQ hr => by
    unfold wpList
    rw [if_pos (goes_wanted hg hr.env)]
    refine .inl (Oper.wp_mono (fun a' w' ⟨s', V', hs, hr'⟩ => (hk s' hs).run hL Q V' a' w' hQ hr') (h hL Q V a w hr))⟩
theorem q_nil {s : St} (h : K s) : Sq x ops [] s K := ⟨fun _ Q V a w hQ hr => hQ s V a w h hr⟩
theorem q_ev (hg : goes ops env g = some true) (he : EvTo x ⟨env, mem, ro, nb⟩ op v) (h1 : Nat.blt t x.n = true) (h2 : okV nb v = true) (hk : Sq x ops l ⟨(t, v) :: env, mem, ro, nb⟩ K) : Sq x ops (⟨some t, op, ty, pos, after, g⟩ :: l) ⟨env, mem, ro, nb⟩ K :=
  sq_step (fun s' => s' = ⟨(t, v) :: env, mem, ro, nb⟩) hg (fun hL Q V a w hr => by
    unfold Oper.wp
    rw [he.run hL V a w hr.env hr.ents]
    exact ⟨_, V, rfl, hr.put h1 h2⟩) (fun s' e => by subst e; exact hk)
theorem q_skip (hg : goes ops env g = some false) (h1 : Nat.blt t x.n = true) (hk : Sq x ops l ⟨(t, .undef) :: env, mem, ro, nb⟩ K) : Sq x ops (⟨some t, op, ty, pos, after, g⟩ :: l) ⟨env, mem, ro, nb⟩ K :=
  ⟨fun hL Q V a w hQ hr => by
    unfold wpList
    rw [if_neg (by rw [goes_wanted (o := ⟨some t, op, ty, pos, after, g⟩) hg hr.env]; decide)]
    exact hk.run hL Q V _ w hQ (hr.put (v := .undef) h1 rfl)⟩
theorem q_skip' (hg : goes ops env g = some false) (hk : Sq x ops l ⟨env, mem, ro, nb⟩ K) : Sq x ops (⟨none, op, ty, pos, after, g⟩ :: l) ⟨env, mem, ro, nb⟩ K :=
  ⟨fun hL Q V a w hQ hr => by
    unfold wpList
    rw [if_neg (by rw [goes_wanted (o := ⟨none, op, ty, pos, after, g⟩) hg hr.env]; decide)]
    exact hk.run hL Q V _ w hQ hr⟩
/-- What is known of a Bool is written down. -/
theorem Rep.know {V : Vl} {s : St} {a : Act} {w : World} (h : Rep x V s a w) {t : Nat} {u v : SV} (hf : find s.env t = some u) (he : ∀ V, den V v = den V u) (hk : okV s.nb v = true) : Rep x V ⟨(t, v) :: s.env, s.mem, s.ro, s.nb⟩ a w := by
  refine ⟨h.defers, h.size, fun y z hy => ?_, envOk_put h.envOk hk, h.ents.env, h.frame, h.own, h.pin, h.d0⟩
  simp only [find_cons] at hy
  split at hy
  · rename_i e; subst e; cases hy; rw [he]; exact h.env _ _ hf
  · exact h.env _ _ hy
theorem q_split {o : Oper} {j d : Nat} {b c : Bool} (hg : o.guard = some (j, b)) (hj : (nth ops j).bind (·.dst) = some d) (hf : find env d = some (.bool c))
    (h1 : c = true → Sq x ops (o :: l) ⟨(d, .tf true) :: env, mem, ro, nb⟩ K) (h2 : c = false → Sq x ops (o :: l) ⟨(d, .tf false) :: env, mem, ro, nb⟩ K) : Sq x ops (o :: l) ⟨env, mem, ro, nb⟩ K :=
  ⟨fun hL Q V a w hQ hr => by
    cases c with
    | true => exact (h1 rfl).run hL Q V a w hQ (hr.know (s := ⟨env, mem, ro, nb⟩) hf (fun _ => rfl) rfl)
    | false => exact (h2 rfl).run hL Q V a w hQ (hr.know (s := ⟨env, mem, ro, nb⟩) hf (fun _ => rfl) rfl)⟩
theorem q_app {r : List Oper} {o : Oper} {s : St} (h : Sq x ops (o :: (l.append r)) s K) : Sq x ops (List.append (o :: l) r) s K := h
theorem q_app0 {r : List Oper} {s : St} (h : Sq x ops r s K) : Sq x ops (List.append [] r) s K := h
end
end Go.Proofs.Ytjhjhjmdbhackaa
