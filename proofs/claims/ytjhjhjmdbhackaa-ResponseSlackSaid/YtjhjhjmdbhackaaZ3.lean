/- Walks over lists, third part: what an operation yields that makes no memory and enters no function. No condition on any program. -/
import Derived.Test.YtjhjhjmdbhackaaZ2
import Derived.Laws.Tables
import Derived.Laws.CopyRow
import Derived.Deep.MidRow
namespace Go.Proofs.Ytjhjhjmdbhackaa
set_option linter.unusedSimpArgs false
set_option linter.unusedSectionVars false
set_option linter.unusedVariables false
open Go.RowKit

/-! ### Cells -/
def dropC : List SV → Nat → List SV
  | l, 0 => l
  | [], _ + 1 => []
  | _ :: l, o + 1 => dropC l o
def takeC : List SV → Nat → Option (List SV)
  | _, 0 => some []
  | [], _ + 1 => none
  | x :: l, n + 1 => match takeC l n with
    | some r => some (x :: r)
    | none => none
def nthC {α : Type} : List α → Nat → Option α
  | [], _ => none
  | x :: _, 0 => some x
  | _ :: l, n + 1 => nthC l n
def splice : List SV → Nat → List SV → Option (List SV)
  | c, 0, [] => some c
  | [], 0, _ :: _ => none
  | _ :: c, 0, v :: vs => match splice c 0 vs with
    | some r => some (v :: r)
    | none => none
  | [], _ + 1, _ => none
  | x :: c, o + 1, vs => match splice c o vs with
    | some r => some (x :: r)
    | none => none
theorem dropC_eq : ∀ l o, dropC l o = l.drop o
  | l, 0 => by simp [dropC]
  | [], _ + 1 => by simp [dropC]
  | _ :: l, o + 1 => by simp [dropC, dropC_eq l o]
theorem takeC_eq : ∀ l n {r}, takeC l n = some r → n ≤ l.length ∧ r = l.take n
  | l, 0, r, h => by simp [takeC] at h; simp [h]
  | [], _ + 1, r, h => by simp [takeC] at h
  | x :: l, n + 1, r, h => by
    unfold takeC at h
    cases hh : takeC l n with
    | none => simp [hh] at h
    | some q => obtain ⟨h1, h2⟩ := takeC_eq l n hh; simp [hh] at h; subst h; simp [h1, h2]
theorem nthC_eq {α : Type} : ∀ (l : List α) n, nthC l n = l[n]?
  | [], _ => by simp [nthC]
  | x :: _, 0 => by simp [nthC]
  | _ :: l, n + 1 => by simp [nthC, nthC_eq l n]
theorem splice_eq : ∀ c o vs {r}, splice c o vs = some r → o + vs.length ≤ c.length ∧ r = c.take o ++ vs ++ c.drop (o + vs.length)
  | c, 0, [], r, h => by cases c <;> (simp [splice] at h; simp [h])
  | [], 0, _ :: _, r, h => by simp [splice] at h
  | x :: c, 0, v :: vs, r, h => by
    unfold splice at h
    cases hh : splice c 0 vs with
    | none => simp [hh] at h
    | some q =>
      obtain ⟨h1, h2⟩ := splice_eq c 0 vs hh
      simp [hh] at h; subst h; subst h2
      simp only [Nat.zero_add] at h1 ⊢
      refine ⟨by simpa using h1, by simp⟩
  | [], _ + 1, vs, r, h => by simp [splice] at h
  | x :: c, o + 1, vs, r, h => by
    unfold splice at h
    cases hh : splice c o vs with
    | none => simp [hh] at h
    | some q =>
      obtain ⟨h1, h2⟩ := splice_eq c o vs hh
      simp [hh] at h; subst h; subst h2
      refine ⟨by simp; omega, ?_⟩
      rw [show o + 1 + vs.length = (o + vs.length) + 1 by omega]
      simp
theorem one_cells {v : Value} (h : v.oneCell' = true) : v.cells = #[v] := by cases v <;> first | rfl | (simp [Value.oneCell'] at h)
/-- Does the value take one cell? -/
def oneC : SV → Bool
  | .agg _ => false
  | .tup _ => false
  | .undef => false
  | .val (.agg _) => false
  | .val (.tuple _) => false
  | _ => true
def oneL : List SV → Bool
  | [] => true
  | v :: l => match oneC v with
    | true => oneL l
    | false => false
theorem oneC_den {V : Vl} (hV : V.One) (v : SV) (h : oneC v = true) : (den V v).oneCell' = true := by
  cases v <;> first | rfl | (simp [oneC] at h; done) | skip
  case osl k n => simp only [den]; split <;> rfl
  case otl k es i n => simp only [den]; split <;> rfl
  case ro k => exact hV.1 k
  case rel k es i f => simp only [den]; unfold elAt; split <;> rfl
  case nst k i j => exact hV.2 k i j
  case val x => cases x <;> first | rfl | (simp [oneC] at h)
theorem oneL_den {V : Vl} (hV : V.One) : ∀ l, oneL l = true → ∀ v ∈ denL V l, v.oneCell' = true
  | [], _, v, hv => by simp [denL] at hv
  | y :: l, h, v, hv => by
    unfold oneL at h
    cases hy : oneC y with
    | false => simp [hy] at h
    | true =>
      simp only [hy] at h
      simp only [denL, List.mem_cons] at hv
      rcases hv with rfl | hv
      · exact oneC_den hV y hy
      · exact oneL_den hV l h v hv
/-- The cells of a value. -/
def cellsO : SV → Option (List SV)
  | .agg l => some l
  | .tup _ => none
  | .undef => none
  | .val (.agg _) => none
  | .val (.tuple _) => none
  | v => some [v]
theorem cellsO_den {V : Vl} (hV : V.One) {v : SV} {c : List SV} (h : cellsO v = some c) : (den V v).cells = (denL V c).toArray := by
  have key : oneC v = true → c = [v] → (den V v).cells = (denL V c).toArray := by
    intro h1 h2
    subst h2
    rw [one_cells (oneC_den hV v h1)]; rfl
  cases v <;> simp only [cellsO, Option.some.injEq, reduceCtorEq] at h <;> first | exact key rfl h.symm | (subst h; rfl) | skip
  case val y => cases y <;> simp only [Option.some.injEq, reduceCtorEq] at h <;> exact key rfl h.symm

/-! ### Integers -/
def imin (a b : Int) : Int := if b < a then b else a
def imax (a b : Int) : Int := if a < b then b else a
def bitI (op : BinOp) (k : IntKind) (a b : Int) : Int :=
  match op with
  | .and => k.wrap ((BitVec.ofInt k.bits a &&& BitVec.ofInt k.bits b).toNat : Int)
  | .or => k.wrap ((BitVec.ofInt k.bits a ||| BitVec.ofInt k.bits b).toNat : Int)
  | .xor => k.wrap ((BitVec.ofInt k.bits a ^^^ BitVec.ofInt k.bits b).toNat : Int)
  | _ => k.wrap ((BitVec.ofInt k.bits a &&& ~~~ BitVec.ofInt k.bits b).toNat : Int)

def argsS (s : St) : List Operand → Option (List SV)
  | [] => some []
  | x :: l => match s.get x, argsS s l with
    | some v, some r => some (v :: r)
    | _, _ => none
theorem args_eval {V : Vl} {s : St} {a : Act} (he : EnvR V s a) : ∀ {l : List Operand} {q}, argsS s l = some q → l.map a.eval = denL V q
  | [], q, h => by simp only [argsS, Option.some.injEq] at h; subst h; rfl
  | x :: l, q, h => by
    unfold argsS at h
    cases hx : s.get x with
    | none => simp [hx] at h
    | some v =>
      cases hl : argsS s l with
      | none => simp [hx, hl] at h
      | some u =>
        simp only [hx, hl, Option.some.injEq] at h
        subst h
        simp only [List.map_cons, he.get hx, args_eval he hl, denL]
theorem args_arr {V : Vl} {s : St} {a : Act} {args : Array Operand} {q : List SV} (he : EnvR V s a) (hq : argsS s args.toList = some q) : args.map a.eval = (denL V q).toArray := by
  apply Array.ext'
  simp [args_eval he hq]

/-- The operation yields 'v', and leaves the world as it is. -/
structure EvTo (x : Cx) (s : St) (op : Op) (v : SV) : Prop where
  run : LayOk x.P x.L → ∀ V a w, EnvR V s a → Ents x.D0 V s w → ∀ dst ty pos after guard, (execOp a.eval ⟨dst, op, ty, pos, after, guard⟩).run x.P w = .ok (.value (den V v)) w
theorem fin_v {P : Program} {x : Sem Value} {v : Value} {w : World} (hx : x.run P w = .ok v w) : (do pure (.value (← x)) : Sem Next).run P w = .ok (.value v) w := by
  simp only [Sem.run_bind, hx, Result.andThen_ok, Sem.run_pure]

section
variable {x : Cx} {s : St}
theorem e_move {a : Operand} {v : SV} (h : s.get a = some v) : EvTo x s (.move a) v := ⟨fun _ V ac w he _ _ _ _ _ _ => by simp only [execOp, he.get h, Sem.run_pure]⟩
theorem e_assign {a : Operand} {v : SV} (h : s.get a = some v) : EvTo x s (.assign a) v := ⟨fun _ V ac w he _ _ _ _ _ _ => by simp only [execOp, he.get h, Sem.run_pure]⟩
theorem e_pick_t {c a b : Operand} {v : SV} (hc : s.get c = some (.tf true)) (h : s.get a = some v) : EvTo x s (.pick c a b) v :=
  ⟨fun _ V ac w he _ _ _ _ _ _ => by simp only [execOp, he.get hc, den, asBool, he.get h, Sem.run_bind, Sem.run_pure, Result.andThen_ok, if_true]⟩
theorem e_pick_f {c a b : Operand} {v : SV} (hc : s.get c = some (.tf false)) (h : s.get b = some v) : EvTo x s (.pick c a b) v :=
  ⟨fun _ V ac w he _ _ _ _ _ _ => by simp only [execOp, he.get hc, den, asBool, he.get h, Sem.run_bind, Sem.run_pure, Result.andThen_ok, Bool.false_eq_true, if_false]⟩

/-! ### Memory -/
theorem r_loadVar_agg {P : Program} {t : TypeId} {ti : TI} (ht : TIok P t ti) (hg : ti.td.agg = true) {w : World} {a : Addr} {cs : List Value} (hl : cs.length = ti.zs.length) (h : ∀ j v, cs[j]? = some v → w.cell? (a.add j) = some v) :
    (loadVar t a).run P w = .ok (.agg cs.toArray) w := by
  obtain ⟨i, h1, h2, _⟩ := ht.info
  obtain ⟨d, h4, h5⟩ := ht.desc
  have e := run_loadCells_list (P := P) w a cs h
  simp only [loadVar, Sem.run_bind, r_isAgg h4, agg_of h5, hg, Result.andThen_ok, if_true, r_sizeOf h1, h2, TI.zero_len, ← hl, e]
  rfl
theorem r_loadVar_one {P : Program} {t : TypeId} {ti : TI} (ht : TIok P t ti) (hg : ti.td.agg = false) {w : World} {a : Addr} {v : Value} (h : w.cell? a = some v) :
    (loadVar t a).run P w = .ok v w := by
  obtain ⟨d, h4, h5⟩ := ht.desc
  simp only [loadVar, Sem.run_bind, r_isAgg h4, agg_of h5, hg, Result.andThen_ok, Bool.false_eq_true, if_false, run_load, h]
theorem run_load1 {t : TypeId} {p : Value} {a : Addr} {ti : TI} {v : Value} {w : World} (hp : p = .pointer (some a)) (ht : TIok x.P t ti) (hg : ti.td.agg = false) (h : w.cell? a = some v) : (Instr.loadAt t p).run x.P w = .ok v w := by
  subst hp
  simp only [Instr.loadAt, Instr.sureAddr, Sem.run_bind, Sem.run_pure, Result.andThen_ok]
  exact r_loadVar_one ht hg h
theorem run_loadA {t : TypeId} {p : Value} {b o : Nat} {ti : TI} {cs : List Value} {w : World} (hp : p = .pointer (some ⟨b, o, none⟩)) (ht : TIok x.P t ti) (hg : ti.td.agg = true) (hl : cs.length = ti.zs.length) (h : ∀ j v, cs[j]? = some v → w.cell? ⟨b, o + j, none⟩ = some v) :
    (Instr.loadAt t p).run x.P w = .ok (.agg cs.toArray) w := by
  subst hp
  simp only [Instr.loadAt, Instr.sureAddr, Sem.run_bind, Sem.run_pure, Result.andThen_ok]
  exact r_loadVar_agg ht hg hl fun j v hj => by rw [Addr.add_mid]; exact h j v hj
theorem e_load {t : TypeId} {a : Operand} {p v : SV} (hp : s.get a = some p) (h : LayOk x.P x.L → ∀ V w, Ents x.D0 V s w → (Instr.loadAt t (den V p)).run x.P w = .ok (den V v) w) : EvTo x s (.load t a) v :=
  ⟨fun hL V ac w he hm _ _ _ _ _ => by simp only [execOp, he.get hp]; exact fin_v (h hL V w hm)⟩
theorem cell_of {w : World} {b o : Nat} {cs : Array Value} {t : TypeId} {fz : Nat × Nat} {v : Value} (hb : w.heap[b]? = some (.cells cs t fz)) (hv : cs[o]? = some v) : w.cell? ⟨b, o, none⟩ = some v := by
  simp only [World.cell?, hb, Option.isSome_none, Bool.false_eq_true, if_false]; exact hv
theorem e_load1 {t : TypeId} {a : Operand} {k o : Nat} {ti : TI} {c : List SV} {v : SV} (hp : s.get a = some (.ptr k o)) (ht : find x.L t = some ti) (hg : ti.td.agg = false) (hm : find s.mem k = some (.cells c)) (hv : nthC c o = some v) : EvTo x s (.load t a) v :=
  e_load hp fun hL V w hw => by
    obtain ⟨t', hb⟩ := hw.mem k _ hm
    rw [nthC_eq] at hv
    exact run_load1 rfl (hL.at ht) hg (cell_of hb (by simpa using denL_get V hv))
theorem e_loadA {t : TypeId} {a : Operand} {k o : Nat} {ti : TI} {c l : List SV} (hp : s.get a = some (.ptr k o)) (ht : find x.L t = some ti) (hg : ti.td.agg = true) (hm : find s.mem k = some (.cells c)) (hl : takeC (dropC c o) ti.zs.length = some l) : EvTo x s (.load t a) (.agg l) :=
  e_load hp fun hL V w hw => by
    obtain ⟨t', hb⟩ := hw.mem k _ hm
    obtain ⟨q1, q2⟩ := takeC_eq _ _ hl
    rw [dropC_eq] at q1 q2
    refine run_loadA rfl (hL.at ht) hg (by rw [denL_length, q2]; simp at q1 ⊢; omega) (fun j v hj => cell_of hb ?_)
    rw [q2, denL_take, denL_drop] at hj
    simp only [List.getElem?_take] at hj
    split at hj
    · simpa [List.getElem?_drop] using hj
    · cases hj

/-! ### Rows of lists -/
def opn (k i j : Nat) : DV → SV
  | .int ik n => .int ik n
  | .bool b => .bool b
  | .sl _ => .nst k i j
  | .oth v => .val v
def opnL (k i : Nat) : Nat → List DV → List SV
  | _, [] => []
  | j, d :: l => opn k i j d :: opnL k i (j + 1) l
def opnO (k i j : Nat) : DV → Option SV
  | .int ik n => some (.int ik n)
  | .bool b => some (.bool b)
  | .sl _ => some (.nst k i j)
  | .oth v => some (.val v)
theorem opnO_eq {k i j : Nat} {d : DV} {v : SV} (h : opnO k i j d = some v) : opn k i j d = v := by cases d <;> simp only [opnO, Option.some.injEq] at h <;> (subst h; rfl)
def opnLO (k i : Nat) : Nat → List DV → Option (List SV)
  | _, [] => some []
  | j, d :: l => match opnO k i j d, opnLO k i (j + 1) l with
    | some v, some r => some (v :: r)
    | _, _ => none
theorem opnLO_eq {k i : Nat} : ∀ {j : Nat} {l : List DV} {r : List SV}, opnLO k i j l = some r → opnL k i j l = r
  | j, [], r, h => by simp only [opnLO, Option.some.injEq] at h; subst h; rfl
  | j, d :: l, r, h => by
    unfold opnLO at h
    cases hd : opnO k i j d with
    | none => simp [hd] at h
    | some v =>
      cases hl : opnLO k i (j + 1) l with
      | none => simp [hd, hl] at h
      | some q =>
        simp only [hd, hl, Option.some.injEq] at h
        subst h
        simp only [opnL, opnO_eq hd, opnLO_eq hl]
theorem opn_den (V : Vl) (k i j : Nat) (d : DV) : den V (opn k i j d) = cellV (V.ce k i j) d := by cases d <;> rfl
theorem opnL_len (k i : Nat) : ∀ (j : Nat) (l : List DV), (opnL k i j l).length = l.length
  | _, [] => rfl
  | j, d :: l => by simp [opnL, opnL_len k i (j + 1) l]
theorem opnL_get (k i : Nat) : ∀ (j : Nat) (l : List DV) (m : Nat), (opnL k i j l)[m]? = (l[m]?).map (opn k i (j + m))
  | _, [], m => by simp [opnL]
  | j, d :: l, 0 => by simp [opnL]
  | j, d :: l, m + 1 => by
    simp only [opnL, List.getElem?_cons_succ]
    rw [opnL_get k i (j + 1) l m, show j + 1 + m = j + (m + 1) by omega]
/-- What a row's cells are in the world: for the walk's own lists and for those that nobody changes. -/
structure RowOf (V : Vl) (w : World) (k b o : Nat) (i es : Nat) (row : List DV) : Prop where
  len : row.length = es
  cell : ∀ j d, row[j]? = some d → w.cell? ⟨b, o + (i * es + j), none⟩ = some (den V (opn k i j d))
theorem row_ro {D0 : Nat → Prop} {V : Vl} {w : World} (h : Ents D0 V s w) {k i : Nat} {fz : Bool} {rows : List (List DV)} {row : List DV} (hk : find s.ro k = some ⟨fz, rows⟩) (hr : rows[i]? = some row) :
    ∃ b o c, V.ro k = .slice (some ⟨b, o, none⟩) rows.length c ∧ rows.length ≤ c ∧ ∀ es, row.length = es → RowOf V w k b o i es row := by
  rcases h.ro k _ hk with ⟨e, _⟩ | ⟨es, b, o, c, cs, t, fz', h0, h1, h2, h3, h4, h5, h6, h7⟩
  · simp only at e; subst e; simp at hr
  · refine ⟨b, o, c, h0, h2, fun es' hes => ?_⟩
    have e := h3 i row hr
    have e' : es' = es := by omega
    subst e'
    exact ⟨e, fun j d hd => by rw [opn_den]; exact cell_of h5 (h6 i j row d hr hd)⟩
theorem row_own {D0 : Nat → Prop} {V : Vl} {w : World} (h : Ents D0 V s w) {k i es t : Nat} {xs : List (List DV)} {row : List DV} (hk : find s.mem k = some (.rows es t xs)) (hr : xs[i]? = some row) :
    V.nil k = false ∧ xs.length ≤ V.cap k ∧ RowOf V w k (V.r k) 0 i es row := by
  have hm := h.mem k _ hk
  unfold MBat at hm
  cases hn : V.nil k with
  | true => rw [hn] at hm; simp only at hm; subst hm; simp at hr
  | false =>
    rw [hn] at hm
    obtain ⟨h00, cs, h0, h1, h2, h3, h4, h5⟩ := hm
    refine ⟨rfl, h2.1, h3 i row hr, fun j d hd => ?_⟩
    rw [opn_den, Nat.zero_add]
    exact cell_of h0 (h4 i j row d hr hd)
theorem RowOf.load1 {V : Vl} {w : World} {k b o i es f : Nat} {row : List DV} {d : DV} {v : SV} {t : TypeId} {ti : TI} (h : RowOf V w k b o i es row) {p : Value} (hp : p = .pointer (some ⟨b, o + (i * es + f), none⟩)) (ht : TIok x.P t ti) (hg : ti.td.agg = false) (hd : nthC row f = some d) (hv : opnO k i f d = some v) :
    (Instr.loadAt t p).run x.P w = .ok (den V v) w := by
  rw [nthC_eq] at hd
  rw [← opnO_eq hv]
  exact run_load1 hp ht hg (h.cell f d hd)
theorem RowOf.loadA {V : Vl} {w : World} {k b o i es f : Nat} {row : List DV} {q l : List SV} {t : TypeId} {ti : TI} (h : RowOf V w k b o i es row) {p : Value} (hp : p = .pointer (some ⟨b, o + (i * es + f), none⟩)) (ht : TIok x.P t ti) (hg : ti.td.agg = true) (hq : opnLO k i 0 row = some q) (hl : takeC (dropC q f) ti.zs.length = some l) :
    (Instr.loadAt t p).run x.P w = .ok (den V (.agg l)) w := by
  obtain ⟨q1, q2⟩ := takeC_eq _ _ hl
  rw [dropC_eq] at q1 q2
  refine run_loadA hp ht hg (by rw [denL_length, q2]; simp at q1 ⊢; omega) (fun j v hj => ?_)
  rw [q2, denL_take, denL_drop] at hj
  simp only [List.getElem?_take] at hj
  split at hj
  · rw [List.getElem?_drop, denL_eq, List.getElem?_map, ← opnLO_eq hq, opnL_get] at hj
    cases hr : row[f + j]? with
    | none => simp [hr] at hj
    | some d =>
      simp only [hr, Option.map_some, Option.some.injEq, Nat.zero_add] at hj
      rw [← hj, show o + (i * es + f) + j = o + (i * es + (f + j)) by omega]
      exact h.cell (f + j) d hr
  · cases hj
section
variable {t : TypeId} {a : Operand} {k es i f : Nat} {ti : TI} {fz : Bool} {rows : List (List DV)} {row : List DV} {d : DV} {v : SV} {ty : Nat} {q l : List SV}
theorem e_rel1 (hp : s.get a = some (.rel k es i f)) (ht : find x.L t = some ti) (hg : ti.td.agg = false) (hk : find s.ro k = some ⟨fz, rows⟩) (hr : rows[i]? = some row) (hl : row.length = es) (hd : nthC row f = some d) (hv : opnO k i f d = some v) : EvTo x s (.load t a) v :=
  e_load hp fun hL V w hw => by
    obtain ⟨b, o, c, e, _, h⟩ := row_ro hw hk hr
    exact (h es hl).load1 (by simp only [den, e, elAt]) (hL.at ht) hg hd hv
theorem e_relA (hp : s.get a = some (.rel k es i f)) (ht : find x.L t = some ti) (hg : ti.td.agg = true) (hk : find s.ro k = some ⟨fz, rows⟩) (hr : rows[i]? = some row) (hl : row.length = es) (hq : opnLO k i 0 row = some q) (hv : takeC (dropC q f) ti.zs.length = some l) : EvTo x s (.load t a) (.agg l) :=
  e_load hp fun hL V w hw => by
    obtain ⟨b, o, c, e, _, h⟩ := row_ro hw hk hr
    exact (h es hl).loadA (by simp only [den, e, elAt]) (hL.at ht) hg hq hv
theorem e_el1 (hp : s.get a = some (.el k es i f)) (ht : find x.L t = some ti) (hg : ti.td.agg = false) (hk : find s.mem k = some (.rows es ty rows)) (hr : rows[i]? = some row) (hd : nthC row f = some d) (hv : opnO k i f d = some v) : EvTo x s (.load t a) v :=
  e_load hp fun hL V w hw => by
    obtain ⟨e, _, h⟩ := row_own hw hk hr
    exact h.load1 (by simp only [den, Nat.zero_add]) (hL.at ht) hg hd hv
theorem e_elA (hp : s.get a = some (.el k es i f)) (ht : find x.L t = some ti) (hg : ti.td.agg = true) (hk : find s.mem k = some (.rows es ty rows)) (hr : rows[i]? = some row) (hq : opnLO k i 0 row = some q) (hv : takeC (dropC q f) ti.zs.length = some l) : EvTo x s (.load t a) (.agg l) :=
  e_load hp fun hL V w hw => by
    obtain ⟨e, _, h⟩ := row_own hw hk hr
    exact h.loadA (by simp only [den, Nat.zero_add]) (hL.at ht) hg hq hv
end
end
end Go.Proofs.Ytjhjhjmdbhackaa
