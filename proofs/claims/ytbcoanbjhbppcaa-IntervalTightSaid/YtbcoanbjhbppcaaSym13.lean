/- Symbolic walks, thirteenth part: the rules, one for each kind of operation. No condition on any program. -/
import Derived.Test.YtbcoanbjhbppcaaSym12
namespace Go.Proofs.Ytbcoanbjhbppcaa
set_option linter.unusedVariables false
open Go.RowKit

/-! ### What an operation yields -/
/-- The operation yields 'v'. -/
structure EvTo (x : Cx) (s : St) (op : Op) (v : SV) : Prop where
  run : ∀ K : SV → Prop, K v → ev x.P x.L x.D x.w0 s K op
def injO1 : Value → Option SV
  | .int k n => some (.int k n)
  | .bool b => some (.bool b)
  | .string y => some (.val (.string y))
  | .pointer a => some (.val (.pointer a))
  | .slice a n c => some (.val (.slice a n c))
  | .map r => some (.val (.map r))
  | .nilFunc => some (.val .nilFunc)
  | .nilIface => some (.val .nilIface)
  | _ => none
theorem injO1_eq {v : Value} {u : SV} (h : injO1 v = some u) : inj1 v = u := by
  cases v <;> simp only [injO1, Option.some.injEq, reduceCtorEq] at h <;> (subst h; rfl)
def injL1 : List Value → Option (List SV)
  | [] => some []
  | v :: l => match injO1 v, injL1 l with
    | some u, some r => some (u :: r)
    | _, _ => none
theorem injL1_eq : ∀ {l : List Value} {q : List SV}, injL1 l = some q → l.map inj1 = q
  | [], q, h => by simp only [injL1, Option.some.injEq] at h; subst h; rfl
  | v :: l, q, h => by
    unfold injL1 at h
    split at h
    · rename_i u r hu hr
      cases h
      simp only [List.map_cons, injO1_eq hu, injL1_eq hr]
    · cases h
def injO2 : Value → Option SV
  | .agg cs => match injL1 cs.toList with
    | some l => some (.agg l)
    | none => none
  | v => injO1 v
theorem injO2_eq {v : Value} {u : SV} (h : injO2 v = some u) : inj2 v = u := by
  cases v <;> first | (simp only [injO2, injO1, Option.some.injEq] at h; subst h; rfl) | (simp only [injO2, injO1, reduceCtorEq] at h; done) | skip
  case agg cs =>
    simp only [injO2] at h
    split at h
    · rename_i l hl
      cases h
      simp only [inj2, injL1_eq hl]
    · cases h
def injL2 : List Value → Option (List SV)
  | [] => some []
  | v :: l => match injO2 v, injL2 l with
    | some u, some r => some (u :: r)
    | _, _ => none
theorem injL2_eq : ∀ {l : List Value} {q : List SV}, injL2 l = some q → l.map inj2 = q
  | [], q, h => by simp only [injL2, Option.some.injEq] at h; subst h; rfl
  | v :: l, q, h => by
    unfold injL2 at h
    split at h
    · rename_i u r hu hr
      cases h
      simp only [List.map_cons, injO2_eq hu, injL2_eq hr]
    · cases h
def injO : Value → Option SV
  | .tuple vs => match injL2 vs.toList with
    | some l => some (.tup l)
    | none => none
  | v => injO2 v
theorem injO_eq {v : Value} {u : SV} (h : injO v = some u) : injR v = u := by
  cases v <;> first | (simp only [injO, injO2, injO1, Option.some.injEq] at h; subst h; rfl) | (simp only [injO, injO2, injO1, reduceCtorEq] at h; done) | skip
  case agg cs =>
    have h' : injO2 (.agg cs) = some u := h
    exact injO2_eq h'
  case tuple vs =>
    simp only [injO] at h
    split at h
    · rename_i l hl
      cases h
      simp only [injR, injL2_eq hl]
    · cases h
def argO : Nat → List Value → Option (List (Nat × SV))
  | _, [] => some []
  | i, v :: l => match injO v, argO (i + 1) l with
    | some u, some r => some ((i, u) :: r)
    | _, _ => none
theorem argO_eq : ∀ {l : List Value} {i : Nat} {q}, argO i l = some q → argEnv i l = q
  | [], i, q, h => by simp only [argO, Option.some.injEq] at h; subst h; rfl
  | v :: l, i, q, h => by
    unfold argO at h
    split at h
    · rename_i u r hu hr
      cases h
      simp only [argEnv, injO_eq hu, argO_eq hr]
    · cases h
def cellsO : SV → Option (List SV)
  | .agg l => some l
  | .tup _ => none
  | .undef => none
  | .val (.agg _) => none
  | v => some [v]
theorem cellsO_eq {v : SV} {c : List SV} (h : cellsO v = some c) : cellsOk v = true ∧ cellsV v = c := by
  cases v <;> simp only [cellsO, Option.some.injEq, reduceCtorEq] at h <;> first | (subst h; exact ⟨rfl, rfl⟩) | skip
  case val y => cases y <;> simp only [Option.some.injEq, reduceCtorEq] at h <;> (subst h; exact ⟨rfl, rfl⟩)
def dropO {α : Type} : Nat → List α → Option (List α)
  | 0, l => some l
  | _ + 1, [] => some []
  | n + 1, _ :: l => dropO n l
theorem dropO_eq {α : Type} : ∀ {n : Nat} {l q : List α}, dropO n l = some q → l.drop n = q
  | 0, l, q, h => by simp only [dropO, Option.some.injEq] at h; subst h; simp
  | n + 1, [], q, h => by simp only [dropO, Option.some.injEq] at h; subst h; simp
  | n + 1, _ :: l, q, h => by simpa using dropO_eq (l := l) h
theorem on_of {a : Option SV} {v : SV} {K : SV → Prop} (h : a = some v) (hK : K v) : on a K := by rw [h]; exact hK
section
variable {x : Cx} {s : St}
theorem e_move {a : Operand} {v : SV} (h : s.get a = some v) : EvTo x s (.move a) v := ⟨fun _ hK => on_of h hK⟩
theorem e_assign {a : Operand} {v : SV} (h : s.get a = some v) : EvTo x s (.assign a) v := ⟨fun _ hK => on_of h hK⟩
theorem e_pick_t {c a b : Operand} {v : SV} (hc : s.get c = some (.tf true)) (h : s.get a = some v) : EvTo x s (.pick c a b) v := ⟨fun _ hK => on_of hc (on_of h hK)⟩
theorem e_pick_f {c a b : Operand} {v : SV} (hc : s.get c = some (.tf false)) (h : s.get b = some v) : EvTo x s (.pick c a b) v := ⟨fun _ hK => on_of hc (on_of h hK)⟩
theorem e_build {t : TypeId} {ps : Array (Nat × Operand)} {zs : List SV} {q : List (Nat × SV)} {fs : List FI} {l : List SV} (ht : find x.L t = some ⟨zs, .struct fs⟩) (hq : partsS s ps.toList = some q) (hf : fillS (placeS fs) zs q = some l) : EvTo x s (.build t ps) (.agg l) :=
  ⟨fun _ hK => by simp only [ev, ht, hq, hf]; exact hK⟩
theorem e_buildA {t : TypeId} {ps : Array (Nat × Operand)} {zs : List SV} {q : List (Nat × SV)} {n es : Nat} {ea : Bool} {l : List SV} (ht : find x.L t = some ⟨zs, .array n es ea⟩) (hq : partsS s ps.toList = some q) (hf : fillS (fun i => some (i * es, es)) zs q = some l) : EvTo x s (.build t ps) (.agg l) :=
  ⟨fun _ hK => by simp only [ev, ht, hq, hf]; exact hK⟩
theorem e_load1 {t : TypeId} {a : Operand} {k o : Nat} {ti : TI} {c : List SV} {v : SV} (hp : s.get a = some (.ptr k o)) (ht : find x.L t = some ti) (hg : ti.td.agg = false) (hm : find s.mem k = some c) (hv : nthC c o = some v) : EvTo x s (.load t a) v :=
  ⟨fun _ hK => by simp only [ev]; refine on_of hp ?_; simp only [evLoad, ht, hm, hg]; exact on_of hv hK⟩
theorem e_loadA {t : TypeId} {a : Operand} {k o : Nat} {ti : TI} {c l : List SV} (hp : s.get a = some (.ptr k o)) (ht : find x.L t = some ti) (hg : ti.td.agg = true) (hm : find s.mem k = some c) (hl : takeC (dropC c o) ti.zs.length = some l) : EvTo x s (.load t a) (.agg l) :=
  ⟨fun _ hK => by simp only [ev]; refine on_of hp ?_; simp only [evLoad, ht, hm, hg, hl]; exact hK⟩
theorem e_in1 {t : TypeId} {a : Operand} {ad : Addr} {ti : TI} {v : Value} {u : SV} (hp : s.get a = some (.val (.pointer (some ad)))) (ht : find x.L t = some ti) (hg : ti.td.agg = false) (hc : x.w0.cell? ad = some v) (hd : ¬ x.D ad.block) (hu : injO1 v = some u) : EvTo x s (.load t a) u :=
  ⟨fun _ hK => by simp only [ev]; refine on_of hp ?_; simp only [evLoad, ht, hg]; exact ⟨v, hc, hd, by rw [injO1_eq hu]; exact hK⟩⟩
theorem e_inA {t : TypeId} {a : Operand} {ad : Addr} {ti : TI} {vs : List Value} {l : List SV} (hp : s.get a = some (.val (.pointer (some ad)))) (ht : find x.L t = some ti) (hg : ti.td.agg = true) (hl : vs.length = ti.zs.length) (hc : CellsAt x.w0 ad 0 vs) (hd : ¬ x.D ad.block) (hb : ad.block < x.w0.heap.size) (hu : injL1 vs = some l) : EvTo x s (.load t a) (.agg l) :=
  ⟨fun _ hK => by simp only [ev]; refine on_of hp ?_; simp only [evLoad, ht, hg]; exact ⟨vs, hc, hl, hd, hb, by rw [injL1_eq hu]; exact hK⟩⟩

section
variable {a b : Operand} {t t' : TypeId} {k k' : IntKind} {m n c : Int}
theorem e_bin {op : BinOp} {p q v : SV} (ha : s.get a = some p) (hb : s.get b = some q) (h : ∀ K : SV → Prop, K v → evBin x.P op t p q K) : EvTo x s (.binOp op t a b t') v :=
  ⟨fun K hK => by simp only [ev]; exact on_of ha (on_of hb (h K hK))⟩
theorem e_add (ha : s.get a = some (.int k m)) (hb : s.get b = some (.int k n)) (hw : k.wrap (m + n) = c) : EvTo x s (.binOp .add t a b t') (.int k c) := e_bin ha hb fun K hK => by simp only [evBin, evInt, decide_true]; exact ⟨c, hw, hK⟩
theorem e_sub (ha : s.get a = some (.int k m)) (hb : s.get b = some (.int k n)) (hw : k.wrap (m - n) = c) : EvTo x s (.binOp .sub t a b t') (.int k c) := e_bin ha hb fun K hK => by simp only [evBin, evInt, decide_true]; exact ⟨c, hw, hK⟩
theorem e_mul (ha : s.get a = some (.int k m)) (hb : s.get b = some (.int k n)) (hw : k.wrap (m * n) = c) : EvTo x s (.binOp .mul t a b t') (.int k c) := e_bin ha hb fun K hK => by simp only [evBin, evInt, decide_true]; exact ⟨c, hw, hK⟩
theorem e_quo (ha : s.get a = some (.int k m)) (hb : s.get b = some (.int k n)) (h0 : n ≠ 0) (hw : k.wrap (m.tdiv n) = c) : EvTo x s (.binOp .quo t a b t') (.int k c) := e_bin ha hb fun K hK => by simp only [evBin, evInt, decide_true]; exact ⟨h0, c, hw, hK⟩
theorem e_rem (ha : s.get a = some (.int k m)) (hb : s.get b = some (.int k n)) (h0 : n ≠ 0) (hw : m.tmod n = c) : EvTo x s (.binOp .rem t a b t') (.int k c) := e_bin ha hb fun K hK => by simp only [evBin, evInt, decide_true]; exact ⟨h0, c, hw, hK⟩
theorem e_and (ha : s.get a = some (.int k m)) (hb : s.get b = some (.int k n)) (hw : bitI .and k m n = c) : EvTo x s (.binOp .and t a b t') (.int k c) := e_bin ha hb fun K hK => by simp only [evBin, evInt, decide_true]; exact ⟨c, hw, hK⟩
theorem e_or (ha : s.get a = some (.int k m)) (hb : s.get b = some (.int k n)) (hw : bitI .or k m n = c) : EvTo x s (.binOp .or t a b t') (.int k c) := e_bin ha hb fun K hK => by simp only [evBin, evInt, decide_true]; exact ⟨c, hw, hK⟩
theorem e_xor (ha : s.get a = some (.int k m)) (hb : s.get b = some (.int k n)) (hw : bitI .xor k m n = c) : EvTo x s (.binOp .xor t a b t') (.int k c) := e_bin ha hb fun K hK => by simp only [evBin, evInt, decide_true]; exact ⟨c, hw, hK⟩
theorem e_andNot (ha : s.get a = some (.int k m)) (hb : s.get b = some (.int k n)) (hw : bitI .andNot k m n = c) : EvTo x s (.binOp .andNot t a b t') (.int k c) := e_bin ha hb fun K hK => by simp only [evBin, evInt, decide_true]; exact ⟨c, hw, hK⟩
theorem e_shl (ha : s.get a = some (.int k m)) (hb : s.get b = some (.int k' n)) (h0 : 0 ≤ n) (hw : k.wrap (m * 2 ^ (min n.toNat k.bits)) = c) : EvTo x s (.binOp .shl t a b t') (.int k c) := e_bin ha hb fun K hK => by simp only [evBin, evInt]; exact ⟨h0, c, hw, hK⟩
theorem e_shr (ha : s.get a = some (.int k m)) (hb : s.get b = some (.int k' n)) (h0 : 0 ≤ n) (hw : m.fdiv (2 ^ (min n.toNat k.bits)) = c) : EvTo x s (.binOp .shr t a b t') (.int k c) := e_bin ha hb fun K hK => by simp only [evBin, evInt]; exact ⟨h0, c, hw, hK⟩
theorem e_eql (ha : s.get a = some (.int k m)) (hb : s.get b = some (.int k n)) : EvTo x s (.binOp .eql t a b t') (.bool (m == n)) := e_bin ha hb fun K hK => by simp only [evBin, evInt, decide_true]; exact hK
theorem e_neq (ha : s.get a = some (.int k m)) (hb : s.get b = some (.int k n)) : EvTo x s (.binOp .neq t a b t') (.bool (m != n)) := e_bin ha hb fun K hK => by simp only [evBin, evInt, decide_true]; exact hK
theorem e_lss (ha : s.get a = some (.int k m)) (hb : s.get b = some (.int k n)) : EvTo x s (.binOp .lss t a b t') (.bool (decide (m < n))) := e_bin ha hb fun K hK => by simp only [evBin, evInt, decide_true]; exact hK
theorem e_leq (ha : s.get a = some (.int k m)) (hb : s.get b = some (.int k n)) : EvTo x s (.binOp .leq t a b t') (.bool (decide (m ≤ n))) := e_bin ha hb fun K hK => by simp only [evBin, evInt, decide_true]; exact hK
theorem e_gtr (ha : s.get a = some (.int k m)) (hb : s.get b = some (.int k n)) : EvTo x s (.binOp .gtr t a b t') (.bool (decide (n < m))) := e_bin ha hb fun K hK => by simp only [evBin, evInt, decide_true]; exact hK
theorem e_geq (ha : s.get a = some (.int k m)) (hb : s.get b = some (.int k n)) : EvTo x s (.binOp .geq t a b t') (.bool (decide (n ≤ m))) := e_bin ha hb fun K hK => by simp only [evBin, evInt, decide_true]; exact hK
def asBl : SV → Option Bool
  | .tf b => some b
  | .bool b => some b
  | _ => none
theorem e_beq {p q : SV} {u v : Bool} (ha : s.get a = some p) (hb : s.get b = some q) (hu : asBl p = some u) (hv : asBl q = some v) (ht : x.P.underlying t = some .bool) : EvTo x s (.binOp .eql t a b t') (.bool (u == v)) :=
  e_bin ha hb fun K hK => by cases p <;> cases q <;> simp only [asBl, Option.some.injEq, reduceCtorEq] at hu hv <;> (subst hu; subst hv; exact ⟨ht, hK⟩)
theorem e_bne {p q : SV} {u v : Bool} (ha : s.get a = some p) (hb : s.get b = some q) (hu : asBl p = some u) (hv : asBl q = some v) (ht : x.P.underlying t = some .bool) : EvTo x s (.binOp .neq t a b t') (.bool (u != v)) :=
  e_bin ha hb fun K hK => by cases p <;> cases q <;> simp only [asBl, Option.some.injEq, reduceCtorEq] at hu hv <;> (subst hu; subst hv; exact ⟨ht, hK⟩)
theorem e_agg {op : BinOp} {l l' : List SV} {u v : Value} {r : Bool} (ha : s.get a = some (.agg l)) (hb : s.get b = some (.agg l')) (h1 : okL 0 l = true) (h2 : okL 0 l' = true) (hu : den id (.agg l) = u) (hv : den id (.agg l') = v)
    (h : ∀ y z w, (do eqGuard op t y z u v; binOp op t u v : Sem Value).run x.P w = .ok (.bool r) w) : EvTo x s (.binOp op t a b t') (.bool r) :=
  e_bin ha hb fun K hK => by subst hu; subst hv; exact ⟨h1, h2, r, h, hK⟩
theorem e_not {v : Bool} (ha : s.get a = some (.bool v)) : EvTo x s (.unOp .not t a) (.bool (!v)) := ⟨fun _ hK => on_of ha hK⟩
theorem e_not_t (ha : s.get a = some (.tf true)) : EvTo x s (.unOp .not t a) (.tf false) := ⟨fun _ hK => on_of ha hK⟩
theorem e_not_f (ha : s.get a = some (.tf false)) : EvTo x s (.unOp .not t a) (.tf true) := ⟨fun _ hK => on_of ha hK⟩
theorem e_neg (ha : s.get a = some (.int k n)) (hw : k.wrap (0 - n) = c) : EvTo x s (.unOp .neg t a) (.int k c) := ⟨fun _ hK => on_of ha ⟨c, hw, hK⟩⟩
theorem e_com (ha : s.get a = some (.int k n)) (hw : bitI .xor k (if k.signed then -1 else k.max) n = c) : EvTo x s (.unOp .xor t a) (.int k c) := ⟨fun _ hK => on_of ha ⟨c, hw, hK⟩⟩
theorem e_conv {ts td : TI} (hs : find x.L t = some ts) (hd : find x.L t' = some td) (hk : td.td = .int k) (ha : s.get a = some (.int k' n)) (hw : k.wrap n = c) : EvTo x s (.convert t t' a) (.int k c) :=
  ⟨fun _ hK => by simp only [ev, hs, hd, hk]; exact on_of ha ⟨c, hw, hK⟩⟩
end

section
variable {a b : Operand} {t : TypeId} {zs : List SV} {fs : List FI} {f : FI} {l q : List SV} {v : SV} {i k o es n cc e : Nat} {ea : Bool} {ad : Addr} {z : Int} {ik : IntKind}
theorem e_field1 (ht : find x.L t = some ⟨zs, .struct fs⟩) (ha : s.get a = some (.agg l)) (hf : fs[i]? = some f) (hg : f.agg = false) (hv : nthC l f.off = some v) : EvTo x s (.field t a i) v :=
  ⟨fun _ hK => by simp only [ev, ht]; refine on_of ha ?_; simp only [evField, hf, hg]; exact on_of hv hK⟩
theorem e_fieldA (ht : find x.L t = some ⟨zs, .struct fs⟩) (ha : s.get a = some (.agg l)) (hf : fs[i]? = some f) (hg : f.agg = true) (hv : takeC (dropC l f.off) f.size = some q) : EvTo x s (.field t a i) (.agg q) :=
  ⟨fun _ hK => by simp only [ev, ht]; refine on_of ha ?_; simp only [evField, hf, hg, hv]; exact hK⟩
theorem e_faddr0 {j sz : Nat} {ag : Bool} (ht : find x.L t = some ⟨zs, .struct fs⟩) (ha : s.get a = some (.ptr k 0)) (hf : fs[i]? = some ⟨j, sz, ag⟩) : EvTo x s (.fieldAddr t a i) (.ptr k j) :=
  ⟨fun _ hK => by simp only [ev, ht, hf]; refine on_of ha ?_; rw [← Nat.zero_add j] at hK; exact hK⟩
theorem e_faddr {j : Nat} (ht : find x.L t = some ⟨zs, .struct fs⟩) (ha : s.get a = some (.ptr k o)) (hf : fs[i]? = some f) (hj : o + f.off = j) : EvTo x s (.fieldAddr t a i) (.ptr k j) :=
  ⟨fun _ hK => by simp only [ev, ht, hf]; refine on_of ha ?_; rw [← hj] at hK; exact hK⟩
theorem e_faddrIn {bb bo j : Nat} (ht : find x.L t = some ⟨zs, .struct fs⟩) (ha : s.get a = some (.val (.pointer (some ⟨bb, bo, none⟩)))) (hf : fs[i]? = some f) (hj : bo + f.off = j) : EvTo x s (.fieldAddr t a i) (.val (.pointer (some ⟨bb, j, none⟩))) :=
  ⟨fun _ hK => by simp only [ev, ht, hf]; refine on_of ha ?_; rw [← hj] at hK; exact ⟨rfl, hK⟩⟩
theorem e_ixArr {j : Nat} (hb : s.get b = some (.int ik z)) (ha : s.get a = some (.ptr k o)) (ht : find x.L t = some ⟨zs, .array n es ea⟩) (h0 : 0 ≤ z) (h1 : z < (n : Int)) (hj : o + z.toNat * es = j) : EvTo x s (.indexAddr t a b) (.ptr k j) :=
  ⟨fun _ hK => by simp only [ev]; refine on_of hb (on_of ha ?_); simp only [evIndexAddr, ht]; rw [← hj] at hK; exact ⟨⟨h0, h1⟩, hK⟩⟩
theorem e_ixSl {j : Nat} (hb : s.get b = some (.int ik z)) (ha : s.get a = some (.slc k o n cc)) (ht : find x.L t = some ⟨zs, .slice e es ea⟩) (h0 : 0 ≤ z) (h1 : z < (n : Int)) (hj : o + z.toNat * es = j) : EvTo x s (.indexAddr t a b) (.ptr k j) :=
  ⟨fun _ hK => by simp only [ev]; refine on_of hb (on_of ha ?_); simp only [evIndexAddr, ht]; rw [← hj] at hK; exact ⟨⟨h0, h1⟩, hK⟩⟩
theorem e_ixIn {bb bo j : Nat} (hb : s.get b = some (.int ik z)) (ha : s.get a = some (.val (.slice (some ⟨bb, bo, none⟩) n cc))) (ht : find x.L t = some ⟨zs, .slice e es ea⟩) (h0 : 0 ≤ z) (h1 : z < (n : Int)) (hj : bo + z.toNat * es = j) : EvTo x s (.indexAddr t a b) (.val (.pointer (some ⟨bb, j, none⟩))) :=
  ⟨fun _ hK => by simp only [ev]; refine on_of hb (on_of ha ?_); simp only [evIndexAddr, ht]; rw [← hj] at hK; exact ⟨⟨h0, h1⟩, trivial, hK⟩⟩
theorem e_index1 (hb : s.get b = some (.int ik z)) (ht : find x.L t = some ⟨zs, .array n es false⟩) (ha : s.get a = some (.agg l)) (h0 : 0 ≤ z) (h1 : z < (n : Int)) (hv : nthC l (z.toNat * es) = some v) : EvTo x s (.index t a b) v :=
  ⟨fun _ hK => by simp only [ev]; refine on_of hb ?_; simp only [ht]; exact on_of ha ⟨⟨h0, h1⟩, on_of hv hK⟩⟩
theorem e_extract (ha : s.get a = some (.tup l)) (hv : nthC l i = some v) : EvTo x s (.extract a i) v := ⟨fun _ hK => on_of ha (on_of hv hK)⟩
theorem e_nil_ptr (ha : s.get a = some (.ptr k o)) : EvTo x s (.nilCheck a) (.ptr k o) := ⟨fun _ hK => on_of ha hK⟩
theorem e_nil_in (ha : s.get a = some (.val (.pointer (some ad)))) : EvTo x s (.nilCheck a) (.val (.pointer (some ad))) := ⟨fun _ hK => on_of ha hK⟩
theorem e_nil_clo {g : FuncId} (ha : s.get a = some (.clo g l)) : EvTo x s (.nilCheck a) (.clo g l) := ⟨fun _ hK => on_of ha hK⟩
theorem e_makeFunc {g : FuncId} {first caps : Array Operand} (hf : first.toList = []) (hc : argsS s caps.toList = some l) : EvTo x s (.makeFunc (.func g) first caps) (.clo g l) :=
  ⟨fun _ hK => by simp only [ev, hf, hc]; exact hK⟩
end
section
variable {args : Array Operand} {ts : Array TypeId} {t : TypeId} {zs : List SV} {k o n c e es : Nat} {ea : Bool} {sa : Option Addr}
theorem e_len (hq : argsS s args.toList = some [.slc k o n c]) (h0 : ts[0]? = some t) (ht : find x.L t = some ⟨zs, .slice e es ea⟩) : EvTo x s (.call ⟨.builtin .len, args, ts⟩) (.int .i64 n) :=
  ⟨fun _ hK => by simp only [ev, evBuiltin, hq, evLen, h0, Option.bind_some, ht]; exact hK⟩
theorem e_lenIn (hq : argsS s args.toList = some [.val (.slice sa n c)]) (h0 : ts[0]? = some t) (ht : find x.L t = some ⟨zs, .slice e es ea⟩) : EvTo x s (.call ⟨.builtin .len, args, ts⟩) (.int .i64 n) :=
  ⟨fun _ hK => by simp only [ev, evBuiltin, hq, evLen, h0, Option.bind_some, ht]; exact hK⟩
theorem e_cap (hq : argsS s args.toList = some [.slc k o n c]) (h0 : ts[0]? = some t) (ht : find x.L t = some ⟨zs, .slice e es ea⟩) : EvTo x s (.call ⟨.builtin .cap, args, ts⟩) (.int .i64 c) :=
  ⟨fun _ hK => by simp only [ev, evBuiltin, hq, evCap, h0, Option.bind_some, ht]; exact hK⟩
theorem e_min {ik : IntKind} {m z : Int} {l : List SV} (hq : argsS s args.toList = some (.int ik m :: l)) (hm : minS m ik l = some z) : EvTo x s (.call ⟨.builtin .min, args, ts⟩) (.int ik z) :=
  ⟨fun _ hK => by simp only [ev, evBuiltin, hq, hm]; exact hK⟩
theorem e_max {ik : IntKind} {m z : Int} {l : List SV} (hq : argsS s args.toList = some (.int ik m :: l)) (hm : maxS m ik l = some z) : EvTo x s (.call ⟨.builtin .max, args, ts⟩) (.int ik z) :=
  ⟨fun _ hK => by simp only [ev, evBuiltin, hq, hm]; exact hK⟩
end
end

/-! ### What is laid; what a call hands back -/
structure NewTo (L : Lay) (s : St) (op : Op) (c : List SV) (sh : Option (Nat × Nat)) : Prop where
  run : ∀ K : List SV → Option (Nat × Nat) → Prop, K c sh → evNew L s K op
theorem n_alloc {L : Lay} {s : St} {t : TypeId} {td : TD} {c : List SV} (ht : find L t = some ⟨c, td⟩) : NewTo L s (.alloc t) c none := ⟨fun _ hK => by simp only [evNew, ht]; exact hK⟩
theorem n_box {L : Lay} {s : St} {t : TypeId} {y : Operand} {v : SV} {c : List SV} (hy : s.get y = some v) (hc : cellsO v = some c) : NewTo L s (.box t y) c none :=
  ⟨fun _ hK => by obtain ⟨h1, h2⟩ := cellsO_eq hc; subst h2; simp only [evNew]; refine on_of hy ?_; simp only [h1]; exact hK⟩
theorem n_slice {L : Lay} {s : St} {t : TypeId} {len : Nat} {ps : Array (Nat × Operand)} {zs ze : List SV} {td : TD} {e es : Nat} {ea : Bool} {q : List (Nat × SV)} {l : List SV} (ht : find L t = some ⟨zs, .slice e es ea⟩) (he : find L e = some ⟨ze, td⟩) (hq : partsS s ps.toList = some q)
    (h1 : Nat.ble (len * es) 16777216 = true) (h2 : Nat.blt 0 (len * es) = true) (hf : fillS (fun i => some (i * es, es)) (repZ len ze) q = some l) : NewTo L s (.buildSlice t len ps) l (some (len, len)) :=
  ⟨fun _ hK => by simp only [evNew, ht, he, hq, h1, h2, hf]; exact hK⟩

structure CallTo (x : Cx) (s sm : St) (f : Operand) (as : Array Operand) (v : SV) : Prop where
  run : ∀ K : SV → Prop, K v → evCall x s sm f as K
theorem c_call {x : Cx} {s sm : St} {f : Operand} {as : Array Operand} {g : FuncId} {caps q : List SV} {v : Value} {u : SV} (hf : s.get f = some (.clo g caps)) (hq : argsS s as.toList = some q)
    (hc : ∀ r w, MemR x.D x.w0 r sm w → Con x.P g (denL r (q ++ caps)) w v) (hu : injO v = some u) : CallTo x s sm f as u :=
  ⟨fun K hK => by unfold evCall; refine on_of hf ?_; simp only [hq]; exact ⟨v, hc, by rw [injO_eq hu]; exact hK⟩⟩

/-! ### The next operation -/
/-- No guard, or one that is met. -/
def goes (ops : List Oper) (s : St) (g : Option (Nat × Bool)) : Option Bool :=
  match g with
  | none => some true
  | some (j, b) => match (nth ops j).bind (·.dst) with
    | none => none
    | some t => match find s.env t with
      | some (.tf c) => match c, b with
        | true, true => some true
        | false, false => some true
        | true, false => some false
        | false, true => some false
      | some .undef => some false
      | _ => none
theorem goes_guard {ops : List Oper} {o : Oper} {s : St} {y : Bool} {k : St → Bool → Prop} (h : goes ops s o.guard = some y) (hk : k s y) : guardS ops o s k := by
  unfold guardS
  unfold goes at h
  cases hg : o.guard with
  | none => simp only [hg, Option.some.injEq] at h; subst h; exact hk
  | some q =>
    obtain ⟨j, b⟩ := q
    simp only [hg] at h ⊢
    cases hj : (nth ops j).bind (·.dst) with
    | none => simp [hj] at h
    | some t =>
      simp only [hj] at h ⊢
      split at h
      · rename_i c hf
        rw [hf]
        split at h <;> (simp only [Option.some.injEq] at h; subst h; exact hk)
      · rename_i hf
        rw [hf]
        simp only [Option.some.injEq] at h; subst h; exact hk
      · cases h
theorem put_some {x : Cx} {s : St} {t : Nat} {v : SV} {K : St → Prop} (h1 : Nat.blt t x.n = true) (h2 : okV s.nb v = true) (hK : K ⟨(t, v) :: s.env, s.mem, s.nb⟩) : putS x s (some t) v K := by
  unfold putS; simp only [h1, h2]; exact hK
/-- Is it an operation that makes no memory, stores nothing and enters no function? -/
def plain : Op → Bool
  | .store .. | .alloc .. | .box .. | .buildSlice .. => false
  | .call ⟨.value _, _, _⟩ => false
  | .call ⟨.invoke _ _, _, _⟩ => false
  | _ => true
theorem spOp_plain {x : Cx} {o : Oper} {s : St} {K : St → Prop} (hp : plain o.op = true) (h : ev x.P x.L x.D x.w0 s (fun v => putS x s o.dst v K) o.op) : spOp x o s K := by
  obtain ⟨dst, op, ty, pos, after, guard⟩ := o
  unfold spOp
  cases op <;> first | exact h | (simp [plain] at hp; done) | skip
  case call c =>
    obtain ⟨cal, as, ts⟩ := c
    cases cal <;> first | exact h | (simp [plain] at hp)
theorem headOp_plain {x : Cx} {ops : List Oper} {m0 : List (Nat × List SV)} {j : Nat} {o : Oper} {tags : List (Nat × Nat)} {s : St} {K : List (Nat × Nat) → St → Prop} (hp : plain o.op = true)
    (h : ev x.P x.L x.D x.w0 ⟨s.env, m0, s.nb⟩ (fun v => putS x s o.dst v (K tags)) o.op) : headOp x ops m0 j o tags s K := by
  obtain ⟨dst, op, ty, pos, after, guard⟩ := o
  unfold headOp
  cases op <;> first | exact h | (simp [plain] at hp; done) | skip
  case call c =>
    obtain ⟨cal, as, ts⟩ := c
    cases cal <;> first | exact h | (simp [plain] at hp)

/-- The walk's own names for where it stands: they are not unfolded. -/
structure Sq (x : Cx) (ops l : List Oper) (s : St) (K : St → Prop) : Prop where
  run : spSeq x ops l s K
structure Hd (x : Cx) (ops : List Oper) (m0 : List (Nat × List SV)) (L : List Nat) (tags : List (Nat × Nat)) (s : St) (K : St → Prop) : Prop where
  run : spHead x ops m0 L tags s K
structure Dr (x : Cx) (ops : List Oper) (n : Nat) (L : List Nat) (s : St) (K : St → Prop) : Prop where
  run : spDraw x ops n L s K
section
variable {x : Cx} {ops l : List Oper} {env : List (Nat × SV)} {mem : List (Nat × List SV)} {nb t : Nat} {K : St → Prop} {op : Op} {ty : TypeId} {pos : String} {after : Array Edge} {g : Option (Nat × Bool)} {v : SV}
theorem q_nil {s : St} (h : K s) : Sq x ops [] s K := ⟨h⟩
theorem q_ev (hg : goes ops ⟨env, mem, nb⟩ g = some true) (hp : plain op = true) (he : EvTo x ⟨env, mem, nb⟩ op v) (h1 : Nat.blt t x.n = true) (h2 : okV nb v = true) (hk : Sq x ops l ⟨(t, v) :: env, mem, nb⟩ K) : Sq x ops (⟨some t, op, ty, pos, after, g⟩ :: l) ⟨env, mem, nb⟩ K := ⟨goes_guard (o := ⟨some t, op, ty, pos, after, g⟩) hg (spOp_plain hp (he.run _ (put_some h1 h2 hk.run)))⟩
theorem q_skip (hg : goes ops ⟨env, mem, nb⟩ g = some false) (h1 : Nat.blt t x.n = true) (hk : Sq x ops l ⟨(t, .undef) :: env, mem, nb⟩ K) : Sq x ops (⟨some t, op, ty, pos, after, g⟩ :: l) ⟨env, mem, nb⟩ K := ⟨goes_guard (o := ⟨some t, op, ty, pos, after, g⟩) hg (put_some h1 rfl hk.run)⟩
theorem q_skip' (hg : goes ops ⟨env, mem, nb⟩ g = some false) (hk : Sq x ops l ⟨env, mem, nb⟩ K) : Sq x ops (⟨none, op, ty, pos, after, g⟩ :: l) ⟨env, mem, nb⟩ K := ⟨goes_guard (o := ⟨none, op, ty, pos, after, g⟩) hg hk.run⟩
theorem q_alloc {e : TypeId} {c : List SV} (hg : goes ops ⟨env, mem, nb⟩ g = some true) (hn : NewTo x.L ⟨env, mem, nb⟩ (.alloc e) c none) (h1 : Nat.blt t x.n = true) (hc : okL nb c = true) (hk : Sq x ops l ⟨(t, .ptr nb 0) :: env, (nb, c) :: mem, nb + 1⟩ K) : Sq x ops (⟨some t, .alloc e, ty, pos, after, g⟩ :: l) ⟨env, mem, nb⟩ K := ⟨goes_guard (o := ⟨some t, .alloc e, ty, pos, after, g⟩) hg (hn.run (spOp.newK x ⟨some t, .alloc e, ty, pos, after, g⟩ ⟨env, mem, nb⟩ _) (by unfold spOp.newK; simp only [hc]; exact put_some (s := ⟨env, (nb, c) :: mem, nb + 1⟩) h1 (ok_svSh nb none) hk.run))⟩
theorem q_box {e : TypeId} {y : Operand} {c : List SV} (hg : goes ops ⟨env, mem, nb⟩ g = some true) (hn : NewTo x.L ⟨env, mem, nb⟩ (.box e y) c none) (h1 : Nat.blt t x.n = true) (hc : okL nb c = true) (hk : Sq x ops l ⟨(t, .ptr nb 0) :: env, (nb, c) :: mem, nb + 1⟩ K) : Sq x ops (⟨some t, .box e y, ty, pos, after, g⟩ :: l) ⟨env, mem, nb⟩ K := ⟨goes_guard (o := ⟨some t, .box e y, ty, pos, after, g⟩) hg (hn.run (spOp.newK x ⟨some t, .box e y, ty, pos, after, g⟩ ⟨env, mem, nb⟩ _) (by unfold spOp.newK; simp only [hc]; exact put_some (s := ⟨env, (nb, c) :: mem, nb + 1⟩) h1 (ok_svSh nb none) hk.run))⟩
theorem q_slice {e : TypeId} {n a b : Nat} {ps : Array (Nat × Operand)} {c : List SV} (hg : goes ops ⟨env, mem, nb⟩ g = some true) (hn : NewTo x.L ⟨env, mem, nb⟩ (.buildSlice e n ps) c (some (a, b))) (h1 : Nat.blt t x.n = true) (hc : okL nb c = true) (hk : Sq x ops l ⟨(t, .slc nb 0 a b) :: env, (nb, c) :: mem, nb + 1⟩ K) :
    Sq x ops (⟨some t, .buildSlice e n ps, ty, pos, after, g⟩ :: l) ⟨env, mem, nb⟩ K := ⟨goes_guard (o := ⟨some t, .buildSlice e n ps, ty, pos, after, g⟩) hg (hn.run (spOp.newK x ⟨some t, .buildSlice e n ps, ty, pos, after, g⟩ ⟨env, mem, nb⟩ _) (by unfold spOp.newK; simp only [hc]; exact put_some (s := ⟨env, (nb, c) :: mem, nb + 1⟩) h1 (ok_svSh nb (some (a, b))) hk.run))⟩
theorem q_store {e : TypeId} {p y : Operand} {k o : Nat} {u : SV} {ti : TI} {c vs c' : List SV} (hg : goes ops ⟨env, mem, nb⟩ g = some true) (hp : (⟨env, mem, nb⟩ : St).get p = some (.ptr k o)) (hy : (⟨env, mem, nb⟩ : St).get y = some u) (ht : find x.L e = some ti) (hm : find mem k = some c)
    (hvs : cellsO u = some vs) (h2 : Nat.beq vs.length ti.zs.length = true) (h3 : oneL vs = true) (h4 : okL nb vs = true) (h5 : splice c o vs = some c') (hk : Sq x ops l ⟨env, (k, c') :: mem, nb⟩ K) :
    Sq x ops (⟨none, .store e p y, ty, pos, after, g⟩ :: l) ⟨env, mem, nb⟩ K := ⟨goes_guard (o := ⟨none, .store e p y, ty, pos, after, g⟩) hg (by obtain ⟨h1, hv'⟩ := cellsO_eq hvs; subst hv'; refine on_of hp (on_of hy ?_); simp only [evStore, ht, hm, h1, h2, h3, h4, h5]; exact hk.run)⟩
theorem q_call {f : Operand} {as : Array Operand} {ts : Array TypeId} (hg : goes ops ⟨env, mem, nb⟩ g = some true) (hc : CallTo x ⟨env, mem, nb⟩ ⟨env, mem, nb⟩ f as v) (h1 : Nat.blt t x.n = true) (h2 : okV nb v = true) (hk : Sq x ops l ⟨(t, v) :: env, mem, nb⟩ K) :
    Sq x ops (⟨some t, .call ⟨.value f, as, ts⟩, ty, pos, after, g⟩ :: l) ⟨env, mem, nb⟩ K := ⟨goes_guard (o := ⟨some t, .call ⟨.value f, as, ts⟩, ty, pos, after, g⟩) hg (hc.run (fun v => putS x ⟨env, mem, nb⟩ (some t) v fun s'' => spSeq x ops l s'' K) (put_some (s := ⟨env, mem, nb⟩) h1 h2 hk.run))⟩
theorem q_call' {f : Operand} {as : Array Operand} {ts : Array TypeId} (hg : goes ops ⟨env, mem, nb⟩ g = some true) (hc : CallTo x ⟨env, mem, nb⟩ ⟨env, mem, nb⟩ f as v) (hk : Sq x ops l ⟨env, mem, nb⟩ K) :
    Sq x ops (⟨none, .call ⟨.value f, as, ts⟩, ty, pos, after, g⟩ :: l) ⟨env, mem, nb⟩ K := ⟨goes_guard (o := ⟨none, .call ⟨.value f, as, ts⟩, ty, pos, after, g⟩) hg (hc.run (fun v => putS x ⟨env, mem, nb⟩ none v fun s'' => spSeq x ops l s'' K) hk.run)⟩
theorem guard_split {o : Oper} {j d : Nat} {b c : Bool} {k : St → Bool → Prop} (hg : o.guard = some (j, b)) (hj : (nth ops j).bind (·.dst) = some d) (hf : find env d = some (.bool c))
    (h1 : c = true → guardS ops o ⟨(d, .tf true) :: env, mem, nb⟩ k) (h2 : c = false → guardS ops o ⟨(d, .tf false) :: env, mem, nb⟩ k) : guardS ops o ⟨env, mem, nb⟩ k := by
  unfold guardS at h1 h2 ⊢
  simp only [hg, hj, hf] at h1 h2 ⊢
  have e1 : ∀ v : SV, find ((d, v) :: env) d = some v := fun v => by rw [find_cons, if_pos rfl]
  simp only [e1] at h1 h2
  exact ⟨fun hc => by have := h1 hc; cases b <;> exact this, fun hc => by have := h2 hc; cases b <;> exact this⟩
theorem q_split {o : Oper} {j d : Nat} {b c : Bool} (hg : o.guard = some (j, b)) (hj : (nth ops j).bind (·.dst) = some d) (hf : find env d = some (.bool c))
    (h1 : c = true → Sq x ops (o :: l) ⟨(d, .tf true) :: env, mem, nb⟩ K) (h2 : c = false → Sq x ops (o :: l) ⟨(d, .tf false) :: env, mem, nb⟩ K) : Sq x ops (o :: l) ⟨env, mem, nb⟩ K := ⟨guard_split hg hj hf (fun e => (h1 e).run) (fun e => (h2 e).run)⟩
end
section
variable {x : Cx} {ops : List Oper} {m0 : List (Nat × List SV)} {L : List Nat} {tags : List (Nat × Nat)} {env : List (Nat × SV)} {mem : List (Nat × List SV)} {nb t j : Nat} {K : St → Prop} {op : Op} {ty : TypeId} {pos : String} {after : Array Edge} {g : Option (Nat × Bool)} {v : SV}
theorem h_nil {s : St} (h : K s) : Hd x ops m0 [] tags s K := ⟨h⟩
theorem head_of {o : Oper} {s : St} (ho : nth ops j = some o) (h : guardS ops o s fun s' y => match y with
      | true => headOp x ops m0 j o tags s' fun tags' s'' => spHead x ops m0 L tags' s'' K
      | false => putS x s' o.dst .undef fun s'' => spHead x ops m0 L tags s'' K) : spHead x ops m0 (j :: L) tags s K := by
  unfold spHead; simp only [ho]; exact h
theorem h_ev (ho : nth ops j = some ⟨some t, op, ty, pos, after, g⟩) (hg : goes ops ⟨env, mem, nb⟩ g = some true) (hp : plain op = true) (he : EvTo x ⟨env, m0, nb⟩ op v) (h1 : Nat.blt t x.n = true) (h2 : okV nb v = true) (hk : Hd x ops m0 L tags ⟨(t, v) :: env, mem, nb⟩ K) : Hd x ops m0 (j :: L) tags ⟨env, mem, nb⟩ K := ⟨head_of ho (goes_guard (o := ⟨some t, op, ty, pos, after, g⟩) hg (headOp_plain hp (he.run _ (put_some (s := ⟨env, mem, nb⟩) h1 h2 hk.run))))⟩
theorem h_skip (ho : nth ops j = some ⟨some t, op, ty, pos, after, g⟩) (hg : goes ops ⟨env, mem, nb⟩ g = some false) (h1 : Nat.blt t x.n = true) (hk : Hd x ops m0 L tags ⟨(t, .undef) :: env, mem, nb⟩ K) : Hd x ops m0 (j :: L) tags ⟨env, mem, nb⟩ K := ⟨head_of ho (goes_guard (o := ⟨some t, op, ty, pos, after, g⟩) hg (put_some h1 rfl hk.run))⟩
theorem h_alloc {e : TypeId} {c : List SV} (ho : nth ops j = some ⟨some t, .alloc e, ty, pos, after, g⟩) (hg : goes ops ⟨env, mem, nb⟩ g = some true) (hn : NewTo x.L ⟨env, mem, nb⟩ (.alloc e) c none) (h1 : Nat.blt t x.n = true) (hc : okL nb c = true)
    (hk : Hd x ops m0 L ((nb, j) :: tags) ⟨(t, .ptr nb 0) :: env, (nb, c) :: mem, nb + 1⟩ K) : Hd x ops m0 (j :: L) tags ⟨env, mem, nb⟩ K := ⟨head_of ho (goes_guard (o := ⟨some t, .alloc e, ty, pos, after, g⟩) hg (hn.run (headOp.newK x j ⟨some t, .alloc e, ty, pos, after, g⟩ tags ⟨env, mem, nb⟩ _) (by unfold headOp.newK; simp only [hc]; exact put_some (s := ⟨env, (nb, c) :: mem, nb + 1⟩) h1 (ok_svSh nb none) hk.run)))⟩
theorem h_box {e : TypeId} {y : Operand} {c : List SV} (ho : nth ops j = some ⟨some t, .box e y, ty, pos, after, g⟩) (hg : goes ops ⟨env, mem, nb⟩ g = some true) (hn : NewTo x.L ⟨env, mem, nb⟩ (.box e y) c none) (h1 : Nat.blt t x.n = true) (hc : okL nb c = true)
    (hk : Hd x ops m0 L ((nb, j) :: tags) ⟨(t, .ptr nb 0) :: env, (nb, c) :: mem, nb + 1⟩ K) : Hd x ops m0 (j :: L) tags ⟨env, mem, nb⟩ K := ⟨head_of ho (goes_guard (o := ⟨some t, .box e y, ty, pos, after, g⟩) hg (hn.run (headOp.newK x j ⟨some t, .box e y, ty, pos, after, g⟩ tags ⟨env, mem, nb⟩ _) (by unfold headOp.newK; simp only [hc]; exact put_some (s := ⟨env, (nb, c) :: mem, nb + 1⟩) h1 (ok_svSh nb none) hk.run)))⟩
theorem h_slice {e : TypeId} {n a b : Nat} {ps : Array (Nat × Operand)} {c : List SV} (ho : nth ops j = some ⟨some t, .buildSlice e n ps, ty, pos, after, g⟩) (hg : goes ops ⟨env, mem, nb⟩ g = some true) (hn : NewTo x.L ⟨env, mem, nb⟩ (.buildSlice e n ps) c (some (a, b))) (h1 : Nat.blt t x.n = true) (hc : okL nb c = true)
    (hk : Hd x ops m0 L ((nb, j) :: tags) ⟨(t, .slc nb 0 a b) :: env, (nb, c) :: mem, nb + 1⟩ K) : Hd x ops m0 (j :: L) tags ⟨env, mem, nb⟩ K := ⟨head_of ho (goes_guard (o := ⟨some t, .buildSlice e n ps, ty, pos, after, g⟩) hg (hn.run (headOp.newK x j ⟨some t, .buildSlice e n ps, ty, pos, after, g⟩ tags ⟨env, mem, nb⟩ _) (by unfold headOp.newK; simp only [hc]; exact put_some (s := ⟨env, (nb, c) :: mem, nb + 1⟩) h1 (ok_svSh nb (some (a, b))) hk.run)))⟩
theorem h_call {f : Operand} {as : Array Operand} {ts : Array TypeId} (ho : nth ops j = some ⟨some t, .call ⟨.value f, as, ts⟩, ty, pos, after, g⟩) (hg : goes ops ⟨env, mem, nb⟩ g = some true) (hc : CallTo x ⟨env, mem, nb⟩ ⟨env, vis ops j tags mem, nb⟩ f as v) (h1 : Nat.blt t x.n = true) (h2 : okV nb v = true)
    (hk : Hd x ops m0 L tags ⟨(t, v) :: env, mem, nb⟩ K) : Hd x ops m0 (j :: L) tags ⟨env, mem, nb⟩ K := ⟨head_of ho (goes_guard (o := ⟨some t, .call ⟨.value f, as, ts⟩, ty, pos, after, g⟩) hg (hc.run (fun v => putS x ⟨env, mem, nb⟩ (some t) v fun s'' => spHead x ops m0 L tags s'' K) (put_some (s := ⟨env, mem, nb⟩) h1 h2 hk.run)))⟩
theorem h_split {o : Oper} {i d : Nat} {b c : Bool} (ho : nth ops j = some o) (hg : o.guard = some (i, b)) (hj : (nth ops i).bind (·.dst) = some d) (hf : find env d = some (.bool c))
    (h1 : c = true → Hd x ops m0 (j :: L) tags ⟨(d, .tf true) :: env, mem, nb⟩ K) (h2 : c = false → Hd x ops m0 (j :: L) tags ⟨(d, .tf false) :: env, mem, nb⟩ K) : Hd x ops m0 (j :: L) tags ⟨env, mem, nb⟩ K := ⟨by
  refine head_of ho (guard_split hg hj hf (fun hc => ?_) (fun hc => ?_))
  · have := (h1 hc).run; unfold spHead at this; simp only [ho] at this; exact this
  · have := (h2 hc).run; unfold spHead at this; simp only [ho] at this; exact this⟩
theorem q_in {l : List Oper} {s : St} (h : Sq x ops l s K) : spSeq x ops l s K := h.run
theorem d_start {n : Nat} {L : List Nat} {m : List (Nat × List SV)} {tail : List Oper} (ht : dropO n ops = some tail) (h : Hd x ops m L [] ⟨env, m, nb⟩ fun s' => spSeq x ops tail s' K) : Dr x ops n L ⟨env, m, nb⟩ K := by
  have := dropO_eq ht
  subst this
  exact ⟨h.run⟩
end

/-! ### Code -/
section
variable {x : Cx} {Q : Exit → St → Prop} {s : St} {c d : Operand} {A B : Code}
theorem k_region (hL : LayOk x.P x.L) {id : Nat} {l : List Oper} (h : Sq x l l s fun s' => Q .normal s') : Tr x (.region id l.toArray false) Q s := tr_region hL h.run
theorem k_draw (hL : LayOk x.P x.L) (hm : x.P.follows .mixedOrders = true) {id : Nat} {l : List Oper} (n : Nat) (L : List Nat) (_ : headLen l = n) (hB : regionB .any l.toArray n L = true) (h : Dr x l n L s fun s' => Q .normal s') : Tr x (.region id l.toArray true) Q s :=
  tr_draw hL hm n L hB h.run
theorem k_then {next : St → Prop} (h : next s) : thenS next Q .normal s := h
theorem k_then_ret {next : St → Prop} (h : Q .ret s) : thenS next Q .ret s := h
theorem k_then_exit {next : St → Prop} {i : Nat} (h : Q (.exit i) s) : thenS next Q (.exit i) s := h
theorem k_block {id : Nat} (h : Q .normal s) : blockS id Q .normal s := h
theorem k_block_ret {id : Nat} (h : Q .ret s) : blockS id Q .ret s := h
theorem k_block_exit {id : Nat} (h : Q .normal s) : blockS id Q (.exit id) s := by unfold blockS; simp only [Nat.beq_refl]; exact h
theorem k_block_other {id i : Nat} (hi : Nat.beq i id = false) (h : Q (.exit i) s) : blockS id Q (.exit i) s := by unfold blockS; simp only [hi]; exact h
theorem k_scope (h : Q .normal s) : noGotoS Q .normal s := h
theorem k_scope_ret (h : Q .ret s) : noGotoS Q .ret s := h
theorem k_scope_exit {i : Nat} (h : Q (.exit i) s) : noGotoS Q (.exit i) s := h
theorem k_cond_t (hc : s.get c = some (.tf true)) (h : Tr x A Q s) : Tr x (.cond c A B) Q s := tr_cond (by rw [hc]; exact h)
theorem k_cond_f (hc : s.get c = some (.tf false)) (h : Tr x B Q s) : Tr x (.cond c A B) Q s := tr_cond (by rw [hc]; exact h)
theorem k_cond {b : Bool} (hc : s.get c = some (.bool b)) (h1 : b = true → Tr x A Q s) (h2 : b = false → Tr x B Q s) : Tr x (.cond c A B) Q s := tr_cond (by rw [hc]; exact ⟨h1, h2⟩)
theorem k_rounds {n : Nat} (h : Tr x A (thenS (TrR x A Q n) Q) s) : TrR x A Q (n + 1) s := h
end
/-- The end of a function: one result in a slot; one in memory. -/
def EndK (_ : Cx) (val : Value) : SV → St → Prop := fun u _ => okV 0 u = true ∧ den id u = val
/-- Any results, loaded as the walk knows them. -/
def resO (x : Cx) (s : St) : ResultVar → Option SV
  | .tmp t => find s.env t
  | .cell t ty => match find s.env t with
    | some (.ptr k o) => match find x.L ty, find s.mem k with
      | some ti, some c => match ti.td.agg with
        | true => match takeC (dropC c o) ti.zs.length with
          | some l => some (.agg l)
          | none => none
        | false => nthC c o
      | _, _ => none
    | _ => none
def resOs (x : Cx) (s : St) : List ResultVar → Option (List SV)
  | [] => some []
  | v :: l => match resO x s v, resOs x s l with
    | some u, some r => some (u :: r)
    | _, _ => none
theorem resO_sound {x : Cx} {s : St} {rv : ResultVar} {v : SV} {K : SV → Prop} (h : resO x s rv = some v) (hK : K v) : resV x s rv K := by
  cases rv with
  | tmp t => exact on_of h hK
  | cell t ty =>
    cases hf : find s.env t with
    | none => simp [resO, hf] at h
    | some p =>
      refine on_of hf ?_
      cases p <;> first | (simp [resO, hf] at h; done) | skip
      case ptr k o =>
        cases ht : find x.L ty with
        | none => simp [resO, hf, ht] at h
        | some ti =>
          cases hm : find s.mem k with
          | none => simp [resO, hf, ht, hm] at h
          | some c =>
            simp only [resO, hf, ht, hm] at h
            simp only [evLoad, ht, hm]
            cases hg : ti.td.agg with
            | true =>
              simp only [hg] at h ⊢
              cases hl : takeC (dropC c o) ti.zs.length with
              | none => simp [hl] at h
              | some l => simp only [hl, Option.some.injEq] at h ⊢; subst h; exact hK
            | false => simp only [hg] at h ⊢; exact on_of h hK
theorem resOs_sound {x : Cx} {s : St} : ∀ {rs : List ResultVar} {l acc : List SV} {K : List SV → Prop}, resOs x s rs = some l → K (acc ++ l) → resL x s rs acc K
  | [], l, acc, K, h, hK => by simp only [resOs, Option.some.injEq] at h; subst h; simpa [resL] using hK
  | v :: rs, l, acc, K, h, hK => by
    unfold resOs at h
    split at h
    · rename_i u r hu hr
      cases h
      unfold resL
      exact resO_sound hu (resOs_sound hr (by simpa using hK))
    · cases h
theorem r_end {x : Cx} {s : St} {rs : List ResultVar} {v : SV} {val : Value} (h : resOs x s rs = some [v]) (h0 : okV 0 v = true) (hv : den id v = val) : resS x s rs (fun u => EndK x val u s) :=
  resOs_sound h ⟨h0, hv⟩
theorem r_end2 {x : Cx} {s : St} {rs : List ResultVar} {u v : SV} {l : List SV} {val : Value} (h : resOs x s rs = some (u :: v :: l)) (h0 : okL 0 (u :: v :: l) = true) (hv : den id (.tup (u :: v :: l)) = val) : resS x s rs (fun u => EndK x val u s) :=
  resOs_sound h ⟨h0, hv⟩
theorem r_end0 {x : Cx} {s : St} {val : Value} (hv : den id (.tup []) = val) : resS x s [] (fun u => EndK x val u s) := ⟨rfl, hv⟩
theorem k_end_ret {x : Cx} {rs : List ResultVar} {s : St} {K : SV → St → Prop} (h : resS x s rs fun v => K v s) : endS x rs K .ret s := h
theorem k_end {x : Cx} {rs : List ResultVar} {s : St} {K : SV → St → Prop} (h : resS x s rs fun v => K v s) : endS x rs K .normal s := h
theorem con_by {P : Program} {L : Lay} {f : Nat} {fn : Func} {c : Code} {n : Nat} {rs : List ResultVar} {args : List Value} {env : List (Nat × SV)} {v : Value} {w : World} (hL : LayOk P L) (hf : P.funcs[f]? = some fn) (hb : fn.body = some c) (hc : callB P f = true)
    (hn : fn.ntmps = n) (hrs : fn.results = rs.toArray) (hlen : Nat.ble args.length n = true) (he : argO 0 args = some env)
    (h : Tr ⟨P, L, fun _ => False, w, n, 0, fun _ => 0⟩ c (endS ⟨P, L, fun _ => False, w, n, 0, fun _ => 0⟩ rs (EndK ⟨P, L, fun _ => False, w, n, 0, fun _ => 0⟩ v)) ⟨env, [], 0⟩) : Con P f args w v := by
  have := argO_eq he
  subst this
  exact con_of hL hf hb hc hn hrs hlen h

theorem nand2 {a b c d : Int} (h : (a == b && c == d) = false) : ¬ (a = b ∧ c = d) := by simpa using h
theorem and2 {a b c d : Int} (h : (a == b && c == d) = true) : a = b ∧ c = d := by simpa using h
theorem nnand2 {a b c d : Int} (h : (!(a == b && c == d)) = false) : a = b ∧ c = d := and2 (not_f h)
theorem nnand2' {a b c d : Int} (h : (!(a == b && c == d)) = true) : ¬ (a = b ∧ c = d) := nand2 (not_t h)
/-! ### What is handed back -/
theorem fin_int {r : Nat → Nat} {k : IntKind} {a b : Int} (h : a = b) : den r (.int k a) = .int k b := by rw [h]; rfl
theorem fin_bool {r : Nat → Nat} {a b : Bool} (h : a = b) : den r (.bool a) = .bool b := by rw [h]; rfl
theorem fin_tf {r : Nat → Nat} {a b : Bool} (h : a = b) : den r (.tf a) = .bool b := by rw [h]; rfl
/-- A struct of two integers. -/
def ag (p : Int × Int) : Value := .agg #[.int .i64 p.1, .int .i64 p.2]
theorem fin_ag {r : Nat → Nat} {a b : Int} {p : Int × Int} (h : (a, b) = p) : den r (.agg [.int .i64 a, .int .i64 b]) = ag p := by rw [← h]; rfl
/-- A result and an error's number. -/
theorem fin_two {r : Nat → Nat} {u v : SV} {a b : Value} (h1 : den r u = a) (h2 : den r v = b) : den r (.tup [u, v]) = .tuple #[a, b] := by subst h1; subst h2; rfl

/-! ### Less is known: step by step -/
theorem subE_nil {nb : Nat} {s : St} : subE nb [] s := trivial
theorem subE_cons {nb k : Nat} {u v : SV} {l : List (Nat × SV)} {s : St} (hf : find s.env k = some u) (he : u = v) (hk : okV nb v = true) (h : subE nb l s) : subE nb ((k, v) :: l) s := ⟨⟨u, hf, he, hk⟩, h⟩
theorem subM_nil {nb : Nat} {s : St} : subM nb [] s := trivial
theorem subM_cons {nb k : Nat} {u v : List SV} {l : List (Nat × List SV)} {s : St} (hf : find s.mem k = some u) (he : u = v) (hk : Nat.blt k nb = true) (ho : okL nb v = true) (h : subM nb l s) : subM nb ((k, v) :: l) s := ⟨⟨u, hf, he, hk, ho⟩, h⟩
theorem sub_of {x : Cx} {env : List (Nat × SV)} {mem : List (Nat × List SV)} {nb : Nat} {s : St} (h1 : Nat.ble nb s.nb = true) (h2 : Nat.ble x.kb nb = true) (he : subE nb env s) (hm : subM nb mem s) : sub x ⟨env, mem, nb⟩ s := ⟨⟨h1, h2⟩, he, hm⟩
theorem int_eq {k : IntKind} {a b : Int} (h : a = b) : SV.int k a = SV.int k b := by rw [h]
theorem bool_eq {a b : Bool} (h : a = b) : SV.bool a = SV.bool b := by rw [h]
theorem agg2_eq {k k' : IntKind} {a b a' b' : Int} (h : a = a') (h' : b = b') : SV.agg [.int k a, .int k' b] = SV.agg [.int k a', .int k' b'] := by rw [h, h']
/-- Facts of the memory before that still hold. -/
theorem MemR.heap {w0 : World} {r : Nat → Nat} {s : St} {w : World} (h : MemR (fun _ => False) w0 r s w) {b : Nat} {o : Obj} (hb : w0.heap[b]? = some o) : w.heap[b]? = some o :=
  (grown_keeps (h.2.toGrown fun _ h => h) (Array.getElem?_eq_some_iff.1 hb).1).trans hb
theorem MemR.has {D : Nat → Prop} {w0 : World} {r : Nat → Nat} {s : St} {w : World} (h : MemR D w0 r s w) {k : Nat} {c : List SV} (hk : find s.mem k = some c) {cs : Array Value} (hc : (denL r c).toArray = cs) : ∃ t, w.heap[r k]? = some (.cells cs t) := hc ▸ h.1 k c hk
end Go.Proofs.Ytbcoanbjhbppcaa
