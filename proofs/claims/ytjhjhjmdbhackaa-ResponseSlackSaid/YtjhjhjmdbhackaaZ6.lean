/- Walks over lists, sixth part: new blocks, stores. No condition on any program. -/
import Derived.Test.YtjhjhjmdbhackaaZ5
namespace Go.Proofs.Ytjhjhjmdbhackaa
set_option linter.unusedSimpArgs false
set_option linter.unusedSectionVars false
set_option linter.unusedVariables false
open Go.RowKit

/-! ### New blocks -/
def svSh (nb : Nat) : Option (Nat × Nat) → SV
  | none => .ptr nb 0
  | some (n, c) => .slc nb 0 n c
theorem den_svSh (V : Vl) (nb b : Nat) (sh : Option (Nat × Nat)) : den (V.blk nb b) (svSh nb sh) = shV sh b := by
  cases sh <;> simp [svSh, den, shV, Vl.blk, upd_self]
theorem ok_svSh (nb : Nat) (sh : Option (Nat × Nat)) : okV (nb + 1) (svSh nb sh) = true := by
  cases sh <;> simp [svSh, okV, Nat.blt_eq]
theorem cells_zero {P : Program} {t : Nat} {ti : TI} (ht : TIok P t ti) : ti.zval.cells = ti.zero.toArray := by
  unfold TI.zval
  have h2 := ht.2.1
  cases hg : ti.td.agg with
  | true => rfl
  | false =>
    simp only [hg] at h2 ⊢
    obtain ⟨h3, h4⟩ := h2
    obtain ⟨v, hv⟩ := List.length_eq_one_iff.1 h3
    rw [h4, hv]; rfl
/-- So many copies. -/
def repZ : Nat → List SV → List SV
  | 0, _ => []
  | n + 1, l => l ++ repZ n l
theorem repZ_den (V : Vl) (l : List SV) (d : Value) (hl : 0 < l.length) : ∀ n, denL V (repZ n l) = (List.range (n * l.length)).map fun i => (denL V l).getD (i % l.length) d
  | 0 => by simp [repZ, denL]
  | n + 1 => by
    rw [repZ, denL_append, repZ_den V l d hl n, Nat.succ_mul, Nat.add_comm, List.range_add, List.map_append, List.map_map]
    congr 1
    · apply List.ext_getElem?
      intro i
      by_cases hi : i < l.length
      · have : i < (denL V l).length := by rw [denL_length]; exact hi
        simp [hi, Nat.mod_eq_of_lt hi, List.getD, this]
      · have : (denL V l).length ≤ i := by rw [denL_length]; omega
        simp [List.getElem?_eq_none this, hi]
    · apply List.map_congr_left
      intro i _
      simp
/-- The operation lays a block of these cells. -/
structure NewTo (x : Cx) (s : St) (op : Op) (c : List SV) (sh : Option (Nat × Nat)) : Prop where
  run : LayOk x.P x.L → ∀ V a, EnvR V s a → V.One → ∃ t, ∀ w dst ty pos after guard, isAlloc ⟨dst, op, ty, pos, after, guard⟩ = true ∧ (execOp a.eval ⟨dst, op, ty, pos, after, guard⟩).run x.P w = .ok (.value (shV sh w.heap.size)) (w.alloc (.cells (denL V c).toArray t))
section
variable {x : Cx} {s : St}
theorem n_alloc {t : TypeId} {td : TD} {by_ : Nat} {c : List SV} (ht : find x.L t = some ⟨c, td, by_⟩) : NewTo x s (.alloc t) c none :=
  ⟨fun hL V a he hV => ⟨t, fun w _ _ _ _ _ => ⟨rfl, by
    have hti := hL.at ht
    obtain ⟨i, h1, h2, h3, _⟩ := hti.info
    have := hti.zs V
    simp only at this
    simp only [execOp, Instr.alloc, Sem.run_bind, r_zero h1 h3, Result.andThen_ok, newVar, newRow, cells_zero hti, ← this]
    rfl⟩⟩⟩
theorem n_box {t : TypeId} {y : Operand} {v : SV} {c : List SV} (hy : s.get y = some v) (hc : cellsO v = some c) : NewTo x s (.box t y) c none :=
  ⟨fun hL V a he hV => ⟨t, fun w _ _ _ _ _ => ⟨rfl, by
    simp only [execOp, Instr.box, Sem.run_bind, newVar, newRow, he.get hy, cellsO_den hV hc]
    rfl⟩⟩⟩
theorem n_slice {t : TypeId} {len : Nat} {ps : Array (Nat × Operand)} {zs ze : List SV} {td : TD} {b1 b2 e es : Nat} {ea : Bool} {q : List (Nat × SV)} {l : List SV} (ht : find x.L t = some ⟨zs, .slice e es ea, b1⟩) (he : find x.L e = some ⟨ze, td, b2⟩) (hq : partsS s ps.toList = some q)
    (hb : Nat.ble (len * es) 16777216 = true) (hb2 : Nat.blt 0 (len * es) = true) (hf : fillS (fun i => some (i * es, es)) (repZ len ze) q = some l) : NewTo x s (.buildSlice t len ps) l (some (len, len)) :=
  ⟨fun hL V a hen hV => ⟨e, fun w _ _ _ _ _ => ⟨rfl, by
    obtain ⟨d, h4, h5⟩ := (hL.at ht).desc
    obtain ⟨i, de, rfl, e2, e3, e4, e5⟩ := td_slice h5
    have hte' := hL.at he
    obtain ⟨i', g1, g2, g3, _⟩ := hte'.info
    have : i' = i := Option.some.inj (g1.symm.trans e2)
    subst this
    have hz : ¬ len * es > 16777216 := by have := Nat.le_of_ble_eq_true hb; omega
    have hne : ¬ len * es = 0 := by simp [Nat.blt_eq] at hb2; omega
    have ff := fill_sound hV hf
    have pe : ((ps.map fun (x : Nat × Operand) => (x.1, a.eval x.2)).toList) = q.map fun x => (x.1, den V x.2) := by simp [parts_eval hen hq]
    have el : ze.length = es := by have := TI.zero_len ⟨ze, td, b2⟩; simp only at this; rw [← this, ← g2, e3]
    have hp' : 0 < es := Nat.pos_of_ne_zero fun e0 => hne (by rw [e0, Nat.mul_zero])
    have zs' := hte'.zs V
    have zl := TI.zero_len ⟨ze, td, b2⟩
    simp only at zs' zl
    have ez : denL V (repZ len ze) = (List.range (len * es)).map fun i => (TI.zero ⟨ze, td, b2⟩).getD (i % (TI.zero ⟨ze, td, b2⟩).length) Go.undef := by
      rw [repZ_den V ze Go.undef (by rw [el]; exact hp') len, el, zs', zl, el]
    rw [ez] at ff
    have zz : (Array.range (len * es)).map (fun i => (TI.zero ⟨ze, td, b2⟩).toArray[i % (TI.zero ⟨ze, td, b2⟩).toArray.size]!) = ((List.range (len * es)).map fun i => (TI.zero ⟨ze, td, b2⟩).getD (i % (TI.zero ⟨ze, td, b2⟩).length) Go.undef).toArray := by
      apply Array.ext'
      simp only [Array.toList_map, Array.toList_range]
      refine List.map_congr_left fun i _ => ?_
      have hlt : i % (TI.zero ⟨ze, td, b2⟩).length < (TI.zero ⟨ze, td, b2⟩).length := Nat.mod_lt _ (by rw [zl, el]; exact hp')
      simp [List.getD, hlt]
    simp only [execOp, Instr.buildSlice, Sem.run_bind, r_underlying h4, Result.andThen_ok, r_sizeOf e2, e3]
    rw [if_neg hz]
    simp only [Sem.run_bind, if_neg hne, r_zero e2 g3, Result.andThen_ok, Sem.run_pure, cells_zero hte', zz]
    have ff' : Instr.fill (fun i => some (i * es, es)) (List.map (fun i => (TI.zero ⟨ze, td, b2⟩).getD (i % (TI.zero ⟨ze, td, b2⟩).length) Go.undef) (List.range (len * es))).toArray (ps.map fun (x : Nat × Operand) => (x.1, a.eval x.2)).toList = some (denL V l).toArray := by rw [pe]; exact ff
    simp only [ff', Sem.run_bind, newRow]
    rfl⟩⟩⟩
end
section
variable {x : Cx} {ops l : List Oper} {env : List (Nat × SV)} {mem : List (Nat × MB)} {ro : List (Nat × RO)} {nb t : Nat} {K : St → Prop} {op : Op} {ty : TypeId} {pos : String} {after : Array Edge} {g : Option (Nat × Bool)} {v : SV}
theorem q_new {sh : Option (Nat × Nat)} {c : List SV} (hg : goes ops env g = some true) (hn : NewTo x ⟨env, mem, ro, nb⟩ op c sh) (h1 : Nat.blt t x.n = true) (hc : okL nb c = true)
    (hk : Sq x ops l ⟨(t, svSh nb sh) :: env, (nb, .cells c) :: mem, ro, nb + 1⟩ K) : Sq x ops (⟨some t, op, ty, pos, after, g⟩ :: l) ⟨env, mem, ro, nb⟩ K :=
  sq_step (fun s' => s' = ⟨(t, svSh nb sh) :: env, (nb, .cells c) :: mem, ro, nb + 1⟩) hg (fun hL Q V a w hr => by
    obtain ⟨tt, ht⟩ := hn.run hL V a hr.env hr.ents.one
    unfold Oper.wp
    rw [(ht w _ _ _ _ _).2, ← den_svSh V nb w.heap.size sh]
    exact ⟨_, _, rfl, (hr.new hc tt).put h1 (ok_svSh nb sh)⟩) (fun s' e => by subst e; exact hk)
theorem q_alloc {e : TypeId} {c : List SV} (hg : goes ops env g = some true) (hn : NewTo x ⟨env, mem, ro, nb⟩ (.alloc e) c none) (h1 : Nat.blt t x.n = true) (hc : okL nb c = true)
    (hk : Sq x ops l ⟨(t, .ptr nb 0) :: env, (nb, .cells c) :: mem, ro, nb + 1⟩ K) : Sq x ops (⟨some t, .alloc e, ty, pos, after, g⟩ :: l) ⟨env, mem, ro, nb⟩ K := q_new hg hn h1 hc hk
theorem q_box {e : TypeId} {y : Operand} {c : List SV} (hg : goes ops env g = some true) (hn : NewTo x ⟨env, mem, ro, nb⟩ (.box e y) c none) (h1 : Nat.blt t x.n = true) (hc : okL nb c = true)
    (hk : Sq x ops l ⟨(t, .ptr nb 0) :: env, (nb, .cells c) :: mem, ro, nb + 1⟩ K) : Sq x ops (⟨some t, .box e y, ty, pos, after, g⟩ :: l) ⟨env, mem, ro, nb⟩ K := q_new hg hn h1 hc hk
theorem q_slice {e : TypeId} {n a b : Nat} {ps : Array (Nat × Operand)} {c : List SV} (hg : goes ops env g = some true) (hn : NewTo x ⟨env, mem, ro, nb⟩ (.buildSlice e n ps) c (some (a, b))) (h1 : Nat.blt t x.n = true) (hc : okL nb c = true)
    (hk : Sq x ops l ⟨(t, .slc nb 0 a b) :: env, (nb, .cells c) :: mem, ro, nb + 1⟩ K) : Sq x ops (⟨some t, .buildSlice e n ps, ty, pos, after, g⟩ :: l) ⟨env, mem, ro, nb⟩ K := q_new hg hn h1 hc hk
end

/-! ### Stores -/
/-- A block of the walk's own has new content. -/
theorem Ents.upd {D0 : Nat → Prop} {V : Vl} {s : St} {w w' : World} (h : Ents D0 V s w) (e' : List (Nat × SV)) {k : Nat} {m m' : MB} (hk : find s.mem k = some m) (ha : aliveB V k m) (ha' : aliveB V k m') (hok : okM s.nb m' = true) (hsz : w.heap.size ≤ w'.heap.size)
    (same : ∀ b, b < w.heap.size → b ≠ V.r k → w'.heap[b]? = w.heap[b]?) (hat : MBat V w' (fun b => Dl V s.mem b ∨ D0 b) k m') : Ents D0 V ⟨e', (k, m') :: s.mem, s.ro, s.nb⟩ w' := by
  have hlv : ∀ i, Lv V ((k, m') :: s.mem) i ↔ Lv V s.mem i := by
    intro i
    unfold Lv
    simp only [find_cons]
    constructor
    · rintro ⟨b, hb, hab⟩
      split at hb
      · rename_i e; subst e; cases hb; exact ⟨m, hk, ha⟩
      · exact ⟨b, hb, hab⟩
    · rintro ⟨b, hb, hab⟩
      by_cases e : k = i
      · subst e; exact ⟨m', by simp, ha'⟩
      · exact ⟨b, by rw [if_neg e]; exact hb, hab⟩
  have hdl : ∀ b, Dl V ((k, m') :: s.mem) b ↔ Dl V s.mem b := fun b => ⟨fun ⟨i, h1, h2⟩ => ⟨i, (hlv i).1 h1, h2⟩, fun ⟨i, h1, h2⟩ => ⟨i, (hlv i).2 h1, h2⟩⟩
  have hdk : Dl V s.mem (V.r k) := ⟨k, ⟨m, hk, ha⟩, rfl⟩
  have hDe : (fun b => Dl V ((k, m') :: s.mem) b ∨ D0 b) = fun b => Dl V s.mem b ∨ D0 b := funext fun b => by rw [propext (hdl b)]
  have same0 : ∀ b, b < w.heap.size → ¬ Dl V s.mem b → w'.heap[b]? = w.heap[b]? := fun b hb hd => same b hb fun e => hd (e ▸ hdk)
  refine ⟨h.one, fun i mi hi => ?_, fun i mi hi => ?_, fun i q hq => ?_, h.roOk, fun i j hi hj => h.inj i j ((hlv i).1 hi) ((hlv j).1 hj), fun i hi => Nat.lt_of_lt_of_le (h.lt i ((hlv i).1 hi)) hsz⟩
  · simp only [find_cons] at hi
    rw [hDe]
    split at hi
    · rename_i e; subst e; cases hi; exact hat
    · rename_i e
      exact h.memMove (fun k _ => Agr.refl V k) same0 (fun b _ hd => hd) i mi hi fun hai => same _ (h.lt i ⟨mi, hi, hai⟩) fun e2 => e (h.inj k i ⟨m, hk, ha⟩ ⟨mi, hi, hai⟩ e2.symm)
  · simp only [find_cons] at hi
    split at hi
    · rename_i e; subst e; cases hi; exact ⟨(h.memOk k m hk).1, hok⟩
    · exact h.memOk i mi hi
  · have := h.roMove (fun k _ => Agr.refl V k) same0 (fun b _ hd => hd) i q hq
    have e : (fun b => Dl V ((k, m') :: s.mem) b ∨ (q.fz = true ∧ D0 b)) = fun b => Dl V s.mem b ∨ (q.fz = true ∧ D0 b) := funext fun b => by rw [propext (hdl b)]
    show SlAt w' (fun b => Dl V ((k, m') :: s.mem) b ∨ (q.fz = true ∧ D0 b)) q.rows (V.ro i) (V.ce i)
    rw [e]; exact this
theorem Rep.upd {x : Cx} {V : Vl} {s : St} {a : Act} {w w' : World} (h : Rep x V s a w) {k : Nat} {m m' : MB} (hk : find s.mem k = some m) (ha : aliveB V k m) (ha' : aliveB V k m') (hok : okM s.nb m' = true) (hsz : w.heap.size ≤ w'.heap.size)
    (same : ∀ b, b < w.heap.size → b ≠ V.r k → w'.heap[b]? = w.heap[b]?) (hat : MBat V w' (fun b => Dl V s.mem b ∨ x.D0 b) k m') (io : SIO w w') : Rep x V ⟨s.env, (k, m') :: s.mem, s.ro, s.nb⟩ a w' := by
  refine ⟨h.defers, h.size, h.env, h.envOk, h.ents.upd s.env hk ha ha' hok hsz same hat, ⟨Nat.le_trans h.frame.1 hsz, fun b hb hd => ?_, h.frame.2.2.trans io⟩, fun i hi => ?_, h.pin, h.d0⟩
  · refine (same b (Nat.lt_of_lt_of_le hb h.frame.1) fun e => ?_).trans (h.frame.2.1 b hb hd)
    subst e
    rcases h.own k ⟨m, hk, ha⟩ with h1 | h1
    · omega
    · exact hd h1
  · refine h.own i ?_
    obtain ⟨b, hb, hab⟩ := hi
    simp only [find_cons] at hb
    split at hb
    · rename_i e; subst e; exact ⟨m, hk, ha⟩
    · exact ⟨b, hb, hab⟩
section
variable {x : Cx} {ops l : List Oper} {env : List (Nat × SV)} {mem : List (Nat × MB)} {ro : List (Nat × RO)} {nb t : Nat} {K : St → Prop} {op : Op} {ty : TypeId} {pos : String} {after : Array Edge} {g : Option (Nat × Bool)} {v : SV}
theorem q_store {e : TypeId} {p y : Operand} {k o : Nat} {u : SV} {ti : TI} {c vs c' : List SV} (hg : goes ops env g = some true) (hp : (⟨env, mem, ro, nb⟩ : St).get p = some (.ptr k o)) (hy : (⟨env, mem, ro, nb⟩ : St).get y = some u) (ht : find x.L e = some ti) (hm : find mem k = some (.cells c))
    (hvs : cellsO u = some vs) (h2 : Nat.beq vs.length ti.zs.length = true) (h3 : oneL vs = true) (h4 : okL nb vs = true) (h5 : splice c o vs = some c') (hk : Sq x ops l ⟨env, (k, .cells c') :: mem, ro, nb⟩ K) :
    Sq x ops (⟨none, .store e p y, ty, pos, after, g⟩ :: l) ⟨env, mem, ro, nb⟩ K :=
  sq_step (fun s' => s' = ⟨env, (k, .cells c') :: mem, ro, nb⟩) hg (fun hL Q V a w hr => by
    obtain ⟨b, hb⟩ := hr.ents.mem k _ hm
    obtain ⟨hlt, hok⟩ := hr.ents.memOk k _ hm
    obtain ⟨i, g1, g2, g3, _⟩ := (hL.at ht).info
    obtain ⟨q1, q2⟩ := denL_splice V h5
    have hz : (denL V vs).length = ti.zero.length := by rw [denL_length, TI.zero_len]; exact Nat.eq_of_beq_eq_true h2
    have run : (Instr.storeAt e (den V (.ptr k o)) (den V u)).run x.P w = .ok () (w.setRow (V.r k) (denL V c').toArray) := by
      simp only [Instr.storeAt, den, Instr.sureAddr, Sem.run_bind, Sem.run_pure, Result.andThen_ok, storeVar, r_sizeOf g1, cellsO_den hr.ents.one hvs]
      rw [if_neg (by simp [hz, g2])]
      have := run_storeCells_at (P := x.P) (V.r k) o b (denL V vs) 0 (denL V c).toArray w hb (by simp [denL_length]; omega) (oneL_den hr.ents.one _ h3)
      simp only [Nat.add_zero] at this
      rw [q1]
      exact this
    unfold Oper.wp
    have : (execOp a.eval ⟨none, .store e p y, ty, pos, after, g⟩).run x.P w = .ok .skip (w.setRow (V.r k) (denL V c').toArray) := by
      simp only [execOp, hr.env.get hp, hr.env.get hy, Sem.run_bind, run, Result.andThen_ok, Sem.run_pure]
    rw [this]
    refine ⟨_, V, rfl, hr.upd hm trivial trivial ?_ (by rw [setRow_size]; exact Nat.le_refl _) (fun j _ hj => setRow_other w (V.r k) j _ hj) ⟨b, setRow_heap w (V.r k) _ _ b _ hb⟩ ⟨rfl, rfl, rfl⟩⟩
    obtain ⟨_, e2⟩ := splice_eq _ _ _ h5
    subst e2
    simp only [okM] at hok ⊢
    rw [okL_iff] at hok h4 ⊢
    intro y hy
    simp only [List.mem_append] at hy
    rcases hy with (hy | hy) | hy
    · exact hok y (List.mem_of_mem_take hy)
    · exact h4 y hy
    · exact hok y (List.mem_of_mem_drop hy)) (fun s' e => by subst e; exact hk)
/-- What a scalar is as a datum. -/
def scal : SV → Option DV
  | .int k n => some (.int k n)
  | .tf b => some (.bool b)
  | .bool b => some (.bool b)
  | _ => none
theorem scal_den {V : Vl} {u : SV} {d : DV} (h : scal u = some d) (v : Value) : den V u = cellV v d := by cases u <;> simp only [scal, Option.some.injEq, reduceCtorEq] at h <;> (subst h; rfl)
theorem scal_one {V : Vl} {u : SV} {d : DV} (h : scal u = some d) : (den V u).oneCell' = true ∧ (den V u).cells = #[den V u] := by cases u <;> simp only [scal, Option.some.injEq, reduceCtorEq] at h <;> exact ⟨rfl, rfl⟩
theorem scal_reads {V : Vl} {u : SV} {d : DV} (h : scal u = some d) (w : World) (D : Nat → Prop) (v : Value) : Reads w D d (cellV v d) := by
  cases u <;> simp only [scal, Option.some.injEq, reduceCtorEq] at h <;> (subst h; constructor)
/-- A number or a Bool into a row of a list of the walk's own. -/
theorem q_storeEl {e : TypeId} {p y : Operand} {k es i f tt : Nat} {u : SV} {ti : TI} {xs : List (List DV)} {row : List DV} {d : DV} (hg : goes ops env g = some true) (hp : (⟨env, mem, ro, nb⟩ : St).get p = some (.el k es i f)) (hy : (⟨env, mem, ro, nb⟩ : St).get y = some u) (ht : find x.L e = some ti) (hm : find mem k = some (.rows es tt xs))
    (hd : scal u = some d) (h2 : Nat.beq 1 ti.zs.length = true) (hr : xs[i]? = some row) (hf : Nat.blt f es = true) (hk : Sq x ops l ⟨env, (k, .rows es tt (xs.set i (row.set f d))) :: mem, ro, nb⟩ K) :
    Sq x ops (⟨none, .store e p y, ty, pos, after, g⟩ :: l) ⟨env, mem, ro, nb⟩ K :=
  sq_step (fun s' => s' = ⟨env, (k, .rows es tt (xs.set i (row.set f d))) :: mem, ro, nb⟩) hg (fun hL Q V a w hrp => by
    have hil : i < xs.length := (List.getElem?_eq_some_iff.1 hr).1
    have hnil := nil_of hrp.ents hm (by omega)
    have hmm := hrp.ents.mem k _ hm
    unfold MBat at hmm
    rw [hnil] at hmm
    obtain ⟨h00, cs, h0, h1, hc, h3, h4, h5⟩ := hmm
    obtain ⟨ii, g1, g2, g3, _⟩ := (hL.at ht).info
    have hf' : f < es := by simpa [Nat.blt_eq] using hf
    have hrl := h3 i row hr
    have hlt : i * es + f < cs.size := by
      have : (i + 1) * es ≤ V.cap k * es := Nat.mul_le_mul_right _ (by omega)
      rw [h1]; rw [Nat.add_mul] at this; omega
    have hz : ti.zero.length = 1 := by rw [TI.zero_len]; exact (Nat.eq_of_beq_eq_true h2).symm
    have run : (Instr.storeAt e (den V (.el k es i f)) (den V u)).run x.P w = .ok () (w.setRow (V.r k) (cs.set (i * es + f) (den V u) hlt)) := by
      simp only [Instr.storeAt, den, Instr.sureAddr, Sem.run_bind, Sem.run_pure, Result.andThen_ok, storeVar, r_sizeOf g1, (scal_one (V := V) hd).2]
      rw [if_neg (by simp [hz, g2])]
      have := run_storeCells_at (P := x.P) (V.r k) (i * es + f) tt [den V u] 0 cs w h0 (by simp; omega) (by simp [(scal_one (V := V) hd).1])
      simp only [Nat.add_zero] at this
      rw [this]
      congr 2
      apply Array.ext'
      simp only [Array.toList_set, List.length_singleton]
      rw [List.set_eq_take_append_cons_drop, if_pos (by simpa using hlt)]
      simp
    unfold Oper.wp
    have : (execOp a.eval ⟨none, .store e p y, ty, pos, after, g⟩).run x.P w = .ok .skip (w.setRow (V.r k) (cs.set (i * es + f) (den V u) hlt)) := by
      simp only [execOp, hrp.env.get hp, hrp.env.get hy, Sem.run_bind, run, Result.andThen_ok, Sem.run_pure]
    rw [this]
    refine ⟨_, V, rfl, hrp.upd hm hnil hnil rfl (by rw [setRow_size]; exact Nat.le_refl _) (fun j _ hj => setRow_other w (V.r k) j _ hj) ?_ ⟨rfl, rfl, rfl⟩⟩
    unfold MBat
    rw [hnil]
    have hkeep : Keep w (fun b => Dl V mem b ∨ x.D0 b) (w.setRow (V.r k) (cs.set (i * es + f) (den V u) hlt)) (fun b => Dl V mem b ∨ x.D0 b) := fun b o hb ho => ⟨hb, by
      rw [setRow_other w (V.r k) b _ (fun e => hb (.inl ⟨k, ⟨_, hm, hnil⟩, e.symm⟩))]; exact ho⟩
    have hget : ∀ j jj r' d', (xs.set i (row.set f d))[j]? = some r' → r'[jj]? = some d' → (j = i ∧ jj = f ∧ d' = d) ∨ (¬ (j = i ∧ jj = f) ∧ ∃ r0, xs[j]? = some r0 ∧ r0[jj]? = some d') := by
      intro j jj r' d' hj hjj
      by_cases e1 : j = i
      · subst e1
        rw [List.getElem?_set_self hil] at hj
        cases hj
        by_cases e2 : jj = f
        · subst e2
          rw [List.getElem?_set_self (by omega)] at hjj
          cases hjj
          exact .inl ⟨rfl, rfl, rfl⟩
        · rw [List.getElem?_set_ne (Ne.symm e2)] at hjj
          exact .inr ⟨fun h => e2 h.2, row, hr, hjj⟩
      · rw [List.getElem?_set_ne (Ne.symm e1)] at hj
        exact .inr ⟨fun h => e1 h.1, r', hj, hjj⟩
    refine ⟨h00, _, setRow_heap w (V.r k) _ _ tt _ h0, by simp [h1], by simpa using hc, fun j r' hj => ?_, fun j jj r' d' hj hjj => ?_, fun j jj r' d' hj hjj => ?_⟩
    · by_cases e1 : j = i
      · subst e1
        rw [List.getElem?_set_self hil] at hj
        cases hj
        simpa using hrl
      · rw [List.getElem?_set_ne (Ne.symm e1)] at hj
        exact h3 j r' hj
    · rcases hget j jj r' d' hj hjj with ⟨rfl, rfl, rfl⟩ | ⟨hne, r0, hj0, hjj0⟩
      · rw [← scal_den (V := V) hd]; simp
      · have hl0 := h3 j r0 hj0
        have hjl : jj < es := by have := (List.getElem?_eq_some_iff.1 hjj0).1; omega
        have hne' : i * es + f ≠ j * es + jj := by
          intro he
          rcases Nat.lt_trichotomy i j with hlt' | heq | hgt
          · have : (i + 1) * es ≤ j * es := Nat.mul_le_mul_right _ hlt'
            rw [Nat.add_mul] at this; omega
          · subst heq; exact hne ⟨rfl, by omega⟩
          · have : (j + 1) * es ≤ i * es := Nat.mul_le_mul_right _ hgt
            rw [Nat.add_mul] at this; omega
        rw [Array.getElem?_set_ne _ hne']
        exact h4 j jj r0 d' hj0 hjj0
    · rcases hget j jj r' d' hj hjj with ⟨rfl, rfl, rfl⟩ | ⟨_, r0, hj0, hjj0⟩
      · exact scal_reads (V := V) hd _ _ _
      · exact (h5 j jj r0 d' hj0 hjj0).keep hkeep) (fun s' e => by subst e; exact hk)
end
end Go.Proofs.Ytjhjhjmdbhackaa
