/- Walks over lists, second part: states, and what they say of a world. No condition on any program. -/
import Derived.Test.YtjhjhjmdbhackaaZ1
namespace Go.Proofs.Ytjhjhjmdbhackaa
set_option linter.unusedSimpArgs false
set_option linter.unusedSectionVars false
set_option linter.unusedVariables false
open Go.RowKit

/-- What is known of a block of the walk's own. 'rows': a list, its rows of so many cells each; 'deck': a list of numbers and a place in it. -/
inductive MB where
  | cells (c : List SV)
  | rows (es : Nat) (t : Nat) (xs : List (List DV))
  | deck (m : Nat)
  | dead
/-- A list that nobody changes: for good ('fz'), or while this call runs. -/
structure RO where
  fz : Bool
  rows : List (List DV)
structure St where
  env : List (Nat × SV)
  mem : List (Nat × MB)
  ro : List (Nat × RO)
  nb : Nat

/-- The value reads as the datum; none of its blocks is in D. -/
inductive Reads (w : World) (D : Nat → Prop) : DV → Value → Prop where
  | int (k : IntKind) (n : Int) : Reads w D (.int k n) (.int k n)
  | bool (b : Bool) : Reads w D (.bool b) (.bool b)
  | oth (v : Value) (h : v.oneCell' = true) : Reads w D (.oth v) v
  | nil (a : Option Addr) (c : Nat) : Reads w D (.sl []) (.slice a 0 c)
  | sl (rows : List (List DV)) (es b o c : Nat) (cs : Array Value) (t : TypeId) (fz : Nat × Nat) (f : Nat → Nat → Value) (h0 : rows ≠ []) (h1 : rows.length ≤ c) (h2 : ∀ (i : Nat) (row : List DV), rows[i]? = some row → row.length = es) (h3 : ¬ D b)
      (h4 : w.heap[b]? = some (.cells cs t fz)) (h5 : ∀ (i j : Nat) (row : List DV) (d : DV), rows[i]? = some row → row[j]? = some d → cs[o + (i * es + j)]? = some (f i j)) (h6 : ∀ (i j : Nat) (row : List DV) (d : DV), rows[i]? = some row → row[j]? = some d → Reads w D d (f i j)) :
      Reads w D (.sl rows) (.slice (some ⟨b, o, none⟩) rows.length c)
/-- What a cell holds: lists by name. -/
def cellV (v : Value) : DV → Value
  | .int k n => .int k n
  | .bool b => .bool b
  | .sl _ => v
  | .oth u => u
theorem Reads.cellV {w : World} {D : Nat → Prop} {d : DV} {v : Value} (h : Reads w D d v) : cellV v d = v := by cases h <;> rfl
/-- The same, the lists in its cells being named. -/
def SlAt (w : World) (D : Nat → Prop) (rows : List (List DV)) (v : Value) (f : Nat → Nat → Value) : Prop :=
  (rows = [] ∧ ∃ a c, v = .slice a 0 c) ∨
  ∃ (es b o c : Nat) (cs : Array Value) (t : TypeId) (fz : Nat × Nat), v = .slice (some ⟨b, o, none⟩) rows.length c ∧ rows ≠ [] ∧ rows.length ≤ c ∧ (∀ (i : Nat) (row : List DV), rows[i]? = some row → row.length = es) ∧ ¬ D b ∧
    w.heap[b]? = some (.cells cs t fz) ∧ (∀ (i j : Nat) (row : List DV) (d : DV), rows[i]? = some row → row[j]? = some d → cs[o + (i * es + j)]? = some (cellV (f i j) d)) ∧ ∀ (i j : Nat) (row : List DV) (d : DV), rows[i]? = some row → row[j]? = some d → Reads w D d (cellV (f i j) d)
theorem Reads.at (w : World) (D : Nat → Prop) {rows : List (List DV)} {v : Value} (h : Reads w D (.sl rows) v) : ∃ f, SlAt w D rows v f := by
  cases h with
  | nil a c => exact ⟨fun _ _ => Go.undef, .inl ⟨rfl, a, c, rfl⟩⟩
  | sl _ es b o c cs t fz f h0 h1 h2 h3 h4 h5 h6 => exact ⟨f, .inr ⟨es, b, o, c, cs, t, fz, rfl, h0, h1, h2, h3, h4, fun i j row d x y => by rw [(h6 i j row d x y).cellV]; exact h5 i j row d x y, fun i j row d x y => by rw [(h6 i j row d x y).cellV]; exact h6 i j row d x y⟩⟩
theorem SlAt.reads {w : World} {D : Nat → Prop} {rows : List (List DV)} {v : Value} {f : Nat → Nat → Value} (h : SlAt w D rows v f) : Reads w D (.sl rows) v := by
  rcases h with ⟨rfl, a, c, rfl⟩ | ⟨es, b, o, c, cs, t, fz, rfl, h0, h1, h2, h3, h4, h5, h6⟩
  · exact .nil a c
  · refine .sl rows es b o c cs t fz (fun i j => match rows[i]? with | some row => (match row[j]? with | some d => cellV (f i j) d | none => f i j) | none => f i j) h0 h1 h2 h3 h4 (fun i j row d x y => ?_) (fun i j row d x y => ?_)
    · simp only [x, y]; exact h5 i j row d x y
    · simp only [x, y]; exact h6 i j row d x y
/-- What is not in D stays, and is not in D' either. -/
def Keep (w : World) (D : Nat → Prop) (w' : World) (D' : Nat → Prop) : Prop := ∀ b o, ¬ D b → w.heap[b]? = some o → ¬ D' b ∧ w'.heap[b]? = some o
theorem Reads.keep {w w' : World} {D D' : Nat → Prop} {d : DV} {v : Value} (h : Reads w D d v) (k : Keep w D w' D') : Reads w' D' d v := by
  induction h with
  | int k n => exact .int k n
  | bool b => exact .bool b
  | oth v h => exact .oth v h
  | nil a c => exact .nil a c
  | sl rows es b o c cs t fz f h0 h1 h2 h3 h4 h5 _ ih =>
    obtain ⟨g1, g2⟩ := k b _ h3 h4
    exact .sl rows es b o c cs t fz f h0 h1 h2 g1 g2 h5 ih
theorem SlAt.keep {w w' : World} {D D' : Nat → Prop} {rows : List (List DV)} {v : Value} {f : Nat → Nat → Value} (h : SlAt w D rows v f) (k : Keep w D w' D') : SlAt w' D' rows v f := by
  rcases h with ⟨rfl, h⟩ | ⟨es, b, o, c, cs, t, fz, rfl, h0, h1, h2, h3, h4, h5, h6⟩
  · exact .inl ⟨rfl, h⟩
  · obtain ⟨g1, g2⟩ := k b _ h3 h4
    exact .inr ⟨es, b, o, c, cs, t, fz, rfl, h0, h1, h2, g1, g2, h5, fun i j row d a b => (h6 i j row d a b).keep k⟩
theorem Reads.one {w : World} {D : Nat → Prop} {d : DV} {v : Value} (h : Reads w D d v) : v.oneCell' = true := by
  cases h <;> first | rfl | assumption

def aliveB (V : Vl) (k : Nat) : MB → Prop
  | .dead => False
  | .rows _ _ _ => V.nil k = false
  | _ => True
def Lv (V : Vl) (m : List (Nat × MB)) (k : Nat) : Prop := ∃ b, find m k = some b ∧ aliveB V k b
/-- The blocks of the walk's own. -/
def Dl (V : Vl) (m : List (Nat × MB)) (b : Nat) : Prop := ∃ k, Lv V m k ∧ V.r k = b
def RowsAt (w : World) (D : Nat → Prop) (b es t : Nat) (xs : List (List DV)) (c : Nat) (f : Nat → Nat → Value) : Prop :=
  ∃ cs : Array Value, w.heap[b]? = some (.cells cs t) ∧ cs.size = c * es ∧ (xs.length ≤ c ∧ c ≤ maxLen) ∧ (∀ (i : Nat) (row : List DV), xs[i]? = some row → row.length = es) ∧
    (∀ (i j : Nat) (row : List DV) (d : DV), xs[i]? = some row → row[j]? = some d → cs[i * es + j]? = some (cellV (f i j) d)) ∧ ∀ (i j : Nat) (row : List DV) (d : DV), xs[i]? = some row → row[j]? = some d → Reads w D d (cellV (f i j) d)
def DeckAt (w : World) (b : Nat) (L : Value) : Prop := ∃ (t : TypeId) (a : Option Addr) (n c : Nat) (p : Int), w.heap[b]? = some (.cells #[L, .int .i64 p] t) ∧ L = .slice a n c ∧ 0 ≤ p ∧ p ≤ n
def MBat (V : Vl) (w : World) (D : Nat → Prop) (k : Nat) : MB → Prop
  | .cells c => ∃ t, w.heap[V.r k]? = some (.cells (denL V c).toArray t)
  | .rows es t xs => match V.nil k with
    | true => xs = []
    | false => 0 < es ∧ RowsAt w D (V.r k) es t xs (V.cap k) (V.ce k)
  | .deck m => DeckAt w (V.r k) (V.ro m)
  | .dead => True
def okM (nb : Nat) : MB → Bool
  | .cells c => okL nb c
  | .deck m => Nat.blt m nb
  | _ => true
structure Ents (D0 : Nat → Prop) (V : Vl) (s : St) (w : World) : Prop where
  one : V.One
  mem : ∀ k m, find s.mem k = some m → MBat V w (fun b => Dl V s.mem b ∨ D0 b) k m
  memOk : ∀ k m, find s.mem k = some m → k < s.nb ∧ okM s.nb m = true
  ro : ∀ k q, find s.ro k = some q → SlAt w (fun b => Dl V s.mem b ∨ (q.fz = true ∧ D0 b)) q.rows (V.ro k) (V.ce k)
  roOk : ∀ k q, find s.ro k = some q → k < s.nb
  inj : ∀ i j, Lv V s.mem i → Lv V s.mem j → V.r i = V.r j → i = j
  lt : ∀ k, Lv V s.mem k → V.r k < w.heap.size
/-- Nothing is said, read or asked outside. -/
structure SIO (w0 w : World) : Prop where
  os : w.os = w0.os
  tape : w.tape = w0.tape
  output : w.output = w0.output
theorem SIO.trans {a b c : World} (h : SIO a b) (g : SIO b c) : SIO a c := ⟨g.os.trans h.os, g.tape.trans h.tape, g.output.trans h.output⟩
/-- Old blocks but those in D are as they were. -/
def Fr (D : Nat → Prop) (w0 w : World) : Prop := w0.heap.size ≤ w.heap.size ∧ (∀ b, b < w0.heap.size → ¬ D b → w.heap[b]? = w0.heap[b]?) ∧ SIO w0 w
theorem Fr.refl (D : Nat → Prop) (w : World) : Fr D w w := ⟨Nat.le_refl _, fun _ _ _ => rfl, ⟨rfl, rfl, rfl⟩⟩
theorem Fr.trans {D D' : Nat → Prop} {a b c : World} (h : Fr D a b) (g : Fr D' b c) (hD : ∀ k, k < a.heap.size → D' k → D k) : Fr D a c :=
  ⟨Nat.le_trans h.1 g.1, fun k hk hd => (g.2.1 k (Nat.lt_of_lt_of_le hk h.1) fun x => hd (hD k hk x)).trans (h.2.1 k hk hd), h.2.2.trans g.2.2⟩
theorem Fr.mono {D D' : Nat → Prop} {a b : World} (h : Fr D a b) (hD : ∀ k, k < a.heap.size → D k → D' k) : Fr D' a b := ⟨h.1, fun k hk hd => h.2.1 k hk fun x => hd (hD k hk x), h.2.2⟩
theorem lt_of_heap {w : World} {b : Nat} {o : Obj} (h : w.heap[b]? = some o) : b < w.heap.size := (Array.getElem?_eq_some_iff.1 h).1
theorem Lv.lt {V : Vl} {s : St} {D0 : Nat → Prop} {w : World} (h : Ents D0 V s w) {k : Nat} (hk : Lv V s.mem k) : k < s.nb := by
  obtain ⟨b, hb, _⟩ := hk
  exact (h.memOk k b hb).1
theorem aliveB_agr {V V' : Vl} {k : Nat} (h : Agr V' V k) (b : MB) : aliveB V' k b ↔ aliveB V k b := by
  cases b <;> simp [aliveB, h.nil]
/-- Entries of which nothing has changed. -/
theorem MBat.move {V V' : Vl} {w w' : World} {D D' : Nat → Prop} {nb k : Nat} {m : MB} (h : MBat V w D k m) (ok : okM nb m = true) (hk : k < nb) (ag : ∀ k, k < nb → Agr V' V k)
    (hb : aliveB V k m → w'.heap[V.r k]? = w.heap[V.r k]?) (hkeep : Keep w D w' D') : MBat V' w' D' k m := by
  have a := ag k hk
  cases m with
  | cells c =>
    obtain ⟨t, ht⟩ := h
    refine ⟨t, ?_⟩
    rw [a.r, hb trivial, denL_agree ag c ok]
    exact ht
  | rows es t xs =>
    unfold MBat at h ⊢
    rw [a.nil, a.r, a.cap, a.ce]
    cases hn : V.nil k with
    | true => rw [hn] at h; exact h
    | false =>
      rw [hn] at h
      obtain ⟨h00, cs, h0, h1, h2, h3, h4, h5⟩ := h
      exact ⟨h00, cs, (hb hn).trans h0, h1, h2, h3, h4, fun i j row d x y => (h5 i j row d x y).keep hkeep⟩
  | deck m =>
    obtain ⟨t, b, n, c, p, h0, h1, h2, h3⟩ := h
    simp only [okM, Nat.blt_eq] at ok
    show DeckAt w' (V'.r k) (V'.ro m)
    rw [a.r, (ag m ok).ro]
    exact ⟨t, b, n, c, p, (hb trivial).trans h0, h1, h2, h3⟩
  | dead => trivial
theorem Ents.roMove {D0 D' : Nat → Prop} {V V' : Vl} {s : St} {w w' : World} (h : Ents D0 V s w) (ag : ∀ k, k < s.nb → Agr V' V k) (same : ∀ b, b < w.heap.size → ¬ Dl V s.mem b → w'.heap[b]? = w.heap[b]?)
    (hD : ∀ b, b < w.heap.size → D' b → Dl V s.mem b) (k : Nat) (q : RO) (hk : find s.ro k = some q) : SlAt w' (fun b => D' b ∨ (q.fz = true ∧ D0 b)) q.rows (V'.ro k) (V'.ce k) := by
  have a := ag k (h.roOk k q hk)
  rw [a.ro, a.ce]
  refine (h.ro k q hk).keep fun b o hb ho => ?_
  have hlt := lt_of_heap ho
  refine ⟨fun x => hb ?_, (same b hlt fun x => hb (.inl x)).trans ho⟩
  rcases x with x | x
  · exact .inl (hD b hlt x)
  · exact .inr x
theorem Ents.memMove {D0 D' : Nat → Prop} {V V' : Vl} {s : St} {w w' : World} (h : Ents D0 V s w) (ag : ∀ k, k < s.nb → Agr V' V k) (same : ∀ b, b < w.heap.size → ¬ Dl V s.mem b → w'.heap[b]? = w.heap[b]?)
    (hD : ∀ b, b < w.heap.size → D' b → Dl V s.mem b) (k : Nat) (m : MB) (hk : find s.mem k = some m) (hb : aliveB V k m → w'.heap[V.r k]? = w.heap[V.r k]?) : MBat V' w' (fun b => D' b ∨ D0 b) k m := by
  obtain ⟨h1, h2⟩ := h.memOk k m hk
  refine (h.mem k m hk).move h2 h1 ag hb fun b o hb ho => ?_
  have hlt := lt_of_heap ho
  refine ⟨fun x => hb ?_, (same b hlt fun x => hb (.inl x)).trans ho⟩
  rcases x with x | x
  · exact .inl (hD b hlt x)
  · exact .inr x

/-! ### The walk's state in a world -/
/-- What a walk stands on: the program, its types, the world before, the number of slots; D0: blocks that may change later; D: old blocks that the walk may write; the first 'kb' numbers are valued as before. -/
structure Cx where
  P : Program
  L : Lay
  w0 : World
  n : Nat
  D0 : Nat → Prop
  D : Nat → Prop
  kb : Nat
  pin : Vl
def injK : Value → Option SV
  | .int k n => some (.int k n)
  | .bool b => some (.tf b)
  | v => some (.val v)
theorem injK_eq {v : Value} {u : SV} (h : injK v = some u) (V : Vl) : den V u = v := by
  cases v <;> simp only [injK, Option.some.injEq] at h <;> (subst h; rfl)
def St.get (s : St) : Operand → Option SV
  | .tmp t => find s.env t
  | .const v => injK v
  | .global g => some (.val (.pointer (some ⟨g, 0, none⟩)))
  | .func f => some (.clo f [])
def EnvR (V : Vl) (s : St) (a : Act) : Prop := ∀ t v, find s.env t = some v → a.tmps.getD t Go.undef = den V v
theorem EnvR.get {V : Vl} {s : St} {a : Act} (h : EnvR V s a) {x : Operand} {v : SV} (hx : s.get x = some v) : a.eval x = den V v := by
  cases x with
  | tmp t => exact h t v hx
  | const c => exact (injK_eq hx V).symm
  | global g => simp only [St.get, Option.some.injEq] at hx; subst hx; rfl
  | func f => simp only [St.get, Option.some.injEq] at hx; subst hx; rfl
structure Rep (x : Cx) (V : Vl) (s : St) (a : Act) (w : World) : Prop where
  defers : a.defers = []
  size : a.tmps.size = x.n
  env : EnvR V s a
  envOk : ∀ t v, find s.env t = some v → okV s.nb v = true
  ents : Ents x.D0 V s w
  frame : Fr x.D x.w0 w
  own : ∀ k, Lv V s.mem k → x.w0.heap.size ≤ V.r k ∨ x.D (V.r k)
  pin : ∀ k, k < x.kb → k < s.nb ∧ Agr V x.pin k
  d0 : ∀ b, x.D0 b → b < x.w0.heap.size ∧ ¬ x.D b
theorem Rep.apart {x : Cx} {V : Vl} {s : St} {a : Act} {w : World} (h : Rep x V s a w) {k : Nat} (hk : Lv V s.mem k) : ¬ x.D0 (V.r k) := by
  intro h0
  obtain ⟨h1, h2⟩ := h.d0 _ h0
  rcases h.own k hk with h3 | h3
  · omega
  · exact h2 h3

theorem put_getD (a : Act) (d : Nat) (v : Value) (t : Nat) (hd : d < a.tmps.size) : (a.put (some d) v).tmps.getD t Go.undef = if d = t then v else a.tmps.getD t Go.undef := by
  show (a.tmps.setIfInBounds d v).getD t Go.undef = _
  by_cases h : d = t
  · subst h; simp [Array.getD_eq_getD_getElem?, hd]
  · simp [Array.getD_eq_getD_getElem?, h]
theorem EnvR.put {V : Vl} {s : St} {a : Act} (h : EnvR V s a) {t : Nat} {v : SV} (ht : t < a.tmps.size) : EnvR V ⟨(t, v) :: s.env, s.mem, s.ro, s.nb⟩ (a.put (some t) (den V v)) := by
  intro u z hu
  rw [put_getD _ _ _ _ ht]
  simp only [find_cons] at hu
  split at hu
  · rename_i e; subst e; cases hu; rw [if_pos rfl]
  · rename_i e; rw [if_neg e]; exact h u z hu
theorem envOk_put {nb t : Nat} {v : SV} {env : List (Nat × SV)} (h : ∀ t v, find env t = some v → okV nb v = true) (hv : okV nb v = true) : ∀ u z, find ((t, v) :: env) u = some z → okV nb z = true := by
  intro u z hu
  rw [find_cons] at hu
  split at hu
  · cases hu; exact hv
  · exact h u z hu
theorem Ents.env {D0 : Nat → Prop} {V : Vl} {e e' : List (Nat × SV)} {m : List (Nat × MB)} {r : List (Nat × RO)} {nb : Nat} {w : World} (h : Ents D0 V ⟨e, m, r, nb⟩ w) : Ents D0 V ⟨e', m, r, nb⟩ w := ⟨h.one, h.mem, h.memOk, h.ro, h.roOk, h.inj, h.lt⟩
theorem Rep.put {x : Cx} {V : Vl} {s : St} {a : Act} {w : World} (h : Rep x V s a w) {t : Nat} {v : SV} (ht : Nat.blt t x.n = true) (hv : okV s.nb v = true) : Rep x V ⟨(t, v) :: s.env, s.mem, s.ro, s.nb⟩ (a.put (some t) (den V v)) w := by
  have hlt : t < a.tmps.size := by rw [h.size]; simpa [Nat.blt_eq] using ht
  exact ⟨h.defers, by show (a.tmps.setIfInBounds t _).size = _; rw [Array.size_setIfInBounds, h.size], h.env.put hlt, envOk_put h.envOk hv, h.ents.env, h.frame, h.own, h.pin, h.d0⟩
def upd {α : Type} (r : Nat → α) (k : Nat) (b : α) : Nat → α := fun i => if i = k then b else r i
theorem upd_lt {α : Type} {r : Nat → α} {k : Nat} {b : α} : ∀ i, i < k → upd r k b i = r i := fun i hi => if_neg (by omega)
theorem upd_self {α : Type} {r : Nat → α} {k : Nat} {b : α} : upd r k b k = b := if_pos rfl
/-- Number k is a block. -/
def Vl.blk (V : Vl) (k b : Nat) : Vl := ⟨upd V.r k b, V.ro, V.cap, V.nil, V.ce⟩
theorem Vl.blk_agr {V : Vl} {k b : Nat} : ∀ i, i < k → Agr (V.blk k b) V i := fun i hi => ⟨upd_lt i hi, rfl, rfl, rfl, rfl⟩
theorem alloc_size (w : World) (o : Obj) : (w.alloc o).heap.size = w.heap.size + 1 := by show (w.heap.push _).size = _; simp
theorem alloc_old (w : World) (o : Obj) {b : Nat} (h : b < w.heap.size) : (w.alloc o).heap[b]? = w.heap[b]? := Below.heap_alloc w o b h
theorem Lv.cons_new {V V' : Vl} {m : List (Nat × MB)} {nb i : Nat} {b : MB} (hm : ∀ k c, find m k = some c → k < nb) (ag : ∀ k, k < nb → Agr V' V k) : Lv V' ((nb, b) :: m) i ↔ (i = nb ∧ aliveB V' nb b) ∨ Lv V m i := by
  unfold Lv
  simp only [find_cons]
  constructor
  · rintro ⟨c, hc, ha⟩
    split at hc
    · rename_i e; subst e; cases hc; exact .inl ⟨rfl, ha⟩
    · exact .inr ⟨c, hc, (aliveB_agr (ag i (hm i c hc)) c).1 ha⟩
  · rintro (⟨rfl, ha⟩ | ⟨c, hc, ha⟩)
    · exact ⟨b, by simp, ha⟩
    · have := hm i c hc
      exact ⟨c, by rw [if_neg (by omega)]; exact hc, (aliveB_agr (ag i this) c).2 ha⟩
theorem Dl.cons_new {V V' : Vl} {m : List (Nat × MB)} {nb : Nat} {c : MB} (hm : ∀ k c, find m k = some c → k < nb) (ag : ∀ k, k < nb → Agr V' V k) {b : Nat} (h : Dl V' ((nb, c) :: m) b) : (b = V'.r nb ∧ aliveB V' nb c) ∨ Dl V m b := by
  obtain ⟨k, hk, hb⟩ := h
  rcases (Lv.cons_new hm ag).1 hk with ⟨rfl, ha⟩ | h
  · exact .inl ⟨hb.symm, ha⟩
  · refine .inr ⟨k, h, ?_⟩
    obtain ⟨c', hc, _⟩ := h
    rw [← (ag k (hm k c' hc)).r]; exact hb
/-- Entries that are let go. -/
def killL : List Nat → List (Nat × MB) → List (Nat × MB)
  | [], m => m
  | k :: l, m => (k, .dead) :: killL l m
theorem find_kill {ks : List Nat} {m : List (Nat × MB)} {k : Nat} : find (killL ks m) k = if k ∈ ks then some .dead else find m k := by
  induction ks with
  | nil => simp [killL]
  | cons a l ih =>
    simp only [killL, find_cons, ih, List.mem_cons]
    by_cases h : a = k
    · subst h; simp
    · simp [h, Ne.symm h, eq_comm]
theorem Lv.turn {V V' : Vl} {m : List (Nat × MB)} {nb i : Nat} {c : MB} {ks : List Nat} (hm : ∀ k c, find m k = some c → k < nb) (hks : ∀ k ∈ ks, k < nb) (ag : ∀ k, k < nb → Agr V' V k) : Lv V' ((nb, c) :: killL ks m) i ↔ (i = nb ∧ aliveB V' nb c) ∨ (Lv V m i ∧ i ∉ ks) := by
  unfold Lv
  simp only [find_cons, find_kill]
  constructor
  · rintro ⟨b, hc, ha⟩
    split at hc
    · rename_i e; subst e; cases hc; exact .inl ⟨rfl, ha⟩
    · split at hc
      · cases hc; exact ha.elim
      · rename_i hk; exact .inr ⟨⟨b, hc, (aliveB_agr (ag i (hm i b hc)) b).1 ha⟩, hk⟩
  · rintro (⟨rfl, ha⟩ | ⟨⟨b, hc, ha⟩, hk⟩)
    · exact ⟨c, by simp, ha⟩
    · have := hm i b hc
      exact ⟨b, by rw [if_neg (by omega), if_neg hk]; exact hc, (aliveB_agr (ag i this) b).2 ha⟩
/-- **An entry more, some let go**: the new one lies in a new block, or in one that is let go. -/
theorem Ents.turn {D0 : Nat → Prop} {V V' : Vl} {s : St} {w w' : World} (h : Ents D0 V s w) (e' : List (Nat × SV)) {c : MB} {ks : List Nat} (hone : V'.One) (ag : ∀ k, k < s.nb → Agr V' V k) (hks : ∀ k ∈ ks, k < s.nb) (hsz : w.heap.size ≤ w'.heap.size)
    (same : ∀ j, Lv V s.mem j → j ∉ ks → w'.heap[V.r j]? = w.heap[V.r j]?) (same0 : ∀ b, b < w.heap.size → ¬ Dl V s.mem b → w'.heap[b]? = w.heap[b]?) (hok : okM (s.nb + 1) c = true)
    (hnew : aliveB V' s.nb c → (w.heap.size ≤ V'.r s.nb ∨ ∃ k, k ∈ ks ∧ Lv V s.mem k ∧ V'.r s.nb = V.r k) ∧ V'.r s.nb < w'.heap.size) (hat : MBat V' w' (fun b => Dl V' ((s.nb, c) :: killL ks s.mem) b ∨ D0 b) s.nb c) :
    Ents D0 V' ⟨e', (s.nb, c) :: killL ks s.mem, s.ro, s.nb + 1⟩ w' := by
  have hm : ∀ k c, find s.mem k = some c → k < s.nb := fun k c hk => (h.memOk k c hk).1
  have hD : ∀ b, b < w.heap.size → Dl V' ((s.nb, c) :: killL ks s.mem) b → Dl V s.mem b := by
    rintro b hb ⟨i, hi, rfl⟩
    rcases (Lv.turn hm hks ag).1 hi with ⟨rfl, ha⟩ | ⟨hi, _⟩
    · rcases (hnew ha).1 with h1 | ⟨k, _, h2, h3⟩
      · omega
      · exact ⟨k, h2, h3.symm⟩
    · exact ⟨i, hi, ((ag i (Lv.lt h hi)).r).symm⟩
  have okmono : ∀ {m : MB}, okM s.nb m = true → okM (s.nb + 1) m = true := by
    intro m hm
    cases m <;> simp only [okM, Nat.blt_eq] at hm ⊢
    · exact okL_mono (Nat.le_succ _) _ hm
    · omega
  refine ⟨hone, fun k m hk => ?_, fun k m hk => ?_, fun k q hk => h.roMove ag same0 hD k q hk, fun k q hk => Nat.lt_succ_of_lt (h.roOk k q hk), fun i j hi hj hij => ?_, fun k hk => ?_⟩
  · simp only [find_cons, find_kill] at hk
    split at hk
    · rename_i e; subst e; cases hk; exact hat
    · split at hk
      · cases hk; trivial
      · rename_i hnk
        exact h.memMove ag same0 hD k m hk fun ha => same k ⟨m, hk, ha⟩ hnk
  · simp only [find_cons, find_kill] at hk
    split at hk
    · rename_i e; subst e; cases hk; exact ⟨Nat.lt_succ_self _, hok⟩
    · split at hk
      · rename_i hin; cases hk; exact ⟨Nat.lt_succ_of_lt (hks k hin), rfl⟩
      · obtain ⟨h1, h2⟩ := h.memOk k m hk
        exact ⟨Nat.lt_succ_of_lt h1, okmono h2⟩
  · have new_old : ∀ j, Lv V s.mem j → j ∉ ks → aliveB V' s.nb c → V'.r s.nb = V'.r j → False := by
      intro j hj hjk ha he
      rw [(ag j (Lv.lt h hj)).r] at he
      rcases (hnew ha).1 with h1 | ⟨k, h1, h2, h3⟩
      · have := h.lt j hj; omega
      · have := h.inj k j h2 hj (h3.symm.trans he)
        subst this
        exact hjk h1
    rcases (Lv.turn hm hks ag).1 hi with ⟨rfl, ha⟩ | ⟨hi, hik⟩
    · rcases (Lv.turn hm hks ag).1 hj with ⟨rfl, _⟩ | ⟨hj, hjk⟩
      · rfl
      · exact (new_old j hj hjk ha hij).elim
    · rcases (Lv.turn hm hks ag).1 hj with ⟨rfl, ha⟩ | ⟨hj, hjk⟩
      · exact (new_old i hi hik ha hij.symm).elim
      · rw [(ag i (Lv.lt h hi)).r, (ag j (Lv.lt h hj)).r] at hij
        exact h.inj i j hi hj hij
  · rcases (Lv.turn hm hks ag).1 hk with ⟨rfl, ha⟩ | ⟨hk, _⟩
    · exact (hnew ha).2
    · rw [(ag k (Lv.lt h hk)).r]
      exact Nat.lt_of_lt_of_le (h.lt k hk) hsz
theorem Fr.same {D : Nat → Prop} {a b c : World} (h : Fr D a b) (hsz : b.heap.size ≤ c.heap.size) (same : ∀ k, k < b.heap.size → c.heap[k]? = b.heap[k]?) (io : SIO b c) : Fr D a c :=
  ⟨Nat.le_trans h.1 hsz, fun k hk hd => (same k (Nat.lt_of_lt_of_le hk h.1)).trans (h.2.1 k hk hd), h.2.2.trans io⟩
/-- A new block whose cells are known. -/
theorem Rep.new {x : Cx} {V : Vl} {s : St} {a : Act} {w : World} (h : Rep x V s a w) {c : List SV} (hc : okL s.nb c = true) (t : TypeId) :
    Rep x (V.blk s.nb w.heap.size) ⟨s.env, (s.nb, .cells c) :: s.mem, s.ro, s.nb + 1⟩ a (w.alloc (.cells (denL V c).toArray t)) := by
  have ag : ∀ k, k < s.nb → Agr (V.blk s.nb w.heap.size) V k := Vl.blk_agr
  have hm : ∀ k c, find s.mem k = some c → k < s.nb := fun k c hk => (h.ents.memOk k c hk).1
  have same : ∀ b, b < w.heap.size → (w.alloc (.cells (denL V c).toArray t)).heap[b]? = w.heap[b]? := fun b hb => alloc_old w _ hb
  have hr : (V.blk s.nb w.heap.size).r s.nb = w.heap.size := upd_self
  refine ⟨h.defers, h.size, fun u v hu => ?_, fun u v hu => okV_mono (Nat.le_succ _) _ (h.envOk u v hu), ?_, h.frame.same (by rw [alloc_size]; omega) same ⟨rfl, rfl, rfl⟩, fun k hk => ?_, fun k hk => ⟨Nat.lt_succ_of_lt (h.pin k hk).1, (ag k (h.pin k hk).1).trans (h.pin k hk).2⟩, h.d0⟩
  · rw [den_agree ag v (h.envOk u v hu)]; exact h.env u v hu
  · refine h.ents.turn (ks := []) s.env h.ents.one ag (by simp) (by rw [alloc_size]; omega) (fun j hj _ => same _ (h.ents.lt j hj)) (fun b hb _ => same b hb) (okL_mono (Nat.le_succ _) _ hc) (fun _ => by rw [hr, alloc_size]; exact ⟨.inl (Nat.le_refl _), Nat.lt_succ_self _⟩) ⟨t, ?_⟩
    rw [hr, denL_agree ag c hc]
    exact heap_alloc_new w _
  · rcases (Lv.cons_new hm ag).1 hk with ⟨rfl, _⟩ | hk
    · rw [hr]; exact .inl h.frame.1
    · rw [(ag k (Lv.lt h.ents hk)).r]; exact h.own k hk
end Go.Proofs.Ytjhjhjmdbhackaa
