/- Walks over lists, seventh part: append. No condition on any program. -/
import Derived.Test.YtjhjhjmdbhackaaZ6
import Derived.Maps.AppendAt
namespace Go.Proofs.Ytjhjhjmdbhackaa
set_option linter.unusedSimpArgs false
set_option linter.unusedSectionVars false
set_option linter.unusedVariables false
open Go.RowKit

theorem Dl.kill {V : Vl} {ks : List Nat} {m : List (Nat × MB)} {b : Nat} : Dl V (killL ks m) b ↔ ∃ k, Lv V m k ∧ k ∉ ks ∧ V.r k = b := by
  unfold Dl Lv
  simp only [find_kill]
  constructor
  · rintro ⟨k, ⟨c, hc, ha⟩, rfl⟩
    split at hc
    · cases hc; exact ha.elim
    · rename_i hk; exact ⟨k, ⟨c, hc, ha⟩, hk, rfl⟩
  · rintro ⟨k, ⟨c, hc, ha⟩, hk, rfl⟩
    exact ⟨k, ⟨c, by rw [if_neg hk]; exact hc, ha⟩, rfl⟩
theorem Dl.kill_sub {V : Vl} {ks : List Nat} {m : List (Nat × MB)} {b : Nat} (h : Dl V (killL ks m) b) : Dl V m b := by
  obtain ⟨k, h1, _, h2⟩ := Dl.kill.1 h
  exact ⟨k, h1, h2⟩
def Apart (x : Cx) (V : Vl) (m : List (Nat × MB)) : Prop := ∀ k, Lv V m k → ¬ x.D0 (V.r k)
/-- A cell reads as the datum, the lists in 'ks' being let go. -/
structure CellIs (x : Cx) (s : St) (ks : List Nat) (v : SV) (d : DV) : Prop where
  reads : ∀ V w, Ents x.D0 V s w → Apart x V s.mem → Reads w (fun b => Dl V (killL ks s.mem) b ∨ x.D0 b) d (den V v)
section
variable {x : Cx} {s : St} {ks : List Nat}
theorem c_int {k : IntKind} {n : Int} : CellIs x s ks (.int k n) (.int k n) := ⟨fun _ _ _ _ => .int k n⟩
theorem c_tf {b : Bool} : CellIs x s ks (.tf b) (.bool b) := ⟨fun _ _ _ _ => .bool b⟩
theorem c_bool {b : Bool} : CellIs x s ks (.bool b) (.bool b) := ⟨fun _ _ _ _ => .bool b⟩
theorem c_nil {a : Option Addr} {c : Nat} : CellIs x s ks (.val (.slice a 0 c)) (.sl []) := ⟨fun _ _ _ _ => .nil a c⟩
theorem c_ro {k : Nat} {rows : List (List DV)} (hk : find s.ro k = some ⟨true, rows⟩) : CellIs x s ks (.ro k) (.sl rows) :=
  ⟨fun V w hE _ => (hE.ro k _ hk).reads.keep fun b o hb ho => ⟨fun h => hb (h.elim (fun h => .inl h.kill_sub) fun h => .inr ⟨rfl, h⟩), ho⟩⟩
theorem nst_reads {V : Vl} {w : World} {D : Nat → Prop} {rows : List (List DV)} {v : Value} {f : Nat → Nat → Value} (h : SlAt w D rows v f) {i j : Nat} {row : List DV} {d : DV} (hr : rows[i]? = some row) (hd : row[j]? = some d) : Reads w D d (cellV (f i j) d) := by
  rcases h with ⟨rfl, _⟩ | ⟨es, b, o, c, cs, t, fz, rfl, h0, h1, h2, h3, h4, h5, h6⟩
  · simp at hr
  · exact h6 i j row d hr hd
theorem c_nst {k i j : Nat} {rows rr : List (List DV)} {row : List DV} (hk : find s.ro k = some ⟨true, rows⟩) (hr : rows[i]? = some row) (hd : row[j]? = some (.sl rr)) : CellIs x s ks (.nst k i j) (.sl rr) :=
  ⟨fun V w hE _ => (nst_reads (V := V) (hE.ro k _ hk) hr hd).keep fun b o hb ho => ⟨fun h => hb (h.elim (fun h => .inl h.kill_sub) fun h => .inr ⟨rfl, h⟩), ho⟩⟩
theorem c_nstO {k i j es t : Nat} {rows rr : List (List DV)} {row : List DV} (hk : find s.mem k = some (.rows es t rows)) (hr : rows[i]? = some row) (hd : row[j]? = some (.sl rr)) : CellIs x s ks (.nst k i j) (.sl rr) :=
  ⟨fun V w hE _ => by
    have hn := nil_of hE hk (by have := (List.getElem?_eq_some_iff.1 hr).1; omega)
    have hm := hE.mem k _ hk
    unfold MBat at hm
    rw [hn] at hm
    obtain ⟨_, cs, _, _, _, _, _, h5⟩ := hm
    exact (h5 i j row _ hr hd).keep fun b o hb ho => ⟨fun h => hb (h.imp_left Dl.kill_sub), ho⟩⟩
/-- A list of the walk's own, let go. -/
theorem c_osl {k n es t : Nat} {xs : List (List DV)} (hk : find s.mem k = some (.rows es t xs)) (hn : n = xs.length) (hks : k ∈ ks) : CellIs x s ks (.osl k n) (.sl xs) :=
  ⟨fun V w hE hap => by
    have hm := hE.mem k _ hk
    unfold MBat at hm
    simp only [den]
    cases hnil : V.nil k with
    | true => rw [hnil] at hm; simp only at hm; subst hm; exact .nil _ _
    | false =>
      rw [hnil] at hm
      obtain ⟨h00, cs, h0, h1, h2, h3, h4, h5⟩ := hm
      have lv : Lv V s.mem k := ⟨_, hk, hnil⟩
      have hnd : ¬ (Dl V (killL ks s.mem) (V.r k) ∨ x.D0 (V.r k)) := by
        rintro (h | h)
        · obtain ⟨j, hj, hjk, he⟩ := Dl.kill.1 h
          have := hE.inj j k hj lv he
          subst this
          exact hjk hks
        · exact hap k lv h
      subst hn
      by_cases he : xs = []
      · subst he; exact .nil _ _
      · have hsl : SlAt w (fun b => Dl V (killL ks s.mem) b ∨ x.D0 b) xs (.slice (some ⟨V.r k, 0, none⟩) xs.length (V.cap k)) (V.ce k) :=
          .inr ⟨es, V.r k, 0, V.cap k, cs, t, (0, 0), rfl, he, h2.1, h3, hnd, h0, fun i j row d a b => by rw [Nat.zero_add]; exact h4 i j row d a b, fun i j row d a b => (h5 i j row d a b).keep fun b o hb ho => ⟨fun h => hb (h.imp_left Dl.kill_sub), ho⟩⟩
        exact hsl.reads⟩

/-- Cells of which each reads as a datum. -/
def CellsAre (x : Cx) (s : St) (ks : List Nat) : List SV → List DV → Prop
  | [], [] => True
  | v :: l, d :: r => CellIs x s ks v d ∧ CellsAre x s ks l r
  | _, _ => False
theorem cl_nil : CellsAre x s ks [] [] := trivial
theorem cl_cons {v : SV} {l : List SV} {d : DV} {r : List DV} (h : CellIs x s ks v d) (hl : CellsAre x s ks l r) : CellsAre x s ks (v :: l) (d :: r) := ⟨h, hl⟩
theorem CellsAre.get : ∀ {l : List SV} {r : List DV}, CellsAre x s ks l r → l.length = r.length ∧ ∀ (j : Nat) (d : DV), r[j]? = some d → ∃ v, l[j]? = some v ∧ CellIs x s ks v d
  | [], [], _ => ⟨rfl, fun j d h => by simp at h⟩
  | v :: l, d :: r, h => by
    obtain ⟨h1, h2⟩ := h
    obtain ⟨g1, g2⟩ := CellsAre.get h2
    refine ⟨by simp [g1], fun j d' hd => ?_⟩
    cases j with
    | zero => simp only [List.getElem?_cons_zero, Option.some.injEq] at hd ⊢; subst hd; exact ⟨v, rfl, h1⟩
    | succ j => simp only [List.getElem?_cons_succ] at hd ⊢; exact g2 j d' hd
  | [], _ :: _, h => h.elim
  | _ :: _, [], h => h.elim

/-- What is appended: 'm' rows that read as 'ys'. -/
structure SrcIs (x : Cx) (s : St) (ks : List Nat) (src : SV) (es m : Nat) (ys : List (List DV)) : Prop where
  src : ∀ V w, Ents x.D0 V s w → Apart x V s.mem → ∃ (A : Option Addr) (c : Nat) (news : List Value), den V src = .slice A m c ∧ news.length = m * es ∧ ys.length = m ∧ (0 < m → ∃ ad, A = some ad ∧ ∀ j u, news[j]? = some u → w.cell? (ad.add j) = some u) ∧ (∀ u ∈ news, u.oneCell' = true) ∧
    (∀ (i : Nat) (row : List DV), ys[i]? = some row → row.length = es) ∧ ∀ (i j : Nat) (row : List DV) (d : DV), ys[i]? = some row → row[j]? = some d → ∃ u, news[i * es + j]? = some u ∧ Reads w (fun b => Dl V (killL ks s.mem) b ∨ x.D0 b) d u
theorem s_nil {es c : Nat} : SrcIs x s ks (.val (.slice none 0 c)) es 0 [] :=
  ⟨fun V w _ _ => ⟨none, c, [], rfl, by simp, rfl, fun h => absurd h (by omega), (fun u hu => by cases hu), fun i row h => by simp at h, fun i j row d h => by simp at h⟩⟩
/-- One row, laid in a block of its own. -/
theorem s_one {k c es : Nat} {cs : List SV} {row : List DV} (hk : find s.mem k = some (.cells cs)) (h1 : oneL cs = true) (hl : cs.length = es) (hc : CellsAre x s ks cs row) : SrcIs x s ks (.slc k 0 1 c) es 1 [row] :=
  ⟨fun V w hE hap => by
    obtain ⟨t, hb⟩ := hE.mem k _ hk
    obtain ⟨g1, g2⟩ := hc.get
    refine ⟨_, c, denL V cs, rfl, by rw [denL_length, hl, Nat.one_mul], rfl, fun _ => ⟨_, rfl, fun j u hu => ?_⟩, oneL_den hE.one cs h1, fun i r hr => ?_, fun i j r d hr hd => ?_⟩
    · rw [Addr.add_mid, Nat.zero_add]; exact cell_of hb (by simpa using hu)
    · cases i with
      | zero => simp only [List.getElem?_cons_zero, Option.some.injEq] at hr; subst hr; omega
      | succ i => simp at hr
    · cases i with
      | zero =>
        simp only [List.getElem?_cons_zero, Option.some.injEq] at hr
        subst hr
        obtain ⟨v, hv, hci⟩ := g2 j d hd
        exact ⟨den V v, by rw [Nat.zero_mul, Nat.zero_add]; exact denL_get V hv, hci.reads V w hE hap⟩
      | succ i => simp at hr⟩
theorem take_cells {w : World} {b o es n : Nat} {cs : Array Value} {t : TypeId} {fz : Nat × Nat} (hb : w.heap[b]? = some (.cells cs t fz)) : ∀ j u, ((cs.toList.drop o).take n)[j]? = some u → w.cell? ((⟨b, o, none⟩ : Addr).add j) = some u := by
  intro j u hu
  rw [List.getElem?_take] at hu
  split at hu
  · rw [List.getElem?_drop] at hu
    rw [Addr.add_mid]
    exact cell_of hb (by simpa using hu)
  · cases hu
theorem rows_get {ys : List (List DV)} {es i j : Nat} {row : List DV} {d : DV} (hl : ∀ (i : Nat) (row : List DV), ys[i]? = some row → row.length = es) (hr : ys[i]? = some row) (hd : row[j]? = some d) : i * es + j < ys.length * es := by
  have h1 : i < ys.length := (List.getElem?_eq_some_iff.1 hr).1
  have h2 : j < row.length := (List.getElem?_eq_some_iff.1 hd).1
  have h3 := hl i row hr
  have : (i + 1) * es ≤ ys.length * es := Nat.mul_le_mul_right _ h1
  rw [Nat.add_mul] at this
  omega
/-- Only cells that hold what was read are taken: others do not matter. -/
def cleanV (v : Value) : Value := match v.oneCell' with | true => v | false => .int .i64 0
theorem cleanV_one (v : Value) : (cleanV v).oneCell' = true := by unfold cleanV; cases h : v.oneCell' <;> simp [h]; rfl
theorem cleanV_of {v : Value} (h : v.oneCell' = true) : cleanV v = v := by unfold cleanV; simp [h]
/-- From a block on, rows that read as 'ys'. -/
theorem src_of {V : Vl} {w : World} {D : Nat → Prop} {b o es : Nat} {cs : Array Value} {t : TypeId} {fz : Nat × Nat} {ys : List (List DV)} {f : Nat → Nat → Value} (hb : w.heap[b]? = some (.cells cs t fz)) (hl : ∀ (i : Nat) (row : List DV), ys[i]? = some row → row.length = es)
    (hc : ∀ (i j : Nat) (row : List DV) (d : DV), ys[i]? = some row → row[j]? = some d → cs[o + (i * es + j)]? = some (cellV (f i j) d)) (hr : ∀ (i j : Nat) (row : List DV) (d : DV), ys[i]? = some row → row[j]? = some d → Reads w D d (cellV (f i j) d)) :
    ∃ news : List Value, news.length = ys.length * es ∧ (∀ j u, news[j]? = some u → w.cell? ((⟨b, o, none⟩ : Addr).add j) = some u) ∧ (∀ u ∈ news, u.oneCell' = true) ∧ ∀ (i j : Nat) (row : List DV) (d : DV), ys[i]? = some row → row[j]? = some d → ∃ u, news[i * es + j]? = some u ∧ Reads w D d u := by
  have key : ∀ k, k < ys.length * es → ∃ u, cs[o + k]? = some u ∧ u.oneCell' = true := by
    intro k hk
    have hes : 0 < es := Nat.pos_of_ne_zero fun e => by rw [e] at hk; omega
    have hi : k / es < ys.length := (Nat.div_lt_iff_lt_mul hes).2 hk
    have hrow : ys[k / es]? = some ys[k / es] := List.getElem?_eq_getElem hi
    have hj : k % es < (ys[k / es]).length := by rw [hl _ _ hrow]; exact Nat.mod_lt _ hes
    have hd : (ys[k / es])[k % es]? = some (ys[k / es])[k % es] := List.getElem?_eq_getElem hj
    have e : k / es * es + k % es = k := by rw [Nat.mul_comm]; exact Nat.div_add_mod k es
    have h1 := hc _ _ _ _ hrow hd
    rw [e] at h1
    exact ⟨_, h1, (hr _ _ _ _ hrow hd).one⟩
  refine ⟨(cs.toList.drop o).take (ys.length * es), ?_, take_cells (es := es) hb, fun u hu => ?_, fun i j row d h1 h2 => ?_⟩
  · rw [List.length_take, List.length_drop]
    by_cases h0 : ys.length * es = 0
    · omega
    · obtain ⟨u, hu, _⟩ := key (ys.length * es - 1) (by omega)
      have := (Array.getElem?_eq_some_iff.1 hu).1
      simp only [Array.length_toList]
      omega
  · obtain ⟨k, hk⟩ := List.mem_iff_getElem?.1 hu
    rw [List.getElem?_take] at hk
    split at hk
    · rename_i hlt
      rw [List.getElem?_drop] at hk
      obtain ⟨u', hu', h1⟩ := key k hlt
      have : u = u' := by
        have : cs[o + k]? = some u := by simpa using hk
        rw [hu'] at this; exact (Option.some.inj this).symm
      rw [this]; exact h1
    · cases hk
  · have hlt := rows_get hl h1 h2
    refine ⟨_, ?_, hr i j row d h1 h2⟩
    rw [List.getElem?_take, if_pos hlt, List.getElem?_drop]
    simpa using hc i j row d h1 h2
theorem s_ro {k m : Nat} {es : Nat} {rows : List (List DV)} (hk : find s.ro k = some ⟨true, rows⟩) (hm : rows.length = m) (hes : ∀ (i : Nat) (row : List DV), rows[i]? = some row → row.length = es) : SrcIs x s ks (.ro k) es m rows :=
  ⟨fun V w hE hap => by
    subst hm
    rcases hE.ro k _ hk with ⟨e1, a, c, e2⟩ | ⟨es', b, o, c, cs, t, fz', e2, h0, h1, h2, h3, h4, h5, h6⟩
    · simp only at e1; subst e1
      exact ⟨a, c, [], e2, by simp, rfl, fun h => absurd h (by simp), (fun u hu => by cases hu), fun i row h => by simp at h, fun i j row d h => by simp at h⟩
    · simp only at h0 h1 h2 h5 h6 e2
      have he : es' = es := by
        obtain ⟨r, rs, rfl⟩ := List.exists_cons_of_ne_nil h0
        rw [← h2 0 r rfl, hes 0 r rfl]
      subst he
      obtain ⟨news, n1, n2, n3, n4⟩ := src_of (V := V) h4 h2 h5 (fun i j row d a b => (h6 i j row d a b).keep (w' := w) (D' := fun b => Dl V (killL ks s.mem) b ∨ x.D0 b) fun b o hb ho => ⟨fun h => hb (h.elim (fun h => .inl h.kill_sub) fun h => .inr ⟨by trivial, h⟩), ho⟩)
      exact ⟨_, c, news, e2, n1, rfl, fun _ => ⟨_, rfl, n2⟩, n3, h2, n4⟩⟩
def flatD : DV → Prop
  | .sl _ => False
  | _ => True
theorem Reads.flat {w w' : World} {D D' : Nat → Prop} {d : DV} {v : Value} (h : Reads w D d v) (hf : flatD d) : Reads w' D' d v := by
  cases h with
  | int k n => exact .int k n
  | bool b => exact .bool b
  | oth v h => exact .oth v h
  | nil a c => exact hf.elim
  | sl => exact hf.elim
/-- Rows without lists in them may be copied out of any list. -/
theorem s_roF {k m : Nat} {es : Nat} {fz : Bool} {rows : List (List DV)} (hk : find s.ro k = some ⟨fz, rows⟩) (hm : rows.length = m) (hes : ∀ (i : Nat) (row : List DV), rows[i]? = some row → row.length = es) (hf : ∀ (i j : Nat) (row : List DV) (d : DV), rows[i]? = some row → row[j]? = some d → flatD d) : SrcIs x s ks (.ro k) es m rows :=
  ⟨fun V w hE hap => by
    subst hm
    rcases hE.ro k _ hk with ⟨e1, a, c, e2⟩ | ⟨es', b, o, c, cs, t, fz', e2, h0, h1, h2, h3, h4, h5, h6⟩
    · simp only at e1; subst e1
      exact ⟨a, c, [], e2, by simp, rfl, fun h => absurd h (by simp), (fun u hu => by cases hu), fun i row h => by simp at h, fun i j row d h => by simp at h⟩
    · simp only at h0 h1 h2 h5 h6 e2
      have he : es' = es := by
        obtain ⟨r, rs, rfl⟩ := List.exists_cons_of_ne_nil h0
        rw [← h2 0 r rfl, hes 0 r rfl]
      subst he
      obtain ⟨news, n1, n2, n3, n4⟩ := src_of (V := V) h4 h2 h5 (fun i j row d a b => (h6 i j row d a b).flat (w' := w) (D' := fun b => Dl V (killL ks s.mem) b ∨ x.D0 b) (hf i j row d a b))
      exact ⟨_, c, news, e2, n1, rfl, fun _ => ⟨_, rfl, n2⟩, n3, h2, n4⟩⟩
/-- Rows of a list of the walk's own, from row 'i' on, so many. -/
theorem s_otl {k es t i m : Nat} {xs : List (List DV)} (hk : find s.mem k = some (.rows es t xs)) (hm : i + m = xs.length) : SrcIs x s ks (.otl k es i m) es m (xs.drop i) :=
  ⟨fun V w hE hap => by
    have hmm := hE.mem k _ hk
    unfold MBat at hmm
    have hlen : (xs.drop i).length = m := by rw [List.length_drop]; omega
    cases hnil : V.nil k with
    | true =>
      rw [hnil] at hmm
      simp only at hmm
      subst hmm
      simp at hm
      obtain ⟨rfl, rfl⟩ := hm
      simp only [den, hnil]
      exact ⟨none, 0, [], rfl, by simp, by simp, fun h => absurd h (by omega), (fun u hu => by cases hu), fun i row h => by simp at h, fun i j row d h => by simp at h⟩
    | false =>
      rw [hnil] at hmm
      obtain ⟨h00, cs, h0, h1, h2, h3, h4, h5⟩ := hmm
      have hl : ∀ (i' : Nat) (row : List DV), (xs.drop i)[i']? = some row → row.length = es := fun i' row h => h3 (i + i') row (by rw [List.getElem?_drop] at h; exact h)
      obtain ⟨news, n1, n2, n3, n4⟩ := src_of (V := V) (o := i * es) (ys := xs.drop i) (f := fun a b => V.ce k (i + a) b) h0 hl
        (fun i' j row d a b => by rw [List.getElem?_drop] at a; rw [← h4 (i + i') j row d a b, Nat.add_mul, Nat.add_assoc])
        (fun i' j row d a b => (by rw [List.getElem?_drop] at a; exact (h5 (i + i') j row d a b).keep (w' := w) (D' := fun b => Dl V (killL ks s.mem) b ∨ x.D0 b) fun b o hb ho => ⟨fun h => hb (h.imp_left Dl.kill_sub), ho⟩))
      simp only [den, hnil]
      refine ⟨_, _, news, rfl, by rw [n1, hlen], hlen, fun hpos => ⟨_, rfl, ?_⟩, n3, hl, n4⟩
      rw [if_neg (by omega)]
      exact n2⟩
theorem s_osl {k es t n : Nat} {xs : List (List DV)} (hk : find s.mem k = some (.rows es t xs)) (hn : n = xs.length) : SrcIs x s ks (.osl k n) es n xs :=
  ⟨fun V w hE hap => by
    obtain ⟨A, c, news, h1, h2⟩ := (s_otl (ks := ks) (x := x) (i := 0) (m := n) hk (by omega)).src V w hE hap
    rw [List.drop_zero] at h2
    have hmm := hE.mem k _ hk
    unfold MBat at hmm
    cases hnil : V.nil k with
    | true =>
      simp only [den, hnil] at h1 ⊢
      cases h1
      exact ⟨_, _, news, rfl, h2⟩
    | false =>
      simp only [den, hnil] at h1 ⊢
      cases h1
      refine ⟨_, _, news, rfl, h2.1, h2.2.1, fun hp => ?_, h2.2.2.2⟩
      obtain ⟨ad, e1, e2⟩ := h2.2.2.1 hp
      refine ⟨_, rfl, ?_⟩
      cases e1
      simpa using e2⟩
end

/-- To what is appended: 'n' rows that read as 'xs', of a list that is let go. -/
inductive BaseIs (s : St) (es t : Nat) : SV → Nat → List (List DV) → List Nat → Prop where
  | nil : BaseIs s es t (.val (.slice none 0 0)) 0 [] []
  | own (k n : Nat) (xs : List (List DV)) (hk : find s.mem k = some (.rows es t xs)) (hn : n = xs.length) : BaseIs s es t (.osl k n) n xs [k]
  | part (k n : Nat) (xs : List (List DV)) (hk : find s.mem k = some (.rows es t xs)) (hn : n ≤ xs.length) : BaseIs s es t (.osl k n) n (xs.take n) [k]
theorem BaseIs.val {D0 : Nat → Prop} {V : Vl} {s : St} {w : World} (h : Ents D0 V s w) {es t n : Nat} {p : SV} {xs : List (List DV)} {kb : List Nat} (hb : BaseIs s es t p n xs kb) :
    (den V p = .slice none 0 0 ∧ n = 0 ∧ xs = []) ∨ ∃ k cs, kb = [k] ∧ den V p = .slice (some ⟨V.r k, 0, none⟩) n (V.cap k) ∧ Lv V s.mem k ∧ w.heap[V.r k]? = some (.cells cs t) ∧ cs.size = V.cap k * es ∧ n ≤ V.cap k ∧ V.cap k ≤ maxLen ∧ xs.length = n ∧ (∀ (i : Nat) (row : List DV), xs[i]? = some row → row.length = es) ∧
      (∀ (i j : Nat) (row : List DV) (d : DV), xs[i]? = some row → row[j]? = some d → cs[i * es + j]? = some (cellV (V.ce k i j) d)) ∧ ∀ (i j : Nat) (row : List DV) (d : DV), xs[i]? = some row → row[j]? = some d → Reads w (fun b => Dl V s.mem b ∨ D0 b) d (cellV (V.ce k i j) d) := by
  have gen : ∀ (k n : Nat) (xs : List (List DV)), find s.mem k = some (.rows es t xs) → n ≤ xs.length → (den V (.osl k n) = .slice none 0 0 ∧ n = 0 ∧ xs.take n = []) ∨ ∃ k' cs, [k] = [k'] ∧ den V (.osl k n) = .slice (some ⟨V.r k', 0, none⟩) n (V.cap k') ∧ Lv V s.mem k' ∧ w.heap[V.r k']? = some (.cells cs t) ∧ cs.size = V.cap k' * es ∧ n ≤ V.cap k' ∧ V.cap k' ≤ maxLen ∧ (xs.take n).length = n ∧ (∀ (i : Nat) (row : List DV), (xs.take n)[i]? = some row → row.length = es) ∧
      (∀ (i j : Nat) (row : List DV) (d : DV), (xs.take n)[i]? = some row → row[j]? = some d → cs[i * es + j]? = some (cellV (V.ce k' i j) d)) ∧ ∀ (i j : Nat) (row : List DV) (d : DV), (xs.take n)[i]? = some row → row[j]? = some d → Reads w (fun b => Dl V s.mem b ∨ D0 b) d (cellV (V.ce k' i j) d) := by
    intro k n xs hk hn
    have hm := h.mem k _ hk
    unfold MBat at hm
    cases hnil : V.nil k with
    | true =>
      rw [hnil] at hm
      simp only at hm
      subst hm
      simp at hn
      subst hn
      exact .inl ⟨by simp only [den, hnil], rfl, rfl⟩
    | false =>
      rw [hnil] at hm
      obtain ⟨h00, cs, h0, h1, h2, h3, h4, h5⟩ := hm
      have tk : ∀ {i : Nat} {row : List DV}, (xs.take n)[i]? = some row → xs[i]? = some row := by
        intro i row hr
        rw [List.getElem?_take] at hr
        split at hr
        · exact hr
        · cases hr
      exact .inr ⟨k, cs, rfl, by simp only [den, hnil], ⟨_, hk, hnil⟩, h0, h1, by omega, h2.2, by rw [List.length_take]; omega, fun i row hr => h3 i row (tk hr), fun i j row d hr hd => h4 i j row d (tk hr) hd, fun i j row d hr hd => h5 i j row d (tk hr) hd⟩
  cases hb with
  | nil => exact .inl ⟨rfl, rfl, rfl⟩
  | own k n xs hk hn =>
    have := gen k n xs hk (by omega)
    rw [List.take_of_length_le (by omega)] at this
    exact this
  | part k n xs hk hn => exact gen k n xs hk hn

theorem r_append_nil {P : Program} {w : World} {base t ty e size : Nat} {i : TypeInfo} (ht : P.underlying t = some (.slice e)) (hi : P.info? e = some i) (v : Value) (n : Nat) (xs : List Value) (hown : w.ownsRow base e size v n xs) (c : Nat) :
    (Builtin.append_ #[t, t] ty #[v, .slice none 0 c]).run P w = .ok v w := by
  rcases hown.2 with ⟨rfl, rfl⟩ | ⟨g, cap, cur, rfl, _, _, hnc, _⟩
  · simp [Builtin.append_, run_underlying ht, sizeOf, typeInfo, hi, Builtin.lenOf, Builtin.firstCells]
  · simp [Builtin.append_, run_underlying ht, sizeOf, typeInfo, hi, Builtin.lenOf, Builtin.firstCells, hnc, storeCells]
/-- The valuation behind an append: number k is the list 'v', its lists by 'f'. -/
def Vl.lst (V : Vl) (k : Nat) (v : Value) (f : Nat → Nat → Value) : Vl :=
  match v with
  | .slice (some a) _ c => ⟨upd V.r k a.block, V.ro, upd V.cap k c, upd V.nil k false, upd V.ce k fun i j => cleanV (f i j)⟩
  | _ => ⟨V.r, V.ro, V.cap, upd V.nil k true, upd V.ce k fun i j => cleanV (f i j)⟩
theorem Vl.lst_agr {V : Vl} {k : Nat} {v : Value} {f : Nat → Nat → Value} : ∀ i, i < k → Agr (V.lst k v f) V i := by
  intro i hi
  unfold Vl.lst
  split <;> exact ⟨by first | exact upd_lt i hi | rfl, rfl, by first | exact upd_lt i hi | rfl, upd_lt i hi, upd_lt i hi⟩
theorem Vl.lst_one {V : Vl} (h : V.One) {k : Nat} {v : Value} {f : Nat → Nat → Value} : (V.lst k v f).One := by
  have key : ∀ i a b, (upd V.ce k (fun i j => cleanV (f i j)) i a b).oneCell' = true := by
    intro i a b
    unfold upd
    split
    · exact cleanV_one _
    · exact h.2 i a b
  unfold Vl.lst
  split <;> exact ⟨h.1, key⟩
section
variable {x : Cx} {ops l : List Oper} {env : List (Nat × SV)} {mem : List (Nat × MB)} {ro : List (Nat × RO)} {nb t : Nat} {K : St → Prop} {ty : TypeId} {pos : String} {after : Array Edge} {g : Option (Nat × Bool)}
theorem q_appendK {a b : Operand} {T e es n m b1 : Nat} {zs : List SV} {ea : Bool} {te : TI} {p src : SV} {xs ys : List (List DV)} {kb kn : List Nat} (hg : goes ops env g = some true) (ha : (⟨env, mem, ro, nb⟩ : St).get a = some p) (hb : (⟨env, mem, ro, nb⟩ : St).get b = some src)
    (ht : find x.L T = some ⟨zs, .slice e es ea, b1⟩) (he : find x.L e = some te) (hes : Nat.blt 0 es = true) (hby : Nat.blt 0 te.bytes = true) (hbase : BaseIs ⟨env, mem, ro, nb⟩ es e p n xs kb) (hsrc : SrcIs x ⟨env, mem, ro, nb⟩ kn src es m ys) (hkk : ∀ k ∈ kb, k ∉ kn) (hkn : ∀ k ∈ kn, k < nb)
    (hroom : (n + m) * te.bytes ≤ 140737488355328) (h1 : Nat.blt t x.n = true) (hk : Sq x ops l ⟨(t, .osl nb (n + m)) :: env, (nb, .rows es e (xs ++ ys)) :: killL (kb ++ kn) mem, ro, nb + 1⟩ K) :
    Sq x ops (⟨some t, .call ⟨.builtin .append, #[a, b], #[T, T]⟩, ty, pos, after, g⟩ :: l) ⟨env, mem, ro, nb⟩ K :=
  sq_step (fun s' => s' = ⟨(t, .osl nb (n + m)) :: env, (nb, .rows es e (xs ++ ys)) :: killL (kb ++ kn) mem, ro, nb + 1⟩) hg (fun hL Q V act w hr => by
    have hes' : 0 < es := by simpa [Nat.blt_eq] using hes
    have hby' : 0 < te.bytes := by simpa [Nat.blt_eq] using hby
    obtain ⟨d, h4, h5⟩ := (hL.at ht).desc
    obtain ⟨i, de, rfl, e2, e3, e4, e5⟩ := td_slice h5
    obtain ⟨i', g1, g2, g3, g4⟩ := (hL.at he).info
    have : i' = i := Option.some.inj (g1.symm.trans e2)
    subst this
    have hE := hr.ents
    have hap : Apart x V mem := fun k hk => hr.apart hk
    obtain ⟨A, c, news, s1, s2, s3, s4, s5, s6, s7⟩ := hsrc.src V w hE hap
    have hm : ∀ k c, find mem k = some c → k < nb := fun k c hk => (hE.memOk k c hk).1
    -- the list before
    have hpre : ∃ pre : List Value, w.ownsRow 0 e es (den V p) n pre ∧ xs.length = n ∧ (∀ (i j : Nat) (row : List DV) (d : DV), xs[i]? = some row → row[j]? = some d → ∃ u, pre[i * es + j]? = some u ∧ Reads w (fun b => Dl V mem b ∨ x.D0 b) d u) ∧ (∀ (i : Nat) (row : List DV), xs[i]? = some row → row.length = es) ∧
        (∀ g, (den V p).ownBlock = some g → ∃ k, k ∈ kb ∧ Lv V mem k ∧ g = V.r k) := by
      rcases hbase.val hE with ⟨b0, rfl, rfl⟩ | ⟨k, cs, rfl, b0, b1, b2, b3, b4, b5, b6, b7, b8, b9⟩
      · rw [b0]
        exact ⟨[], ⟨by simp, .inl ⟨rfl, rfl⟩⟩, rfl, fun i j row d h => by simp at h, fun i row h => by simp at h, fun g h => by simp [Value.ownBlock] at h⟩
      · rw [b0]
        refine ⟨cs.toList.take (n * es), ⟨?_, .inr ⟨V.r k, V.cap k, cs, rfl, Nat.zero_le _, b2, b4, b5, b3, rfl⟩⟩, b6, fun i j row d hrow hd => ?_, b7, fun g hg => ⟨k, List.mem_singleton_self k, b1, by simpa [Value.ownBlock] using hg.symm⟩⟩
        · rw [List.length_take, Array.length_toList, b3]
          exact Nat.min_eq_left (Nat.mul_le_mul_right _ b4)
        · refine ⟨_, ?_, b9 i j row d hrow hd⟩
          have := rows_get b7 hrow hd
          rw [b6] at this
          rw [List.getElem?_take, if_pos this]
          simpa using b8 i j row d hrow hd
    obtain ⟨pre, own, hxl, hpr, hxe, hob⟩ := hpre
    have hlen0 := own.1
    -- the run
    have hrun : ∃ v' w', (Builtin.append_ #[T, T] ty #[den V p, .slice A m c]).run x.P w = .ok v' w' ∧ w'.ownsRow 0 e es v' (n + m) (pre ++ news) ∧ w.grownBy w' (den V p).ownBlock ∧ (v'.ownBlock = (den V p).ownBlock ∨ v'.ownBlock = some w.heap.size) := by
      have big : n + m ≤ maxLen := by
        have := Nat.le_mul_of_pos_right (n + m) hby'
        simp only [maxLen]; omega
      have at_ : ∀ ad, A = some ad → (∀ (j : Nat) (u : Value), news[j]? = some u → w.cell? (ad.add j) = some u) → ∃ v' w', (Builtin.append_ #[T, T] ty #[den V p, .slice A m c]).run x.P w = .ok v' w' ∧ w'.ownsRow 0 e es v' (n + m) (pre ++ news) ∧ w.grownBy w' (den V p).ownBlock ∧ (v'.ownBlock = (den V p).ownBlock ∨ v'.ownBlock = some w.heap.size) := by
        intro ad e1 e2'
        obtain ⟨v', w', r1, r2, r3, _, r4⟩ := run_append_own_at (P := x.P) w 0 T ty e i' te.zval es te.bytes h4 e2 g3 e3 g4 (by rw [cells_zero (hL.at he)]; simp [← g2, e3]) hes' (den V p) n pre own ad m c news s2 e2' s5 big hroom (Nat.zero_le _)
        exact ⟨v', w', by rw [e1]; exact r1, r2, r3, r4⟩
      by_cases hm0 : 0 < m
      · obtain ⟨ad, e1, e2⟩ := s4 hm0
        exact at_ ad e1 e2
      · have hm00 : m = 0 := by omega
        subst hm00
        have hnews : news = [] := List.eq_nil_of_length_eq_zero (by simpa using s2)
        subst hnews
        cases A with
        | some ad => exact at_ ad rfl fun j u h => by simp at h
        | none => exact ⟨_, w, r_append_nil h4 e2 (den V p) n pre own c, by simpa using own, World.grownBy.refl w _, .inl rfl⟩
    obtain ⟨v', w', r1, r2, r3, r4⟩ := hrun
    have run : (execOp act.eval ⟨some t, .call ⟨.builtin .append, #[a, b], #[T, T]⟩, ty, pos, after, g⟩).run x.P w = .ok (.value v') w' := by
      simp only [execOp, resolve, invoke, builtin, Sem.run_bind, Sem.run_pure, Result.andThen_ok, List.map_toArray, List.map_cons, List.map_nil, hr.env.get ha, hr.env.get hb, s1, r1]
    unfold Oper.wp
    rw [run]
    -- the valuation
    let f : Nat → Nat → Value := fun i j => (pre ++ news).getD (i * es + j) (.int .i64 0)
    have ag : ∀ k, k < nb → Agr (V.lst nb v' f) V k := Vl.lst_agr
    have hone := Vl.lst_one (V := V) hE.one (k := nb) (v := v') (f := f)
    have rd : ∀ (i j : Nat) (row : List DV) (d : DV), (xs ++ ys)[i]? = some row → row[j]? = some d → ∃ u, (pre ++ news)[i * es + j]? = some u ∧ (Reads w (fun b => Dl V mem b ∨ x.D0 b) d u ∨ Reads w (fun b => Dl V (killL kn mem) b ∨ x.D0 b) d u) := by
      intro i j row d hrow hd
      by_cases hi : i < n
      · rw [List.getElem?_append_left (by omega)] at hrow
        obtain ⟨u, hu, hru⟩ := hpr i j row d hrow hd
        exact ⟨u, by rw [List.getElem?_append_left (List.getElem?_eq_some_iff.1 hu).1]; exact hu, .inl hru⟩
      · rw [List.getElem?_append_right (by omega), hxl] at hrow
        obtain ⟨u, hu, hru⟩ := s7 (i - n) j row d hrow hd
        refine ⟨u, ?_, .inr hru⟩
        have e : i * es + j = n * es + ((i - n) * es + j) := by
          rw [← Nat.add_assoc, ← Nat.add_mul]; congr 2; omega
        rw [e, List.getElem?_append_right (by omega), hlen0, Nat.add_sub_cancel_left]
        exact hu
    have hlens : ∀ (i : Nat) (row : List DV), (xs ++ ys)[i]? = some row → row.length = es := by
      intro i row hrow
      by_cases hi : i < n
      · rw [List.getElem?_append_left (by omega)] at hrow
        exact hxe i row hrow
      · rw [List.getElem?_append_right (by omega)] at hrow
        exact s6 _ row hrow
    have hks : ∀ k ∈ kb ++ kn, k < nb := by
      intro k hk
      rcases List.mem_append.1 hk with h | h
      · cases hbase with
        | nil => cases h
        | own k' _ _ hk' _ => rw [List.mem_singleton.1 h]; exact hm _ _ hk'
        | part k' _ _ hk' _ => rw [List.mem_singleton.1 h]; exact hm _ _ hk'
      · exact hkn k h
    have notrow : ∀ b, (∀ k, k ∈ kb → Lv V mem k → b ≠ V.r k) → some b ≠ (den V p).ownBlock := by
      intro b hb hc
      obtain ⟨k, h1, h2, h3⟩ := hob b hc.symm
      exact hb k h1 h2 h3
    have same : ∀ j, Lv V mem j → j ∉ kb ++ kn → w'.heap[V.r j]? = w.heap[V.r j]? := by
      intro j hj hjk
      refine r3.block _ (hE.lt j hj) (notrow _ fun k hk hlk he => ?_)
      have := hE.inj j k hj hlk he
      subst this
      exact hjk (List.mem_append_left _ hk)
    have same0 : ∀ b, b < w.heap.size → ¬ Dl V mem b → w'.heap[b]? = w.heap[b]? := fun b hb hd => r3.block b hb (notrow _ fun k _ hlk he => hd ⟨k, hlk, he.symm⟩)
    have hnew : aliveB (V.lst nb v' f) nb (.rows es e (xs ++ ys)) → (w.heap.size ≤ (V.lst nb v' f).r nb ∨ ∃ k, k ∈ kb ++ kn ∧ Lv V mem k ∧ (V.lst nb v' f).r nb = V.r k) ∧ (V.lst nb v' f).r nb < w'.heap.size := by
      intro hal
      rcases r2.2 with ⟨rfl, _⟩ | ⟨gg, cap, cur, rfl, _, q1, q2, q3, q4, q5⟩
      · simp [aliveB, Vl.lst, upd_self] at hal
      · have er : (V.lst nb (.slice (some ⟨gg, 0, none⟩) (n + m) cap) f).r nb = gg := upd_self
        rw [er]
        refine ⟨?_, lt_of_heap q1⟩
        rcases r4 with h | h
        · obtain ⟨k, h1, h2, h3⟩ := hob gg (by rw [← h]; rfl)
          exact .inr ⟨k, List.mem_append_left _ h1, h2, h3⟩
        · simp [Value.ownBlock] at h
          exact .inl (by omega)
    have hDl : ∀ b, b < w.heap.size → Dl (V.lst nb v' f) ((nb, .rows es e (xs ++ ys)) :: killL (kb ++ kn) mem) b → Dl V (killL kn mem) b := by
      rintro b hb ⟨i, hi, rfl⟩
      rcases (Lv.turn (m := mem) hm hks ag).1 hi with ⟨ei, hal⟩ | ⟨hi, hik⟩
      · rw [ei] at hb ⊢
        rcases (hnew hal).1 with h | ⟨k, h1, h2, h3⟩
        · omega
        · rcases r2.2 with ⟨rfl, _⟩ | ⟨gg, cap, cur, rfl, _, q1, q2, q3, q4, q5⟩
          · simp [aliveB, Vl.lst, upd_self] at hal
          · have er : (V.lst nb (.slice (some ⟨gg, 0, none⟩) (n + m) cap) f).r nb = gg := upd_self
            rw [er] at hb ⊢
            rcases r4 with h | h
            · obtain ⟨k, h1, h2, h3⟩ := hob gg (by rw [← h]; rfl)
              exact Dl.kill.2 ⟨k, h2, hkk k h1, h3.symm⟩
            · simp [Value.ownBlock] at h; omega
      · rw [(ag i (Lv.lt hE hi)).r]
        exact Dl.kill.2 ⟨i, hi, fun h => hik (List.mem_append_right _ h), rfl⟩
    have keep : ∀ {d u}, (Reads w (fun b => Dl V mem b ∨ x.D0 b) d u ∨ Reads w (fun b => Dl V (killL kn mem) b ∨ x.D0 b) d u) → Reads w' (fun b => Dl (V.lst nb v' f) ((nb, .rows es e (xs ++ ys)) :: killL (kb ++ kn) mem) b ∨ x.D0 b) d u := by
      intro d u h
      have h' : Reads w (fun b => Dl V (killL kn mem) b ∨ x.D0 b) d u := by
        rcases h with h | h
        · exact h.keep fun b o hb ho => ⟨fun h => hb (h.imp_left Dl.kill_sub), ho⟩
        · exact h
      refine h'.keep fun b o hb ho => ⟨fun h => hb (h.imp_left (hDl b (lt_of_heap ho))), ?_⟩
      refine (r3.block b (lt_of_heap ho) (notrow _ fun k hk hlk he => hb (.inl ?_))).trans ho
      exact Dl.kill.2 ⟨k, hlk, hkk k hk, he.symm⟩
    have hat : MBat (V.lst nb v' f) w' (fun b => Dl (V.lst nb v' f) ((nb, .rows es e (xs ++ ys)) :: killL (kb ++ kn) mem) b ∨ x.D0 b) nb (.rows es e (xs ++ ys)) := by
      have hlen : (xs ++ ys).length = n + m := by rw [List.length_append, hxl, s3]
      unfold MBat
      rcases r2.2 with ⟨rfl, h0⟩ | ⟨gg, cap, cur, rfl, _, q1, q2, q3, q4, q5⟩
      · have : (V.lst nb (.slice none 0 0) f).nil nb = true := upd_self
        rw [this]
        exact List.eq_nil_of_length_eq_zero (by omega)
      · have en : (V.lst nb (.slice (some ⟨gg, 0, none⟩) (n + m) cap) f).nil nb = false := upd_self
        have er : (V.lst nb (.slice (some ⟨gg, 0, none⟩) (n + m) cap) f).r nb = gg := upd_self
        have ec : (V.lst nb (.slice (some ⟨gg, 0, none⟩) (n + m) cap) f).cap nb = cap := upd_self
        have ee : (V.lst nb (.slice (some ⟨gg, 0, none⟩) (n + m) cap) f).ce nb = fun i j => cleanV (f i j) := upd_self
        rw [en, er, ec, ee]
        have cell : ∀ (i j : Nat) (row : List DV) (d : DV) (u : Value), (pre ++ news)[i * es + j]? = some u → (Reads w (fun b => Dl V mem b ∨ x.D0 b) d u ∨ Reads w (fun b => Dl V (killL kn mem) b ∨ x.D0 b) d u) → cellV (cleanV (f i j)) d = u := by
          intro i j row d u hu hru
          have hf : f i j = u := by show (pre ++ news).getD _ _ = u; rw [List.getD_eq_getElem?_getD, hu]; rfl
          have ho : u.oneCell' = true := by rcases hru with h | h <;> exact h.one
          rw [hf, cleanV_of ho]
          rcases hru with h | h <;> exact h.cellV
        refine ⟨hes', cur, q1, q4, ⟨by omega, q3⟩, hlens, fun i j row d hrow hd => ?_, fun i j row d hrow hd => ?_⟩
        · obtain ⟨u, hu, hru⟩ := rd i j row d hrow hd
          rw [cell i j row d u hu hru]
          rw [← q5, List.getElem?_take] at hu
          split at hu
          · simpa using hu
          · cases hu
        · obtain ⟨u, hu, hru⟩ := rd i j row d hrow hd
          rw [cell i j row d u hu hru]
          exact keep hru
    have hE' := hE.turn (e' := env) hone ag hks r3.size same same0 rfl hnew hat
    have hden : den (V.lst nb v' f) (.osl nb (n + m)) = v' := by
      simp only [den]
      rcases r2.2 with ⟨rfl, h0⟩ | ⟨gg, cap, cur, rfl, _⟩
      · have : (V.lst nb (.slice none 0 0) f).nil nb = true := upd_self
        rw [this]
      · have en : (V.lst nb (.slice (some ⟨gg, 0, none⟩) (n + m) cap) f).nil nb = false := upd_self
        have er : (V.lst nb (.slice (some ⟨gg, 0, none⟩) (n + m) cap) f).r nb = gg := upd_self
        have ec : (V.lst nb (.slice (some ⟨gg, 0, none⟩) (n + m) cap) f).cap nb = cap := upd_self
        rw [en, er, ec]
    have hrep : Rep x (V.lst nb v' f) ⟨env, (nb, .rows es e (xs ++ ys)) :: killL (kb ++ kn) mem, ro, nb + 1⟩ act w' := by
      refine ⟨hr.defers, hr.size, fun u z hu => ?_, fun u z hu => okV_mono (Nat.le_succ _) _ (hr.envOk u z hu), hE', ?_, fun k hk => ?_, fun k hk => ⟨Nat.lt_succ_of_lt (hr.pin k hk).1, (ag k (hr.pin k hk).1).trans (hr.pin k hk).2⟩, hr.d0⟩
      · rw [den_agree ag z (hr.envOk u z hu)]; exact hr.env u z hu
      · refine ⟨Nat.le_trans hr.frame.1 r3.size, fun b hb hd => ?_, hr.frame.2.2.trans ⟨r3.os, r3.tape, r3.output⟩⟩
        refine (r3.block b (Nat.lt_of_lt_of_le hb hr.frame.1) (notrow _ fun k _ hlk he => ?_)).trans (hr.frame.2.1 b hb hd)
        rcases hr.own k hlk with h | h
        · omega
        · exact hd (he ▸ h)
      · rcases (Lv.turn (m := mem) hm hks ag).1 hk with ⟨ek, hal⟩ | ⟨hk, _⟩
        · rw [ek]
          rcases (hnew hal).1 with h | ⟨k, _, h2, h3⟩
          · exact .inl (Nat.le_trans hr.frame.1 h)
          · rw [h3]; exact hr.own k h2
        · rw [(ag k (Lv.lt hE hk)).r]; exact hr.own k hk
    refine ⟨_, V.lst nb v' f, rfl, ?_⟩
    have := hrep.put (t := t) (v := .osl nb (n + m)) h1 (by simp [okV, Nat.blt_eq])
    rw [hden] at this
    exact this) (fun s' e => by subst e; exact hk)
end
end Go.Proofs.Ytjhjhjmdbhackaa
