/- Walks over lists, eighth part: less is known, the numbers renamed. No condition on any program. -/
import Derived.Test.YtjhjhjmdbhackaaZ7
namespace Go.Proofs.Ytjhjhjmdbhackaa
set_option linter.unusedSimpArgs false
set_option linter.unusedSectionVars false
set_option linter.unusedVariables false
open Go.RowKit

/-- A list reads as these rows, whatever of the walk's own lists but those in 'ks' changes; if it is to stay for good, whatever changes. -/
structure RdOk (x : Cx) (s : St) (ks : List Nat) (v : SV) (fz : Bool) (rows : List (List DV)) : Prop where
  reads : ∀ V w, Ents x.D0 V s w → Apart x V s.mem → Reads w (fun b => (∃ k, k ∈ ks ∧ Lv V s.mem k ∧ V.r k = b) ∨ (fz = true ∧ (x.D0 b ∨ Dl V s.mem b))) (.sl rows) (den V v)
section
variable {x : Cx} {s : St} {ks : List Nat} {fz : Bool}
theorem rd_nil {a : Option Addr} {c : Nat} : RdOk x s ks (.val (.slice a 0 c)) fz [] := ⟨fun _ _ _ _ => .nil a c⟩
def leB : Bool → Bool → Bool
  | true, false => false
  | _, _ => true
theorem rd_ro {k : Nat} {fz' : Bool} {rows : List (List DV)} (hk : find s.ro k = some ⟨fz', rows⟩) (hf : leB fz fz' = true) : RdOk x s ks (.ro k) fz rows :=
  ⟨fun V w hE _ => (hE.ro k _ hk).reads.keep fun b o hb ho => ⟨fun h => hb (by
    rcases h with ⟨k, _, h1, h2⟩ | ⟨h1, h2 | h2⟩
    · exact .inl ⟨k, h1, h2⟩
    · refine .inr ⟨?_, h2⟩
      subst h1
      cases fz' with
      | true => rfl
      | false => cases hf
    · exact .inl h2), ho⟩⟩
def notIn (k : Nat) : List Nat → Bool
  | [] => true
  | a :: l => match Nat.beq a k with
    | true => false
    | false => notIn k l
theorem notIn_spec {k : Nat} : ∀ {l : List Nat}, notIn k l = true → k ∉ l
  | [], _ => by simp
  | a :: l, h => by
    unfold notIn at h
    cases hb : Nat.beq a k with
    | true => simp [hb] at h
    | false =>
      simp only [hb] at h
      have := notIn_spec h
      have hne := Nat.ne_of_beq_eq_false hb
      simp only [List.mem_cons, not_or]
      exact ⟨Ne.symm hne, this⟩
/-- Part of a list of the walk's own, for a while. -/
theorem rd_part {k es t i m : Nat} {xs : List (List DV)} (hk : find s.mem k = some (.rows es t xs)) (hm : i + m ≤ xs.length) (hks : notIn k ks = true) : RdOk x s ks (.otl k es i m) false ((xs.drop i).take m) :=
  ⟨fun V w hE hap => by
    have hks' := notIn_spec hks
    have hmm := hE.mem k _ hk
    unfold MBat at hmm
    simp only [den]
    cases hnil : V.nil k with
    | true =>
      rw [hnil] at hmm
      simp only at hmm
      subst hmm
      simp only [List.drop_nil, List.take_nil]
      exact .nil none 0
    | false =>
      rw [hnil] at hmm
      obtain ⟨h00, cs, h0, h1, h2, h3, h4, h5⟩ := hmm
      have lv : Lv V s.mem k := ⟨_, hk, hnil⟩
      have hlen : ((xs.drop i).take m).length = m := by rw [List.length_take, List.length_drop]; omega
      by_cases hm0 : m = 0
      · subst hm0
        rw [List.take_zero]
        exact .nil _ _
      · have hne : (xs.drop i).take m ≠ [] := fun e => hm0 (by rw [← hlen, e]; rfl)
        have tk : ∀ {a : Nat} {row : List DV}, ((xs.drop i).take m)[a]? = some row → xs[i + a]? = some row := by
          intro a row hr
          rw [List.getElem?_take] at hr
          split at hr
          · rwa [List.getElem?_drop] at hr
          · cases hr
        have hsl : SlAt w (fun b => (∃ k, k ∈ ks ∧ Lv V s.mem k ∧ V.r k = b) ∨ (false = true ∧ (x.D0 b ∨ Dl V s.mem b))) ((xs.drop i).take m) (.slice (some ⟨V.r k, if V.cap k = i then 0 else i * es, none⟩) m (V.cap k - i)) (fun a b => V.ce k (i + a) b) := by
          refine .inr ⟨es, V.r k, i * es, V.cap k - i, cs, t, (0, 0), ?_, hne, by omega, fun a row hr => h3 _ row (tk hr), ?_, h0, fun a j row d hr hd => ?_, fun a j row d hr hd => (h5 _ j row d (tk hr) hd).keep fun b o hb ho => ⟨?_, ho⟩⟩
          · rw [if_neg (by omega), hlen]
          · rintro (⟨j, hj, h6, h7⟩ | ⟨h, _⟩)
            · have := hE.inj j k h6 lv h7
              subst this
              exact hks' hj
            · cases h
          · have := h4 _ j row d (tk hr) hd
            rwa [Nat.add_mul, Nat.add_assoc] at this
          · rintro (⟨j, hj, h6, h7⟩ | ⟨h, _⟩)
            · exact hb (.inl ⟨j, h6, h7⟩)
            · cases h
        exact hsl.reads⟩
theorem osl_otl {D0 : Nat → Prop} {V : Vl} {w : World} (h : Ents D0 V s w) {k n es t : Nat} {xs : List (List DV)} (hk : find s.mem k = some (.rows es t xs)) (hn : n ≤ xs.length) (h0 : 0 < n) : den V (.osl k n) = .slice (some ⟨V.r k, 0, none⟩) n (V.cap k) ∧ den V (.otl k es 0 n) = .slice (some ⟨V.r k, 0, none⟩) n (V.cap k) := by
  have hnil := nil_of h hk (by omega)
  simp only [den, hnil, Nat.zero_mul, Nat.sub_zero, ite_self, and_self]
theorem rd_pre {k n es t : Nat} {xs : List (List DV)} (hk : find s.mem k = some (.rows es t xs)) (hn : n ≤ xs.length) (hks : notIn k ks = true) : RdOk x s ks (.osl k n) false (xs.take n) :=
  ⟨fun V w hE hap => by
    by_cases h0 : n = 0
    · subst h0
      rw [List.take_zero]
      simp only [den]
      split
      · exact .nil _ _
      · exact .nil _ _
    · have e := osl_otl hE hk hn (by omega)
      have := (rd_part (x := x) (ks := ks) (i := 0) (m := n) hk (by omega) hks).reads V w hE hap
      rw [e.2, List.drop_zero] at this
      rw [e.1]; exact this⟩
theorem rd_osl {k n es t : Nat} {xs : List (List DV)} (hk : find s.mem k = some (.rows es t xs)) (hn : n = xs.length) (hks : notIn k ks = true) : RdOk x s ks (.osl k n) false xs := by
  have := rd_pre (x := x) (ks := ks) hk (Nat.le_of_eq hn) hks
  rwa [List.take_of_length_le (by omega)] at this
theorem rd_otl {k es t i m : Nat} {xs : List (List DV)} (hk : find s.mem k = some (.rows es t xs)) (hm : i + m = xs.length) (hks : notIn k ks = true) : RdOk x s ks (.otl k es i m) false (xs.drop i) := by
  have := rd_part (x := x) (ks := ks) (i := i) (m := m) hk (by omega) hks
  rwa [List.take_of_length_le (by rw [List.length_drop]; omega)] at this
theorem rd_nst {k i j : Nat} {fz' : Bool} {rows rr : List (List DV)} {row : List DV} (hk : find s.ro k = some ⟨fz', rows⟩) (hr : rows[i]? = some row) (hd : row[j]? = some (.sl rr)) (hf : leB fz fz' = true) : RdOk x s ks (.nst k i j) fz rr :=
  ⟨fun V w hE _ => (nst_reads (V := V) (hE.ro k _ hk) hr hd).keep fun b o hb ho => ⟨fun h => hb (by
    rcases h with ⟨k, _, h1, h2⟩ | ⟨h1, h2 | h2⟩
    · exact .inl ⟨k, h1, h2⟩
    · refine .inr ⟨?_, h2⟩
      subst h1
      cases fz' with
      | true => rfl
      | false => cases hf
    · exact .inl h2), ho⟩⟩
theorem rd_nstO {k i j es t : Nat} {rows rr : List (List DV)} {row : List DV} (hk : find s.mem k = some (.rows es t rows)) (hr : rows[i]? = some row) (hd : row[j]? = some (.sl rr)) : RdOk x s ks (.nst k i j) fz rr :=
  ⟨fun V w hE _ => by
    have hn := nil_of hE hk (by have := (List.getElem?_eq_some_iff.1 hr).1; omega)
    have hm := hE.mem k _ hk
    unfold MBat at hm
    rw [hn] at hm
    obtain ⟨_, cs, _, _, _, _, _, h5⟩ := hm
    exact (h5 i j row _ hr hd).keep fun b o hb ho => ⟨fun h => hb (by
      rcases h with ⟨k, _, h1, h2⟩ | ⟨h1, h2 | h2⟩
      · exact .inl ⟨k, h1, h2⟩
      · exact .inr h2
      · exact .inl h2), ho⟩⟩
end

/-! ### A state in the words of another -/
def renM (σ : Rn) : MB → Option MB
  | .cells c => match renL σ c with
    | some c' => some (.cells c')
    | none => none
  | .rows es t xs => some (.rows es t xs)
  | .deck m => match σ.ro m with
    | some (.ro m') => some (.deck m')
    | _ => none
  | .dead => some .dead
/-- The blocks of 't', as blocks of 's'. -/
def images (σ : Rn) : List (Nat × MB) → List Nat
  | [] => []
  | (k, _) :: l => match σ.own k with
    | some k' => k' :: images σ l
    | none => images σ l
theorem images_mem {σ : Rn} : ∀ {l : List (Nat × MB)} {k k' : Nat} {m : MB}, find l k = some m → σ.own k = some k' → k' ∈ images σ l
  | [], k, k', m, h, _ => by simp [find] at h
  | (a, b) :: l, k, k', m, h, hk => by
    rw [find_cons] at h
    unfold images
    split at h
    · rename_i e; subst e
      rw [hk]; exact List.mem_cons_self
    · have := images_mem h hk
      split
      · exact List.mem_cons_of_mem _ this
      · exact this
/-- What 't' says of blocks and lists, 's' says too. -/
structure HSub (x : Cx) (σ : Rn) (t s : St) : Prop where
  mem : ∀ k m, find t.mem k = some m → (k < t.nb ∧ okM t.nb m = true) ∧ ∃ k' m', σ.own k = some k' ∧ find s.mem k' = some m' ∧ renM σ m = some m'
  ro : ∀ k q, find t.ro k = some q → k < t.nb ∧ ((∃ k' fz', σ.own k = some k' ∧ σ.ro k = some (.ro k') ∧ find s.ro k' = some ⟨fz', q.rows⟩ ∧ leB q.fz fz' = true) ∨ (σ.own k = none ∧ ∃ v, σ.ro k = some v ∧ RdOk x s (images σ t.mem) v q.fz q.rows))
  inj : ∀ i j k a b, find t.mem i = some a → find t.mem j = some b → σ.own i = some k → σ.own j = some k → i = j
  one : ∀ k v, σ.ro k = some v → oneC v = true
/-- The valuation, the lists in the cells of some lists being given. -/
def Vl.compF (V : Vl) (σ : Rn) (F : Nat → Nat → Nat → Value) : Vl := ⟨(V.comp σ).r, (V.comp σ).ro, (V.comp σ).cap, (V.comp σ).nil, fun k => match σ.own k with | some k' => V.ce k' | none => fun i j => cleanV (F k i j)⟩
mutual
theorem den_compF (V : Vl) (σ : Rn) (F : Nat → Nat → Nat → Value) : ∀ v {u}, ren σ v = some u → den (V.compF σ F) v = den (V.comp σ) v
  | .int _ _, u, h => rfl
  | .tf _, u, h => rfl
  | .bool _, u, h => rfl
  | .ptr k o, u, h => rfl
  | .el k es i f, u, h => rfl
  | .slc k o n c, u, h => rfl
  | .osl k n, u, h => rfl
  | .otl k es i n, u, h => rfl
  | .ro k, u, h => rfl
  | .rel _ _ _ _, u, h => rfl
  | .nst _ _ _, u, h => by simp [ren] at h
  | .clo f l, u, h => by
    simp only [ren] at h
    cases hl : renL σ l with
    | none => simp [hl] at h
    | some l' => simp only [den, denL_compF V σ F l hl]
  | .agg l, u, h => by
    simp only [ren] at h
    cases hl : renL σ l with
    | none => simp [hl] at h
    | some l' => simp only [den, denL_compF V σ F l hl]
  | .tup l, u, h => by
    simp only [ren] at h
    cases hl : renL σ l with
    | none => simp [hl] at h
    | some l' => simp only [den, denL_compF V σ F l hl]
  | .undef, u, h => rfl
  | .val _, u, h => rfl
theorem denL_compF (V : Vl) (σ : Rn) (F : Nat → Nat → Nat → Value) : ∀ l {m}, renL σ l = some m → denL (V.compF σ F) l = denL (V.comp σ) l
  | [], m, h => rfl
  | x :: l, m, h => by
    simp only [renL] at h
    cases hx : ren σ x with
    | none => simp [hx] at h
    | some x' =>
      cases hl : renL σ l with
      | none => simp [hx, hl] at h
      | some l' => simp only [denL, den_compF V σ F x hx, denL_compF V σ F l hl]
end
theorem den_sub (V : Vl) (σ : Rn) (F : Nat → Nat → Nat → Value) {v u : SV} (h : ren σ v = some u) : den (V.compF σ F) v = den V u := (den_compF V σ F v h).trans (den_ren V σ v h).symm
theorem denL_sub (V : Vl) (σ : Rn) (F : Nat → Nat → Nat → Value) {v u : List SV} (h : renL σ v = some u) : denL (V.compF σ F) v = denL V u := (denL_compF V σ F v h).trans (denL_ren V σ v h).symm
theorem HSub.lv {x : Cx} {σ : Rn} {t s : St} (h : HSub x σ t s) (V : Vl) (F : Nat → Nat → Nat → Value) (k : Nat) (hk : Lv (V.compF σ F) t.mem k) : ∃ k', σ.own k = some k' ∧ Lv V s.mem k' ∧ (V.compF σ F).r k = V.r k' := by
  obtain ⟨m, hm, ha⟩ := hk
  obtain ⟨_, k', m', h1, h2, h3⟩ := h.mem k m hm
  refine ⟨k', h1, ⟨m', h2, ?_⟩, by simp only [Vl.compF, Vl.comp, h1]⟩
  cases m with
  | cells c =>
    simp only [renM] at h3
    cases hl : renL σ c with
    | none => simp [hl] at h3
    | some c' => simp only [hl, Option.some.injEq] at h3; subst h3; trivial
  | rows es t xs =>
    simp only [renM, Option.some.injEq] at h3
    subst h3
    simp only [aliveB, Vl.compF, Vl.comp, h1] at ha ⊢
    exact ha
  | deck m =>
    simp only [renM] at h3
    split at h3
    · cases h3; trivial
    · cases h3
  | dead => exact ha.elim
/-- **Less is known**: for some valuation, 't' holds, too. 'D1': what may change later. -/
theorem HSub.ents {x : Cx} {σ : Rn} {t s : St} (h : HSub x σ t s) {V : Vl} {w : World} (hE : Ents x.D0 V s w) (hap : Apart x V s.mem) (D1 : Nat → Prop) (hD1 : ∀ F, ∀ b, D1 b → x.D0 b ∨ (Dl V s.mem b ∧ ¬ Dl (V.compF σ F) t.mem b)) : ∃ F, Ents D1 (V.compF σ F) t w := by
  have lv := h.lv V
  have dlt : ∀ F b, Dl (V.compF σ F) t.mem b → Dl V s.mem b := by
    rintro F b ⟨k, hk, rfl⟩
    obtain ⟨k', _, h2, h3⟩ := lv F k hk
    exact ⟨k', h2, h3.symm⟩
  have dlk : ∀ F b, Dl (V.compF σ F) t.mem b → ∃ k', k' ∈ images σ t.mem ∧ Lv V s.mem k' ∧ V.r k' = b := by
    rintro F b ⟨k, hk, rfl⟩
    obtain ⟨k', h1, h2, h3⟩ := lv F k hk
    obtain ⟨m, hm, _⟩ := hk
    exact ⟨k', images_mem hm h1, h2, h3.symm⟩
  have hex : ∃ F : Nat → Nat → Nat → Value, ∀ k q v, find t.ro k = some q → σ.own k = none → σ.ro k = some v → RdOk x s (images σ t.mem) v q.fz q.rows → SlAt w (fun b => (∃ k, k ∈ images σ t.mem ∧ Lv V s.mem k ∧ V.r k = b) ∨ (q.fz = true ∧ (x.D0 b ∨ Dl V s.mem b))) q.rows (den V v) (F k) := by
    refine Classical.axiomOfChoice (r := fun k f => ∀ q v, find t.ro k = some q → σ.own k = none → σ.ro k = some v → RdOk x s (images σ t.mem) v q.fz q.rows → SlAt w (fun b => (∃ k, k ∈ images σ t.mem ∧ Lv V s.mem k ∧ V.r k = b) ∨ (q.fz = true ∧ (x.D0 b ∨ Dl V s.mem b))) q.rows (den V v) f) fun k => ?_
    by_cases hk : ∃ q v, find t.ro k = some q ∧ σ.ro k = some v ∧ RdOk x s (images σ t.mem) v q.fz q.rows
    · obtain ⟨q, v, hq, hv, hr⟩ := hk
      obtain ⟨f, hf⟩ := Reads.at _ _ (hr.reads V w hE hap)
      refine ⟨f, fun q' v' hq' _ hv' _ => ?_⟩
      have e1 : q = q' := Option.some.inj (hq.symm.trans hq')
      have e2 : v = v' := Option.some.inj (hv.symm.trans hv')
      subst e1; subst e2
      exact hf
    · exact ⟨fun _ _ => .int .i64 0, fun q v hq _ hv hr => absurd ⟨q, v, hq, hv, hr⟩ hk⟩
  obtain ⟨F, hF⟩ := hex
  refine ⟨F, ⟨⟨fun k => ?_, fun k i j => ?_⟩, fun k m hm => ?_, fun k m hm => (h.mem k m hm).1, fun k q hq => ?_, fun k q hq => (h.ro k q hq).1, fun i j hi hj hij => ?_, fun k hk => ?_⟩⟩
  · simp only [Vl.compF, Vl.comp]
    cases hk : σ.ro k with
    | none => rfl
    | some v => exact oneC_den hE.one v (h.one k v hk)
  · simp only [Vl.compF]
    cases hk : σ.own k with
    | some k' => exact hE.one.2 _ i j
    | none => exact cleanV_one _
  · obtain ⟨⟨h1, h1'⟩, k', m', h2, h3, h4⟩ := h.mem k m hm
    have hm' := hE.mem k' m' h3
    have keep : Keep w (fun b => Dl V s.mem b ∨ x.D0 b) w (fun b => Dl (V.compF σ F) t.mem b ∨ D1 b) := fun b o hb ho => ⟨fun hh => hb (by
      rcases hh with hh | hh
      · exact .inl (dlt F b hh)
      · rcases hD1 F b hh with hh | hh
        · exact .inr hh
        · exact .inl hh.1), ho⟩
    cases m with
    | cells c =>
      simp only [renM] at h4
      cases hl : renL σ c with
      | none => simp [hl] at h4
      | some c' =>
        simp only [hl, Option.some.injEq] at h4
        subst h4
        obtain ⟨tt, ht⟩ := hm'
        exact ⟨tt, by rw [denL_sub V σ F hl]; simp only [Vl.compF, Vl.comp, h2]; exact ht⟩
    | rows es tt xs =>
      simp only [renM, Option.some.injEq] at h4
      subst h4
      unfold MBat at hm' ⊢
      have e1 : (V.compF σ F).nil k = V.nil k' := by simp only [Vl.compF, Vl.comp, h2]
      have e2 : (V.compF σ F).r k = V.r k' := by simp only [Vl.compF, Vl.comp, h2]
      have e3 : (V.compF σ F).cap k = V.cap k' := by simp only [Vl.compF, Vl.comp, h2]
      have e4 : (V.compF σ F).ce k = V.ce k' := by simp only [Vl.compF, h2]
      rw [e1, e2, e3, e4]
      cases hn : V.nil k' with
      | true => rw [hn] at hm'; exact hm'
      | false =>
        rw [hn] at hm'
        obtain ⟨h00, cs, h0, g1, g2, g3, g4, g5⟩ := hm'
        exact ⟨h00, cs, h0, g1, g2, g3, g4, fun i j row d a b => (g5 i j row d a b).keep keep⟩
    | deck m =>
      simp only [renM] at h4
      split at h4
      · rename_i m0 hm0
        cases h4
        show DeckAt w ((V.compF σ F).r k) ((V.compF σ F).ro m)
        have e2 : (V.compF σ F).r k = V.r k' := by simp only [Vl.compF, Vl.comp, h2]
        have e3 : (V.compF σ F).ro m = V.ro m0 := by simp only [Vl.compF, Vl.comp, hm0]; rfl
        rw [e2, e3]; exact hm'
      · cases h4
    | dead => trivial
  · obtain ⟨_, h1 | ⟨h1, v, h2, h3⟩⟩ := h.ro k q hq
    · obtain ⟨k', fz', h1, h2, h3, h4⟩ := h1
      have := hE.ro k' _ h3
      have e3 : (V.compF σ F).ro k = V.ro k' := by simp only [Vl.compF, Vl.comp, h2]; rfl
      have e4 : (V.compF σ F).ce k = V.ce k' := by simp only [Vl.compF, h1]
      rw [e3, e4]
      refine this.keep fun b o hb ho => ⟨fun hh => hb ?_, ho⟩
      rcases hh with hh | ⟨hf, hh⟩
      · exact .inl (dlt F b hh)
      · rcases hD1 F b hh with hh | hh
        · refine .inr ⟨?_, hh⟩
          rw [hf] at h4
          cases fz' with
          | true => rfl
          | false => cases h4
        · exact .inl hh.1
    · have := hF k q v hq h1 h2 h3
      have e3 : (V.compF σ F).ro k = den V v := by simp only [Vl.compF, Vl.comp, h2]
      have e4 : (V.compF σ F).ce k = fun i j => cleanV (F k i j) := by simp only [Vl.compF, h1]
      rw [e3, e4]
      have hcl : SlAt w (fun b => (∃ k, k ∈ images σ t.mem ∧ Lv V s.mem k ∧ V.r k = b) ∨ (q.fz = true ∧ (x.D0 b ∨ Dl V s.mem b))) q.rows (den V v) (fun i j => cleanV (F k i j)) := by
        have cc : ∀ {D : Nat → Prop} {i j d}, Reads w D d (cellV (F k i j) d) → cellV (cleanV (F k i j)) d = cellV (F k i j) d := by
          intro D i j d hr
          cases d with
          | sl r => exact cleanV_of hr.one
          | _ => rfl
        rcases this with h0 | ⟨es, b, o, c, cs, tt, fz, g0, g1, g2, g3, g4, g5, g6, g7⟩
        · exact .inl h0
        · exact .inr ⟨es, b, o, c, cs, tt, fz, g0, g1, g2, g3, g4, g5, fun i j row d a b => by rw [cc (g7 i j row d a b)]; exact g6 i j row d a b, fun i j row d a b => by rw [cc (g7 i j row d a b)]; exact g7 i j row d a b⟩
      refine hcl.keep fun b o hb ho => ⟨fun hh => hb ?_, ho⟩
      rcases hh with hh | ⟨hf, hh⟩
      · exact .inl (dlk F b hh)
      · rcases hD1 F b hh with hh | hh
        · exact .inr ⟨hf, .inl hh⟩
        · exact .inr ⟨hf, .inr hh.1⟩
  · obtain ⟨i', a1, a2, a3⟩ := lv F i hi
    obtain ⟨j', b1, b2, b3⟩ := lv F j hj
    rw [a3, b3] at hij
    have := hE.inj i' j' a2 b2 hij
    subst this
    obtain ⟨mi, hmi, _⟩ := hi
    obtain ⟨mj, hmj, _⟩ := hj
    exact h.inj i j i' mi mj hmi hmj a1 b1
  · obtain ⟨k', _, h2, h3⟩ := lv F k hk
    rw [h3]; exact hE.lt k' h2
end Go.Proofs.Ytjhjhjmdbhackaa
