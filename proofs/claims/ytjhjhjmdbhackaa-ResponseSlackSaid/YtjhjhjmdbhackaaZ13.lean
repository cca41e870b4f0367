/- Walks over lists, thirteenth part: lists that begin as nil. No condition on any program. -/
import Derived.Test.YtjhjhjmdbhackaaZ12
namespace Go.Proofs.Ytjhjhjmdbhackaa
set_option linter.unusedSimpArgs false
set_option linter.unusedSectionVars false
set_option linter.unusedVariables false
open Go.RowKit

def Vl.nilAt (V : Vl) (k : Nat) : Vl := ⟨V.r, V.ro, V.cap, upd V.nil k true, V.ce⟩
theorem Vl.nilAt_agr {V : Vl} {k : Nat} : ∀ i, i < k → Agr (V.nilAt k) V i := fun i hi => ⟨rfl, rfl, rfl, upd_lt i hi, rfl⟩
/-- A nil slice is a list of the walk's own without rows. -/
theorem Rep.nilList {x : Cx} {V : Vl} {env : List (Nat × SV)} {mem : List (Nat × MB)} {ro : List (Nat × RO)} {nb : Nat} {a : Act} {w : World} (h : Rep x V ⟨env, mem, ro, nb⟩ a w) {t : Nat} (ht : find env t = some (.val (.slice none 0 0))) (es ty : Nat) :
    Rep x (V.nilAt nb) ⟨(t, .osl nb 0) :: env, (nb, .rows es ty []) :: mem, ro, nb + 1⟩ a w := by
  have ag : ∀ k, k < nb → Agr (V.nilAt nb) V k := Vl.nilAt_agr
  have hm : ∀ k c, find mem k = some c → k < nb := fun k c hk => (h.ents.memOk k c hk).1
  have hn : (V.nilAt nb).nil nb = true := upd_self
  refine ⟨h.defers, h.size, fun u v hu => ?_, fun u v hu => ?_, ?_, h.frame, fun k hk => ?_, fun k hk => ⟨Nat.lt_succ_of_lt (h.pin k hk).1, (ag k (h.pin k hk).1).trans (h.pin k hk).2⟩, h.d0⟩
  · simp only [find_cons] at hu
    split at hu
    · rename_i e
      subst e
      cases hu
      rw [h.env _ _ ht]
      simp only [den, hn]
    · rw [den_agree ag v (h.envOk u v hu)]; exact h.env u v hu
  · simp only [find_cons] at hu
    split at hu
    · cases hu; simp [okV, Nat.blt_eq]
    · exact okV_mono (Nat.le_succ _) _ (h.envOk u v hu)
  · refine h.ents.turn (ks := []) _ h.ents.one ag (by simp) (Nat.le_refl _) (fun _ _ _ => rfl) (fun _ _ _ => rfl) rfl (fun ha => ?_) ?_
    · have : (V.nilAt nb).nil nb = false := ha
      rw [hn] at this; cases this
    · simp only [MBat, hn]
  · rcases (Lv.cons_new hm ag).1 hk with ⟨_, ha⟩ | hk
    · have : (V.nilAt nb).nil nb = false := ha
      rw [hn] at this; cases this
    · rw [(ag k (Lv.lt h.ents hk)).r]; exact h.own k hk
theorem tr_nilList {x : Cx} {c : Code} {Q : Exit → St → Prop} {env : List (Nat × SV)} {mem : List (Nat × MB)} {ro : List (Nat × RO)} {nb : Nat} (t es ty : Nat) (ht : find env t = some (.val (.slice none 0 0)))
    (h : Tr x c Q ⟨(t, .osl nb 0) :: env, (nb, .rows es ty []) :: mem, ro, nb + 1⟩) : Tr x c Q ⟨env, mem, ro, nb⟩ :=
  ⟨fun hL _ a w hr => h.run hL _ a w (hr.nilList ht es ty)⟩
/-! ### A block whose cells are known, read as a list -/
theorem flat_get {α : Type} {es : Nat} : ∀ {rows : List (List α)} (_ : ∀ (i : Nat) (row : List α), rows[i]? = some row → row.length = es) {i j : Nat} {row : List α} {d : α} (_ : rows[i]? = some row) (_ : row[j]? = some d), rows.flatten[i * es + j]? = some d
  | [], _, i, j, row, d, h, _ => by simp at h
  | r :: rows, hl, i, j, row, d, hr, hd => by
    have hr0 : r.length = es := hl 0 r rfl
    cases i with
    | zero =>
      simp only [List.getElem?_cons_zero, Option.some.injEq] at hr
      subst hr
      have : j < r.length := (List.getElem?_eq_some_iff.1 hd).1
      rw [List.flatten_cons, Nat.zero_mul, Nat.zero_add, List.getElem?_append_left this, hd]
    | succ i =>
      simp only [List.getElem?_cons_succ] at hr
      have := flat_get (rows := rows) (fun i row h => hl (i + 1) row h) hr hd
      rw [List.flatten_cons, List.getElem?_append_right (by rw [hr0, Nat.add_mul]; omega), hr0, show (i + 1) * es + j - es = i * es + j by rw [Nat.add_mul]; omega, this]
section
variable {x : Cx} {s : St} {ks : List Nat}
def CellsRd (x : Cx) (s : St) (ks : List Nat) : List SV → List DV → Prop
  | [], [] => True
  | v :: l, d :: r => (scal v = some d ∨ ∃ rr, d = .sl rr ∧ RdOk x s ks v false rr) ∧ CellsRd x s ks l r
  | _, _ => False
theorem cr_nil : CellsRd x s ks [] [] := trivial
theorem cr_sc {v : SV} {l : List SV} {d : DV} {r : List DV} (h : scal v = some d) (hl : CellsRd x s ks l r) : CellsRd x s ks (v :: l) (d :: r) := ⟨.inl h, hl⟩
theorem cr_sl {v : SV} {l : List SV} {rr : List (List DV)} {r : List DV} (h : RdOk x s ks v false rr) (hl : CellsRd x s ks l r) : CellsRd x s ks (v :: l) (.sl rr :: r) := ⟨.inr ⟨rr, rfl, h⟩, hl⟩
theorem CellsRd.get : ∀ {l : List SV} {r : List DV}, CellsRd x s ks l r → ∀ (j : Nat) (d : DV), r[j]? = some d → ∃ v, l[j]? = some v ∧ (scal v = some d ∨ ∃ rr, d = .sl rr ∧ RdOk x s ks v false rr)
  | [], [], _ => fun j d h => by simp at h
  | v :: l, d :: r, h => by
    obtain ⟨h1, h2⟩ := h
    intro j d' hd
    cases j with
    | zero => simp only [List.getElem?_cons_zero, Option.some.injEq] at hd ⊢; subst hd; exact ⟨v, rfl, h1⟩
    | succ j => simp only [List.getElem?_cons_succ] at hd ⊢; exact h2.get j d' hd
  | [], _ :: _, h => h.elim
  | _ :: _, [], h => h.elim
def allLen (es : Nat) : List (List DV) → Bool
  | [] => true
  | r :: l => match Nat.beq r.length es with
    | true => allLen es l
    | false => false
theorem allLen_spec {es : Nat} : ∀ {l : List (List DV)}, allLen es l = true → ∀ (i : Nat) (row : List DV), l[i]? = some row → row.length = es
  | [], _, i, row, h => by simp at h
  | r :: l, hb, i, row, h => by
    unfold allLen at hb
    split at hb
    · rename_i he
      cases i with
      | zero => simp only [List.getElem?_cons_zero, Option.some.injEq] at h; subst h; exact Nat.eq_of_beq_eq_true he
      | succ i => exact allLen_spec hb i row (by simpa using h)
    · cases hb
/-- A block of the walk's own whose cells are known. -/
theorem rd_slc (es : Nat) {k n c : Nat} {cs : List SV} {rows : List (List DV)} (hk : find s.mem k = some (.cells cs)) (hn : rows.length = n) (hnc : Nat.ble n c = true) (hl : allLen es rows = true) (hc : CellsRd x s ks cs rows.flatten) (hks : notIn k ks = true) : RdOk x s ks (.slc k 0 n c) false rows :=
  ⟨fun V w hE hap => by
    have hks' := notIn_spec hks
    have hrow := allLen_spec hl
    obtain ⟨t, hb⟩ := hE.mem k _ hk
    have lv : Lv V s.mem k := ⟨_, hk, trivial⟩
    have hnc' := Nat.le_of_ble_eq_true hnc
    simp only [den]
    subst hn
    by_cases h0 : rows = []
    · subst h0; exact .nil _ _
    have cell : ∀ (i j : Nat) (row : List DV) (d : DV), rows[i]? = some row → row[j]? = some d → ∃ v, cs[i * es + j]? = some v ∧ (scal v = some d ∨ ∃ rr, d = .sl rr ∧ RdOk x s ks v false rr) := fun i j row d hr hd => hc.get _ d (flat_get hrow hr hd)
    refine .sl rows es (V.r k) 0 c (denL V cs).toArray t (0, 0) (fun i j => (denL V cs).getD (i * es + j) Go.undef) h0 hnc' hrow ?_ hb (fun i j row d hr hd => ?_) (fun i j row d hr hd => ?_)
    · rintro (⟨j, hj, h6, h7⟩ | ⟨h, _⟩)
      · have := hE.inj j k h6 lv h7
        subst this
        exact hks' hj
      · cases h
    · obtain ⟨v, hv, _⟩ := cell i j row d hr hd
      have := denL_get V hv
      rw [Nat.zero_add]
      simp [List.getD, this]
    · obtain ⟨v, hv, h | ⟨rr, rfl, h⟩⟩ := cell i j row d hr hd
      · have := denL_get V hv
        simp only [List.getD, this, Option.getD_some]
        have e : den V v = cellV (den V v) d := scal_den h _
        rw [e]
        exact scal_reads (V := V) h w _ _
      · have := denL_get V hv
        simp only [List.getD, this, Option.getD_some]
        exact h.reads V w hE hap⟩
end
end Go.Proofs.Ytjhjhjmdbhackaa
