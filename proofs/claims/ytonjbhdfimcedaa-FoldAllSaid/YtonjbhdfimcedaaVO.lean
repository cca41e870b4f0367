/- Arguments that are lists, with lists within them at any depth: what a walk is told of them. No condition on any program. -/
import Derived.Test.YtonjbhdfimcedaaVC
import Derived.ChangeArms
namespace Go.Proofs.Ytonjbhdfimcedaa
set_option linter.unusedSimpArgs false
set_option linter.unusedSectionVars false
set_option linter.unusedVariables false
open Go.RowKit

/-- What a cell of a type holds. -/
inductive FK where
  | int (k : IntKind)
  | bool
  | str
  | sl (e : TypeId)
def flatF (P : Program) (g : TypeId → Option (List FK)) : List Field → Nat → Option (List FK)
  | [], _ => some []
  | f :: l, o => if f.offset = o then (match g f.type, flatF P g l (o + P.cellsOf f.type) with
    | some a, some b => if a.length = P.cellsOf f.type then some (a ++ b) else none
    | _, _ => none) else none
def flatT (P : Program) : Nat → TypeId → Option (List FK)
  | 0, _ => none
  | n + 1, t => match P.underlying t with
    | some (.int k) => some [.int k]
    | some .bool => some [.bool]
    | some .string => some [.str]
    | some (.slice e) => some [.sl e]
    | some (.struct fs) => match flatF P (flatT P n) fs.toList 0 with
      | some ks => if ks.length = P.cellsOf t then some ks else none
      | none => none
    | _ => none
section
variable {H : Type} {enc : TypeId × Value → H} {P : Program} {w : World} {base : Nat} {spare : Nat → Bool} {held : Bool}
/-- A cell that holds so. -/
def CellK (enc : TypeId × Value → H) (P : Program) (w : World) (base : Nat) (spare : Nat → Bool) (held : Bool) (m : Nat) (v : Value) : FK → Prop
  | .int k => ∃ n, v = .int k n ∧ (Lit.int k n).wf = true
  | .bool => ∃ b, v = .bool b
  | .str => ∃ s : ByteArray, v = .string s ∧ s.size ≤ maxLen
  | .sl e => ∃ t x f, f ≤ m ∧ P.underlying t = some (.slice e) ∧ DataW.trod enc P w base spare held f t [v] = some x
theorem CellK.le {m m' : Nat} (h : m ≤ m') {v : Value} : ∀ {k : FK}, CellK enc P w base spare held m v k → CellK enc P w base spare held m' v k
  | .int _, g => g
  | .bool, g => g
  | .str, g => g
  | .sl _, ⟨t, x, f, h1, h2, h3⟩ => ⟨t, x, f, Nat.le_trans h1 h, h2, h3⟩
theorem flatF_ok {g : TypeId → Option (List FK)} {m : Nat} {cs : List Value}
    (hg : ∀ t ks cs' x, g t = some ks → DataW.trod enc P w base spare held m t cs' = some x → cs'.length = ks.length ∧ ∀ (j : Nat) (k : FK), ks[j]? = some k → ∃ v, cs'[j]? = some v ∧ CellK enc P w base spare held m v k) :
    ∀ (l : List Field) (o : Nat) (ks : List FK), flatF P g l o = some ks → (∀ f ∈ l, ∃ x, DataW.trod enc P w base spare held m f.type ((cs.drop f.offset).take (P.cellsOf f.type)) = some x) →
      ∀ (j : Nat) (k : FK), ks[j]? = some k → ∃ v, cs[o + j]? = some v ∧ CellK enc P w base spare held m v k
  | [], o, ks, h, _, j, k, hj => by
    simp only [flatF, Option.some.injEq] at h; subst h; simp at hj
  | f :: l, o, ks, h, hx, j, k, hj => by
    unfold flatF at h
    split at h
    · rename_i ho
      split at h
      · rename_i a b ha hb
        split at h
        · rename_i hl
          cases h
          obtain ⟨x, hx1⟩ := hx f List.mem_cons_self
          obtain ⟨g1, g2⟩ := hg _ _ _ _ ha hx1
          by_cases hlt : j < a.length
          · rw [List.getElem?_append_left hlt] at hj
            obtain ⟨v, hv, hk⟩ := g2 j k hj
            refine ⟨v, ?_, hk⟩
            rw [List.getElem?_take] at hv
            split at hv
            · rw [List.getElem?_drop, ho] at hv; exact hv
            · cases hv
          · rw [List.getElem?_append_right (by omega)] at hj
            have := flatF_ok hg l _ b hb (fun f' hf' => hx f' (List.mem_cons_of_mem _ hf')) _ k hj
            rw [← hl] at this
            rw [show o + j = o + a.length + (j - a.length) by omega]
            exact this
        · cases h
      · cases h
    · cases h
theorem flat_ok : ∀ (n : Nat) (t : TypeId) (ks : List FK), flatT P n t = some ks → ∀ {fuel : Nat} {cs : List Value} {x : DataW H × List MemPlace}, DataW.trod enc P w base spare held fuel t cs = some x →
    cs.length = ks.length ∧ ∀ (j : Nat) (k : FK), ks[j]? = some k → ∃ v, cs[j]? = some v ∧ CellK enc P w base spare held fuel v k
  | 0, t, ks, h, _, _, _, _ => by simp [flatT] at h
  | n + 1, t, ks, h, fuel, cs, x, hx => by
    have one : ∀ {v : Value} {k : FK}, cs = [v] → ks = [k] → CellK enc P w base spare held fuel v k → cs.length = ks.length ∧ ∀ (j : Nat) (k : FK), ks[j]? = some k → ∃ v, cs[j]? = some v ∧ CellK enc P w base spare held fuel v k := by
      intro v k e1 e2 hk
      subst e1; subst e2
      refine ⟨rfl, fun j k' hj => ?_⟩
      cases j with
      | zero => simp only [List.getElem?_cons_zero, Option.some.injEq] at hj; subst hj; exact ⟨v, rfl, hk⟩
      | succ j => simp at hj
    unfold flatT at h
    split at h
    · rename_i k ht
      cases h
      obtain ⟨n, rfl, rfl, hw⟩ := DataW.trod_int ht hx
      exact one rfl rfl ⟨n, rfl, hw⟩
    · rename_i ht
      cases h
      obtain ⟨b, rfl, rfl⟩ := DataW.trod_bool ht hx
      exact one rfl rfl ⟨b, rfl⟩
    · rename_i ht
      cases h
      obtain ⟨s, rfl, rfl, hs⟩ := DataW.trod_string ht hx
      exact one rfl rfl ⟨s, rfl, hs⟩
    · rename_i e ht
      cases h
      have e1 : ∃ v, cs = [v] := by
        rcases DataW.trod_slice ht hx with ⟨rfl, _⟩ | ⟨a, len, cap, _, _, _, _, rfl, _⟩
        · exact ⟨_, rfl⟩
        · exact ⟨_, rfl⟩
      obtain ⟨v, rfl⟩ := e1
      exact one rfl rfl ⟨t, x, fuel, Nat.le_refl _, ht, hx⟩
    · rename_i fs ht
      split at h
      · rename_i ks' hks
        split at h
        · rename_i hl
          cases h
          obtain ⟨xs, m, rfl, rfl, h1, h2, h3⟩ := DataW.trod_struct ht hx
          refine ⟨by rw [h1, hl], fun j k hj => ?_⟩
          have := flatF_ok (g := flatT P n) (m := m) (cs := cs) (fun t ks cs' x h hx => flat_ok n t ks h hx) fs.toList 0 ks hks (fun f hf => ?_) j k hj
          · obtain ⟨v, hv, hk⟩ := this
            rw [Nat.zero_add] at hv
            exact ⟨v, hv, hk.le (Nat.le_succ _)⟩
          · obtain ⟨i, hi⟩ := List.mem_iff_getElem?.1 hf
            have hi' : fs[i]? = some f := by simpa using hi
            have hlt : i < xs.length := by rw [h2]; exact (Array.getElem?_eq_some_iff.1 hi').1
            exact ⟨xs[i], (h3 i f hi').trans (List.getElem?_eq_getElem hlt)⟩
        · cases h
      · cases h
    · cases h
end

/-! ### Codes -/
def tyB (a b : Ty) : Bool := (Ty.eq? a b).isSome
theorem tyB_eq {a b : Ty} (h : tyB a b = true) : a = b := by
  unfold tyB at h
  cases e : Ty.eq? a b with
  | none => rw [e] at h; cases h
  | some p => exact p.down
def fkB (codes : List (Nat × Ty)) : FK → CKd → Bool
  | .int k, .int k' => keq k k'
  | .bool, .bool => true
  | .str, .str => true
  | .sl e, .sl c => match find codes e with
    | some c' => tyB c' c
    | none => false
  | _, _ => false
def fksB (codes : List (Nat × Ty)) : List FK → List CKd → Bool
  | [], [] => true
  | a :: l, b :: m => fkB codes a b && fksB codes l m
  | _, _ => false
theorem fksB_get {codes : List (Nat × Ty)} : ∀ {l : List FK} {m : List CKd}, fksB codes l m = true → l.length = m.length ∧ ∀ (j : Nat) (b : CKd), m[j]? = some b → ∃ a, l[j]? = some a ∧ fkB codes a b = true
  | [], [], _ => ⟨rfl, fun j b h => by simp at h⟩
  | [], _ :: _, h => by simp [fksB] at h
  | _ :: _, [], h => by simp [fksB] at h
  | a :: l, b :: m, h => by
    simp only [fksB, Bool.and_eq_true] at h
    obtain ⟨h1, h2⟩ := fksB_get h.2
    refine ⟨by simp [h1], fun j b' hj => ?_⟩
    cases j with
    | zero => simp only [List.getElem?_cons_zero, Option.some.injEq] at hj; subst hj; exact ⟨a, rfl, h.1⟩
    | succ j => simp only [List.getElem?_cons_succ] at hj ⊢; exact h2 j b' hj
def codeB (P : Program) (codes : List (Nat × Ty)) (e : Nat) (c : Ty) : Bool := match flatT P 9 e with
  | some ks => Nat.beq (P.cellsOf e) (wid c) && fksB codes ks (cks c)
  | none => false
def codesB (P : Program) (codes : List (Nat × Ty)) : List (Nat × Ty) → Bool
  | [] => true
  | (e, c) :: l => codeB P codes e c && codesB P codes l
theorem codesB_find {P : Program} {codes : List (Nat × Ty)} {e : Nat} {c : Ty} : ∀ {l : List (Nat × Ty)}, codesB P codes l = true → find l e = some c → codeB P codes e c = true
  | [], _, h => by simp [find] at h
  | (e', c') :: l, hb, h => by
    simp only [codesB, Bool.and_eq_true] at hb
    rw [find_cons] at h
    split at h
    · rename_i he; subst he; cases h; exact hb.1
    · exact codesB_find hb.2 h

theorem mkc_ex {c : Ty} {ts : List TC} (h : ts.map ckOf = cks c) : ∃ x, mkc c ts = some x := by
  cases c
  all_goals (simp only [cks, List.map_eq_cons_iff, List.map_eq_nil_iff] at h)
  all_goals (repeat (obtain ⟨t, r, rfl, hk, h⟩ := h; cases t <;> cases hk))
  all_goals (subst h; exact ⟨_, rfl⟩)
/-! ### Where lists lie -/
def cellLoc (w : World) (L : Loc) (d : Nat) : Loc := match L.a with
  | some a => match w.cell? ⟨a.block, a.off + d, none⟩ with
    | some (.slice a' n m) => ⟨a', n, m⟩
    | _ => ⟨none, 0, 0⟩
  | none => ⟨none, 0, 0⟩
def vloc (w : World) : Ty → Loc → Path → Loc
  | _, L, [] => L
  | c, L, (i, j) :: p => match (cks c)[j]? with
    | some (.sl c') => vloc w c' (cellLoc w L (i * wid c + j)) p
    | _ => ⟨none, 0, 0⟩
def wfT : TC → Prop
  | .int k n => (Lit.int k n).wf = true
  | .str s => s.size ≤ maxLen
  | _ => True
/-- The list lies there, and so does all that is within. -/
def OpenL (w : World) (c : Ty) (L : Loc) (l : List (El c)) : Prop :=
  ∀ (p : Path) (c' : Ty) (l' : List (El c')), desc c l p = some ⟨c', l'⟩ → (vloc w c L p).len = l'.length ∧ l'.length ≤ (vloc w c L p).cap ∧ (vloc w c L p).cap ≤ maxLen ∧
    ∀ i x, l'[i]? = some x → ∀ j d, (tcells c' x)[j]? = some d → wfT d ∧ ∃ a, (vloc w c L p).a = some a ∧ a.spot = none ∧ w.cell? ⟨a.block, a.off + (i * wid c' + j), none⟩ = some (match d with | .int k n => .int k n | .bool b => .bool b | .str s => .string s | .sl _ _ => (vloc w c L (p ++ [(i, j)])).hd)
theorem exists_list {α : Type} {Q : Nat → α → Prop} : ∀ (n : Nat), (∀ i, i < n → ∃ y, Q i y) → ∃ l : List α, l.length = n ∧ ∀ i y, l[i]? = some y → Q i y
  | 0, _ => ⟨[], rfl, fun i y h => by simp at h⟩
  | n + 1, h => by
    obtain ⟨l, h1, h2⟩ := exists_list n fun i hi => h i (by omega)
    obtain ⟨y, hy⟩ := h n (by omega)
    refine ⟨l ++ [y], by simp [h1], fun i z hz => ?_⟩
    by_cases hi : i < l.length
    · rw [List.getElem?_append_left hi] at hz; exact h2 i z hz
    · rw [List.getElem?_append_right (by omega)] at hz
      have : i = n := by
        have := (List.getElem?_eq_some_iff.1 hz).1
        simp at this; omega
      subst this
      rw [h1, Nat.sub_self] at hz
      simp at hz; subst hz; exact hy
theorem tcells_kind {c : Ty} {x : El c} {j : Nat} {d : TC} (h : (tcells c x)[j]? = some d) : (cks c)[j]? = some (ckOf d) := by
  rw [← tcells_ck c x, List.getElem?_map, h]; rfl
theorem vloc_sl {w : World} {c c' : Ty} {L : Loc} {i j : Nat} {p : Path} (h : (cks c)[j]? = some (.sl c')) : vloc w c L ((i, j) :: p) = vloc w c' (cellLoc w L (i * wid c + j)) p := by
  simp only [vloc, h]
theorem vloc_app {w : World} : ∀ {c : Ty} {L : Loc} {l : List (El c)} {p q : Path} {c' : Ty} {l' : List (El c')}, desc c l p = some ⟨c', l'⟩ → vloc w c L (p ++ q) = vloc w c' (vloc w c L p) q
  | c, L, l, [], q, c', l', h => by simp only [desc, Option.some.injEq] at h; cases h; rfl
  | c, L, l, (i, j) :: p, q, c', l', h => by
    simp only [desc] at h
    split at h
    · cases h
    · rename_i x hx
      split at h
      · rename_i c1 l1 hj
        have hk := tcells_kind hj
        simp only [ckOf] at hk
        rw [List.cons_append, vloc_sl hk, vloc_sl hk]
        exact vloc_app h
      · cases h
section
variable {H : Type} {enc : TypeId × Value → H} {P : Program} {w : World} {base : Nat} {spare : Nat → Bool} {held : Bool} {codes : List (Nat × Ty)}
/-- A cell, as the walk knows it. -/
def CellD (w : World) (v : Value) (d : TC) : Prop := wfT d ∧ match d with
  | .int k n => v = .int k n
  | .bool b => v = .bool b
  | .str s => v = .string s
  | .sl c l => ∃ L : Loc, v = L.hd ∧ OpenL w c L l
theorem open_list (hc : codesB P codes codes = true) : ∀ (N fuel : Nat), fuel ≤ N → ∀ {t e : TypeId} {c : Ty} {v : Value} {x : DataW H × List MemPlace}, P.underlying t = some (.slice e) → find codes e = some c → DataW.trod enc P w base spare held fuel t [v] = some x →
    ∃ (L : Loc) (l : List (El c)), v = L.hd ∧ OpenL w c L l := by
  intro N
  induction N with
  | zero =>
    intro fuel hN t e c v x ht he hx
    have : fuel = 0 := by omega
    subst this
    simp [DataW.trod] at hx
  | succ N ih =>
    intro fuel hN t e c v x ht he hx
    rcases DataW.trod_slice ht hx with ⟨hcs, _⟩ | ⟨a, len, cap, elems, rest, n, rfl, hcs, _, hb, hl, hm, hlen, hel, _⟩
    · simp only [List.cons.injEq, and_true] at hcs
      subst hcs
      refine ⟨⟨none, 0, 0⟩, [], rfl, fun p c' l' hd => ?_⟩
      obtain ⟨rfl, e2⟩ := desc_nil hd
      cases e2
      exact ⟨rfl, Nat.le_refl _, Nat.zero_le _, fun i x h => by simp at h⟩
    · simp only [List.cons.injEq, and_true] at hcs
      subst hcs
      have hcb := codesB_find hc he
      unfold codeB at hcb
      split at hcb
      · rename_i ks hks
        simp only [Bool.and_eq_true] at hcb
        obtain ⟨hw0, hfk⟩ := hcb
        have hw := Nat.eq_of_beq_eq_true hw0
        obtain ⟨f1, f2⟩ := fksB_get hfk
        -- one row
        have row : ∀ i, i < len → ∃ y : El c, ∀ j d, (tcells c y)[j]? = some d → ∃ v, w.cell? ((a.add (i * wid c)).add j) = some v ∧ CellD w v d := by
          intro i hi
          have h1 := hel i hi
          rw [hw] at h1
          have hlt : i < elems.length := by omega
          rw [List.getElem?_eq_getElem hlt] at h1
          obtain ⟨cs, hcs, htr⟩ := Option.bind_eq_some_iff.1 h1
          obtain ⟨g1, g2⟩ := flat_ok 9 e ks hks htr
          obtain ⟨_, hlc, hcell⟩ := World.cells?_some hcs
          have cell : ∀ j, j < wid c → ∃ d : TC, (cks c)[j]? = some (ckOf d) ∧ ∃ v, w.cell? ((a.add (i * wid c)).add j) = some v ∧ CellD w v d := by
            intro j hj
            have hjk : j < (cks c).length := by rw [cks_len]; exact hj
            obtain ⟨fk, h2, h3⟩ := f2 j _ (List.getElem?_eq_getElem hjk)
            obtain ⟨v, h4, h5⟩ := g2 j fk h2
            have h6 : w.cell? ((a.add (i * wid c)).add j) = some v := by rw [hcell j hj, h4]
            rw [List.getElem?_eq_getElem hjk]
            cases hck : (cks c)[j] with
            | int k =>
              rw [hck] at h3
              cases fk <;> simp only [fkB, Bool.false_eq_true] at h3
              have := keq_eq h3
              subst this
              obtain ⟨n, rfl, hwf⟩ := h5
              exact ⟨.int _ n, rfl, _, h6, hwf, rfl⟩
            | bool =>
              rw [hck] at h3
              cases fk <;> simp only [fkB, Bool.false_eq_true] at h3
              obtain ⟨b, rfl⟩ := h5
              exact ⟨.bool b, rfl, _, h6, trivial, rfl⟩
            | str =>
              rw [hck] at h3
              cases fk <;> simp only [fkB, Bool.false_eq_true] at h3
              obtain ⟨s, rfl, hs⟩ := h5
              exact ⟨.str s, rfl, _, h6, hs, rfl⟩
            | sl c1 =>
              rw [hck] at h3
              cases fk <;> simp only [fkB, Bool.false_eq_true] at h3
              rename_i e1
              split at h3
              · rename_i c2 hf
                have := tyB_eq h3
                subst this
                obtain ⟨t', x', f', y1, y2, y3⟩ := h5
                obtain ⟨L', l', rfl, ho⟩ := ih f' (by omega) y2 hf y3
                exact ⟨.sl _ l', rfl, _, h6, trivial, L', rfl, ho⟩
              · cases h3
          obtain ⟨ts, t1, t2⟩ := exists_list (wid c) cell
          have hk : ts.map ckOf = cks c := by
            apply List.ext_getElem?
            intro j
            by_cases hj : j < ts.length
            · rw [List.getElem?_map, List.getElem?_eq_getElem hj, (t2 j _ (List.getElem?_eq_getElem hj)).1]; rfl
            · rw [List.getElem?_eq_none (by simpa using hj), List.getElem?_eq_none (by rw [cks_len]; omega)]
          obtain ⟨y, hy⟩ := mkc_ex hk
          refine ⟨y, fun j d hd => ?_⟩
          rw [mkc_cells hy] at hd
          exact (t2 j d hd).2
        obtain ⟨l, l1, l2⟩ := exists_list len row
        refine ⟨⟨some a, len, cap⟩, l, rfl, ?_⟩
        have at_ : ∀ i y, l[i]? = some y → ∀ j d, (tcells c y)[j]? = some d → a.spot = none ∧ ∃ v, w.cell? ⟨a.block, a.off + (i * wid c + j), none⟩ = some v ∧ CellD w v d := by
          intro i y hi j d hj
          obtain ⟨v, h1, h2⟩ := l2 i y hi j d hj
          have hi0 : 0 < l.length := Nat.lt_of_le_of_lt (Nat.zero_le _) (List.getElem?_eq_some_iff.1 hi).1
          have hj0 : 0 < (tcells c l[0]).length := by rw [tcells_len]; exact wid_pos c
          obtain ⟨v0, h3, _⟩ := l2 0 _ (List.getElem?_eq_getElem hi0) 0 _ (List.getElem?_eq_getElem hj0)
          have sp : a.spot = none := by
            rw [Nat.zero_mul, show (a.add 0).add 0 = a from rfl] at h3
            unfold World.cell? at h3
            split at h3
            · cases hs : a.spot with
              | some s => rw [hs] at h3; simp at h3
              | none => rfl
            · cases h3
          refine ⟨sp, v, ?_, h2⟩
          obtain ⟨b, o, s⟩ := a
          simp only at sp
          subst sp
          rw [Addr.add_mid, Addr.add_mid, Nat.add_assoc] at h1
          exact h1
        have loc : ∀ i y, l[i]? = some y → ∀ j c1 l1', (tcells c y)[j]? = some (.sl c1 l1') → ∃ L' : Loc, OpenL w c1 L' l1' ∧ cellLoc w ⟨some a, len, cap⟩ (i * wid c + j) = L' ∧ w.cell? ⟨a.block, a.off + (i * wid c + j), none⟩ = some L'.hd := by
          intro i y hi j c1 l1' hj
          obtain ⟨_, v, h1, _, L', rfl, h2⟩ := at_ i y hi j _ hj
          refine ⟨L', h2, ?_, h1⟩
          simp only [cellLoc, h1, Loc.hd]
        intro p c' l' hd
        cases p with
        | nil =>
          simp only [desc, Option.some.injEq] at hd
          cases hd
          refine ⟨l1.symm, by rw [l1]; exact hl, hm, fun i y hi j d hj => ?_⟩
          obtain ⟨sp, v, h1, h2, h3⟩ := at_ i y hi j d hj
          refine ⟨h2, a, rfl, sp, h1.trans ?_⟩
          cases d with
          | int k n => simp only at h3; rw [h3]
          | bool b => simp only at h3; rw [h3]
          | str s => simp only at h3; rw [h3]
          | sl c1 l1' =>
            obtain ⟨L', _, h4, h5⟩ := loc i y hi j c1 l1' hj
            have hk := tcells_kind hj
            simp only [ckOf] at hk
            simp only [List.nil_append]
            rw [vloc_sl hk, h4]
            rw [h1] at h5
            exact h5
        | cons ij p =>
          obtain ⟨i, j⟩ := ij
          simp only [desc] at hd
          split at hd
          · cases hd
          · rename_i y hy
            split at hd
            · rename_i c1 l1' hj
              obtain ⟨L', h2, h4, h5⟩ := loc i y hy j c1 l1' hj
              have hk := tcells_kind hj
              simp only [ckOf] at hk
              have := h2 p c' l' hd
              simp only [vloc_sl hk, h4, List.cons_append]
              exact this
            · cases hd
      · cases hcb
end

/-! ### The world at the beginning -/
structure Arg where
  c : Ty
  L : Loc
  l : List (El c)
def argMem : Nat → List Arg → List (Nat × MB)
  | _, [] => []
  | k, a :: r => (k, .list .tmp a.c a.l) :: argMem (k + 1) r
def argV (w : World) (as : List Arg) : Vl := fun r => match as[r.k]? with
  | some a => vloc w a.c a.L r.p
  | none => ⟨none, 0, 0⟩
theorem argMem_find : ∀ {as : List Arg} {k r : Nat} {m : MB}, find (argMem k as) r = some m → k ≤ r ∧ ∃ a, as[r - k]? = some a ∧ m = .list .tmp a.c a.l
  | [], k, r, m, h => by simp [argMem, find] at h
  | a :: as, k, r, m, h => by
    simp only [argMem, find_cons] at h
    split at h
    · rename_i e; subst e; cases h; exact ⟨Nat.le_refl _, a, by simp, rfl⟩
    · obtain ⟨h1, b, h2, h3⟩ := argMem_find h
      refine ⟨by omega, b, ?_, h3⟩
      rw [show r - k = (r - (k + 1)) + 1 by omega]
      simpa using h2
theorem args_cont {as : List Arg} {r : Rid} {b : AB} (h : cont (argMem 0 as) r = some b) : ∃ a c' l', as[r.k]? = some a ∧ desc a.c a.l r.p = some ⟨c', l'⟩ ∧ b = .list .tmp c' l' := by
  obtain ⟨m, h1, h2⟩ := cont_iff.1 h
  obtain ⟨_, a, h3, rfl⟩ := argMem_find h1
  rw [Nat.sub_zero] at h3
  simp only [contB] at h2
  split at h2
  · rename_i c' l' hd
    cases h2
    exact ⟨a, c', l', h3, hd, by simp only [Md.at]⟩
  · cases h2
theorem args_ents {w : World} {as : List Arg} (h : ∀ a ∈ as, OpenL w a.c a.L a.l) : Ents (fun _ => False) (argV w as) ⟨[], argMem 0 as, as.length⟩ w := by
  refine ⟨fun k m hk => ?_, fun r b hb => ?_, fun r r' b b' hb hb' _ _ hk _ => ?_, fun r b hb _ hk => ?_⟩
  · obtain ⟨_, a, h1, rfl⟩ := argMem_find hk
    exact ⟨by have := (List.getElem?_eq_some_iff.1 h1).1; simpa using this, rfl⟩
  · obtain ⟨a, c', l', h1, h2, rfl⟩ := args_cont hb
    obtain ⟨g1, g2, _, g3⟩ := h a (List.mem_of_getElem? h1) r.p c' l' h2
    have hv : ∀ p, argV w as ⟨r.k, p⟩ = vloc w a.c a.L p := fun p => by simp only [argV, h1]
    have hr : argV w as r = vloc w a.c a.L r.p := hv r.p
    refine ⟨by rw [hr]; exact g1, by rw [hr]; exact g2, (fun e => by cases e), fun i x hx j d hd => ?_⟩
    obtain ⟨_, ad, k1, k2, k3⟩ := g3 i x hx j d hd
    refine ⟨ad, by rw [hr]; exact k1, k2, k3.trans ?_⟩
    cases d <;> simp only [denT]
    simp only [Rid.ch, hv]
  · obtain ⟨a, c', l', h1, h2, rfl⟩ := args_cont hb
    cases hk
  · obtain ⟨a, c', l', h1, h2, rfl⟩ := args_cont hb
    exact absurd rfl hk
theorem args_dl {V : Vl} {as : List Arg} {b : Nat} : ¬ Dl V (argMem 0 as) b := by
  rintro ⟨r, y, hc, _, hk, _⟩
  obtain ⟨a, c', l', h1, h2, rfl⟩ := args_cont hc
  cases hk
/-- **A law of lists and plain values**: its contract says what its row asks. -/
theorem law_ofA {P : Program} {g : Nat} {svs : List SV} {vs : List Value} {w : World} (as : List Arg) (n : Nat) (hn : as.length = n) (h : ∀ a ∈ as, OpenL w a.c a.L a.l)
    (T : Trip P g svs ⟨[], argMem 0 as, n⟩ (Z := Unit) (fun _ => True) (fun _ => .bool true) (fun _ => ⟨[], [], n⟩))
    (hvs : denL (argV w as) svs = vs) : Calls P g vs.toArray w fun e w' => e = .returned (.bool true) ∧ Below w.heap.size w w' := by
  subst hn
  have hT := T.runs (argV w as) (fun _ => False) w (args_ents h) (fun b hb => hb.elim)
  rw [hvs] at hT
  exact hT.mono fun e w' ⟨z, V', _, he, _, _, _, _, hfr, _⟩ => ⟨he, hfr.2.2.os, hfr.2.2.tape, hfr.2.2.output, hfr.1, fun k hk => hfr.2.1 k hk args_dl⟩
def getsL : List Value → Nat → List Value → Prop
  | _, _, [] => True
  | l, k, v :: vs => l[k]? = some v ∧ getsL l (k + 1) vs
theorem getsL_at {l : List Value} : ∀ {vs : List Value} {k : Nat}, getsL l k vs → ∀ j v, vs[j]? = some v → l[k + j]? = some v
  | [], _, _, j, v, h => by simp at h
  | x :: vs, k, ⟨h1, h2⟩, j, v, h => by
    cases j with
    | zero => simp only [List.getElem?_cons_zero, Option.some.injEq] at h; subst h; exact h1
    | succ j =>
      simp only [List.getElem?_cons_succ] at h
      rw [show k + (j + 1) = k + 1 + j by omega]
      exact getsL_at h2 j v h
theorem arr_of {cs : Array Value} {vs : List Value} {n : Nat} (h : cs.toList.length = n) (hg : getsL cs.toList 0 vs) (hn : vs.length = n := by rfl) : cs = vs.toArray := by
  apply Array.ext'
  apply List.ext_getElem?
  intro j
  by_cases hj : j < vs.length
  · have := getsL_at hg j vs[j] (List.getElem?_eq_getElem hj)
    rw [Nat.zero_add] at this
    rw [this]; simp [List.getElem?_eq_getElem hj]
  · rw [List.getElem?_eq_none (by omega), List.getElem?_eq_none (by simpa using hj)]
/-- A list is no longer than any list is. -/
theorem OpenL.max {w : World} {c : Ty} {L : Loc} {l : List (El c)} (h : OpenL w c L l) : l.length ≤ maxLen := by
  obtain ⟨_, h2, h3, _⟩ := h [] c l rfl
  exact Nat.le_trans h2 h3
/-- What the cells of rows are. -/
theorem OpenL.wf {w : World} {c : Ty} {L : Loc} {l : List (El c)} (h : OpenL w c L l) {x : El c} (hx : x ∈ l) {d : TC} (hd : d ∈ tcells c x) : wfT d := by
  obtain ⟨_, _, _, h4⟩ := h [] c l rfl
  obtain ⟨i, hi⟩ := List.mem_iff_getElem?.1 hx
  obtain ⟨j, hj⟩ := List.mem_iff_getElem?.1 hd
  exact (h4 i x hi j d hj).1
/-- Lists within. -/
theorem OpenL.sub {w : World} {c : Ty} {L : Loc} {l : List (El c)} (h : OpenL w c L l) {x : El c} (hx : x ∈ l) {c1 : Ty} {l1 : List (El c1)} (hd : .sl c1 l1 ∈ tcells c x) : ∃ L1, OpenL w c1 L1 l1 := by
  obtain ⟨i, hi⟩ := List.mem_iff_getElem?.1 hx
  obtain ⟨j, hj⟩ := List.mem_iff_getElem?.1 hd
  have hk := tcells_kind hj
  simp only [ckOf] at hk
  refine ⟨cellLoc w L (i * wid c + j), fun p c' l' hp => ?_⟩
  have hd' : desc c l ((i, j) :: p) = some ⟨c', l'⟩ := by simp only [desc, hi, hj]; exact hp
  have := h _ c' l' hd'
  simp only [vloc_sl hk, List.cons_append] at this
  exact this
end Go.Proofs.Ytonjbhdfimcedaa
