/- Arguments of a bounded bulk; argument lists that nobody changes. No condition on any program. -/
import Derived.Test.YtonjbhdfimcedaaVO
import Derived.Test.YtonjbhdfimcedaaRows
namespace Go.Proofs.Ytonjbhdfimcedaa
set_option linter.unusedSimpArgs false
set_option linter.unusedSectionVars false
set_option linter.unusedVariables false
open Go.RowKit
theorem bk_one {H : Type} (d : DataW H) : 1 ≤ Rows.uptoBulk d := by
  cases d with
  | lit l => cases l <;> simp [Rows.uptoBulk]
  | nil => simp [Rows.uptoBulk]
  | ptr d => simp [Rows.uptoBulk]
  | slice elems spare => simp [Rows.uptoBulk]
  | agg parts => simp [Rows.uptoBulk]
  | iface t d => simp [Rows.uptoBulk]
  | map entries => simp [Rows.uptoBulk]
  | held h => simp [Rows.uptoBulk]
theorem bk_app {H : Type} (l r : List (DataW H)) : Rows.uptoBulkAll (l ++ r) = Rows.uptoBulkAll l + Rows.uptoBulkAll r := by
  induction l with
  | nil => simp [Rows.uptoBulkAll]
  | cons x l ih => simp only [List.cons_append, Rows.uptoBulkAll, ih]; omega
theorem bk_len {H : Type} (l : List (DataW H)) : l.length ≤ Rows.uptoBulkAll l := by
  induction l with
  | nil => simp [Rows.uptoBulkAll]
  | cons x r ih => have := bk_one x; simp only [Rows.uptoBulkAll, List.length_cons]; omega
theorem bk_part {H : Type} {d : DataW H} {l : List (DataW H)} (h : d ∈ l) : Rows.uptoBulk d ≤ Rows.uptoBulkAll l := by
  induction l with
  | nil => cases h
  | cons x r ih =>
    simp only [Rows.uptoBulkAll]
    cases List.mem_cons.1 h with
    | inl e => subst e; omega
    | inr e => have := ih e; omega
theorem bk_small {H : Type} {l : List (DataW H)} (hk : Rows.uptoSmall H l = true) : Rows.uptoBulkAll l ≤ 1048576 := of_decide_eq_true hk
section
variable {H : Type} {enc : TypeId × Value → H} {P : Program} {w : World} {base : Nat} {spare : Nat → Bool} {held : Bool}
/-- What a cell's datum is. -/
def CellB (enc : TypeId × Value → H) (P : Program) (w : World) (base : Nat) (spare : Nat → Bool) (held : Bool) (m : Nat) (v : Value) (d : DataW H) : FK → Prop
  | .sl e => ∃ t x f, f ≤ m ∧ P.underlying t = some (.slice e) ∧ DataW.trod enc P w base spare held f t [v] = some x ∧ d = x.1
  | _ => True
theorem CellB.le {m m' : Nat} (h : m ≤ m') {v : Value} {d : DataW H} : ∀ {k : FK}, CellB enc P w base spare held m v d k → CellB enc P w base spare held m' v d k
  | .int _, _ => trivial
  | .bool, _ => trivial
  | .str, _ => trivial
  | .sl _, ⟨t, x, f, h1, h2⟩ => ⟨t, x, f, Nat.le_trans h1 h, h2⟩
theorem flatF_bulk {g : TypeId → Option (List FK)} {m : Nat} {cs : List Value}
    (hg : ∀ t ks cs' x, g t = some ks → DataW.trod enc P w base spare held m t cs' = some x → ∃ ds : List (DataW H), ds.length = ks.length ∧ Rows.uptoBulkAll ds ≤ Rows.uptoBulk x.1 ∧ ∀ (j : Nat) (k : FK), ks[j]? = some k → ∃ v d, cs'[j]? = some v ∧ ds[j]? = some d ∧ CellB enc P w base spare held m v d k) :
    ∀ (l : List Field) (o : Nat) (ks : List FK), flatF P g l o = some ks → ∀ (xs : List (DataW H × List MemPlace)), xs.length = l.length → (∀ (i : Nat) (f : Field), l[i]? = some f → DataW.trod enc P w base spare held m f.type ((cs.drop f.offset).take (P.cellsOf f.type)) = xs[i]?) →
      ∃ ds : List (DataW H), ds.length = ks.length ∧ Rows.uptoBulkAll ds ≤ Rows.uptoBulkAll (xs.map (·.1)) ∧ ∀ (j : Nat) (k : FK), ks[j]? = some k → ∃ v d, cs[o + j]? = some v ∧ ds[j]? = some d ∧ CellB enc P w base spare held m v d k
  | [], o, ks, h, xs, hxs, _ => by
    simp only [flatF, Option.some.injEq] at h
    subst h
    exact ⟨[], rfl, by simp [Rows.uptoBulkAll], fun j k hj => by simp at hj⟩
  | f :: l, o, ks, h, [], hxs, _ => by simp at hxs
  | f :: l, o, ks, h, x :: xs, hxs, hx => by
    unfold flatF at h
    split at h
    · rename_i ho
      split at h
      · rename_i a b ha hb
        split at h
        · rename_i hl
          cases h
          have hx1 := hx 0 f rfl
          simp only [List.getElem?_cons_zero] at hx1
          obtain ⟨d1, g1, g2, g3⟩ := hg _ _ _ _ ha hx1
          obtain ⟨d2, k1, k2, k3⟩ := flatF_bulk hg l _ b hb xs (by simpa using hxs) (fun i f' hi => by have := hx (i + 1) f' (by simpa using hi); simpa using this)
          refine ⟨d1 ++ d2, by rw [List.length_append, List.length_append, g1, k1], by rw [bk_app]; simp only [List.map_cons, Rows.uptoBulkAll]; omega, fun j k hj => ?_⟩
          by_cases hlt : j < a.length
          · rw [List.getElem?_append_left hlt] at hj
            obtain ⟨v, d, hv, hd, hk⟩ := g3 j k hj
            refine ⟨v, d, ?_, by rw [List.getElem?_append_left (by omega)]; exact hd, hk⟩
            rw [List.getElem?_take] at hv
            split at hv
            · rw [List.getElem?_drop, ho] at hv; exact hv
            · cases hv
          · rw [List.getElem?_append_right (by omega)] at hj
            obtain ⟨v, d, hv, hd, hk⟩ := k3 _ k hj
            rw [← hl] at hv
            rw [show o + j = o + a.length + (j - a.length) by omega]
            exact ⟨v, d, hv, by rw [List.getElem?_append_right (by omega), g1]; exact hd, hk⟩
        · cases h
      · cases h
    · cases h
theorem flat_bulk : ∀ (n : Nat) (t : TypeId) (ks : List FK), flatT P n t = some ks → ∀ {fuel : Nat} {cs : List Value} {x : DataW H × List MemPlace}, DataW.trod enc P w base spare held fuel t cs = some x →
    ∃ ds : List (DataW H), ds.length = ks.length ∧ Rows.uptoBulkAll ds ≤ Rows.uptoBulk x.1 ∧ ∀ (j : Nat) (k : FK), ks[j]? = some k → ∃ v d, cs[j]? = some v ∧ ds[j]? = some d ∧ CellB enc P w base spare held fuel v d k
  | 0, t, ks, h, _, _, _, _ => by simp [flatT] at h
  | n + 1, t, ks, h, fuel, cs, x, hx => by
    have one : ∀ {v : Value} {k : FK}, cs = [v] → ks = [k] → CellB enc P w base spare held fuel v x.1 k → ∃ ds : List (DataW H), ds.length = ks.length ∧ Rows.uptoBulkAll ds ≤ Rows.uptoBulk x.1 ∧ ∀ (j : Nat) (k : FK), ks[j]? = some k → ∃ v d, cs[j]? = some v ∧ ds[j]? = some d ∧ CellB enc P w base spare held fuel v d k := by
      intro v k e1 e2 hk
      subst e1; subst e2
      refine ⟨[x.1], rfl, by simp [Rows.uptoBulkAll], fun j k' hj => ?_⟩
      cases j with
      | zero => simp only [List.getElem?_cons_zero, Option.some.injEq] at hj; subst hj; exact ⟨v, x.1, rfl, rfl, hk⟩
      | succ j => simp at hj
    unfold flatT at h
    split at h
    · rename_i k ht
      cases h
      obtain ⟨n, rfl, _, hw⟩ := DataW.trod_int ht hx
      exact one rfl rfl trivial
    · rename_i ht
      cases h
      obtain ⟨b, rfl, _⟩ := DataW.trod_bool ht hx
      exact one rfl rfl trivial
    · rename_i ht
      cases h
      obtain ⟨s, rfl, _, hs⟩ := DataW.trod_string ht hx
      exact one rfl rfl trivial
    · rename_i e ht
      cases h
      have e1 : ∃ v, cs = [v] := by
        rcases DataW.trod_slice ht hx with ⟨rfl, _⟩ | ⟨a, len, cap, _, _, _, _, rfl, _⟩
        · exact ⟨_, rfl⟩
        · exact ⟨_, rfl⟩
      obtain ⟨v, rfl⟩ := e1
      exact one rfl rfl ⟨t, x, fuel, Nat.le_refl _, ht, hx, rfl⟩
    · rename_i fs ht
      split at h
      · rename_i ks' hks
        split at h
        · rename_i hl
          cases h
          obtain ⟨xs, m, rfl, rfl, h1, h2, h3⟩ := DataW.trod_struct ht hx
          obtain ⟨ds, g1, g2, g3⟩ := flatF_bulk (g := flatT P n) (m := m) (cs := cs) (fun t ks cs' x h hx => flat_bulk n t ks h hx) fs.toList 0 ks hks xs (by rw [h2]; simp) (fun i f hf => h3 i f (by simpa using hf))
          refine ⟨ds, g1, by simp only [Rows.uptoBulk]; omega, fun j k hj => ?_⟩
          obtain ⟨v, d, hv, hd, hk⟩ := g3 j k hj
          rw [Nat.zero_add] at hv
          exact ⟨v, d, hv, hd, hk.le (Nat.le_succ _)⟩
        · cases h
      · cases h
    · cases h
theorem slice_bulk {fuel : Nat} {t e : TypeId} {L : Loc} {x : DataW H × List MemPlace} (ht : P.underlying t = some (.slice e)) (hx : DataW.trod enc P w base spare held fuel t [L.hd] = some x) : L.len + 1 ≤ Rows.uptoBulk x.1 := by
  rcases DataW.trod_slice ht hx with ⟨hcs, rfl⟩ | ⟨a, len, cap, elems, rest, n, rfl, hcs, rfl, hb, hl, hm, hlen, hel, _⟩
  · simp only [List.cons.injEq, and_true, Loc.hd, Value.slice.injEq] at hcs
    simp only [Rows.uptoBulk]
    omega
  · simp only [List.cons.injEq, and_true, Loc.hd, Value.slice.injEq] at hcs
    have := bk_len (elems.map (·.1))
    rw [List.length_map] at this
    simp only [Rows.uptoBulk]
    omega
def tsz : List TC → Nat
  | [] => 0
  | .sl _ l :: r => l.length + tsz r
  | _ :: r => tsz r
/-- How much lies within the rows. -/
def lsum (c : Ty) : List (El c) → Nat
  | [] => 0
  | x :: l => tsz (tcells c x) + lsum c l
theorem tsz_le : ∀ {ts : List TC} {ds : List (DataW H)}, ds.length = ts.length → (∀ (j : Nat) (c : Ty) (l : List (El c)) (d : DataW H), ts[j]? = some (.sl c l) → ds[j]? = some d → l.length + 1 ≤ Rows.uptoBulk d) → tsz ts + ts.length ≤ Rows.uptoBulkAll ds
  | [], ds, hl, _ => by simp [tsz]
  | t :: ts, [], hl, _ => by simp at hl
  | t :: ts, d :: ds, hl, h => by
    have ih := tsz_le (ts := ts) (ds := ds) (by simpa using hl) (fun j c l d' h1 h2 => h (j + 1) c l d' (by simpa using h1) (by simpa using h2))
    have h1 := bk_one d
    cases t with
    | sl c l => have := h 0 c l d rfl rfl; simp only [tsz, List.length_cons, Rows.uptoBulkAll]; omega
    | int k n => simp only [tsz, List.length_cons, Rows.uptoBulkAll]; omega
    | bool b => simp only [tsz, List.length_cons, Rows.uptoBulkAll]; omega
    | str s => simp only [tsz, List.length_cons, Rows.uptoBulkAll]; omega
theorem rows_le {c : Ty} : ∀ {l : List (El c)} {xs : List (DataW H × List MemPlace)}, xs.length = l.length → (∀ (i : Nat) (y : El c) (x : DataW H × List MemPlace), l[i]? = some y → xs[i]? = some x → tsz (tcells c y) + 1 ≤ Rows.uptoBulk x.1) → l.length + lsum c l ≤ Rows.uptoBulkAll (xs.map (·.1))
  | [], xs, _, _ => by simp [lsum]
  | y :: l, [], hl, _ => by simp at hl
  | y :: l, x :: xs, hl, h => by
    have ih := rows_le (l := l) (xs := xs) (by simpa using hl) (fun i y' x' h1 h2 => h (i + 1) y' x' (by simpa using h1) (by simpa using h2))
    have h1 := h 0 y x rfl rfl
    simp only [List.length_cons, lsum, List.map_cons, Rows.uptoBulkAll]
    omega
/-- **A list and what lies within its rows is at most the bulk of its reading.** -/
theorem list_bulk {codes : List (Nat × Ty)} (hc : codesB P codes codes = true) {fuel : Nat} {t e : TypeId} {c : Ty} {L : Loc} {l : List (El c)} {x : DataW H × List MemPlace} (ht : P.underlying t = some (.slice e)) (he : find codes e = some c) (hx : DataW.trod enc P w base spare held fuel t [L.hd] = some x) (ho : OpenL w c L l) : l.length + lsum c l ≤ Rows.uptoBulk x.1 := by
  obtain ⟨q1, q2, q3, q4⟩ := ho [] c l rfl
  simp only [vloc] at q1 q2 q3 q4
  rcases DataW.trod_slice ht hx with ⟨hcs, rfl⟩ | ⟨a, len, cap, elems, rest, n, rfl, hcs, rfl, hb, hl, hm, hlen, hel, _⟩
  · simp only [List.cons.injEq, and_true, Loc.hd, Value.slice.injEq] at hcs
    have : l = [] := List.eq_nil_of_length_eq_zero (by omega)
    subst this
    simp [lsum, Rows.uptoBulk]
  · simp only [List.cons.injEq, and_true, Loc.hd, Value.slice.injEq] at hcs
    obtain ⟨hla, hll, hlc⟩ := hcs
    have hcb := codesB_find hc he
    unfold codeB at hcb
    split at hcb
    · rename_i ks hks
      simp only [Bool.and_eq_true] at hcb
      obtain ⟨hw0, hfk⟩ := hcb
      have hw := Nat.eq_of_beq_eq_true hw0
      obtain ⟨f1, f2⟩ := fksB_get hfk
      have hr := rows_le (c := c) (l := l) (xs := elems) (by omega) (fun i y xi hy hxi => by
        have hi : i < l.length := (List.getElem?_eq_some_iff.1 hy).1
        have h1 := hel i (by omega)
        rw [hw, hxi] at h1
        obtain ⟨cs, hcs, htr⟩ := Option.bind_eq_some_iff.1 h1
        obtain ⟨ds, g1, g2, g3⟩ := flat_bulk 9 e ks hks htr
        obtain ⟨_, hlc', hcell⟩ := World.cells?_some hcs
        have hlen2 : ds.length = (tcells c y).length := by rw [g1, f1, cks_len, tcells_len]
        have hts := tsz_le (ts := tcells c y) (ds := ds) hlen2 (fun j c' l' d hj hd => by
          have hk := tcells_kind hj
          simp only [ckOf] at hk
          obtain ⟨fk, h2, h3⟩ := f2 j _ hk
          obtain ⟨v, d', h4, h5, h6⟩ := g3 j fk h2
          rw [hd] at h5
          cases h5
          cases fk <;> simp only [fkB, Bool.false_eq_true] at h3
          obtain ⟨t', x', f', _, ht', hx', rfl⟩ := h6
          have hjw : j < wid c := by have := (List.getElem?_eq_some_iff.1 hj).1; rw [tcells_len] at this; exact this
          obtain ⟨_, a', ha', hsp, hc'⟩ := q4 i y hy j _ hj
          rw [hla] at ha'
          cases ha'
          simp only [List.nil_append] at hc'
          have hcv := hcell j hjw
          rw [h4] at hcv
          have hadd : (a.add (i * wid c)).add j = ⟨a.block, a.off + (i * wid c + j), none⟩ := by
            obtain ⟨b0, o0, s0⟩ := a
            simp only at hsp
            subst hsp
            rw [Addr.add_mid, Addr.add_mid, Nat.add_assoc]
          rw [hadd, hc'] at hcv
          simp only [Option.some.injEq] at hcv
          rw [← hcv] at hx'
          have hb' := slice_bulk ht' hx'
          obtain ⟨z1, _⟩ := ho [(i, j)] c' l' (by simp only [desc, hy, hj])
          omega)
        have hwp := wid_pos c
        rw [tcells_len] at hts
        omega)
      simp only [Rows.uptoBulk]
      omega
    · cases hcb
end
/-! ### Lists that nobody changes -/
def argMemF : Nat → List Arg → List (Nat × MB)
  | _, [] => []
  | k, a :: r => (k, .list .fz a.c a.l) :: argMemF (k + 1) r
theorem argMemF_find : ∀ {ars : List Arg} {k r : Nat} {m : MB}, find (argMemF k ars) r = some m → k ≤ r ∧ ∃ a, ars[r - k]? = some a ∧ m = .list .fz a.c a.l
  | [], k, r, m, h => by simp [argMemF, find] at h
  | a :: ars, k, r, m, h => by
    simp only [argMemF, find_cons] at h
    split at h
    · rename_i e; subst e; cases h; exact ⟨Nat.le_refl _, a, by simp, rfl⟩
    · obtain ⟨h1, b, h2, h3⟩ := argMemF_find h
      refine ⟨by omega, b, ?_, h3⟩
      rw [show r - k = (r - (k + 1)) + 1 by omega]
      simpa using h2
theorem argsF_cont {ars : List Arg} {r : Rid} {b : AB} (h : cont (argMemF 0 ars) r = some b) : ∃ a c' l', ars[r.k]? = some a ∧ desc a.c a.l r.p = some ⟨c', l'⟩ ∧ b = .list .fz c' l' := by
  obtain ⟨m, h1, h2⟩ := cont_iff.1 h
  obtain ⟨_, a, h3, rfl⟩ := argMemF_find h1
  rw [Nat.sub_zero] at h3
  simp only [contB] at h2
  split at h2
  · rename_i c' l' hd
    cases h2
    exact ⟨a, c', l', h3, hd, by simp only [Md.at]⟩
  · cases h2
theorem argsF_ents {w : World} {ars : List Arg} (h : ∀ a ∈ ars, OpenL w a.c a.L a.l) : Ents (fun _ => False) (argV w ars) ⟨[], argMemF 0 ars, ars.length⟩ w := by
  refine ⟨fun k m hk => ?_, fun r b hb => ?_, fun r r' b b' hb hb' _ _ hk _ => ?_, fun r b hb _ hk hd => hd⟩
  · obtain ⟨_, a, h1, rfl⟩ := argMemF_find hk
    exact ⟨by have := (List.getElem?_eq_some_iff.1 h1).1; simpa using this, rfl⟩
  · obtain ⟨a, c', l', h1, h2, rfl⟩ := argsF_cont hb
    obtain ⟨g1, g2, _, g3⟩ := h a (List.mem_of_getElem? h1) r.p c' l' h2
    have hv : ∀ p, argV w ars ⟨r.k, p⟩ = vloc w a.c a.L p := fun p => by simp only [argV, h1]
    have hr : argV w ars r = vloc w a.c a.L r.p := hv r.p
    refine ⟨by rw [hr]; exact g1, by rw [hr]; exact g2, (fun e => by cases e), fun i x hx j d hd => ?_⟩
    obtain ⟨_, ad, k1, k2, k3⟩ := g3 i x hx j d hd
    refine ⟨ad, by rw [hr]; exact k1, k2, k3.trans ?_⟩
    cases d <;> simp only [denT]
    simp only [Rid.ch, hv]
  · obtain ⟨a, c', l', h1, h2, rfl⟩ := argsF_cont hb
    cases hk
theorem argsF_dl {V : Vl} {ars : List Arg} {b : Nat} : ¬ Dl V (argMemF 0 ars) b := by
  rintro ⟨r, y, hc, _, hk, _⟩
  obtain ⟨a, c', l', h1, h2, rfl⟩ := argsF_cont hc
  cases hk
/-- **A law of lists and plain values**, the lists being such as nobody changes. -/
theorem law_ofF {P : Program} {g : Nat} {svs : List SV} {vs : List Value} {w : World} (ars : List Arg) (n : Nat) (hn : ars.length = n) (h : ∀ a ∈ ars, OpenL w a.c a.L a.l)
    (T : Trip P g svs ⟨[], argMemF 0 ars, n⟩ (Z := Unit) (fun _ => True) (fun _ => .bool true) (fun _ => ⟨[], argMemF 0 ars, n⟩))
    (hvs : denL (argV w ars) svs = vs) : Calls P g vs.toArray w fun e w' => e = .returned (.bool true) ∧ Below w.heap.size w w' := by
  subst hn
  have hT := T.runs (argV w ars) (fun _ => False) w (argsF_ents h) (fun b hb => hb.elim)
  rw [hvs] at hT
  exact hT.mono fun e w' ⟨z, V', _, he, _, _, _, _, hfr, _⟩ => ⟨he, hfr.2.2.os, hfr.2.2.tape, hfr.2.2.output, hfr.1, fun k hk => hfr.2.1 k hk argsF_dl⟩
/-- A list of bytes holds bytes. -/
theorem byte_rng {w : World} {L : Loc} {l : List Int} (h : OpenL w .u8 L l) : ∀ x ∈ l, 0 ≤ x ∧ x ≤ 255 := by
  intro x hx
  obtain ⟨i, hi⟩ := List.mem_iff_getElem?.1 hx
  obtain ⟨_, _, _, q4⟩ := h [] .u8 l rfl
  have := (q4 i x hi 0 (.int .u8 x) rfl).1
  simpa [wfT, Lit.wf, IntKind.min, IntKind.max, IntKind.signed, IntKind.bits] using this
end Go.Proofs.Ytonjbhdfimcedaa
