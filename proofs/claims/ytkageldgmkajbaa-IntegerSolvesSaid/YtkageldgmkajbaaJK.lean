/- Plain facts: greater boxes, fewer rows. No condition on any program. -/
import Derived.Test.YtkageldgmkajbaaJI
namespace Go.Proofs.Ytkageldgmkajbaa
set_option linter.unusedSimpArgs false
set_option linter.unusedSectionVars false
set_option linter.unusedVariables false
open Go.RowKit
theorem mem_tops {a m : Int} (h : 0 ≤ m) : a ∈ tops m ↔ 0 ≤ a ∧ a ≤ m := by
  unfold tops
  rw [List.mem_map]
  constructor
  · rintro ⟨k, hk, rfl⟩
    have := List.mem_range.1 hk
    omega
  · rintro ⟨h1, h2⟩
    exact ⟨a.toNat, List.mem_range.2 (by omega), by omega⟩
theorem mem_allX : ∀ {most x : List Int}, (∀ q ∈ most, (0 : Int) ≤ q) → (x ∈ allX most ↔ inBx most x)
  | [], [], _ => by simp [allX, inBx]
  | [], _ :: _, _ => by simp [allX, inBx]
  | m :: ms, [], _ => by simp [allX, inBx]
  | m :: ms, x :: xs, h => by
    have ih := mem_allX (most := ms) (x := xs) fun q hq => h q (List.mem_cons_of_mem _ hq)
    have h0 := h m List.mem_cons_self
    show _ ∈ List.flatMap _ (tops m) ↔ 0 ≤ x ∧ x ≤ m ∧ inBx ms xs
    rw [List.mem_flatMap]
    constructor
    · rintro ⟨a, ha, hx⟩
      obtain ⟨r, hr, e⟩ := List.mem_map.1 hx
      cases e
      have := (mem_tops h0).1 ha
      exact ⟨this.1, this.2, ih.1 hr⟩
    · rintro ⟨h1, h2, h3⟩
      exact ⟨x, (mem_tops h0).2 ⟨h1, h2⟩, List.mem_map.2 ⟨xs, ih.2 h3, rfl⟩⟩
/-- The best of some. -/
def Bst (M : Mdl) (L : List (List Int)) (s : Bs) : Prop := (s.f = true → ∃ x ∈ L, okX M x = true ∧ s.b = valR M x ∧ s.a = x) ∧ ∀ x ∈ L, okX M x = true → s.f = true ∧ valR M x ≤ s.b
theorem bst_step {M : Mdl} {L : List (List Int)} {s : Bs} {x : List Int} (h : Bst M L s) : Bst M (L ++ [x]) (upd M s x) := by
  by_cases hu : okX M x = true ∧ (s.f = false ∨ s.b < valR M x)
  · rw [upd_y hu]
    refine ⟨fun _ => ⟨x, by simp, hu.1, rfl, rfl⟩, fun y hy hok => ⟨rfl, ?_⟩⟩
    rcases List.mem_append.1 hy with hy | hy
    · obtain ⟨h1, h2⟩ := h.2 y hy hok
      rcases hu.2 with h3 | h3
      · rw [h1] at h3; cases h3
      · show valR M y ≤ valR M x; omega
    · rw [List.mem_singleton] at hy; subst hy; exact Int.le_refl _
  · rw [upd_n hu]
    refine ⟨fun hf => ?_, fun y hy hok => ?_⟩
    · obtain ⟨y, h1, h2⟩ := h.1 hf
      exact ⟨y, List.mem_append_left _ h1, h2⟩
    · rcases List.mem_append.1 hy with hy | hy
      · exact h.2 y hy hok
      · rw [List.mem_singleton] at hy; subst hy
        cases hf : s.f with
        | false => exact absurd ⟨hok, .inl hf⟩ hu
        | true =>
          refine ⟨rfl, ?_⟩
          by_cases hlt : s.b < valR M y
          · exact absurd ⟨hok, .inr hlt⟩ hu
          · omega
theorem bst_fold {M : Mdl} : ∀ {K L : List (List Int)} {s : Bs}, Bst M L s → Bst M (L ++ K) (K.foldl (upd M) s)
  | [], L, s, h => by rw [List.append_nil]; exact h
  | x :: K, L, s, h => by
    have := bst_fold (K := K) (bst_step (x := x) h)
    rw [List.append_assoc] at this
    exact this
theorem sol_best {M : Mdl} {most : List Int} : Bst M (allX most) (solB M most) := by
  have := bst_fold (M := M) (K := allX most) (L := []) (s := ⟨false, 0, []⟩) ⟨(fun h => Bool.noConfusion h), (fun x hx => (List.not_mem_nil hx).elim)⟩
  rw [List.nil_append] at this
  exact this
theorem sol_le {M N : Mdl} {most more : List Int} (hf : (solB M most).f = true) (h : ∀ x ∈ allX most, okX M x = true → x ∈ allX more ∧ okX N x = true ∧ valR N x = valR M x) : (solB N more).f = true ∧ (solB M most).b ≤ (solB N more).b := by
  obtain ⟨x, h1, h2, h3, _⟩ := (sol_best (M := M) (most := most)).1 hf
  obtain ⟨g1, g2, g3⟩ := h x h1 h2
  obtain ⟨k1, k2⟩ := (sol_best (M := N) (most := more)).2 x g1 g2
  exact ⟨k1, by omega⟩
theorem val_one {n : Int} {c : Int} {x : List Int} : valN [⟨n, c⟩] x 1 = c * gt (c := .int) x n.toNat := by
  unfold valN
  rw [sumN_succ, sumN_zero, Int.zero_add]; rfl
theorem boxAny {most x : List Int} : ∀ {n : Nat}, (boxRows most n).any (rowBad x) = false ↔ ∀ i, i < n → @LE.le Int _ (gt (c := .int) x i) (gt (c := .int) most i)
  | 0 => by simp [boxRows]
  | n + 1 => by
    have ih := boxAny (most := most) (x := x) (n := n)
    show (boxRows most n ++ [(⟨[⟨(n : Int), 1⟩], gt (c := .int) most n⟩ : Row)]).any (rowBad x) = false ↔ _
    rw [List.any_append, Bool.or_eq_false_iff, ih, List.any_cons, List.any_nil, Bool.or_false, rowBad_eq]
    have e : valN [⟨(n : Int), 1⟩] x 1 = gt (c := .int) x n := by rw [val_one, Int.one_mul, Int.toNat_natCast]
    show _ ∧ decide ((gt (c := .int) most n : Int) < valN [⟨(n : Int), 1⟩] x 1) = false ↔ _
    rw [e, decide_eq_false_iff_not]
    constructor
    · rintro ⟨h1, h2⟩ i hi
      rcases Nat.lt_succ_iff_lt_or_eq.1 hi with h3 | h3
      · exact h1 i h3
      · subst h3; exact Int.not_lt.1 h2
    · intro h
      exact ⟨fun i hi => h i (by omega), Int.not_lt.2 (h n (by omega))⟩
theorem okX_box {m : Mdl} {most x : List Int} : okX (boxM m most) x = true ↔ (x.length : Int) = m.cols ∧ x.any badV = false ∧ m.rows.any (rowBad x) = false ∧ ∀ i, i < most.length → @LE.le Int _ (gt (c := .int) x i) (gt (c := .int) most i) := by
  constructor
  · intro h
    obtain ⟨h1, h2, h3⟩ := okX_is h
    have h3' : (m.rows ++ boxRows most most.length).any (rowBad x) = false := h3
    rw [List.any_append, Bool.or_eq_false_iff] at h3'
    exact ⟨h1, h2, h3'.1, boxAny.1 h3'.2⟩
  · rintro ⟨h1, h2, h3, h4⟩
    refine okX_t h1 h2 ?_
    show (m.rows ++ boxRows most most.length).any (rowBad x) = false
    rw [List.any_append, Bool.or_eq_false_iff]
    exact ⟨h3, boxAny.2 h4⟩
theorem valR_box {m n : Mdl} {most more x : List Int} (h : okX (boxM m most) x = true) (g : okX (boxM n more) x = true) (hg : n.goal = m.goal) (hc : n.cst = m.cst) : valR (boxM n more) x = valR (boxM m most) x := by
  rw [valR_t h, valR_t g]
  show n.cst + valN n.goal x n.goal.length = m.cst + valN m.goal x m.goal.length
  rw [hg, hc]
theorem nn_of {most : List Int} {B : Int} (h : ∀ i, i < most.length → @LE.le Int _ 0 (gt (c := .int) most i) ∧ @LE.le Int _ (gt (c := .int) most i) B) : ∀ q ∈ most, (0 : Int) ≤ q := fun q hq => by
  obtain ⟨i, hi, rfl⟩ := gt_mem (c := .int) hq
  exact (h i hi).1
theorem boxOk_of {cols : Int} {most : List Int} (h1 : cols ≤ 4) (h2 : (most.length : Int) = cols) (h3 : ∀ i, i < most.length → @LE.le Int _ 0 (gt (c := .int) most i) ∧ @LE.le Int _ (gt (c := .int) most i) 3) : boxOk cols most = true := by
  unfold boxOk
  rw [decide_eq_true h1, decide_eq_true h2, any_gt_f (c := .int) (n := most.length) (fun k hk => bad_no (by have := h3 k hk; omega) (by have := h3 k hk; omega)) (Nat.le_refl _)]; rfl
/-- A greater box. -/
theorem box_more {m : Mdl} {most more : List Int} (hc : m.cols ≤ 4) (h1 : (most.length : Int) = m.cols) (h2 : more.length = most.length) (hb : ∀ i, i < most.length → @LE.le Int _ 0 (gt (c := .int) most i) ∧ @LE.le Int _ (gt (c := .int) most i) 3)
    (hm : ∀ i, i < most.length → @LE.le Int _ (gt (c := .int) most i) (gt (c := .int) more i) ∧ @LE.le Int _ (gt (c := .int) more i) 3) (e : (solM m most).2.2 = 0) : (solM m more).2.2 = 0 ∧ (solM m most).1 ≤ (solM m more).1 := by
  have hb2 : ∀ i, i < more.length → @LE.le Int _ 0 (gt (c := .int) more i) ∧ @LE.le Int _ (gt (c := .int) more i) 3 := fun i hi => by
    have g1 := hb i (by omega)
    have g2 := hm i (by omega)
    omega
  have k1 := boxOk_of hc h1 hb
  have k2 := boxOk_of hc (by omega) hb2
  cases hf : (solB (boxM m most) most).f with
  | false => rw [solM_f k1 hf] at e; cases e
  | true =>
    obtain ⟨q1, q2⟩ := sol_le (N := boxM m more) (more := more) hf fun x hx hok => by
      have hok' := hok
      obtain ⟨p1, p2, p3, p4⟩ := okX_box.1 hok
      have hin := (mem_allX (nn_of hb)).1 hx
      obtain ⟨r1, r2⟩ := inBx_at hin
      have ok2 : okX (boxM m more) x = true := okX_box.2 ⟨p1, p2, p3, fun i hi => Int.le_trans (p4 i (by omega)) (hm i (by omega)).1⟩
      refine ⟨(mem_allX (nn_of hb2)).2 (inBx_of (by omega) fun i hi => ⟨(r2 i hi).1, Int.le_trans (r2 i hi).2 (hm i (by omega)).1⟩), ok2, valR_box hok' ok2 rfl rfl⟩
    rw [solM_t k1 hf, solM_t k2 q1]
    exact ⟨rfl, q2⟩
/-- Fewer rows. -/
theorem box_less {m n : Mdl} {most : List Int} (hc : m.cols ≤ 4) (h1 : (most.length : Int) = m.cols) (hb : ∀ i, i < most.length → @LE.le Int _ 0 (gt (c := .int) most i) ∧ @LE.le Int _ (gt (c := .int) most i) 3)
    (n1 : n.cols = m.cols) (n2 : n.goal = m.goal) (n3 : n.cst = m.cst) (n4 : ∀ r ∈ n.rows, r ∈ m.rows) (e : (solM m most).2.2 = 0) : (solM n most).2.2 = 0 ∧ (solM m most).1 ≤ (solM n most).1 := by
  have k1 := boxOk_of hc h1 hb
  have k2 : boxOk n.cols most = true := by rw [n1]; exact k1
  cases hf : (solB (boxM m most) most).f with
  | false => rw [solM_f k1 hf] at e; cases e
  | true =>
    obtain ⟨q1, q2⟩ := sol_le (N := boxM n most) (more := most) hf fun x hx hok => by
      have hok' := hok
      obtain ⟨p1, p2, p3, p4⟩ := okX_box.1 hok
      have ok2 : okX (boxM n most) x = true := okX_box.2 ⟨by rw [n1]; exact p1, p2, by
        rw [List.any_eq_false] at p3 ⊢
        exact fun r hr => p3 r (n4 r hr), p4⟩
      exact ⟨hx, ok2, valR_box hok' ok2 n2 n3⟩
    rw [solM_t k1 hf, solM_t k2 q1]
    exact ⟨rfl, q2⟩
theorem sol_err {m : Mdl} {most : List Int} (h : boxOk m.cols most = true) : (solM m most).2.2 = 0 ∨ (solM m most).2.2 = 34 := by
  cases hf : (solB (boxM m most) most).f with
  | false => rw [solM_f h hf]; exact .inr rfl
  | true => rw [solM_t h hf]; exact .inl rfl
theorem gd_tail {m : Mdl} (hg : Gd m) : Gd ⟨m.cols, (m.rows.drop 1).take (m.rows.length - 1), m.goal, m.cst⟩ := by
  have hmem : ∀ r ∈ (m.rows.drop 1).take (m.rows.length - 1), r ∈ m.rows := fun r hr => List.mem_of_mem_drop (List.mem_of_mem_take hr)
  refine ⟨hg.c, hg.g, hg.k, ?_, rwsB_iff.2 fun r hr => rwsB_iff.1 hg.r r (hmem r hr)⟩
  have := hg.n
  show ((m.rows.drop 1).take (m.rows.length - 1)).length ≤ 16
  rw [List.length_take, List.length_drop]; omega
end Go.Proofs.Ytkageldgmkajbaa
