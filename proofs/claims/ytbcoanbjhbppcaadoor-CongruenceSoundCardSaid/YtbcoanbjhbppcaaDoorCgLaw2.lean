/- Residues of words, in plain Lean: the laws of Join, Meet and Do. No condition on any program. -/
import Derived.Test.YtbcoanbjhbppcaaDoorCgLaw
namespace Go.Proofs.YtbcoanbjhbppcaaDoor
open Go
set_option linter.unusedVariables false
set_option linter.unusedSimpArgs false
set_option linter.unusedSectionVars false

theorem dvd_comm {m a b : Int} (h : m ∣ a - b) : m ∣ b - a := by
  have e : b - a = -(a - b) := by omega
  rw [e]; exact Int.dvd_neg.2 h
/-- What both know. -/
def kn (p q r s : Int) : Int := imin (imin (tzI (q - s)) (tzI p)) (tzI r)
theorem kn_nn (p q r s : Int) : 0 ≤ kn p q r s := by
  unfold kn
  have := imin_le (imin (tzI (q - s)) (tzI p)) (tzI r)
  have := imin_le (tzI (q - s)) (tzI p)
  have := tz_nn (q - s); have := tz_nn p; have := tz_nn r
  omega
theorem kn_le (p q r s : Int) : kn p q r s ≤ tzI (q - s) ∧ kn p q r s ≤ tzI p ∧ kn p q r s ≤ tzI r := by
  unfold kn
  have := imin_le (imin (tzI (q - s)) (tzI p)) (tzI r)
  have := imin_le (tzI (q - s)) (tzI p)
  omega
theorem le_kn {p q r s x : Int} (h1 : x ≤ tzI (q - s)) (h2 : x ≤ tzI p) (h3 : x ≤ tzI r) : x ≤ kn p q r s := by
  unfold kn
  have := imin_le (imin (tzI (q - s)) (tzI p)) (tzI r)
  have := imin_le (tzI (q - s)) (tzI p)
  omega
def k30 (k : Int) : Nat := (imin k 30).toNat
theorem k30_le {k : Int} (h : 0 ≤ k) : (k30 k : Int) ≤ k ∧ k30 k ≤ 30 := by unfold k30; have := imin_le k 30; omega
theorem le_k30 {k : Int} {c : Nat} (h : (c : Int) ≤ k) (h' : c ≤ 30) : c ≤ k30 k := by unfold k30; have := imin_le k 30; omega
theorem join_cases (p q r s : Int) : ((p = -1 ∧ q = 0) ∧ joinR p q r s = (r, s)) ∨ ((p = r ∧ q = s) ∧ joinR p q r s = (r, s)) ∨ ((r = -1 ∧ s = 0) ∧ joinR p q r s = (p, q)) ∨
    (¬ (p = -1 ∧ q = 0) ∧ ¬ (p = r ∧ q = s) ∧ ¬ (r = -1 ∧ s = 0) ∧ joinR p q r s = modR q (kn p q r s)) := by
  unfold joinR
  by_cases h1 : p = -1 ∧ q = 0
  · exact .inl ⟨h1, by rw [if_pos (.inl h1)]⟩
  · by_cases h2 : p = r ∧ q = s
    · exact .inr (.inl ⟨h2, by rw [if_pos (.inr h2)]⟩)
    · by_cases h3 : r = -1 ∧ s = 0
      · exact .inr (.inr (.inl ⟨h3, by rw [if_neg (by omega), if_pos h3]⟩))
      · exact .inr (.inr (.inr ⟨h1, h2, h3, by rw [if_neg (by omega), if_neg h3]; rfl⟩))
theorem join_rs {p q r s : Int} (h : Rs p q) (g : Rs r s) : Rs (joinR p q r s).1 (joinR p q r s).2 := by
  rcases join_cases p q r s with ⟨_, e⟩ | ⟨_, e⟩ | ⟨_, e⟩ | ⟨_, _, _, e⟩ <;> rw [e]
  · exact g
  · exact g
  · exact h
  · exact mod_rs _ (kn_nn _ _ _ _)
theorem meet_rs {p q r s : Int} (h : Rs p q) (g : Rs r s) : Rs (meetR p q r s).1 (meetR p q r s).2 := by
  unfold meetR
  split
  · exact h
  · split
    · exact g
    · exact .none
theorem has_tz {p q n : Int} (h : Rs p q) (hn : hasR p q n = true) {k : Nat} (hk : (k : Int) ≤ tzI p) (h30 : k ≤ 30) : (2 : Int) ^ k ∣ n - q := by
  refine has_dvd h hn ?_
  unfold wdR
  split <;> omega
theorem kn_dvd (p q r s : Int) : (2 : Int) ^ k30 (kn p q r s) ∣ q - s := by
  have h1 := k30_le (kn_nn p q r s)
  have h2 := kn_le p q r s
  exact (tz_dvd (by omega)).2 (by omega)
theorem join_left {p q r s n : Int} (h : Rs p q) (g : Rs r s) (hn : hasR p q n = true) : hasR (joinR p q r s).1 (joinR p q r s).2 n = true := by
  rcases join_cases p q r s with ⟨⟨rfl, rfl⟩, e⟩ | ⟨⟨rfl, rfl⟩, e⟩ | ⟨_, e⟩ | ⟨_, _, _, e⟩ <;> rw [e]
  · rw [has_none] at hn; cases hn
  · exact hn
  · exact hn
  · have h1 := k30_le (kn_nn p q r s)
    have h2 := kn_le p q r s
    exact (has_mod (kn_nn _ _ _ _) n).2 ⟨has_isWd hn, has_tz h hn (k := k30 (kn p q r s)) (by omega) (by omega)⟩
theorem join_right {p q r s n : Int} (h : Rs p q) (g : Rs r s) (hn : hasR r s n = true) : hasR (joinR p q r s).1 (joinR p q r s).2 n = true := by
  rcases join_cases p q r s with ⟨_, e⟩ | ⟨_, e⟩ | ⟨⟨rfl, rfl⟩, e⟩ | ⟨_, _, _, e⟩ <;> rw [e]
  · exact hn
  · exact hn
  · rw [has_none] at hn; cases hn
  · have h1 := k30_le (kn_nn p q r s)
    have h2 := kn_le p q r s
    refine (has_mod (kn_nn _ _ _ _) n).2 ⟨has_isWd hn, ?_⟩
    have e : n - q = (n - s) - (q - s) := by omega
    rw [e]
    exact Int.dvd_sub (has_tz g hn (k := k30 (kn p q r s)) (by omega) (by omega)) (kn_dvd p q r s)
/-- A residue above another one that is not None knows no more of its words. -/
theorem above {p q u v : Int} (h : Rs p q) (hp : p ≠ -1) (g : Rs u v) (hl : ∀ n, hasR p q n = true → hasR u v n = true) :
    (p = 0 ∧ u = 0 ∧ v = q) ∨ ∃ c : Nat, c ≤ 30 ∧ u = 2 ^ c ∧ (c : Int) ≤ tzI p ∧ (2 : Int) ^ c ∣ q - v ∧ 0 ≤ v ∧ v < 2 ^ c := by
  have b1 := hl _ (has_self h hp)
  cases g with
  | none => rw [has_none] at b1; cases b1
  | word g1 g2 =>
    have e := (has_word.1 b1).2
    cases h with
    | none => exact absurd rfl hp
    | word h1 h2 => exact .inl ⟨rfl, rfl, e.symm⟩
    | @res k _ hk h1 h2 =>
      have e2 := (has_word.1 (hl _ (has_other hk h1 h2))).2
      have := ipow_pos k
      omega
  | @res c _ hc g1 g2 =>
    refine .inr ⟨c, hc, rfl, ?_, (has_res.1 b1).2, g1, g2⟩
    cases h with
    | none => exact absurd rfl hp
    | word h1 h2 => rw [tz_zero]; omega
    | @res k _ hk h1 h2 =>
      have b2 := (has_res.1 (hl _ (has_other hk h1 h2))).2
      have e : q + 2 ^ k - v = 2 ^ k + (q - v) := by omega
      rw [e] at b2
      have := pow_inj ((dvd_left (has_res.1 b1).2).1 b2)
      rw [tz_pow hk]
      omega
theorem join_least {p q r s u v : Int} (h : Rs p q) (g : Rs r s) (f : Rs u v) (h1 : leqR p q u v = true) (h2 : leqR r s u v = true) : leqR (joinR p q r s).1 (joinR p q r s).2 u v = true := by
  have l1 := (leq_iff h f).1 h1
  have l2 := (leq_iff g f).1 h2
  rcases join_cases p q r s with ⟨_, e⟩ | ⟨_, e⟩ | ⟨_, e⟩ | ⟨n1, n2, n3, e⟩ <;> rw [e]
  · exact h2
  · exact h2
  · exact h1
  · have hb := rs_bd h
    have gb := rs_bd g
    refine (leq_iff (mod_rs _ (kn_nn _ _ _ _)) f).2 fun n hn => ?_
    obtain ⟨hw, hd⟩ := (has_mod (kn_nn _ _ _ _) n).1 hn
    rcases above h (fun e => n1 ⟨e, hb.2.2.2.2.1 e⟩) f l1 with ⟨a1, a2, a3⟩ | ⟨c, hc, rfl, a1, a2, a3, a4⟩
    · rcases above g (fun e => n3 ⟨e, gb.2.2.2.2.1 e⟩) f l2 with ⟨b1, b2, b3⟩ | ⟨c, hc, rfl, b1, b2, b3, b4⟩
      · omega
      · have := ipow_pos c; omega
    · rcases above g (fun e => n3 ⟨e, gb.2.2.2.2.1 e⟩) f l2 with ⟨b1, b2, b3⟩ | ⟨c', hc', e', b1, b2, b3, b4⟩
      · have := ipow_pos c; omega
      · have ec : c = c' := by
          have x1 := pow_le_inj (Int.le_of_eq e')
          have x2 := pow_le_inj (Int.le_of_eq e'.symm)
          omega
        subst ec
        refine has_res.2 ⟨hw, ?_⟩
        have d1 : (2 : Int) ^ c ∣ q - s := by
          have e1 : q - s = (q - v) - (s - v) := by omega
          rw [e1]; exact Int.dvd_sub a2 b2
        have d2 : (c : Int) ≤ tzI (q - s) := (tz_dvd (by omega)).1 d1
        have d3 : c ≤ k30 (kn p q r s) := le_k30 (le_kn d2 a1 b1) hc
        have e1 : n - v = (n - q) + (q - v) := by omega
        rw [e1]
        exact Int.dvd_add (Int.dvd_trans (ipow_dvd d3) hd) a2
theorem tz_comm (a b : Int) : min (tzI (a - b)) 63 = min (tzI (b - a)) 63 := by
  have h : ∀ x y : Int, min (tzI (x - y)) 63 ≤ tzI (y - x) := fun x y => by
    have h0 := tz_nn (x - y)
    have := (tz_dvd (n := y - x) (k := (min (tzI (x - y)) 63).toNat) (by omega)).1 (dvd_comm ((tz_dvd (by omega)).2 (by omega)))
    omega
  have := h a b
  have := h b a
  omega
theorem join_comm {p q r s : Int} (h : Rs p q) (g : Rs r s) : joinR r s p q = joinR p q r s := by
  rcases join_cases p q r s with ⟨⟨rfl, rfl⟩, e⟩ | ⟨⟨rfl, rfl⟩, e⟩ | ⟨⟨rfl, rfl⟩, e⟩ | ⟨n1, n2, n3, e⟩
  · rw [e]
    rcases join_cases r s (-1) 0 with ⟨⟨rfl, rfl⟩, e'⟩ | ⟨⟨rfl, rfl⟩, e'⟩ | ⟨_, e'⟩ | ⟨_, _, x, e'⟩
    · exact e'
    · exact e'
    · exact e'
    · exact absurd ⟨rfl, rfl⟩ x
  · rfl
  · rw [e]; unfold joinR; rw [if_pos (.inl ⟨rfl, rfl⟩)]
  · rw [e]
    rcases join_cases r s p q with ⟨x, _⟩ | ⟨x, _⟩ | ⟨x, _⟩ | ⟨_, _, _, e'⟩
    · exact absurd x n3
    · exact absurd ⟨x.1.symm, x.2.symm⟩ n2
    · exact absurd x n1
    · rw [e']
      have e1 : imin (kn r s p q) 30 = imin (kn p q r s) 30 := by
        have t := tz_comm q s
        have a1 := kn_le r s p q; have a2 := kn_le p q r s
        have b1 : kn p q r s = tzI (q - s) ∨ kn p q r s = tzI p ∨ kn p q r s = tzI r := by
          unfold kn; have := imin_le (imin (tzI (q - s)) (tzI p)) (tzI r); have := imin_le (tzI (q - s)) (tzI p); omega
        have b2 : kn r s p q = tzI (s - q) ∨ kn r s p q = tzI r ∨ kn r s p q = tzI p := by
          unfold kn; have := imin_le (imin (tzI (s - q)) (tzI r)) (tzI p); have := imin_le (tzI (s - q)) (tzI r); omega
        unfold imin
        split <;> split <;> omega
      have e2 : modR s (kn r s p q) = modR s (kn p q r s) := by unfold modR; rw [e1]
      rw [e2]
      exact mod_eq (kn_dvd p q r s)
theorem leq_trans' {p q r s : Int} (h : Rs p q) (g : Rs r s) (hl : leqR p q r s = true) {n : Int} (hn : hasR p q n = true) : hasR r s n = true := (leq_iff h g).1 hl n hn
theorem meet_cases (p q r s : Int) : (leqR p q r s = true ∧ meetR p q r s = (p, q)) ∨ (leqR r s p q = true ∧ meetR p q r s = (r, s)) ∨ (leqR p q r s = false ∧ leqR r s p q = false ∧ meetR p q r s = (-1, 0)) := by
  unfold meetR
  cases h1 : leqR p q r s
  · cases h2 : leqR r s p q
    · exact .inr (.inr ⟨rfl, rfl, rfl⟩)
    · exact .inr (.inl ⟨rfl, rfl⟩)
  · exact .inl ⟨rfl, rfl⟩
theorem meet_has {p q r s : Int} (h : Rs p q) (g : Rs r s) (n : Int) : hasR (meetR p q r s).1 (meetR p q r s).2 n = (hasR p q n && hasR r s n) := by
  rw [Bool.eq_iff_iff, Bool.and_eq_true]
  rcases meet_cases p q r s with ⟨l, e⟩ | ⟨l, e⟩ | ⟨l1, l2, e⟩ <;> rw [e]
  · exact ⟨fun x => ⟨x, leq_trans' h g l x⟩, fun x => x.1⟩
  · exact ⟨fun x => ⟨leq_trans' g h l x, x⟩, fun x => x.2⟩
  · rw [has_none]
    refine ⟨fun x => (by cases x), fun ⟨x1, x2⟩ => ?_⟩
    exfalso
    have y1 : ¬ leqR p q r s = true := by rw [l1]; decide
    have y2 : ¬ leqR r s p q = true := by rw [l2]; decide
    cases h with
    | none => rw [has_none] at x1; cases x1
    | word h1 h2 =>
      apply y1
      refine (leq_iff (.word h1 h2) g).2 fun m hm => ?_
      rw [(has_word.1 hm).2, ← (has_word.1 x1).2]; exact x2
    | @res a _ ha h1 h2 =>
      cases g with
      | none => rw [has_none] at x2; cases x2
      | word g1 g2 =>
        apply y2
        refine (leq_iff (.word g1 g2) (.res ha h1 h2)).2 fun m hm => ?_
        rw [(has_word.1 hm).2, ← (has_word.1 x2).2]; exact x1
      | @res b _ hb g1 g2 =>
        have d1 := (has_res.1 x1).2
        have d2 := (has_res.1 x2).2
        by_cases hab : a ≤ b
        · apply y2
          refine (leq_iff (.res hb g1 g2) (.res ha h1 h2)).2 fun m hm => has_res.2 ⟨has_isWd hm, ?_⟩
          have e : m - q = (m - s) - (n - s) + (n - q) := by omega
          rw [e]
          exact Int.dvd_add (Int.dvd_trans (ipow_dvd hab) (Int.dvd_sub (has_res.1 hm).2 d2)) d1
        · apply y1
          refine (leq_iff (.res ha h1 h2) (.res hb g1 g2)).2 fun m hm => has_res.2 ⟨has_isWd hm, ?_⟩
          have e : m - s = (m - q) - (n - q) + (n - s) := by omega
          rw [e]
          exact Int.dvd_add (Int.dvd_trans (ipow_dvd (by omega)) (Int.dvd_sub (has_res.1 hm).2 d1)) d2
theorem join_leq {p q r s : Int} (h : Rs p q) (g : Rs r s) : leqR p q (joinR p q r s).1 (joinR p q r s).2 = true ∧ leqR r s (joinR p q r s).1 (joinR p q r s).2 = true :=
  ⟨(leq_iff h (join_rs h g)).2 fun _ hn => join_left h g hn, (leq_iff g (join_rs h g)).2 fun _ hn => join_right h g hn⟩
theorem meet_leq {p q r s : Int} (h : Rs p q) (g : Rs r s) : leqR (meetR p q r s).1 (meetR p q r s).2 p q = true ∧ leqR (meetR p q r s).1 (meetR p q r s).2 r s = true :=
  ⟨(leq_iff (meet_rs h g) h).2 fun n hn => by rw [meet_has h g, Bool.and_eq_true] at hn; exact hn.1, (leq_iff (meet_rs h g) g).2 fun n hn => by rw [meet_has h g, Bool.and_eq_true] at hn; exact hn.2⟩
end Go.Proofs.YtbcoanbjhbppcaaDoor
