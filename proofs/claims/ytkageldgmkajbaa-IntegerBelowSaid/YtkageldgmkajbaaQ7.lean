/- Parts of the proof. No condition. -/
import Derived.Test.YtkageldgmkajbaaQ6
import Derived.ChangeArms
set_option linter.unusedVariables false
set_option linter.unusedSimpArgs false
set_option linter.unusedSectionVars false
namespace Go.Proofs.Ytkageldgmkajbaa
open Go.RowKit
theorem det_unit : ∀ {k : Nat} {c : Nat → Col}, (∀ j, j < k → ∀ q, q < k → c j q = if q = j then 1 else 0) → det k c ≠ 0
  | 0, _, _ => by show (1 : Rat) ≠ 0; grind
  | k + 1, c, h => by
    have e : det (k + 1) c = sg k * c k k * det k (cdel c k) := sm_one (k := k) (by omega) fun j hj hne => by
      rw [h j hj k (by omega), if_neg (Ne.symm hne)]; grind
    have ih : det k (cdel c k) ≠ 0 := det_unit fun j hj q hq => by
      unfold cdel
      rw [if_pos hj]
      exact h j (by omega) q (by omega)
    rw [e, h k (by omega) k (by omega), if_pos rfl]
    have hs : sg k ≠ 0 := by unfold sg; split <;> grind
    intro h0
    rcases Rat.mul_eq_zero.1 h0 with h1 | h1
    · grind
    · exact ih h1
theorem sn_bd {f : Nat → Nat} {X : Nat} : ∀ k, (∀ q, q < k → f q ≤ X) → sn f k ≤ X * k
  | 0, _ => Nat.le_refl _
  | k + 1, h => by
    have ih := sn_bd k fun q hq => h q (by omega)
    have := h k (by omega)
    show sn f k + f k ≤ X * (k + 1)
    rw [Nat.mul_succ]; omega
theorem sn_one {f : Nat → Nat} {q0 : Nat} : ∀ k, (∀ q, q < k → q ≠ q0 → f q = 0) → (∀ q, q < k → f q ≤ 1) → sn f k ≤ 1 ∧ (k ≤ q0 → sn f k = 0)
  | 0, _, _ => ⟨Nat.zero_le _, fun _ => rfl⟩
  | k + 1, h, h1 => by
    obtain ⟨i1, i2⟩ := sn_one (q0 := q0) k (fun q hq hne => h q (by omega) hne) fun q hq => h1 q (by omega)
    have e : sn f (k + 1) = sn f k + f k := rfl
    rw [e]
    have := h1 k (by omega)
    by_cases c : k = q0
    · have := i2 (by omega)
      exact ⟨by omega, fun _ => by omega⟩
    · have z := h k (by omega) c
      exact ⟨by omega, fun hk => by have := i2 (by omega); omega⟩
section
variable {rows : List Row} {C n K : Nat}
def A0 (rows : List Row) (C n K : Nat) : Nat → Col := fun j q => (M0 rows C n K j q : Rat)
def W1 (rows : List Row) (n K : Nat) (j : Nat) : Int := if n ≤ j ∧ j < n + K ∧ (gw rows (j - n)).mo < 0 then 1 else 0
def w1 (rows : List Row) (n K : Nat) (j : Nat) : Rat := (W1 rows n K j : Rat)
def u0 (rows : List Row) (C n K : Nat) : Tb := ⟨fun i j => (M0 rows C n K j i : Rat), bs0 rows C n, fun j => (gs0 rows C n K K j : Rat)⟩
theorem M0_bas (hn : n = C + K) {l q : Nat} (hl : l < K) (hq : q < K) : M0 rows C n K (bs0 rows C n l) q = if q = l then 1 else 0 := by
  unfold M0 bs0
  by_cases c : (gw rows l).mo < 0
  · rw [if_pos c, if_neg (by omega), if_neg (by omega), if_neg (by omega)]
    by_cases e : q = l
    · rw [if_pos e, if_pos ⟨by omega, by rw [e]; exact c⟩]
    · rw [if_neg e, if_neg (fun h => e (by omega))]
  · rw [if_neg c, if_neg (by omega), if_neg (by omega)]
    by_cases e : q = l
    · rw [if_pos e, if_pos (by omega)]
      unfold sg0; rw [e, if_neg c]
    · rw [if_neg e, if_neg (by omega), if_neg (fun h => by omega)]
theorem cast_ite {p : Prop} [Decidable p] : ((if p then 1 else 0 : Int) : Rat) = if p then 1 else 0 := by split <;> rfl
theorem W1_bas (hn : n = C + K) {l : Nat} (hl : l < K) : W1 rows n K (bs0 rows C n l) = if (gw rows l).mo < 0 then 1 else 0 := by
  unfold W1 bs0
  by_cases c : (gw rows l).mo < 0
  · rw [if_pos c, if_pos c, if_pos ⟨by omega, by omega, by rw [show n + l - n = l by omega]; exact c⟩]
  · rw [if_neg c, if_neg c, if_neg (fun h => by omega)]
theorem gs0_sum (hn : n = C + K) {j : Nat} (hj : j ≤ n + K) : ∀ i, i ≤ K → (gs0 rows C n K i j : Rat) = (if n ≤ j ∧ j < n + i ∧ (gw rows (j - n)).mo < 0 then 1 else 0) - sm (fun l => (W1 rows n K (bs0 rows C n l) : Rat) * (M0 rows C n K j l : Rat)) i
  | 0, _ => by
    rw [if_neg (fun h => by omega)]
    show ((0 : Int) : Rat) = 0 - (0 : Rat)
    have : ((0 : Int) : Rat) = 0 := rfl
    rw [this]; grind
  | i + 1, hi => by
    have ih := gs0_sum hn hj i (by omega)
    have e : gs0 rows C n K (i + 1) j = if (gw rows i).mo < 0 ∧ (j < n ∨ j = n + K) then gs0 rows C n K i j - M0 rows C n K j i else gs0 rows C n K i j := rfl
    show _ = _ - (sm _ i + (W1 rows n K (bs0 rows C n i) : Rat) * (M0 rows C n K j i : Rat))
    rw [W1_bas hn (by omega), cast_ite, e]
    by_cases c : (gw rows i).mo < 0
    · rw [if_pos c]
      by_cases d : j < n ∨ j = n + K
      · rw [if_pos ⟨c, d⟩, Rat.intCast_sub, ih, if_neg (fun h => by omega), if_neg (fun h => by omega)]; grind
      · rw [if_neg (fun h => d h.2), ih]
        have em : M0 rows C n K j i = if j = n + i then 1 else 0 := by
          unfold M0
          rw [if_neg (by omega), if_neg (by omega), if_neg (by omega)]
          by_cases x : j = n + i
          · rw [if_pos x, if_pos ⟨x, c⟩]
          · rw [if_neg x, if_neg (fun h => x h.1)]
        rw [em, cast_ite]
        by_cases x : j = n + i
        · rw [if_pos x, if_neg (fun h => by omega), if_pos ⟨by omega, by omega, by rw [show j - n = i by omega]; exact c⟩]; grind
        · rw [if_neg x]
          by_cases y : n ≤ j ∧ j < n + i ∧ (gw rows (j - n)).mo < 0
          · rw [if_pos y, if_pos ⟨y.1, by omega, y.2.2⟩]; grind
          · rw [if_neg y, if_neg (fun h => y ⟨h.1, by omega, h.2.2⟩)]; grind
    · rw [if_neg c, if_neg (fun h => c h.1), ih]
      by_cases y : n ≤ j ∧ j < n + i ∧ (gw rows (j - n)).mo < 0
      · rw [if_pos y, if_pos ⟨y.1, by omega, y.2.2⟩]; grind
      · rw [if_neg y, if_neg (fun h => y ⟨h.1, by
          have : j ≠ n + i := fun e => c (by have := h.2.2; rw [show j - n = i by omega] at this; exact this)
          omega, h.2.2⟩)]; grind
theorem u0_vd (hr : RwsOK rows C K) (hn : n = C + K) : Vd (A0 rows C n K) K (n + K) (w1 rows n K) (u0 rows C n K) := by
  refine ⟨fun i hi => ?_, fun i j hi hj e => ?_, ?_, fun j hj q hq => ?_, fun j hj => ?_⟩
  · show bs0 rows C n i < n + K
    unfold bs0; split <;> omega
  · have e : bs0 rows C n i = bs0 rows C n j := e
    unfold bs0 at e
    split at e <;> split at e <;> omega
  · exact det_unit fun l hl q hq => by
      show (M0 rows C n K (bs0 rows C n l) q : Rat) = _
      rw [M0_bas hn hl hq, cast_ite]
  · show (M0 rows C n K j q : Rat) = sm (fun l => (M0 rows C n K j l : Rat) * (M0 rows C n K (bs0 rows C n l) q : Rat)) K
    rw [sm_one hq fun l hl hne => by rw [M0_bas hn hl hq, if_neg (Ne.symm hne)]; have : ((0 : Int) : Rat) = 0 := rfl
                                     rw [this]; grind, M0_bas hn hq hq, if_pos rfl]
    have : ((1 : Int) : Rat) = 1 := rfl
    rw [this]; grind
  · show (gs0 rows C n K K j : Rat) = (W1 rows n K j : Rat) - sm (fun l => (W1 rows n K (bs0 rows C n l) : Rat) * (M0 rows C n K j l : Rat)) K
    rw [gs0_sum hn hj K (Nat.le_refl _)]
    unfold W1
    rw [cast_ite]
theorem u0_rel (hr : RwsOK rows C K) (hn : n = C + K) (hK : K ≤ 6) : Rel (bld rows C n K K) K (n + K) (u0 rows C n K) :=
  ⟨bld_ok hr K (Nat.le_refl _), fun i hi j hj => by rw [(bld_row hr K (Nat.le_refl _) i hi).1, rw0_at hr hn hi hj]; rfl, fun j hj => by rw [bld_goal hr hn hK hj K (Nat.le_refl _)]; rfl, fun i hi => (bld_row hr K (Nat.le_refl _) i hi).2⟩
theorem u0_nn (hn : n = C + K) : Nn K (n + K) (u0 rows C n K) := fun i hi => by
  show 0 ≤ (M0 rows C n K (n + K) i : Rat)
  have h : 0 ≤ M0 rows C n K (n + K) i := by
    unfold M0 sg0
    rw [if_pos rfl]
    split <;> omega
  exact Rat.intCast_nonneg.2 h
theorem u0_ai (hr : RwsOK rows C K) (hn : n = C + K) (hC : C ≤ 3) (hK : K ≤ 6) : AI (A0 rows C n K) K (n + K) (M0 rows C n K) := by
  refine ⟨fun _ _ _ _ => rfl, fun j hj => ?_, ?_⟩
  · by_cases c : j < C
    · have : SC j = 54 := if_pos (by omega)
      rw [this]
      refine Nat.le_trans (sn_bd (X := 9) K fun q hq => ?_) (by omega)
      unfold M0
      rw [if_neg (by omega), if_pos c]
      refine cfN_bd (by unfold sg0; split <;> omega) _ fun z hz => ((hr.2 q hq).2.2 z hz).2.2
    · refine Nat.le_trans (sn_one (q0 := if j < n then j - C else j - n) K (fun q hq hne => ?_) fun q hq => ?_).1 (SC_pos j)
      · unfold M0
        rw [if_neg (by omega), if_neg c, if_neg (fun e => hne (by rw [if_pos (by omega)]; omega)), if_neg (fun e => hne (by rw [if_neg (by omega)]; omega))]
        rfl
      · unfold M0 sg0
        rw [if_neg (by omega), if_neg c]
        split
        · split <;> decide
        · split <;> decide
  · exact Nat.le_trans (sn_bd (X := 50) K fun q hq => M0_bd hr hq _) (by omega)
end
end Go.Proofs.Ytkageldgmkajbaa
namespace Go.Proofs.Ytkageldgmkajbaa
open Go.RowKit
section
variable {rows : List Row} {goal : List Term} {cst : Int} {C n K : Nat}
theorem W1_bd (j : Nat) : (W1 rows n K j).natAbs ≤ 9 := by unfold W1; split <;> decide
theorem w1_nn (j : Nat) : 0 ≤ w1 rows n K j := by unfold w1 W1; rw [cast_ite]; split <;> grind
theorem w1_lo {j : Nat} (h : j < n) : w1 rows n K j = 0 := by unfold w1 W1; rw [if_neg (fun h => by omega)]; rfl
theorem w1_m : w1 rows n K (n + K) = 0 := by unfold w1 W1; rw [if_neg (fun h => by omega)]; rfl
theorem u0_ba (hn : n = C + K) : BA (u0 rows C n K) K n (w1 rows n K) := fun i hi => by
  show bs0 rows C n i < n ∨ (W1 rows n K (bs0 rows C n i) : Rat) = 1
  rw [W1_bas hn hi, cast_ite]
  unfold bs0
  split
  · exact .inr rfl
  · exact .inl (by omega)
theorem BA.run {A : Nat → Col} {k m n : Nat} {w : Nat → Rat} {f : Nat → Tb} {R C : Nat → Nat} {s : Nat} (hr : Rn A k m n w f R C s) (h : BA (f 0) k n w) : ∀ i, i ≤ s → BA (f i) k n w
  | 0, _ => h
  | i + 1, hi => by
    have := hr.st i (by omega)
    rw [this.e]
    exact (BA.run hr h i (by omega)).piv this.c0
def GoOK (goal : List Term) (C : Nat) : Prop := ∀ q, q < goal.length → (0 ≤ (gm goal q).of_ ∧ (gm goal q).of_ < (C : Int)) ∧ -9 ≤ (gm goal q).co ∧ (gm goal q).co ≤ 9
def W2 (goal : List Term) (j : Nat) : Int := cfN (-1) goal goal.length j
theorem tgN_at {j : Nat} (hj : j ≤ n + K) : ∀ z, (∀ q, q < z → (gm goal q).of_.toNat ≤ n + K) → gf (tgN goal (lenZ n K) z) j = ⟨cfN (-1) goal z j, 1⟩
  | 0, _ => gf_lenZ hj
  | z + 1, h => by
    have hl : ∀ z, (tgN goal (lenZ n K) z).length = n + K + 1 := fun z => by
      induction z with
      | zero => exact lenZ_len n K
      | succ z ih => rw [tgN_s, List.length_set]; exact ih
    rw [tgN_s, gf_set (by rw [hl]; have := h z (by omega); omega), tgN_at hj z fun q hq => h q (by omega)]
    have e : cfN (-1) goal (z + 1) j = if j = (gm goal z).of_.toNat then -1 * (gm goal z).co else cfN (-1) goal z j := rfl
    rw [e]
    split
    · rw [Int.neg_mul, Int.one_mul]
    · rfl
theorem ph2_rel (hgo : GoOK goal C) (hr : RwsOK rows C K) (hn : n = C + K) (hC : C ≤ 3) (hK : K ≤ 6) {v : TS} {u : Tb} {w : Nat → Rat} (h : Rel v K (n + K) u) (hv : Vd (A0 rows C n K) K (n + K) w u) :
    Rel (ph2 goal n K v) K (n + K) (reg u K fun j => (W2 goal j : Rat)) := by
  have ht := tgN_ok (goal := goal) (l := lenZ n K) (by unfold lenZ; exact zrs_wk _) (fun q hq => (hgo q hq).2) goal.length (Nat.le_refl _)
  refine ph_rel h hv (u0_ai hr hn hC hK) hK (fun j => cfN_bd (.inr rfl) _ fun q hq => (hgo q hq).2) (by rw [ht.1, lenZ_len]) ht.2 fun j hj => tgN_at hj _ fun q hq => ?_
  have := (hgo q hq).1
  omega
theorem ph1_st (hr : RwsOK rows C K) (hn : n = C + K) (hC : C ≤ 3) (hK : K ≤ 6) {s1 : Nat} (hs1 : ∀ i, i < s1 → goesT n (itT n (bld rows C n K K) i)) :
    ∃ u, Rel (itT n (bld rows C n K K) s1) K (n + K) u ∧ Vd (A0 rows C n K) K (n + K) (w1 rows n K) u ∧ Nn K (n + K) u ∧ BA u K n (w1 rows n K) := by
  obtain ⟨h1, h2⟩ := run_rel (u0_rel hr hn hK) (u0_vd hr hn) (u0_nn hn) (u0_ai hr hn hC hK) hK (fun _ => rfl) W1_bd (by omega) s1 hs1
  obtain ⟨h3, h4⟩ := h1.vd (Nat.le_refl _)
  exact ⟨_, h2, h3, h4, BA.run h1 (u0_ba hn) s1 (Nat.le_refl _)⟩
theorem he_ok (hgo : GoOK goal C) (hr : RwsOK rows C K) (hn : n = C + K) (hC : C ≤ 3) (hK : K ≤ 6) : HE rows goal C n K := by
  have a := u0_ai hr hn hC hK
  refine ⟨fun s hs => run_end (u0_rel hr hn hK) (u0_vd hr hn) (u0_nn hn) a hK (by omega) (fun _ => rfl) W1_bd (by omega) s hs, fun s1 v hs1 hs2 hz hd s hs => ?_⟩
  obtain ⟨u, h1, h2, h3, h4⟩ := ph1_st hr hn hC hK hs1
  rw [h1.g _ (Nat.le_refl _)] at hz
  obtain ⟨u2, g1, g2, g3, g4, g5, g6⟩ := drv_rel a hK (fun _ => rfl) W1_bd (by omega) w1_nn w1_m h1 h2 h3 h4 (fr_zero.1 hz) hd (Nat.le_refl _)
  exact run_end (ph2_rel hgo hr hn hC hK g1 g2) (g2.reg _) g3 a hK (by omega) (fun _ => rfl) (fun j => cfN_bd (.inr rfl) _ fun q hq => (hgo q hq).2) (by omega) s hs
def BxOK (rows : List Row) (C K : Nat) : Prop := ∀ j, j < C → ∃ q, q < K ∧ 0 ≤ (gw rows q).mo ∧ (∀ i, i < C → 0 ≤ cfN 1 (gw rows q).te (gw rows q).te.length i) ∧ 0 < cfN 1 (gw rows q).te (gw rows q).te.length j
theorem br_ok (hgo : GoOK goal C) (hr : RwsOK rows C K) (hbx : BxOK rows C K) (hn : n = C + K) (hC : C ≤ 3) (hK : K ≤ 6) (hc : cst.natAbs ≤ 9) {x : Nat → Rat} (hx : Sol (A0 rows C n K) K (n + K) x) (hx0 : ∀ j, j < n → 0 ≤ x j) (hxn : ∀ j, n ≤ j → j < n + K → x j = 0)
    {y : Frc} {e : Int} (h : BR rows goal cst C n K y e) : e = 0 ∧ ∃ q : Rat, y = fr q ∧ Fit q ∧ (cst : Rat) - sm (fun j => x j * (W2 goal j : Rat)) (n + K) ≤ q := by
  have a := u0_ai hr hn hC hK
  have hW2 : ∀ j, (W2 goal j).natAbs ≤ 9 := fun j => cfN_bd (.inr rfl) _ fun q hq => (hgo q hq).2
  obtain ⟨s1, hs1, hs2, h⟩ := h
  obtain ⟨u, h1, h2, h3, h4⟩ := ph1_st hr hn hC hK hs1
  have hopt : ∀ j, j < n → 0 ≤ u.g j := by
    rcases stop_rel h1 h2 a (by omega) hs2 with ⟨_, h5⟩ | ⟨_, h5⟩
    · exact h5
    · exact absurd h5 (ph1_bd h2 (by omega) w1_nn fun j hj => w1_lo hj)
  have hg := ph1_zero h2 h3 (by omega) w1_nn (fun j hj => w1_lo hj) w1_m hx hx0 hxn hopt
  have hz : (gf (itT n (bld rows C n K K) s1).g (n + K)).num = 0 := by rw [h1.g _ (Nat.le_refl _)]; exact fr_zero.2 hg
  rcases h with ⟨h5, _⟩ | ⟨_, v, hd, s2, hs3, hs4, h⟩
  · exact absurd hz h5
  obtain ⟨u2, g1, g2, g3, g4, g5, g6⟩ := drv_rel a hK (fun _ => rfl) W1_bd (by omega) w1_nn w1_m h1 h2 h3 h4 hg hd (Nat.le_refl _)
  have hp2 := ph2_rel hgo hr hn hC hK g1 g2
  obtain ⟨k1, k2⟩ := run_rel hp2 (g2.reg _) g3 a hK (fun _ => rfl) hW2 (by omega) s2 hs3
  obtain ⟨k3, k4⟩ := k1.vd (Nat.le_refl _)
  have hzr : ZR (itU n (ph2 goal n K v) (reg u2 K fun j => (W2 goal j : Rat)) s2) K n := ZR.run k1 g6 s2 (Nat.le_refl _)
  have hbd := ph2_bd k3 hzr (by omega) (C := C) (by omega) (fun j hj => by
    obtain ⟨q, hq, m0, m1, m2⟩ := hbx j hj
    have hM : ∀ i, i < C → M0 rows C n K i q = cfN 1 (gw rows q).te (gw rows q).te.length i := fun i hi => by
      unfold M0 sg0
      rw [if_neg (by omega), if_pos hi, if_neg (by omega)]
    refine ⟨q, hq, fun i hi => ?_, ?_⟩
    · show 0 ≤ (M0 rows C n K i q : Rat)
      refine Rat.intCast_nonneg.2 ?_
      by_cases c : i < C
      · rw [hM i c]; exact m1 i c
      · unfold M0 sg0
        rw [if_neg (by omega), if_neg c, if_neg (show ¬ (gw rows q).mo < 0 by omega)]
        split
        · decide
        · split <;> decide
    · show 0 < (M0 rows C n K j q : Rat)
      rw [hM j hj]
      exact_mod_cast m2) (fun c hc1 hc2 => by
    refine ⟨c - C, by omega, ?_, fun j hj1 hj2 hne => ?_⟩
    · show (M0 rows C n K c (c - C) : Rat) ≠ 0
      have : M0 rows C n K c (c - C) = sg0 rows (c - C) := by unfold M0; rw [if_neg (by omega), if_neg (by omega), if_pos (by omega)]
      rw [this]
      unfold sg0
      intro e
      split at e <;> exact absurd (Rat.intCast_inj.1 (e.trans (rfl : (0 : Rat) = ((0 : Int) : Rat)))) (by decide)
    · show (M0 rows C n K j (c - C) : Rat) = 0
      have : M0 rows C n K j (c - C) = 0 := by unfold M0; rw [if_neg (by omega), if_neg (by omega), if_neg (by omega), if_neg (fun h => by omega)]
      rw [this]; rfl)
  rcases stop_rel k2 k3 a (by omega) hs4 with ⟨c1, c2⟩ | ⟨_, c2⟩
  · rcases h with ⟨h5, _⟩ | ⟨_, hy, he⟩
    · exact absurd c1 h5
    · have hm0 : (W2 goal (n + K) : Rat) = 0 := by
        have : W2 goal (n + K) = 0 := cfN_hi _ fun q hq => by have := (hgo q hq).1; omega
        rw [this]; rfl
      have hl := sol_low k3 (by omega) hm0 hx hx0 hxn c2
      have hgm := (k3.lmG a hK (fun _ => rfl) hW2 (Nat.le_refl (n + K))).1
      rw [k2.g _ (Nat.le_refl _)] at hy
      obtain ⟨G, hG⟩ : ∃ G, (itU n (ph2 goal n K v) (reg u2 K fun j => (W2 goal j : Rat)) s2).g (n + K) = G := ⟨_, rfl⟩
      rw [hG] at hy hl hgm
      have hf : Fit (G + (cst : Rat)) := by
        have hb := rat_parts (q := G + (cst : Rat)) (z := G.num + cst * (G.den : Int)) (d := (G.den : Int)) (by have := G.den_nz; omega) (by
          have e1 := rat_num G
          have d1 := den_pos G
          have c3 : (((G.den : Nat) : Int) : Rat) = ((G.den : Nat) : Rat) := rfl
          rw [Rat.intCast_add, Rat.intCast_mul, c3, ← e1]
          generalize ((G.den : Nat) : Rat) = z at *
          have hz : z ≠ 0 := by grind
          grind)
        have b1 := hgm.1
        have b2 := hgm.2
        have b3 : (cst * (G.den : Int)).natAbs ≤ 9 * 157464 := by rw [Int.natAbs_mul, Int.natAbs_natCast]; exact Nat.mul_le_mul hc b2
        have b4 := hb.1
        have b5 := hb.2
        rw [Int.natAbs_natCast] at b5
        exact ⟨by omega, by omega⟩
      refine ⟨he, G + (cst : Rat), ?_, hf, ?_⟩
      · rw [hy, show (⟨cst, 1⟩ : Frc) = fr (cst : Rat) from rfl]
        exact addF_fr hf
      · grind
  · exact absurd c2 hbd
end
end Go.Proofs.Ytkageldgmkajbaa
namespace Go.Proofs.Ytkageldgmkajbaa
open Go.RowKit
theorem sm_app {f : Nat → Rat} {C : Nat} : ∀ d, sm f (C + d) = sm f C + sm (fun i => f (C + i)) d
  | 0 => by show sm f C = sm f C + 0; grind
  | d + 1 => by
    have ih := sm_app (f := f) (C := C) d
    show sm f (C + d) + f (C + d) = sm f C + (sm (fun i => f (C + i)) d + f (C + d))
    rw [ih]; grind
section
variable {rows : List Row} {goal : List Term} {cst : Int} {C n K : Nat} {x : List Int}
def xS (rows : List Row) (C n : Nat) (x : List Int) (j : Nat) : Rat := if j < C then (gi x j : Rat) else if j < n then (((gw rows (j - C)).mo - valN (gw rows (j - C)).te x (gw rows (j - C)).te.length : Int) : Rat) else 0
theorem val_sm {ts : List Term} {sg : Int} : ∀ z, (∀ q, q < z → 0 ≤ (gm ts q).of_ ∧ (gm ts q).of_ < (C : Int)) → sm (fun q => (sg : Rat) * (((gm ts q).co : Rat) * xS rows C n x (gm ts q).of_.toNat)) z = ((sg * valN ts x z : Int) : Rat)
  | 0, _ => by rw [val_zero, Int.mul_zero]; rfl
  | z + 1, h => by
    have ih := val_sm (sg := sg) z fun q hq => h q (by omega)
    have hz := h z (by omega)
    show sm _ z + _ = _
    rw [ih, val_succ, Int.mul_add, Rat.intCast_add]
    congr 1
    have e : xS rows C n x (gm ts z).of_.toNat = (gi x (gm ts z).of_.toNat : Rat) := if_pos (by omega)
    show (sg : Rat) * (((gm ts z).co : Rat) * xS rows C n x (gm ts z).of_.toNat) = ((sg * ((gm ts z).co * gi x (gm ts z).of_.toNat) : Int) : Rat)
    rw [e, Rat.intCast_mul, Rat.intCast_mul]
theorem xS_sol (hr : RwsOK rows C K) (hn : n = C + K) (hasc : ∀ q, q < K → ∀ i j, i < j → j < (gw rows q).te.length → (gm (gw rows q).te i).of_ < (gm (gw rows q).te j).of_) : Sol (A0 rows C n K) K (n + K) (xS rows C n x) := by
  intro q hq
  have h1 := (hr.2 q hq).2.2
  have hof : ∀ z, z < (gw rows q).te.length → 0 ≤ (gm (gw rows q).te z).of_ ∧ (gm (gw rows q).te z).of_ < (C : Int) := fun z hz => ⟨(h1 z hz).1, (h1 z hz).2.1⟩
  show sm (fun j => xS rows C n x j * (M0 rows C n K j q : Rat)) (n + K) = (M0 rows C n K (n + K) q : Rat)
  rw [show n + K = C + (K + K) by omega, sm_app]
  have e1 : sm (fun j => xS rows C n x j * (M0 rows C n K j q : Rat)) C = ((sg0 rows q * valN (gw rows q).te x (gw rows q).te.length : Int) : Rat) := by
    rw [← val_sm (rows := rows) (n := n) (sg := sg0 rows q) _ hof, ← cfN_sum (sg := sg0 rows q) (C := C) _ hof (hasc q hq)]
    refine sm_congr fun j hj => ?_
    have : M0 rows C n K j q = cfN (sg0 rows q) (gw rows q).te (gw rows q).te.length j := by unfold M0; rw [if_neg (by omega), if_pos hj]
    rw [this]
  have e2 : sm (fun i => xS rows C n x (C + i) * (M0 rows C n K (C + i) q : Rat)) (K + K) = xS rows C n x (C + q) * (M0 rows C n K (C + q) q : Rat) := sm_one (k := q) (by omega) fun i hi hne => by
    by_cases c : i < K
    · have : M0 rows C n K (C + i) q = 0 := by unfold M0; rw [if_neg (by omega), if_neg (by omega), if_neg (by omega), if_neg (fun h => by omega)]
      rw [this]
      have : ((0 : Int) : Rat) = 0 := rfl
      rw [this]; grind
    · have : xS rows C n x (C + i) = 0 := by unfold xS; rw [if_neg (by omega), if_neg (by omega)]
      rw [this]; grind
  have e3 : M0 rows C n K (C + q) q = sg0 rows q := by unfold M0; rw [if_neg (by omega), if_neg (by omega), if_pos rfl]
  have e4 : xS rows C n x (C + q) = (((gw rows q).mo - valN (gw rows q).te x (gw rows q).te.length : Int) : Rat) := by
    unfold xS; rw [if_neg (by omega), if_pos (by omega), show C + q - C = q by omega]
  have e5 : M0 rows C n K (C + (K + K)) q = sg0 rows q * (gw rows q).mo := by unfold M0; rw [if_pos (by omega)]
  rw [e1, e2, e3, e4, e5, ← Rat.intCast_mul, ← Rat.intCast_add]
  congr 1
  rw [Int.sub_mul, Int.mul_comm (gw rows q).mo, Int.mul_comm (valN _ _ _)]
  omega
theorem xS_goal (hgo : GoOK goal C) (hasc : ∀ i j, i < j → j < goal.length → (gm goal i).of_ < (gm goal j).of_) (hn : n = C + K) : sm (fun j => xS rows C n x j * (W2 goal j : Rat)) (n + K) = ((-1 * valN goal x goal.length : Int) : Rat) := by
  rw [show n + K = C + (K + K) by omega, sm_app]
  have e2 : sm (fun i => xS rows C n x (C + i) * (W2 goal (C + i) : Rat)) (K + K) = 0 := sm_zero fun i hi => by
    have : W2 goal (C + i) = 0 := cfN_hi _ fun q hq => by have := (hgo q hq).1; omega
    rw [this]
    have : ((0 : Int) : Rat) = 0 := rfl
    rw [this]; grind
  rw [e2, ← val_sm (rows := rows) (n := n) (sg := -1) goal.length (fun q hq => (hgo q hq).1), ← cfN_sum (sg := -1) (C := C) goal.length (fun q hq => (hgo q hq).1) hasc]
  show _ + (0 : Rat) = _
  have : sm (fun j => xS rows C n x j * (W2 goal j : Rat)) C = sm (fun j => xS rows C n x j * (cfN (-1) goal goal.length j : Rat)) C := rfl
  rw [this]; grind
theorem flo_le {q : Rat} {v : Int} (h : (v : Rat) ≤ q) : v ≤ flo (fr q) := by
  have h1 : ¬ q < (v : Rat) := Rat.not_lt.2 h
  rw [lt_num] at h1
  have h2 : v * (q.den : Int) ≤ q.num := by
    have e1 : ((v : Rat)).num = v := rfl
    have e2 : (((v : Rat)).den : Int) = 1 := rfl
    rw [e1, e2] at h1
    omega
  have hd : (0 : Int) < (q.den : Int) := by have := q.den_nz; omega
  have key : flo (fr q) = q.num / (q.den : Int) := by
    show (if q.num.tmod (q.den : Int) < 0 then q.num.tdiv (q.den : Int) - 1 else q.num.tdiv (q.den : Int)) = _
    rw [Int.tdiv_eq_ediv, Int.tmod_eq_emod]
    have hm := Int.emod_nonneg q.num (show (q.den : Int) ≠ 0 by omega)
    have hm2 := Int.emod_lt_of_pos q.num hd
    have hs : (q.den : Int).sign = 1 := Int.sign_eq_one_of_pos hd
    have ha : ((q.den : Int).natAbs : Int) = (q.den : Int) := by omega
    by_cases c : 0 ≤ q.num ∨ (q.den : Int) ∣ q.num
    · simp only [c, if_true]
      rw [if_neg (by omega)]; omega
    · simp only [c, if_false]
      rw [hs, if_pos (by omega)]; omega
  rw [key]
  exact Int.le_ediv_of_mul_le hd h2
end
end Go.Proofs.Ytkageldgmkajbaa
namespace Go.Proofs.Ytkageldgmkajbaa
open Go.RowKit
theorem tm_asc {c m : Int} {l : List Term} (h : tmB c m l = true) : ∀ d i, i + d + 1 < l.length → (gm l i).of_ < (gm l (i + d + 1)).of_
  | 0, i, hi => by
    have h1 := (tmB_at h (i := i + 1) hi).2.2.2.2.2
    exact h1
  | d + 1, i, hi => by
    have ih := tm_asc h d i (by omega)
    have h1 : prT l (i + (d + 1) + 1) < (gm l (i + (d + 1) + 1)).of_ := (tmB_at h (i := i + (d + 1) + 1) hi).2.2.2.2.2
    have h2 : prT l (i + (d + 1) + 1) = (gm l (i + d + 1)).of_ := rfl
    omega
theorem tm_lt {c m : Int} {l : List Term} (h : tmB c m l = true) {i j : Nat} (hij : i < j) (hj : j < l.length) : (gm l i).of_ < (gm l j).of_ := by
  have := tm_asc h (j - i - 1) i (by omega)
  rw [show i + (j - i - 1) + 1 = j by omega] at this
  exact this
theorem go_ok {C : Nat} {l : List Term} (h : tmB (C : Int) 9 l = true) : GoOK l C := fun q hq => by
  have := tmB_at h hq
  exact ⟨⟨this.1, this.2.1⟩, this.2.2.2.1, this.2.2.2.2.1⟩
theorem rws_ok {C K : Nat} {rows : List Row} (hC : C ≤ 6) (hK : rows.length = K) (h : rwsB (C : Int) 9 50 rows = true) : RwsOK rows C K := by
  refine ⟨hK, fun i hi => ?_⟩
  have h1 := rwB_is (rwsB_iff.1 h (gw rows i) (mem_gt (c := .row) (by omega)))
  exact ⟨⟨h1.2.1, h1.2.2⟩, val_len h1.1 (by omega), fun z hz => by
    have := tmB_at h1.1 hz
    exact ⟨this.1, this.2.1, this.2.2.2.1, this.2.2.2.2.1⟩⟩
theorem box_at {most : List Int} : ∀ {n : Nat} {j : Nat}, j < n → gw (boxRows most n) j = ⟨[⟨(j : Int), 1⟩], gi most j⟩
  | 0, _, h => absurd h (Nat.not_lt_zero _)
  | n + 1, j, h => by
    show gt (c := .row) (boxRows most n ++ [(⟨[⟨(n : Int), 1⟩], gt (c := .int) most n⟩ : Row)]) j = _
    by_cases e : j < n
    · exact (gt_app1 (c := .row) (by rw [box_len]; exact e)).trans (box_at e)
    · have e : j = (boxRows most n).length := by rw [box_len]; omega
      rw [e]
      refine (gt_snoc (c := .row)).trans ?_
      rw [box_len]
theorem bx_ok {m : Mdl} {most : List Int} {C K : Nat} (hl : most.length = C) (hK : (boxM m most).rows.length = K) (h0 : ∀ j, j < C → 0 ≤ gi most j) : BxOK (boxM m most).rows C K := fun j hj => by
  have e : gw (boxM m most).rows (m.rows.length + j) = ⟨[⟨(j : Int), 1⟩], gi most j⟩ := by
    show gt (c := .row) (m.rows ++ boxRows most most.length) (m.rows.length + j) = _
    refine (gt_app2 (c := .row) (by omega)).trans ?_
    rw [show m.rows.length + j - m.rows.length = j by omega]
    exact box_at (by omega)
  have hlen : (boxM m most).rows.length = m.rows.length + most.length := by
    show (m.rows ++ boxRows most most.length).length = _
    rw [List.length_append, box_len]
  have hc : ∀ i, cfN 1 [⟨(j : Int), 1⟩] 1 i = if i = j then 1 else 0 := fun i => by
    show (if i = ((j : Int)).toNat then 1 * 1 else 0 : Int) = _
    rw [Int.toNat_natCast]; rfl
  refine ⟨m.rows.length + j, by omega, by rw [e]; exact h0 j hj, fun i hi => ?_, ?_⟩
  · rw [e]
    show 0 ≤ cfN 1 [⟨(j : Int), 1⟩] 1 i
    rw [hc]; split <;> decide
  · rw [e]
    show 0 < cfN 1 [⟨(j : Int), 1⟩] 1 j
    rw [hc, if_pos rfl]; decide
end Go.Proofs.Ytkageldgmkajbaa
namespace Go.Proofs.Ytkageldgmkajbaa
open Go.RowKit
theorem lp_ok {M : Mdl} {C n K : Nat} {x : List Int} (hg : Gd M) (hc : M.cols = (C : Int)) (hKl : M.rows.length = K) (hn : n = C + K) (hC : C ≤ 3) (hK : K ≤ 6) (hbx : BxOK M.rows C K) (hx0 : ∀ j, j < C → 0 ≤ gi x j) (hxr : ∀ q, q < K → valN (gw M.rows q).te x (gw M.rows q).te.length ≤ (gw M.rows q).mo) {y : Frc} {e : Int} (h : BR M.rows M.goal M.cst C n K y e) :
    e = 0 ∧ WkF y ∧ 1 ≤ y.den ∧ M.cst + valN M.goal x M.goal.length ≤ flo y := by
  have hgg := hg.g
  have hrr := hg.r
  rw [hc] at hgg hrr
  have hr := rws_ok (by omega) hKl hrr
  have hgo := go_ok hgg
  have hk := hg.k
  obtain ⟨h1, q, h2, h3, h4⟩ := br_ok hgo hr hbx hn hC hK (by omega) (x := xS M.rows C n x) (xS_sol hr hn fun q hq i j hij hj => tm_lt (rwB_is (rwsB_iff.1 hrr (gw M.rows q) (mem_gt (c := .row) (by omega)))).1 hij hj) (fun j hj => by
    unfold xS
    split
    · rename_i c; exact Rat.intCast_nonneg.2 (hx0 j c)
    · exact Rat.intCast_nonneg.2 (by have := hxr (j - C) (by omega); omega)) (fun j hj1 hj2 => by
    unfold xS; rw [if_neg (by omega), if_neg (by omega)]) h
  rw [xS_goal hgo (fun i j hij hj => tm_lt hgg hij hj) hn] at h4
  have d := q.den_nz
  refine ⟨h1, ?_, by rw [h2]; show 1 ≤ (q.den : Int); omega, ?_⟩
  · rw [h2]
    exact ⟨by have := h3.1; show _ ≤ q.num; omega, by have := h3.1; show q.num ≤ _; omega, by show 0 ≤ (q.den : Int); omega, by have := h3.2; show (q.den : Int) ≤ _; omega⟩
  · rw [h2]
    refine flo_le ?_
    have e1 : ((M.cst + valN M.goal x M.goal.length : Int) : Rat) = (M.cst : Rat) - ((-1 * valN M.goal x M.goal.length : Int) : Rat) := by
      rw [← Rat.intCast_sub]; congr 1; omega
    rw [e1]; exact h4
end Go.Proofs.Ytkageldgmkajbaa
namespace Go.Proofs.Ytkageldgmkajbaa
open Go.RowKit
theorem e_vwT {x : Cx} {s : St} (hL : LayOk x.P x.L) {t e es i n : Nat} {zs : List SV} {ea : Bool} {by_ : Nat} {code : Option Ty} {a lo : Operand} {r : Rid} {k : IntKind} {z : Int} {c : Ty} {l : List (El c)} {obs : List Prop}
    (ht : find x.L t = some ⟨zs, .slice e es ea, by_, code⟩) (ha : s.get a = some (.vw r es i n none)) (hlo : s.get lo = some (.int k z)) (hle : listE s.mem r = some (.own, ⟨c, l⟩, obs)) (hw : wid c = es) (hz : 0 ≤ z ∧ z < (n : Int)) (hin : i + n ≤ l.length) (ho : AllP obs) :
    EvTo x s (.slice t a (some lo) none none) (.vw r es (i + z.toNat) (n - z.toNat) none) := by
  refine ⟨fun D0 V ac w he hE _ _ _ _ _ => ?_⟩
  obtain ⟨d, h4, h5⟩ := (hL.at ht).desc
  obtain ⟨i', de, rfl, e2, e3, e4, e5⟩ := td_slice h5
  obtain ⟨q1, q2, q3, q4⟩ := hE.at_ r _ (listE_eq hle ho)
  simp only [execOp, he.get ha, he.get hlo, Option.map_some, Option.map_none]
  refine fin_v ?_
  have hbn := r_bounds (P := x.P) (w := w) (n := n) (c := (V r).cap - i) (lo := some (k, z)) (hi := none) (mx := none) (.inl rfl) trivial trivial ⟨hz.1, by show z ≤ (n : Int); omega, trivial⟩
  simp only [den]
  rw [hd_eta (L := (V r).vw es i n none) rfl rfl rfl]
  have h := r_slice (A := ((V r).vw es i n none).a) h4 e2 hbn
  rw [show ((V r).vw es i n none).len = n from rfl, show ((V r).vw es i n none).cap = (V r).cap - i from rfl]
  refine Eq.trans h ?_
  refine congrArg (fun z => Result.ok z w) ?_
  rcases q3 rfl with q | ⟨a0, cs, t0, g1, g2, g3, g4, g5⟩
  · omega
  · obtain ⟨b, o, sp⟩ := a0
    simp only at g2
    subst g2
    have f1 : ¬ (V r).cap - i = 0 := by omega
    have f2 : ¬ (V r).cap - i = z.toNat := by omega
    have f3 : ¬ (V r).cap - (i + z.toNat) = 0 := by omega
    have f4 : (V r).cap - i - z.toNat = (V r).cap - (i + z.toNat) := by omega
    simp only [bnat, Loc.hd, Loc.vw, Option.getD_none, g1, Option.map_some, if_neg f1, if_neg f2, if_neg f3, Addr.add_mid, f4, e3, Nat.add_mul, Nat.add_assoc]
theorem gd_drop {C : Int} {rows : List Row} {goal : List Term} {cst : Int} {k n : Nat} (hg : Gd ⟨C, rows, goal, cst⟩) : Gd ⟨C, (rows.drop k).take n, goal, cst⟩ := by
  have hmem : ∀ r ∈ (rows.drop k).take n, r ∈ rows := fun r hr => List.mem_of_mem_drop (List.mem_of_mem_take hr)
  refine ⟨hg.c, hg.g, hg.k, ?_, rwsB_iff.2 fun r hr => rwsB_iff.1 hg.r r (hmem r hr)⟩
  have h : rows.length ≤ 16 := hg.n
  show ((rows.drop k).take n).length ≤ 16
  rw [List.length_take, List.length_drop]; omega
theorem any_at {l : List Row} {x : List Int} (h : l.any (rowBad x) = false) {q : Nat} (hq : q < l.length) : valN (gw l q).te x (gw l q).te.length ≤ (gw l q).mo := by
  have h1 := List.any_eq_false.1 h _ (mem_gt (c := .row) hq)
  rw [rowBad_eq] at h1
  exact Int.not_lt.1 (of_decide_eq_false (Bool.eq_false_iff.2 h1))
theorem blw {C : Nat} {rows : List Row} {goal : List Term} {cst : Int} {most : List Int} (hg : Gd ⟨(C : Int), rows, goal, cst⟩) (hC : C ≤ 3) (h6 : rows.length + C ≤ 6) (hl : most.length = C) (hb : ∀ x ∈ most, (0 : Int) ≤ x ∧ x ≤ 3) :
    boxOk (C : Int) most = true ∧ Gd ⟨(C : Int), (boxM ⟨(C : Int), rows, goal, cst⟩ most).rows, goal, cst⟩ ∧ (boxM ⟨(C : Int), rows, goal, cst⟩ most).rows.length = rows.length + C ∧ RwsOK (boxM ⟨(C : Int), rows, goal, cst⟩ most).rows C (rows.length + C) ∧
    GoOK goal C ∧ HE (boxM ⟨(C : Int), rows, goal, cst⟩ most).rows goal C (C + (rows.length + C)) (rows.length + C) ∧
    ((solM ⟨(C : Int), rows, goal, cst⟩ most).2.2 = 0 ∨ (solM ⟨(C : Int), rows, goal, cst⟩ most).2.2 = 34) ∧
    ((solM ⟨(C : Int), rows, goal, cst⟩ most).2.2 = 0 → okX ⟨(C : Int), (boxM ⟨(C : Int), rows, goal, cst⟩ most).rows, goal, cst⟩ (solM ⟨(C : Int), rows, goal, cst⟩ most).2.1 = true ∧
      valR ⟨(C : Int), (boxM ⟨(C : Int), rows, goal, cst⟩ most).rows, goal, cst⟩ (solM ⟨(C : Int), rows, goal, cst⟩ most).2.1 = (solM ⟨(C : Int), rows, goal, cst⟩ most).1 ∧
      ∀ y e, BR (boxM ⟨(C : Int), rows, goal, cst⟩ most).rows goal cst C (C + (rows.length + C)) (rows.length + C) y e → e = 0 ∧ WkF y ∧ 1 ≤ y.den ∧ (solM ⟨(C : Int), rows, goal, cst⟩ most).1 ≤ flo y) := by
  have hb' : ∀ i, i < most.length → @LE.le Int _ 0 (gt (c := .int) most i) ∧ @LE.le Int _ (gt (c := .int) most i) 3 := fun i hi => hb _ (mem_gt (c := .int) hi)
  have k1 : boxOk (C : Int) most = true := boxOk_of (by omega) (by omega) hb'
  have hgB : Gd (boxM ⟨(C : Int), rows, goal, cst⟩ most) := gd_box hg (by show rows.length ≤ 6; omega) k1
  have hlen : (boxM ⟨(C : Int), rows, goal, cst⟩ most).rows.length = rows.length + C := by
    show (rows ++ boxRows most most.length).length = _
    rw [List.length_append, box_len, hl]
  have hr : RwsOK (boxM ⟨(C : Int), rows, goal, cst⟩ most).rows C (rows.length + C) := rws_ok (by omega) hlen hgB.r
  have hgo : GoOK goal C := go_ok hg.g
  refine ⟨k1, hgB, hlen, hr, hgo, he_ok hgo hr rfl hC h6, sol_err k1, fun h0 => ?_⟩
  cases hf : (solB (boxM ⟨(C : Int), rows, goal, cst⟩ most) most).f with
  | false => rw [solM_f k1 hf] at h0; cases h0
  | true =>
    obtain ⟨x, h1, h2, h3, h4⟩ := (sol_best (M := boxM ⟨(C : Int), rows, goal, cst⟩ most) (most := most)).1 hf
    rw [solM_t k1 hf]
    dsimp only
    rw [h4, h3]
    refine ⟨h2, rfl, fun y e hbr => ?_⟩
    obtain ⟨o1, o2, o3⟩ := okX_is h2
    obtain ⟨p1, p2, p3, p4⟩ := lp_ok (M := boxM ⟨(C : Int), rows, goal, cst⟩ most) (C := C) (n := C + (rows.length + C)) (K := rows.length + C) (x := x) hgB rfl hlen rfl hC h6 (bx_ok hl hlen fun j hj => (hb' j (by omega)).1) (fun j _ => (x_bd o2 j).1) (fun q hq => any_at o3 (by omega)) hbr
    refine ⟨p1, p2, p3, ?_⟩
    rw [valR_t h2]; exact p4
end Go.Proofs.Ytkageldgmkajbaa
namespace Go.Proofs.Ytkageldgmkajbaa
open Go.RowKit
theorem o_app {l r : List Prop} (hl : AllP l) (hr : AllP r) : AllP (app l r) := AllP_app.2 ⟨hl, hr⟩
attribute [local irreducible] mulF mulE subF subE divF divE addF addE clr upN pvN pvM pvG cmpF colN rowN zrs trN gN bld itT lenZ rwP rwQ
theorem r_clearGI (RS : List (List Frc)) (G : List Frc) (row : Nat) (col : Int) (hr : row < RS.length) (h0 : 0 ≤ col) (hc : col.toNat < G.length) (hle : G.length ≤ (gr RS row).length) (hm : G.length ≤ 1000) (hl : WkL G) (hy : WkL (gr RS row)) : Trip Try.prog 43 [.sl ⟨0, []⟩, .sl ⟨1, [(row, 0)]⟩, .int .i64 col] ⟨[], [(0, .list .tmp .frac G), (1, .list .tmp .fracs RS)], 2⟩ (Z := Unit) (fun _ => True) (fun _ => .sl ⟨2, []⟩) (fun _ => ⟨[], [(0, .list .tmp .frac G), (1, .list .tmp .fracs RS), (2, .list .own .frac (clr G (gr RS row) col.toNat))], 3⟩) := by
  obtain ⟨c, rfl⟩ := Int.eq_ofNat_of_zero_le h0
  exact r_clearG RS G row c hr hc hle hm hl hy
set_option maxHeartbeats 16000000 in
theorem r_best (C n K : Nat) (rows : List Row) (goal : List Term) (cst : Int) (hg : Gd ⟨(C : Int), rows, goal, cst⟩) (h6 : rows.length ≤ 6) (hr : RwsOK rows C K) (hn : n = C + K) (hC : C ≤ 6) (hK : K ≤ 6) (hc0 : -9 ≤ cst) (hc1 : cst ≤ 9) (hgl6 : goal.length ≤ 1000) (hgo : ∀ q, q < goal.length → (0 ≤ (gm goal q).of_ ∧ (gm goal q).of_ < (C : Int)) ∧ -9 ≤ (gm goal q).co ∧ (gm goal q).co ≤ 9) (he : HE rows goal C n K) : Trip Try.prog 20 [.agg [.int .i64 (C : Int), .sl ⟨0, []⟩, .sl ⟨1, []⟩, .int .i64 cst]] ⟨[], [(0, .list .tmp .row rows), (1, .list .tmp .term goal)], 2⟩ (Z := Frc × Int) (fun z => BR rows goal cst C n K z.1 z.2) (fun z => .tup [.agg [.int .i64 z.1.num, .int .i64 z.1.den], .int .i64 z.2]) (fun _ => ⟨[], [(0, .list .tmp .row rows), (1, .list .tmp .term goal)], 2⟩) := by
  have hrl := hr.1
  have hK2 : (K : Int) = (rows.length : Int) := by omega
  refine trip_by (rs := [_, _]) 400 lay_ok Try.func20 rfl (by kernel_rfl) Try.ntmps20 Try.results20 rfl rfl ?_
  repeat' (first | (((with_reducible refine g_id ?_); (conv => arg 3; whnf)); first | (with_reducible refine g_cond lay_ok 400 ?_ ?_ ?_) | (refine g_call lay_ok 400 ?_ ?_ ?_ (r_small ⟨(C : Int), rows, goal, cst⟩ hg h6) rfl) | (refine g_call lay_ok 400 ?_ ?_ ?_ (r_zeros ?_ ?_ ?_) rfl) | fail) | (with_reducible exact o_nil) | (with_reducible refine o_app ?_ ?_) | (with_reducible refine o_cons ?_ ?_) | ((with_reducible refine o_id ?_); (conv => arg 1; whnf); first | (with_reducible refine o_cons ?_ ?_)) | (intro h; ((try simp only [Int.toNat_natCast] at h); repeat (first | replace h := not_t h | replace h := not_f h | fail)); (try (first | contradiction | fail))) | omega | rfl | fail)
  refine g_loop lay_ok 400 (Z := Nat) (fun z => z ≤ K) (fun z => ⟨[(1, .ptr 2 0), (2, .ptr 3 0), (3, .int .i64 0), (4, .int .i64 (K : Int)), (5, .int .i64 (n : Int)), (6, .ptr 5 0), (40, .sl ⟨0, []⟩), (41, .int .i64 (K : Int)), (42, .int .i64 (z : Int))], [(0, .list .tmp .row rows), (1, .list .tmp .term goal), (2, .cells [.int .i64 (C : Int), .sl ⟨0, []⟩, .sl ⟨1, []⟩, .int .i64 cst]), (3, .cells [.int .i64 0, .int .i64 0]), (4, .list .own .frac (bld rows C n K z).g), (5, .cells [.sl ⟨6, []⟩, .sl ⟨7, []⟩, .sl ⟨4, []⟩]), (6, .list .own .fracs (bld rows C n K z).L), (7, .list .own .int (bld rows C n K z).b)], 8⟩) (fun z => K - z) ?_ ⟨0, Nat.zero_le _, ?_⟩ (fun z hz => ?_)
  · repeat' (first | (with_reducible exact o_nil) | (with_reducible refine o_app ?_ ?_) | fail)
  · ((with_reducible refine s_id ?_); (conv => arg 1; whnf); (with_reducible refine s_some ?_); repeat' (first | (with_reducible exact o_nil) | (with_reducible refine o_app ?_ ?_) | (with_reducible refine o_cons ?_ ?_) | (with_reducible rfl) | omega | (unfold bld; rfl) | (unfold bld lenZ; exact congrArg zrs (by omega))))
  by_cases hlt : z < K
  · have hB := bld_ok (n := n) hr z (by omega)
    obtain ⟨⟨mo0, mo1⟩, tl, htm⟩ := hr.2 z hlt
    have hz6 : z < rows.length := by omega
    by_cases hmo : (gw rows z).mo < 0
    · have E := bld_y (C := C) (n := n) (K := K) hmo
      obtain ⟨t, ht⟩ : ∃ t, bld rows C n K z = t := ⟨_, rfl⟩
      rw [ht] at hB E ⊢
      have hbL := hB.T.hn
      have hbb := hB.b
      have hbg := hB.g
      repeat' (first | (((with_reducible refine g_id ?_); (conv => arg 3; whnf)); first | (with_reducible refine g_cond lay_ok 400 ?_ ?_ ?_) | (refine g_call lay_ok 400 ?_ ?_ ?_ (r_zeros ?_ ?_ ?_) rfl) | fail) | (with_reducible exact o_nil) | (with_reducible refine o_app ?_ ?_) | (with_reducible refine o_cons ?_ ?_) | ((with_reducible refine o_id ?_); (conv => arg 1; whnf); first | (with_reducible refine o_cons ?_ ?_)) | (intro h; ((try simp only [Int.toNat_natCast] at h); repeat (first | replace h := of_decide_eq_true h | replace h := of_decide_eq_false h | fail)); (try (first | contradiction | (exfalso; omega) | fail))) | omega | (with_reducible rfl) | fail)
      refine g_loop lay_ok 400 (Z := Nat) (fun q => q ≤ (gw rows z).te.length) (fun q => ⟨[(1, .ptr 2 0), (2, .ptr 3 0), (3, .int .i64 0), (4, .int .i64 (K : Int)), (5, .int .i64 (n : Int)), (6, .ptr 5 0), (7, .int .i64 (z : Int)), (8, .ptr 8 0), (9, .sl ⟨9, []⟩), (10, .int .i64 (-1)), (40, .sl ⟨0, []⟩), (41, .int .i64 (K : Int)), (42, .int .i64 (z : Int)), (56, .sl ⟨0, [(z, 0)]⟩), (57, .int .i64 ((gw rows z).te.length : Int)), (58, .int .i64 (q : Int))], [(0, .list .tmp .row rows), (1, .list .tmp .term goal), (2, .cells [.int .i64 (C : Int), .sl ⟨0, []⟩, .sl ⟨1, []⟩, .int .i64 cst]), (3, .cells [.int .i64 0, .int .i64 0]), (4, .list .own .frac (t).g), (5, .cells [.sl ⟨6, []⟩, .sl ⟨7, []⟩, .sl ⟨4, []⟩]), (6, .list .own .fracs (t).L), (7, .list .own .int (t).b), (8, .cells [.sl ⟨0, [(z, 0)]⟩, .int .i64 (gw rows z).mo]), (9, .list .own .frac (trN (-1) (gw rows z).te (lenZ n K) q))], 10⟩) (fun q => (gw rows z).te.length - q) ?_ ⟨0, Nat.zero_le _, ?_⟩ (fun q hq => ?_)
      · repeat' (first | (with_reducible exact o_nil) | (with_reducible refine o_app ?_ ?_) | (with_reducible refine o_cons ?_ ?_) | omega | fail)
      · ((with_reducible refine s_id ?_); (conv => arg 1; whnf); (with_reducible refine s_some ?_); repeat' (first | (with_reducible exact o_nil) | (with_reducible refine o_app ?_ ?_) | (with_reducible refine o_cons ?_ ?_) | (with_reducible rfl) | omega | (exact rfl) | (unfold trN lenZ; rfl)))
      by_cases hqt : q < (gw rows z).te.length
      · obtain ⟨t0, t1, t2, t3⟩ := htm q hqt
        repeat' (first | (((with_reducible refine g_id ?_); (conv => arg 3; whnf)); first | (with_reducible refine g_cond lay_ok 400 ?_ ?_ ?_) | (with_reducible refine g_fin ?_ ?_) | (refine g_call lay_ok 400 ?_ ?_ ?_ (r_whole ?_) rfl) | (refine g_flow 16 lay_ok mixed_ok 400 640 [0, 0, 2, 0, 0, 16, 56, 120, 255, 511] (.q 0 (.q 1 (.q 2 (.q 3 (.q 4 (.q 5 (.q 6 (.e 7 [0, 1, 2] (.q 8 (.e 9 [] (.fin) .stop)) .stop)))))))) (by kernel_rfl) ?_ ?_) | fail) | (((with_reducible refine w_id ?_); (conv => arg 4; whnf)); first | (with_reducible refine w_fin ?_ ?_) | (with_reducible refine w_tt ?_) | (with_reducible refine w_eff lay_ok 400 ?_ rfl rfl ?_ ?_)) | (with_reducible refine q_flow ?_ ?_) | ((with_reducible refine h_id ?_); (conv => arg 1; whnf); (with_reducible refine s_some ?_)) | (with_reducible exact o_nil) | (with_reducible refine o_app ?_ ?_) | (with_reducible refine o_cons ?_ ?_) | ((with_reducible refine o_id ?_); (conv => arg 1; whnf); first | (with_reducible refine o_cons ?_ ?_)) | (intro h; ((try simp only [Int.toNat_natCast] at h); repeat (first | replace h := of_decide_eq_true h | replace h := of_decide_eq_false h | fail)); (try (first | (exfalso; omega) | fail))) | omega | (with_reducible rfl) | (simp only [Int.toNat_natCast]; omega) | (show (gm (gw rows z).te q).of_ < (_ : Int); simp only [trN_len, lenZ_len]; omega) | (show (gm (gw rows z).te q).of_.toNat < _; simp only [trN_len, lenZ_len]; omega) | (show _ ≤ -1 * (gm (gw rows z).te q).co; omega) | (show -1 * (gm (gw rows z).te q).co ≤ _; omega) | fail)
        all_goals (refine q_round ⟨q + 1, by omega, by omega, ?_⟩; ((with_reducible refine s_id ?_); (conv => arg 1; whnf); (with_reducible refine s_some ?_); repeat' (first | (with_reducible exact o_nil) | (with_reducible refine o_app ?_ ?_) | (with_reducible refine o_cons ?_ ?_) | (with_reducible rfl) | omega | (exact trN_s) | fail)))
      · have eq : q = (gw rows z).te.length := by omega
        subst eq
        have hR := rwP_ok (n := n) hr hlt (sg := -1) (.inr rfl)
        have hRl : (rwQ C n K z (gw rows z)).length = n + K + 1 := by unfold rwQ; rw [List.length_set]; exact hR.1
        have hRw : WkL (rwQ C n K z (gw rows z)) := by unfold rwQ; exact hR.2.set (wk_int (by decide) (by decide))
        repeat' (first | (((with_reducible refine g_id ?_); (conv => arg 3; whnf)); first | (with_reducible refine g_cond lay_ok 400 ?_ ?_ ?_) | (with_reducible refine g_fin ?_ ?_) | (refine g_call lay_ok 400 ?_ ?_ ?_ (r_whole ?_) rfl) | (refine g_flow 18 lay_ok mixed_ok 400 689152 [0, 0, 2, 0, 14, 0, 0, 0, 192, 0, 512, 0, 0, 4096, 14336, 32256, 65055, 130591, 262143, 524287] (.q 0 (.q 1 (.q 2 (.q 3 (.q 4 (.q 5 (.q 6 (.q 7 (.q 8 (.q 9 (.q 11 (.q 12 (.q 13 (.q 14 (.e 10 [0, 1, 2, 3, 4, 5, 6, 7, 8, 11, 12, 13, 14] (.e 15 [0, 1, 2, 3, 4, 5, 6, 7, 8] (.q 16 (.e 17 [5, 6, 7, 8] (.q 18 (.e 19 [] (.fin) .stop)) .stop)) .stop) .stop))))))))))))))) (by kernel_rfl) ?_ ?_) | fail) | (((with_reducible refine w_id ?_); (conv => arg 4; whnf)); first | (with_reducible refine w_fin ?_ ?_) | (with_reducible refine w_tt ?_) | (with_reducible refine w_eff lay_ok 400 ?_ rfl rfl ?_ ?_)) | (with_reducible refine q_flow ?_ ?_) | ((with_reducible refine h_id ?_); (conv => arg 1; whnf); (with_reducible refine s_some ?_)) | (with_reducible refine q_leave lay_ok 400 ?_) | (with_reducible exact o_nil) | (with_reducible refine o_app ?_ ?_) | (with_reducible refine o_cons ?_ ?_) | ((with_reducible refine o_id ?_); (conv => arg 1; whnf); first | (with_reducible refine o_cons ?_ ?_)) | (intro h; ((try simp only [Int.toNat_natCast] at h); repeat (first | replace h := of_decide_eq_true h | replace h := of_decide_eq_false h | fail)); (try (first | contradiction | (exfalso; omega) | fail))) | omega | (with_reducible rfl) | (simp only [zrs_len, trN_len, lenZ_len, Int.toNat_natCast]; omega) | (simp only [List.length_set, trN_len, lenZ_len, Int.toNat_natCast]; omega) | fail)
        refine g_loop lay_ok 400 (Z := Nat) (fun q => q ≤ t.g.length) (fun q => ⟨[(1, .ptr 2 0), (2, .ptr 3 0), (3, .int .i64 0), (4, .int .i64 (K : Int)), (5, .int .i64 (n : Int)), (6, .ptr 5 0), (7, .int .i64 (z : Int)), (8, .ptr 8 0), (9, .sl ⟨9, []⟩), (10, .int .i64 (-1)), (40, .sl ⟨0, []⟩), (41, .int .i64 (K : Int)), (42, .int .i64 (z : Int)), (117, .int .i64 (t.g.length : Int)), (118, .int .i64 (q : Int))], [(0, .list .tmp .row rows), (1, .list .tmp .term goal), (2, .cells [.int .i64 (C : Int), .sl ⟨0, []⟩, .sl ⟨1, []⟩, .int .i64 cst]), (3, .cells [.int .i64 0, .int .i64 0]), (4, .list .own .frac (gN n K (rwQ C n K z (gw rows z)) t.g q)), (5, .cells [.sl ⟨6, []⟩, .sl ⟨7, []⟩, .sl ⟨4, []⟩]), (6, .list .own .fracs t.L), (7, .list .own .int (t.b ++ [(n : Int) + (z : Int)])), (8, .cells [.sl ⟨0, [(z, 0)]⟩, .int .i64 (gw rows z).mo]), (9, .list .own .frac (rwQ C n K z (gw rows z)))], 10⟩) (fun q => t.g.length - q) ?_ ⟨0, Nat.zero_le _, ?_⟩ (fun q hq => ?_)
        · repeat' (first | (with_reducible exact o_nil) | (with_reducible refine o_app ?_ ?_) | (with_reducible refine o_cons ?_ ?_) | ((with_reducible refine o_id ?_); (conv => arg 1; whnf); first | (with_reducible refine o_cons ?_ ?_)) | omega | (simp only [List.length_append, List.length_cons, List.length_nil]; omega) | (simp only [List.length_set, trN_len, lenZ_len, Int.toNat_natCast]; omega) | fail)
        · ((with_reducible refine s_id ?_); (conv => arg 1; whnf); (with_reducible refine s_some ?_); repeat' (first | (with_reducible exact o_nil) | (with_reducible refine o_app ?_ ?_) | (with_reducible refine o_cons ?_ ?_) | (with_reducible rfl) | omega | (unfold gN; rfl) | (unfold rwQ rwP; rfl) | fail))
        have hG := gN_ok (n := n) (K := K) (row := rwQ C n K z (gw rows z)) hB.w q
        have hGl := hG.1
        have hGw := hG.2
        clear hG
        obtain ⟨R, hRR⟩ : ∃ R, rwQ C n K z (gw rows z) = R := ⟨_, rfl⟩
        rw [hRR] at hRl hRw hGl hGw E ⊢
        by_cases hqt : q < t.g.length
        · by_cases hcd : q < n ∨ q = n + K
          · have E3 := gN_y (row := R) (g := t.g) hcd
            obtain ⟨G, hGG⟩ : ∃ G, gN n K R t.g q = G := ⟨_, rfl⟩
            rw [hGG] at hGl hGw E3 ⊢
            rcases hcd with hcd | hcd
            · repeat' (first | (((with_reducible refine g_id ?_); (conv => arg 3; whnf)); first | (with_reducible refine g_split lay_ok 400 ?_ ?_ ?_) | (with_reducible refine g_cond lay_ok 400 ?_ ?_ ?_) | (with_reducible refine g_fin ?_ ?_) | (refine g_call lay_ok 400 ?_ ?_ ?_ (f_Sub ?_ ?_ ?_ ?_) rfl) | (refine g_flow 27 lay_ok mixed_ok 400 135168 [0, 1, 0, 0, 8, 0, 56, 120, 0, 0, 768, 1792, 4088, 8184, 16376, 16376, 32767, 98303] (.q 0 (.q 1 (.q 2 (.q 3 (.q 4 (.q 5 (.q 6 (.q 7 (.q 8 (.q 9 (.q 10 (.q 11 (.e 12 [0, 1, 2] (.q 13 (.q 14 (.q 15 (.q 16 (.e 17 [15] (.fin) .stop))))) .stop))))))))))))) (by kernel_rfl) ?_ ?_) | fail) | (((with_reducible refine w_id ?_); (conv => arg 4; whnf)); first | (with_reducible refine w_fin ?_ ?_) | (with_reducible refine w_tt ?_) | (with_reducible refine w_eff lay_ok 400 ?_ rfl rfl ?_ ?_)) | (with_reducible refine q_flow ?_ ?_) | ((with_reducible refine h_id ?_); (conv => arg 1; whnf); (with_reducible refine s_some ?_)) | (with_reducible exact o_nil) | (with_reducible refine o_app ?_ ?_) | (with_reducible refine o_cons ?_ ?_) | ((with_reducible refine o_id ?_); (conv => arg 1; whnf); first | (with_reducible refine o_cons ?_ ?_)) | (intro h; ((try simp only [Int.toNat_natCast] at h); repeat (first | replace h := of_decide_eq_true h | replace h := of_decide_eq_false h | fail)); (try (first | (exfalso; omega) | fail))) | omega | (with_reducible rfl) | (exact hGw _) | (exact hRw _) | fail)
              all_goals (refine q_round ⟨q + 1, by omega, by omega, ?_⟩; ((with_reducible refine s_id ?_); (conv => arg 1; whnf); (with_reducible refine s_some ?_); repeat' (first | (with_reducible exact o_nil) | (with_reducible refine o_app ?_ ?_) | (with_reducible refine o_cons ?_ ?_) | (with_reducible rfl) | omega | assumption | fail)))
            · repeat' (first | (((with_reducible refine g_id ?_); (conv => arg 3; whnf)); first | (with_reducible refine g_split lay_ok 400 ?_ ?_ ?_) | (with_reducible refine g_cond lay_ok 400 ?_ ?_ ?_) | (with_reducible refine g_fin ?_ ?_) | (refine g_call lay_ok 400 ?_ ?_ ?_ (f_Sub ?_ ?_ ?_ ?_) rfl) | (refine g_flow 27 lay_ok mixed_ok 400 135168 [0, 1, 0, 0, 8, 0, 56, 120, 0, 0, 768, 1792, 4088, 8184, 16376, 16376, 32767, 98303] (.q 0 (.q 1 (.q 2 (.q 3 (.q 4 (.q 5 (.q 6 (.q 7 (.q 8 (.q 9 (.q 10 (.q 11 (.e 12 [0, 1, 2] (.q 13 (.q 14 (.q 15 (.q 16 (.e 17 [15] (.fin) .stop))))) .stop))))))))))))) (by kernel_rfl) ?_ ?_) | fail) | (((with_reducible refine w_id ?_); (conv => arg 4; whnf)); first | (with_reducible refine w_fin ?_ ?_) | (with_reducible refine w_tt ?_) | (with_reducible refine w_eff lay_ok 400 ?_ rfl rfl ?_ ?_)) | (with_reducible refine q_flow ?_ ?_) | ((with_reducible refine h_id ?_); (conv => arg 1; whnf); (with_reducible refine s_some ?_)) | (with_reducible exact o_nil) | (with_reducible refine o_app ?_ ?_) | (with_reducible refine o_cons ?_ ?_) | ((with_reducible refine o_id ?_); (conv => arg 1; whnf); first | (with_reducible refine o_cons ?_ ?_)) | (intro h; ((try simp only [Int.toNat_natCast] at h); repeat (first | replace h := of_decide_eq_true h | replace h := of_decide_eq_false h | fail)); (try (first | (exfalso; omega) | fail))) | omega | (with_reducible rfl) | (exact hGw _) | (exact hRw _) | fail)
              all_goals (refine q_round ⟨q + 1, by omega, by omega, ?_⟩; ((with_reducible refine s_id ?_); (conv => arg 1; whnf); (with_reducible refine s_some ?_); repeat' (first | (with_reducible exact o_nil) | (with_reducible refine o_app ?_ ?_) | (with_reducible refine o_cons ?_ ?_) | (with_reducible rfl) | omega | assumption | fail)))
          · have E3 := gN_n (row := R) (g := t.g) hcd
            obtain ⟨G, hGG⟩ : ∃ G, gN n K R t.g q = G := ⟨_, rfl⟩
            rw [hGG] at hGl hGw E3 ⊢
            repeat' (first | (((with_reducible refine g_id ?_); (conv => arg 3; whnf)); first | (with_reducible refine g_split lay_ok 400 ?_ ?_ ?_) | (with_reducible refine g_cond lay_ok 400 ?_ ?_ ?_) | (with_reducible refine g_fin ?_ ?_) | fail) | (with_reducible exact o_nil) | (with_reducible refine o_app ?_ ?_) | (with_reducible refine o_cons ?_ ?_) | ((with_reducible refine o_id ?_); (conv => arg 1; whnf); first | (with_reducible refine o_cons ?_ ?_)) | (intro h; ((try simp only [Int.toNat_natCast] at h); repeat (first | replace h := of_decide_eq_true h | replace h := of_decide_eq_false h | fail)); (try (first | (exfalso; omega) | fail))) | omega | fail)
            all_goals (refine q_round ⟨q + 1, by omega, by omega, ?_⟩; ((with_reducible refine s_id ?_); (conv => arg 1; whnf); (with_reducible refine s_some ?_); repeat' (first | (with_reducible exact o_nil) | (with_reducible refine o_app ?_ ?_) | (with_reducible refine o_cons ?_ ?_) | (with_reducible rfl) | omega | fail)))
        · have eq : q = t.g.length := by omega
          subst eq
          repeat' (first | (((with_reducible refine g_id ?_); (conv => arg 3; whnf)); first | (with_reducible refine g_cond lay_ok 400 ?_ ?_ ?_) | (with_reducible refine g_fin ?_ ?_) | fail) | (with_reducible refine q_leave lay_ok 400 ?_) | (with_reducible exact o_nil) | (with_reducible refine o_app ?_ ?_) | (with_reducible refine o_cons ?_ ?_) | ((with_reducible refine o_id ?_); (conv => arg 1; whnf); first | (with_reducible refine o_cons ?_ ?_)) | (intro h; ((try simp only [Int.toNat_natCast] at h); repeat (first | replace h := of_decide_eq_true h | replace h := of_decide_eq_false h | fail)); (try (first | (exfalso; omega) | fail))) | omega | (simp only [List.length_append, List.length_cons, List.length_nil]; omega) | fail)
          all_goals (refine q_round ⟨z + 1, by omega, by omega, ?_⟩; rw [E]; ((with_reducible refine s_id ?_); (conv => arg 1; whnf); (with_reducible refine s_some ?_); repeat' (first | (with_reducible exact o_nil) | (with_reducible refine o_app ?_ ?_) | (with_reducible refine o_cons ?_ ?_) | (with_reducible rfl) | omega | fail)))
    · have E := bld_n (C := C) (n := n) (K := K) hmo
      obtain ⟨t, ht⟩ : ∃ t, bld rows C n K z = t := ⟨_, rfl⟩
      rw [ht] at hB E ⊢
      have hbL := hB.T.hn
      have hbb := hB.b
      have hbg := hB.g
      repeat' (first | (((with_reducible refine g_id ?_); (conv => arg 3; whnf)); first | (with_reducible refine g_cond lay_ok 400 ?_ ?_ ?_) | (refine g_call lay_ok 400 ?_ ?_ ?_ (r_zeros ?_ ?_ ?_) rfl) | fail) | (with_reducible exact o_nil) | (with_reducible refine o_app ?_ ?_) | (with_reducible refine o_cons ?_ ?_) | ((with_reducible refine o_id ?_); (conv => arg 1; whnf); first | (with_reducible refine o_cons ?_ ?_)) | (intro h; ((try simp only [Int.toNat_natCast] at h); repeat (first | replace h := of_decide_eq_true h | replace h := of_decide_eq_false h | fail)); (try (first | contradiction | (exfalso; omega) | fail))) | omega | (with_reducible rfl) | fail)
      refine g_loop lay_ok 400 (Z := Nat) (fun q => q ≤ (gw rows z).te.length) (fun q => ⟨[(1, .ptr 2 0), (2, .ptr 3 0), (3, .int .i64 0), (4, .int .i64 (K : Int)), (5, .int .i64 (n : Int)), (6, .ptr 5 0), (7, .int .i64 (z : Int)), (8, .ptr 8 0), (9, .sl ⟨9, []⟩), (10, .int .i64 (1)), (40, .sl ⟨0, []⟩), (41, .int .i64 (K : Int)), (42, .int .i64 (z : Int)), (56, .sl ⟨0, [(z, 0)]⟩), (57, .int .i64 ((gw rows z).te.length : Int)), (58, .int .i64 (q : Int))], [(0, .list .tmp .row rows), (1, .list .tmp .term goal), (2, .cells [.int .i64 (C : Int), .sl ⟨0, []⟩, .sl ⟨1, []⟩, .int .i64 cst]), (3, .cells [.int .i64 0, .int .i64 0]), (4, .list .own .frac (t).g), (5, .cells [.sl ⟨6, []⟩, .sl ⟨7, []⟩, .sl ⟨4, []⟩]), (6, .list .own .fracs (t).L), (7, .list .own .int (t).b), (8, .cells [.sl ⟨0, [(z, 0)]⟩, .int .i64 (gw rows z).mo]), (9, .list .own .frac (trN (1) (gw rows z).te (lenZ n K) q))], 10⟩) (fun q => (gw rows z).te.length - q) ?_ ⟨0, Nat.zero_le _, ?_⟩ (fun q hq => ?_)
      · repeat' (first | (with_reducible exact o_nil) | (with_reducible refine o_app ?_ ?_) | (with_reducible refine o_cons ?_ ?_) | omega | fail)
      · ((with_reducible refine s_id ?_); (conv => arg 1; whnf); (with_reducible refine s_some ?_); repeat' (first | (with_reducible exact o_nil) | (with_reducible refine o_app ?_ ?_) | (with_reducible refine o_cons ?_ ?_) | (with_reducible rfl) | omega | (exact rfl) | (unfold trN lenZ; rfl)))
      by_cases hqt : q < (gw rows z).te.length
      · obtain ⟨t0, t1, t2, t3⟩ := htm q hqt
        repeat' (first | (((with_reducible refine g_id ?_); (conv => arg 3; whnf)); first | (with_reducible refine g_cond lay_ok 400 ?_ ?_ ?_) | (with_reducible refine g_fin ?_ ?_) | (refine g_call lay_ok 400 ?_ ?_ ?_ (r_whole ?_) rfl) | (refine g_flow 16 lay_ok mixed_ok 400 640 [0, 0, 2, 0, 0, 16, 56, 120, 255, 511] (.q 0 (.q 1 (.q 2 (.q 3 (.q 4 (.q 5 (.q 6 (.e 7 [0, 1, 2] (.q 8 (.e 9 [] (.fin) .stop)) .stop)))))))) (by kernel_rfl) ?_ ?_) | fail) | (((with_reducible refine w_id ?_); (conv => arg 4; whnf)); first | (with_reducible refine w_fin ?_ ?_) | (with_reducible refine w_tt ?_) | (with_reducible refine w_eff lay_ok 400 ?_ rfl rfl ?_ ?_)) | (with_reducible refine q_flow ?_ ?_) | ((with_reducible refine h_id ?_); (conv => arg 1; whnf); (with_reducible refine s_some ?_)) | (with_reducible exact o_nil) | (with_reducible refine o_app ?_ ?_) | (with_reducible refine o_cons ?_ ?_) | ((with_reducible refine o_id ?_); (conv => arg 1; whnf); first | (with_reducible refine o_cons ?_ ?_)) | (intro h; ((try simp only [Int.toNat_natCast] at h); repeat (first | replace h := of_decide_eq_true h | replace h := of_decide_eq_false h | fail)); (try (first | (exfalso; omega) | fail))) | omega | (with_reducible rfl) | (simp only [Int.toNat_natCast]; omega) | (show (gm (gw rows z).te q).of_ < (_ : Int); simp only [trN_len, lenZ_len]; omega) | (show (gm (gw rows z).te q).of_.toNat < _; simp only [trN_len, lenZ_len]; omega) | (show _ ≤ 1 * (gm (gw rows z).te q).co; omega) | (show 1 * (gm (gw rows z).te q).co ≤ _; omega) | fail)
        all_goals (refine q_round ⟨q + 1, by omega, by omega, ?_⟩; ((with_reducible refine s_id ?_); (conv => arg 1; whnf); (with_reducible refine s_some ?_); repeat' (first | (with_reducible exact o_nil) | (with_reducible refine o_app ?_ ?_) | (with_reducible refine o_cons ?_ ?_) | (with_reducible rfl) | omega | (exact trN_s) | fail)))
      · have eq : q = (gw rows z).te.length := by omega
        subst eq
        repeat' (first | (((with_reducible refine g_id ?_); (conv => arg 3; whnf)); first | (with_reducible refine g_cond lay_ok 400 ?_ ?_ ?_) | (with_reducible refine g_fin ?_ ?_) | (refine g_call lay_ok 400 ?_ ?_ ?_ (r_whole ?_) rfl) | (refine g_flow 18 lay_ok mixed_ok 400 689152 [0, 0, 2, 0, 14, 0, 0, 0, 192, 0, 512, 0, 0, 4096, 14336, 32256, 65055, 130591, 262143, 524287] (.q 0 (.q 1 (.q 2 (.q 3 (.q 4 (.q 5 (.q 6 (.q 7 (.q 8 (.q 9 (.q 11 (.q 12 (.q 13 (.q 14 (.e 10 [0, 1, 2, 3, 4, 5, 6, 7, 8, 11, 12, 13, 14] (.e 15 [0, 1, 2, 3, 4, 5, 6, 7, 8] (.q 16 (.e 17 [5, 6, 7, 8] (.q 18 (.e 19 [] (.fin) .stop)) .stop)) .stop) .stop))))))))))))))) (by kernel_rfl) ?_ ?_) | fail) | (((with_reducible refine w_id ?_); (conv => arg 4; whnf)); first | (with_reducible refine w_fin ?_ ?_) | (with_reducible refine w_tt ?_) | (with_reducible refine w_eff lay_ok 400 ?_ rfl rfl ?_ ?_)) | (with_reducible refine q_flow ?_ ?_) | ((with_reducible refine h_id ?_); (conv => arg 1; whnf); (with_reducible refine s_some ?_)) | (with_reducible refine q_leave lay_ok 400 ?_) | (with_reducible exact o_nil) | (with_reducible refine o_app ?_ ?_) | (with_reducible refine o_cons ?_ ?_) | ((with_reducible refine o_id ?_); (conv => arg 1; whnf); first | (with_reducible refine o_cons ?_ ?_)) | (intro h; ((try simp only [Int.toNat_natCast] at h); repeat (first | replace h := of_decide_eq_true h | replace h := of_decide_eq_false h | fail)); (try (first | contradiction | (exfalso; omega) | fail))) | omega | (with_reducible rfl) | (simp only [List.length_append, List.length_cons, List.length_nil]; omega) | (simp only [zrs_len, trN_len, lenZ_len, Int.toNat_natCast]; omega) | (simp only [List.length_set, trN_len, lenZ_len, Int.toNat_natCast]; omega) | fail)
        all_goals (refine q_round ⟨z + 1, by omega, by omega, ?_⟩; rw [E]; ((with_reducible refine s_id ?_); (conv => arg 1; whnf); (with_reducible refine s_some ?_); repeat' (first | (with_reducible exact o_nil) | (with_reducible refine o_app ?_ ?_) | (with_reducible refine o_cons ?_ ?_) | (with_reducible rfl) | omega | (unfold rwP; rfl) | fail)))
  · have ez : K = z := by omega
    subst ez
    have hB := bld_ok (n := n) hr K (Nat.le_refl _)
    have hBo := bld_bo (rows := rows) hn K (Nat.le_refl _)
    obtain ⟨hE1, hE2⟩ := he
    obtain ⟨t, ht⟩ : ∃ t, bld rows C n K K = t := ⟨_, rfl⟩
    rw [ht] at hB hBo hE1 hE2 ⊢
    have hbg := hB.g
    repeat' (first | (((with_reducible refine g_id ?_); (conv => arg 3; whnf)); first | (with_reducible refine g_cond lay_ok 400 ?_ ?_ ?_) | (with_reducible refine g_fin ?_ ?_) | fail) | (with_reducible refine q_leave lay_ok 400 ?_) | (with_reducible exact o_nil) | (with_reducible refine o_app ?_ ?_) | (intro h; ((try simp only [Int.toNat_natCast] at h); repeat (first | replace h := of_decide_eq_true h | replace h := of_decide_eq_false h | fail)); (try (first | (exfalso; omega) | fail))) | fail)
    repeat' (first | (((with_reducible refine g_id ?_); (conv => arg 3; whnf)); first | (refine g_call lay_ok 400 ?_ ?_ ?_ (r_run t n K (n + K) hB (by omega) (by omega) (by omega) hE1) rfl) | fail) | (with_reducible exact o_nil) | (with_reducible refine o_app ?_ ?_) | (with_reducible refine o_cons ?_ ?_) | (intro h; ((try simp only [Int.toNat_natCast] at h); repeat (first | replace h := of_decide_eq_true h | fail)); (try (first | contradiction | fail))) | omega | (with_reducible rfl) | fail)
    rename_i s1
    obtain ⟨hs1, hs2⟩ := h
    have hU := hB.it s1 hs1
    have hUo := hBo.it (by omega) s1 hs1
    have hE2 := hE2 s1
    obtain ⟨u, hu⟩ : ∃ u, itT n t s1 = u := ⟨_, rfl⟩
    have hX : ∀ x e, ((gf u.g (n + K)).num ≠ 0 ∧ x = (⟨0, 0⟩ : Frc) ∧ e = (34 : Int)) ∨ ((gf u.g (n + K)).num = 0 ∧ ∃ v, Drv n u K v ∧ ∃ s2, (∀ i, i < s2 → goesT n (itT n (ph2 goal n K v) i)) ∧ ¬ goesT n (itT n (ph2 goal n K v) s2) ∧ ((¬ cSel n (itT n (ph2 goal n K v) s2) < 0 ∧ x = ⟨0, 0⟩ ∧ e = 35) ∨ (cSel n (itT n (ph2 goal n K v) s2) < 0 ∧ x = addF (gf (itT n (ph2 goal n K v) s2).g (n + K)) ⟨cst, 1⟩ ∧ e = 0))) → BR rows goal cst C n K x e := fun x e hx => by
      unfold BR
      rw [ht]
      exact ⟨s1, hs1, hs2, by rw [hu]; exact hx⟩
    rw [hu] at hU hUo hE2 hs2 ⊢
    have hug := hU.g
    have huL := hU.T.hn
    have hub := hU.b
    by_cases hz0 : (gf u.g (n + K)).num = 0
    · repeat' (first | (((with_reducible refine g_id ?_); (conv => arg 3; whnf)); first | (with_reducible refine g_cond lay_ok 400 ?_ ?_ ?_) | fail) | (with_reducible exact o_nil) | (with_reducible refine o_app ?_ ?_) | (with_reducible refine o_cons ?_ ?_) | ((with_reducible refine o_id ?_); (conv => arg 1; whnf); first | (with_reducible refine o_cons ?_ ?_)) | (intro h; ((try simp only [Int.toNat_natCast] at h); repeat (first | replace h := of_decide_eq_true h | replace h := of_decide_eq_false h | replace h := not_t h | replace h := not_f h | fail)); (try (first | contradiction | fail))) | omega | fail)
      refine g_loop lay_ok 400 (Z := Nat × TS) (fun w => w.1 ≤ K ∧ Drv n u w.1 w.2) (fun w => ⟨[(1, .ptr 2 0), (2, .ptr 3 0), (3, .int .i64 0), (4, .int .i64 (K : Int)), (5, .int .i64 (n : Int)), (6, .ptr 5 0), (170, .int .i64 (K : Int)), (171, .int .i64 (w.1 : Int))], [(0, .list .tmp .row rows), (1, .list .tmp .term goal), (2, .cells [.int .i64 (C : Int), .sl ⟨0, []⟩, .sl ⟨1, []⟩, .int .i64 cst]), (3, .cells [.int .i64 0, .int .i64 0]), (4, .list .own .frac (w.2).g), (5, .cells [.sl ⟨6, []⟩, .sl ⟨7, []⟩, .sl ⟨4, []⟩]), (6, .list .own .fracs (w.2).L), (7, .list .own .int (w.2).b)], 8⟩) (fun w => K - w.1) ?_ ⟨(0, u), ⟨Nat.zero_le _, .nil⟩, ?_⟩ (fun w hw => ?_)
      · repeat' (first | (with_reducible exact o_nil) | (with_reducible refine o_app ?_ ?_) | fail)
      · ((with_reducible refine s_id ?_); (conv => arg 1; whnf); (with_reducible refine s_some ?_); repeat' (first | (with_reducible exact o_nil) | (with_reducible refine o_app ?_ ?_) | (with_reducible refine o_cons ?_ ?_) | (with_reducible rfl) | omega | fail))
      obtain ⟨i, v⟩ := w
      obtain ⟨hi, hv⟩ := hw
      dsimp only at hi hv ⊢
      obtain ⟨hV, hVo⟩ := hv.ok hU hUo (by omega) hi
      have hvg := hV.g
      have hvL := hV.T.hn
      have hvb := hV.b
      by_cases hik : i < K
      · have hvo := hVo i (by omega)
        have hvr := hV.T.hm i hik
        by_cases hlow : gi v.b i < (n : Int)
        · have hl' := hlow
          repeat' (first | (((with_reducible refine g_id ?_); (conv => arg 3; whnf)); first | (with_reducible refine g_cond lay_ok 400 ?_ ?_ ?_) | (with_reducible refine g_fin ?_ ?_) | fail) | (with_reducible exact o_nil) | (with_reducible refine o_app ?_ ?_) | (with_reducible refine o_cons ?_ ?_) | ((with_reducible refine o_id ?_); (conv => arg 1; whnf); first | (with_reducible refine o_cons ?_ ?_)) | (intro h; ((try simp only [Int.toNat_natCast] at h); repeat (first | replace h := of_decide_eq_true h | replace h := of_decide_eq_false h | fail)); (try (first | contradiction | (exfalso; omega) | fail))) | omega | fail)
          all_goals (refine q_round (ex_nT (i + 1) v ⟨by dsimp only; omega, .low hv hlow⟩ (by dsimp only; omega) ?_); ((with_reducible refine s_id ?_); (conv => arg 1; whnf); (with_reducible refine s_some ?_); repeat' (first | (with_reducible exact o_nil) | (with_reducible refine o_app ?_ ?_) | (with_reducible refine o_cons ?_ ?_) | (with_reducible rfl) | omega | fail)))
        · have hl' := hlow
          repeat' (first | (((with_reducible refine g_id ?_); (conv => arg 3; whnf)); first | (with_reducible refine g_cond lay_ok 400 ?_ ?_ ?_) | fail) | (with_reducible exact o_nil) | (with_reducible refine o_app ?_ ?_) | (with_reducible refine o_cons ?_ ?_) | (intro h; ((try simp only [Int.toNat_natCast] at h); repeat (first | replace h := of_decide_eq_true h | replace h := of_decide_eq_false h | fail)); (try (first | contradiction | (exfalso; omega) | fail))) | omega | fail)
          refine g_loop lay_ok 400 (Z := Nat) (fun c => c ≤ n ∧ ∀ j, j < c → (gf (gr v.L i) j).num = 0) (fun c => ⟨[(1, .ptr 2 0), (2, .ptr 3 0), (3, .int .i64 0), (4, .int .i64 (K : Int)), (5, .int .i64 (n : Int)), (6, .ptr 5 0), (14, .int .i64 (i : Int)), (15, .int .i64 (c : Int)), (170, .int .i64 (K : Int)), (171, .int .i64 (i : Int))], [(0, .list .tmp .row rows), (1, .list .tmp .term goal), (2, .cells [.int .i64 (C : Int), .sl ⟨0, []⟩, .sl ⟨1, []⟩, .int .i64 cst]), (3, .cells [.int .i64 0, .int .i64 0]), (4, .list .own .frac (v).g), (5, .cells [.sl ⟨6, []⟩, .sl ⟨7, []⟩, .sl ⟨4, []⟩]), (6, .list .own .fracs (v).L), (7, .list .own .int (v).b)], 8⟩) (fun c => n - c) ?_ ⟨0, ⟨Nat.zero_le _, fun j hj => absurd hj (Nat.not_lt_zero _)⟩, ?_⟩ (fun c hc => ?_)
          · repeat' (first | (with_reducible exact o_nil) | (with_reducible refine o_app ?_ ?_) | fail)
          · ((with_reducible refine s_id ?_); (conv => arg 1; whnf); (with_reducible refine s_some ?_); repeat' (first | (with_reducible exact o_nil) | (with_reducible refine o_app ?_ ?_) | (with_reducible refine o_cons ?_ ?_) | (with_reducible rfl) | omega | fail))
          obtain ⟨hc, hall⟩ := hc
          by_cases hcn : c < n
          · by_cases hnum : (gf (gr v.L i) c).num = 0
            · have hn' := hnum
              have hall2 : ∀ j, j < c + 1 → (gf (gr v.L i) j).num = 0 := fun j hj => by
                by_cases e : j = c
                · rw [e]; exact hnum
                · exact hall j (by omega)
              repeat' (first | (((with_reducible refine g_id ?_); (conv => arg 3; whnf)); first | (with_reducible refine g_cond lay_ok 400 ?_ ?_ ?_) | (with_reducible refine g_fin ?_ ?_) | fail) | (with_reducible exact o_nil) | (with_reducible refine o_app ?_ ?_) | (with_reducible refine o_cons ?_ ?_) | ((with_reducible refine o_id ?_); (conv => arg 1; whnf); first | (with_reducible refine o_cons ?_ ?_)) | (intro h; ((try simp only [Int.toNat_natCast] at h); repeat (first | replace h := of_decide_eq_true h | replace h := of_decide_eq_false h | replace h := not_t h | replace h := not_f h | fail)); (try (first | contradiction | (exfalso; omega) | fail))) | omega | (show (c : Int) < ((gr v.L i).length : Int); omega) | (show (c : Int).toNat < (gr v.L i).length; omega) | fail)
              all_goals (refine q_round ⟨c + 1, ⟨by omega, hall2⟩, by omega, ?_⟩; ((with_reducible refine s_id ?_); (conv => arg 1; whnf); (with_reducible refine s_some ?_); repeat' (first | (with_reducible exact o_nil) | (with_reducible refine o_app ?_ ?_) | (with_reducible refine o_cons ?_ ?_) | (with_reducible rfl) | omega | fail)))
            · have hn' := hnum
              have hVT := hV.T
              have hVw := hV.w
              have hD := Drv.piv hv hlow hcn hall hnum
              repeat' (first | (((with_reducible refine g_id ?_); (conv => arg 3; whnf)); first | (with_reducible refine g_cond lay_ok 400 ?_ ?_ ?_) | (with_reducible refine g_fin ?_ ?_) | (refine g_call lay_ok 400 ?_ ?_ ?_ (r_pivot v.L v.b v.g i c K (n + K + 1) hVT hik (by omega) hvb hvg hVw (by omega) (by omega)) rfl) | fail) | (with_reducible refine q_leave lay_ok 400 ?_) | (with_reducible exact o_nil) | (with_reducible refine o_app ?_ ?_) | (with_reducible refine o_cons ?_ ?_) | ((with_reducible refine o_id ?_); (conv => arg 1; whnf); first | (with_reducible refine o_cons ?_ ?_)) | (intro h; ((try simp only [Int.toNat_natCast] at h); repeat (first | replace h := of_decide_eq_true h | replace h := of_decide_eq_false h | replace h := not_t h | replace h := not_f h | fail)); (try (first | contradiction | (exfalso; omega) | fail))) | omega | (with_reducible rfl) | (show (c : Int) < ((gr v.L i).length : Int); omega) | (show (c : Int).toNat < (gr v.L i).length; omega) | fail)
              all_goals (refine q_round (ex_nT (i + 1) _ ⟨by dsimp only; omega, hD⟩ (by dsimp only; omega) ?_); ((with_reducible refine s_id ?_); (conv => arg 1; whnf); (with_reducible refine s_some ?_); repeat' (first | (with_reducible exact o_nil) | (with_reducible refine o_app ?_ ?_) | (with_reducible refine o_cons ?_ ?_) | (with_reducible rfl) | omega | fail)))
          · have hall2 : ∀ j, j < n → (gf (gr v.L i) j).num = 0 := fun j hj => hall j (by omega)
            have hD := Drv.non hv hlow hall2
            repeat' (first | (((with_reducible refine g_id ?_); (conv => arg 3; whnf)); first | (with_reducible refine g_cond lay_ok 400 ?_ ?_ ?_) | (with_reducible refine g_fin ?_ ?_) | fail) | (with_reducible refine q_leave lay_ok 400 ?_) | (with_reducible exact o_nil) | (with_reducible refine o_app ?_ ?_) | (with_reducible refine o_cons ?_ ?_) | ((with_reducible refine o_id ?_); (conv => arg 1; whnf); first | (with_reducible refine o_cons ?_ ?_)) | (intro h; ((try simp only [Int.toNat_natCast] at h); repeat (first | replace h := of_decide_eq_true h | replace h := of_decide_eq_false h | fail)); (try (first | (exfalso; omega) | fail))) | omega | fail)
            all_goals (refine q_round (ex_nT (i + 1) v ⟨by dsimp only; omega, hD⟩ (by dsimp only; omega) ?_); ((with_reducible refine s_id ?_); (conv => arg 1; whnf); (with_reducible refine s_some ?_); repeat' (first | (with_reducible exact o_nil) | (with_reducible refine o_app ?_ ?_) | (with_reducible refine o_cons ?_ ?_) | (with_reducible rfl) | omega | fail)))
      · have ei : K = i := by omega
        subst ei
        clear hE1
        have hgw := tgN_ok (goal := goal) (l := lenZ n K) (by unfold lenZ; exact zrs_wk _) (fun q hq => (hgo q hq).2)
        repeat' (first | (((with_reducible refine g_id ?_); (conv => arg 3; whnf)); first | (with_reducible refine g_cond lay_ok 400 ?_ ?_ ?_) | (with_reducible refine g_fin ?_ ?_) | (refine g_call lay_ok 400 ?_ ?_ ?_ (r_zeros ?_ ?_ ?_) rfl) | fail) | (with_reducible refine q_leave lay_ok 400 ?_) | (with_reducible exact o_nil) | (with_reducible refine o_app ?_ ?_) | (with_reducible refine o_cons ?_ ?_) | ((with_reducible refine o_id ?_); (conv => arg 1; whnf); first | (with_reducible refine o_cons ?_ ?_)) | (intro h; ((try simp only [Int.toNat_natCast] at h); repeat (first | replace h := of_decide_eq_true h | replace h := of_decide_eq_false h | fail)); (try (first | contradiction | fail))) | omega | (with_reducible rfl) | fail)
        refine g_loop lay_ok 400 (Z := Nat) (fun q => q ≤ goal.length) (fun q => ⟨[(1, .ptr 2 0), (2, .ptr 3 0), (3, .int .i64 0), (4, .int .i64 (K : Int)), (5, .int .i64 (n : Int)), (6, .ptr 5 0), (207, .sl ⟨1, []⟩), (208, .int .i64 (goal.length : Int)), (209, .int .i64 (q : Int))], [(0, .list .tmp .row rows), (1, .list .tmp .term goal), (2, .cells [.int .i64 (C : Int), .sl ⟨0, []⟩, .sl ⟨1, []⟩, .int .i64 cst]), (3, .cells [.int .i64 0, .int .i64 0]), (4, .list .own .frac (tgN goal (lenZ n K) q)), (5, .cells [.sl ⟨6, []⟩, .sl ⟨7, []⟩, .sl ⟨4, []⟩]), (6, .list .own .fracs v.L), (7, .list .own .int v.b)], 8⟩) (fun q => goal.length - q) ?_ ⟨0, Nat.zero_le _, ?_⟩ (fun q hq => ?_)
        · repeat' (first | (with_reducible exact o_nil) | (with_reducible refine o_app ?_ ?_) | fail)
        · ((with_reducible refine s_id ?_); (conv => arg 1; whnf); (with_reducible refine s_some ?_); repeat' (first | (with_reducible exact o_nil) | (with_reducible refine o_app ?_ ?_) | (with_reducible refine o_cons ?_ ?_) | (with_reducible rfl) | omega | (unfold tgN lenZ; rfl)))
        by_cases hqg : q < goal.length
        · obtain ⟨⟨t0, t1⟩, t2, t3⟩ := hgo q hqg
          have hgl := (hgw q hq).1
          rw [lenZ_len] at hgl
          repeat' (first | (((with_reducible refine g_id ?_); (conv => arg 3; whnf)); first | (with_reducible refine g_cond lay_ok 400 ?_ ?_ ?_) | (with_reducible refine g_fin ?_ ?_) | (refine g_call lay_ok 400 ?_ ?_ ?_ (r_whole ?_) rfl) | (refine g_flow 48 lay_ok mixed_ok 400 640 [0, 1, 0, 4, 0, 16, 48, 112, 255, 511] (.q 0 (.q 1 (.q 2 (.q 3 (.q 4 (.q 5 (.q 6 (.e 7 [0, 1, 2, 3] (.q 8 (.e 9 [] (.fin) .stop)) .stop)))))))) (by kernel_rfl) ?_ ?_) | fail) | (((with_reducible refine w_id ?_); (conv => arg 4; whnf)); first | (with_reducible refine w_fin ?_ ?_) | (with_reducible refine w_tt ?_) | (with_reducible refine w_eff lay_ok 400 ?_ rfl rfl ?_ ?_)) | (with_reducible refine q_flow ?_ ?_) | ((with_reducible refine h_id ?_); (conv => arg 1; whnf); (with_reducible refine s_some ?_)) | (with_reducible exact o_nil) | (with_reducible refine o_app ?_ ?_) | (with_reducible refine o_cons ?_ ?_) | ((with_reducible refine o_id ?_); (conv => arg 1; whnf); first | (with_reducible refine o_cons ?_ ?_)) | (intro h; ((try simp only [Int.toNat_natCast] at h); repeat (first | replace h := of_decide_eq_true h | replace h := of_decide_eq_false h | fail)); (try (first | (exfalso; omega) | fail))) | omega | (with_reducible rfl) | (simp only [Int.toNat_natCast]; omega) | (show _ ≤ -(gm goal q).co; omega) | (show -(gm goal q).co ≤ _; omega) | (show (gm goal q).of_ < (_ : Int); omega) | (show (gm goal q).of_.toNat < _; omega) | fail)
          all_goals (refine q_round ⟨q + 1, by omega, by omega, ?_⟩; ((with_reducible refine s_id ?_); (conv => arg 1; whnf); (with_reducible refine s_some ?_); repeat' (first | (with_reducible exact o_nil) | (with_reducible refine o_app ?_ ?_) | (with_reducible refine o_cons ?_ ?_) | (with_reducible rfl) | omega | (exact tgN_s) | fail)))
        · have eq : q = goal.length := by omega
          subst eq
          obtain ⟨hg1, hg2⟩ := hgw _ (Nat.le_refl _)
          rw [lenZ_len] at hg1
          have hcg := fun q => cgN_ok (L := v.L) (b := v.b) hg2 q
          repeat' (first | (((with_reducible refine g_id ?_); (conv => arg 3; whnf)); first | (with_reducible refine g_cond lay_ok 400 ?_ ?_ ?_) | (with_reducible refine g_fin ?_ ?_) | fail) | (with_reducible refine q_leave lay_ok 400 ?_) | (with_reducible exact o_nil) | (with_reducible refine o_app ?_ ?_) | (intro h; ((try simp only [Int.toNat_natCast] at h); repeat (first | replace h := of_decide_eq_true h | replace h := of_decide_eq_false h | fail)); (try (first | (exfalso; omega) | fail))) | fail)
          refine g_loop lay_ok 400 (Z := Nat) (fun q => q ≤ K) (fun q => ⟨[(1, .ptr 2 0), (2, .ptr 3 0), (3, .int .i64 0), (4, .int .i64 (K : Int)), (5, .int .i64 (n : Int)), (6, .ptr 5 0), (224, .sl ⟨7, []⟩), (225, .int .i64 (K : Int)), (226, .int .i64 (q : Int))], [(0, .list .tmp .row rows), (1, .list .tmp .term goal), (2, .cells [.int .i64 (C : Int), .sl ⟨0, []⟩, .sl ⟨1, []⟩, .int .i64 cst]), (3, .cells [.int .i64 0, .int .i64 0]), (4, .list .own .frac (cgN v.L v.b (tgN goal (lenZ n K) goal.length) q)), (5, .cells [.sl ⟨6, []⟩, .sl ⟨7, []⟩, .sl ⟨4, []⟩]), (6, .list .own .fracs v.L), (7, .list .own .int v.b)], 8⟩) (fun q => K - q) ?_ ⟨0, Nat.zero_le _, ?_⟩ (fun q hq => ?_)
          · repeat' (first | (with_reducible exact o_nil) | (with_reducible refine o_app ?_ ?_) | fail)
          · ((with_reducible refine s_id ?_); (conv => arg 1; whnf); (with_reducible refine s_some ?_); repeat' (first | (with_reducible exact o_nil) | (with_reducible refine o_app ?_ ?_) | (with_reducible refine o_cons ?_ ?_) | (with_reducible rfl) | omega | (exact rfl) | fail))
          by_cases hqk : q < K
          · obtain ⟨hgl, hgk⟩ := hcg q
            obtain ⟨hb0, hb1⟩ := hVo q (by omega)
            have hrl2 := hV.T.hm q hqk
            have hrw := hV.T.hw q hqk
            obtain ⟨G, hGG⟩ : ∃ G, cgN v.L v.b (tgN goal (lenZ n K) goal.length) q = G := ⟨_, rfl⟩
            have E := cgN_s (L := v.L) (b := v.b) (g := tgN goal (lenZ n K) goal.length) (i := q)
            rw [hGG] at hgl hgk E ⊢
            clear hGG
            rw [hg1] at hgl
            repeat' (first | (((with_reducible refine g_id ?_); (conv => arg 3; whnf)); first | (with_reducible refine g_cond lay_ok 400 ?_ ?_ ?_) | (with_reducible refine g_fin ?_ ?_) | (refine g_call lay_ok 400 ?_ ?_ ?_ (r_clearGI ?_ ?_ ?_ ?_ ?_ ?_ ?_ ?_ ?_ ?_ ?_) rfl) | (refine g_flow 53 lay_ok mixed_ok 400 1280 [0, 1, 0, 4, 0, 28, 60, 0, 255, 511, 1023] (.q 0 (.q 1 (.q 2 (.q 3 (.q 4 (.q 5 (.q 6 (.q 7 (.e 8 [] (.q 9 (.e 10 [] (.fin) .stop)) .stop))))))))) (by kernel_rfl) ?_ ?_) | fail) | (((with_reducible refine w_id ?_); (conv => arg 4; whnf)); first | (with_reducible refine w_fin ?_ ?_) | (with_reducible refine w_tt ?_) | (with_reducible refine w_eff lay_ok 400 ?_ rfl rfl ?_ ?_)) | (with_reducible refine q_flow ?_ ?_) | ((with_reducible refine h_id ?_); (conv => arg 1; whnf); (with_reducible refine s_some ?_)) | (with_reducible exact o_nil) | (with_reducible refine o_app ?_ ?_) | (with_reducible refine o_cons ?_ ?_) | ((with_reducible refine o_id ?_); (conv => arg 1; whnf); first | (with_reducible refine o_cons ?_ ?_)) | (intro h; ((try simp only [Int.toNat_natCast] at h); repeat (first | replace h := of_decide_eq_true h | replace h := of_decide_eq_false h | fail)); (try (first | (exfalso; omega) | fail))) | omega | (with_reducible rfl) | (simp only [Int.toNat_natCast]; omega) | (show (gi v.b q).toNat < G.length; omega) | (exact hgk _) | (exact hrw _) | fail)
            all_goals (refine q_round ⟨q + 1, by omega, by omega, ?_⟩; ((with_reducible refine s_id ?_); (conv => arg 1; whnf); (with_reducible refine s_some ?_); repeat' (first | (with_reducible exact o_nil) | (with_reducible refine o_app ?_ ?_) | (with_reducible refine o_cons ?_ ?_) | (with_reducible rfl) | omega | assumption | fail)))
          · have ek : K = q := by omega
            subst ek
            have hE3 := hE2 v hs1 hs2 hz0 hv
            have hP2 : TOK (ph2 goal n K v) K (n + K) := ⟨hV.T, hvb, by show (cgN _ _ _ _).length = _; rw [(hcg K).1, hg1], (hcg K).2⟩
            repeat' (first | (((with_reducible refine g_id ?_); (conv => arg 3; whnf)); first | (with_reducible refine g_cond lay_ok 400 ?_ ?_ ?_) | (with_reducible refine g_fin ?_ ?_) | fail) | (with_reducible refine q_leave lay_ok 400 ?_) | (with_reducible exact o_nil) | (with_reducible refine o_app ?_ ?_) | (intro h; ((try simp only [Int.toNat_natCast] at h); repeat (first | replace h := of_decide_eq_true h | replace h := of_decide_eq_false h | fail)); (try (first | contradiction | fail))) | fail)
            repeat' (first | (((with_reducible refine g_id ?_); (conv => arg 3; whnf)); first | (refine g_call lay_ok 400 ?_ ?_ ?_ (r_run (ph2 goal n K v) n K (n + K) hP2 (by omega) (by omega) (by omega) hE3) rfl) | fail) | (with_reducible exact o_nil) | (with_reducible refine o_app ?_ ?_) | (with_reducible refine o_cons ?_ ?_) | (intro h; ((try simp only [Int.toNat_natCast] at h); repeat (first | replace h := of_decide_eq_true h | fail)); (try (first | contradiction | fail))) | omega | (exact rfl))
            rename_i s2
            obtain ⟨hs3, hs4⟩ := h
            have hW := hP2.it s2 hs3
            have hX2 := fun x e h => hX x e (Or.inr ⟨hz0, v, hv, s2, hs3, hs4, h⟩)
            obtain ⟨w, hw⟩ : ∃ w, itT n (ph2 goal n K v) s2 = w := ⟨_, rfl⟩
            rw [hw] at hW hX2 hs4 ⊢
            have hwg := hW.g
            have hww := hW.w (n + K)
            by_cases hcs : cSel n w < 0
            · have hX3 := hX2 _ 0 (Or.inr ⟨hcs, rfl, rfl⟩)
              have hcs' := hcs
              have hwc : WkF ⟨cst, 1⟩ := wk_int (by omega) (by omega)
              repeat' (first | (((with_reducible refine g_id ?_); (conv => arg 3; whnf)); first | (with_reducible refine g_cond lay_ok 400 ?_ ?_ ?_) | (with_reducible refine g_fin ?_ ?_) | (refine g_call lay_ok 400 ?_ ?_ ?_ (r_whole ?_) rfl) | (refine g_call lay_ok 400 ?_ ?_ ?_ (f_Add (gf w.g (n + K)) ⟨cst, 1⟩ hww hwc) rfl) | (refine g_flow 57 lay_ok mixed_ok 400 50688 [0, 1, 0, 0, 12, 31, 63, 0, 128, 384, 1023, 2047, 4095, 4095, 0, 24575, 65535] (.q 0 (.q 1 (.q 2 (.q 3 (.q 4 (.q 5 (.q 6 (.q 7 (.q 8 (.e 9 [0, 1, 2, 3, 4, 5, 6] (.e 10 [] (.q 11 (.q 12 (.q 13 (.e 14 [0, 1, 2, 3, 4, 5, 6, 7, 8, 11, 12, 13] (.e 15 [13] (.q 16 .fin) .stop) .stop)))) (.e 14 [0, 1, 2, 3, 4, 5, 6, 7, 8] (.e 10 [] (.q 11 (.q 12 (.q 13 (.e 15 [13] (.q 16 .fin) .stop)))) .stop) .stop)) (.e 14 [0, 1, 2, 3, 4, 5, 6, 7, 8] (.e 9 [0, 1, 2, 3, 4, 5, 6] (.e 10 [] (.q 11 (.q 12 (.q 13 (.e 15 [13] (.q 16 .fin) .stop)))) .stop) .stop) .stop))))))))))) (by kernel_rfl) ?_ ?_)) | (((with_reducible refine w_id ?_); (conv => arg 4; whnf)); first | (with_reducible refine w_fin ?_ ?_) | (with_reducible refine w_tt ?_) | (with_reducible refine w_eff lay_ok 400 ?_ rfl rfl ?_ ?_)) | (with_reducible refine q_flow ?_ ?_) | ((with_reducible refine h_id ?_); (conv => arg 1; whnf); (with_reducible refine s_some ?_)) | (with_reducible exact o_nil) | (with_reducible refine o_app ?_ ?_) | (with_reducible refine o_cons ?_ ?_) | ((with_reducible refine o_id ?_); (conv => arg 1; whnf); first | (with_reducible refine o_cons ?_ ?_)) | (intro h; ((try simp only [Int.toNat_natCast] at h); repeat (first | replace h := of_decide_eq_true h | replace h := of_decide_eq_false h | replace h := not_t h | replace h := not_f h | fail)); (try (first | contradiction | fail))) | omega | (with_reducible rfl) | (exact rfl))
              all_goals (((with_reducible refine e_id ?_); (conv => whnf)); refine ⟨(_, 0), hX3, ?_⟩; dsimp only; ((with_reducible refine s_id ?_); (conv => arg 1; whnf); (with_reducible refine s_some ?_); repeat' (first | (with_reducible exact o_nil) | (with_reducible refine o_app ?_ ?_) | (with_reducible refine o_cons ?_ ?_) | (with_reducible rfl) | fail)))
            · have hX3 := hX2 _ 35 (Or.inl ⟨hcs, rfl, rfl⟩)
              have hcs' := hcs
              repeat' (first | (((with_reducible refine g_id ?_); (conv => arg 3; whnf)); first | (with_reducible refine g_cond lay_ok 400 ?_ ?_ ?_) | (with_reducible refine g_fin ?_ ?_) | fail) | (with_reducible exact o_nil) | (with_reducible refine o_app ?_ ?_) | (intro h; ((try simp only [Int.toNat_natCast] at h); repeat (first | replace h := of_decide_eq_true h | replace h := of_decide_eq_false h | replace h := not_t h | replace h := not_f h | fail)); (try (first | contradiction | fail))) | fail)
              all_goals (((with_reducible refine e_id ?_); (conv => whnf)); refine ⟨(_, 35), hX3, ?_⟩; dsimp only; ((with_reducible refine s_id ?_); (conv => arg 1; whnf); (with_reducible refine s_some ?_); repeat' (first | (with_reducible exact o_nil) | (with_reducible refine o_app ?_ ?_) | (with_reducible refine o_cons ?_ ?_) | (with_reducible rfl) | fail)))
    · have hz0' := hz0
      repeat' (first | (((with_reducible refine g_id ?_); (conv => arg 3; whnf)); first | (with_reducible refine g_cond lay_ok 400 ?_ ?_ ?_) | (with_reducible refine g_fin ?_ ?_) | fail) | (with_reducible exact o_nil) | (with_reducible refine o_app ?_ ?_) | (with_reducible refine o_cons ?_ ?_) | ((with_reducible refine o_id ?_); (conv => arg 1; whnf); first | (with_reducible refine o_cons ?_ ?_)) | (intro h; ((try simp only [Int.toNat_natCast] at h); repeat (first | replace h := of_decide_eq_true h | replace h := of_decide_eq_false h | replace h := not_t h | replace h := not_f h | fail)); (try (first | contradiction | fail))) | omega | fail)
      all_goals (((with_reducible refine e_id ?_); (conv => whnf)); refine ⟨(⟨0, 0⟩, 34), hX _ _ (Or.inl ⟨hz0, rfl, rfl⟩), ?_⟩; dsimp only; ((with_reducible refine s_id ?_); (conv => arg 1; whnf); (with_reducible refine s_some ?_); repeat' (first | (with_reducible exact o_nil) | (with_reducible refine o_app ?_ ?_) | (with_reducible refine o_cons ?_ ?_) | (with_reducible rfl) | fail)))
end Go.Proofs.Ytkageldgmkajbaa
namespace Go.Proofs.Ytkageldgmkajbaa
open Go.RowKit
def vwS : Nat → Nat → SV
  | 0, _ => .sl ⟨2, []⟩
  | k + 1, n => .vw ⟨2, []⟩ 2 (k + 1) (n - (k + 1)) none
attribute [local irreducible] valN tmB badV tm1 rwsB rowBad okX valR visX visL upd allX from_ inc inBx solB solM boxM flo BR HE RwsOK boxOk
set_option maxHeartbeats 8000000 in
theorem l_below (is : List Int) (hl : is.length ≤ maxLen) : Trip Try.prog 4 [.sl ⟨0, []⟩] ⟨[], [(0, .list .tmp .int is)], 1⟩ (Z := Unit) (fun _ => True) (fun _ => .bool true) (fun _ => ⟨[], [], 1⟩) := by
  refine trip_by (rs := [_]) 400 lay_ok Try.func4 rfl (by kernel_rfl) Try.ntmps4 Try.results4 rfl rfl ?_
  repeat' (first | (((with_reducible refine g_id ?_); (conv => arg 3; whnf)); first | (refine g_call lay_ok 400 ?_ ?_ ?_ (c_new ?_) rfl) | (refine g_call lay_ok 400 ?_ ?_ ?_ (c_model ?_ ?_ ?_ ?_ ?_) rfl)) | ((with_reducible refine o_id ?_); (conv => arg 1; whnf); first | (with_reducible exact o_nil) | (with_reducible refine o_cons ?_ ?_)) | (intro h; ((try simp only [Int.toNat_natCast] at h); repeat (first | replace h := of_decide_eq_true h | fail)); (try (first | contradiction | fail))) | rfl | omega | fail)
  rename_i u0 v0 m
  obtain ⟨hg, hc3, h6⟩ := h
  obtain ⟨cols, rows, goal, cst⟩ := m
  dsimp only at hg hc3 h6
  dsimp only
  obtain ⟨C, rfl⟩ : ∃ C : Nat, cols = (C : Int) := ⟨cols.toNat, by have q : 0 ≤ cols := hg.c.1; omega⟩
  have hC : C ≤ 3 := by omega
  have CB := fun (h1 : is.length ≤ maxLen) => c_box is ⟨(C : Int), rows, goal, cst⟩ h1 (Int.natCast_nonneg C) (by show (C : Int) ≤ 6; omega)
  dsimp only at CB
  repeat' (first | (((with_reducible refine g_id ?_); (conv => arg 3; whnf)); first | (refine g_call lay_ok 400 ?_ ?_ ?_ (CB ?_) rfl)) | ((with_reducible refine o_id ?_); (conv => arg 1; whnf); first | (with_reducible exact o_nil) | (with_reducible refine o_cons ?_ ?_)) | (intro h; ((try simp only [Int.toNat_natCast] at h); repeat (first | replace h := of_decide_eq_true h | fail)); (try (first | contradiction | fail))) | rfl | omega | fail)
  rename_i most
  obtain ⟨hml, hmb⟩ := h
  have hml' : most.length = C := by omega
  ((with_reducible refine g_id ?_); (conv => arg 3; whnf))
  refine g_loop lay_ok 400 (Z := Nat) (fun z => z = 0 ∨ (z < rows.length ∧ 6 ≤ rows.length - z + C)) (fun z => ⟨[(2, .tf false), (3, .ptr 1 0), (4, .ptr 4 0), (5, .sl ⟨5, []⟩)], [(0, .list .tmp .int is), (1, .deck (.sl ⟨0, []⟩)), (2, .list .own .row rows), (3, .list .own .term goal), (4, .cells [.int .i64 (C : Int), vwS z rows.length, .sl ⟨3, []⟩, .int .i64 cst]), (5, .list .own .int most)], 6⟩) (fun z => rows.length - z) ?_ ⟨0, .inl rfl, ?_⟩ (fun z hz => ?_)
  · repeat' (first | ((with_reducible refine o_id ?_); (conv => arg 1; whnf); first | (with_reducible exact o_nil) | fail) | fail)
  · ((with_reducible refine s_id ?_); (conv => arg 1; whnf); (with_reducible refine s_some ?_); repeat' (first | ((with_reducible refine o_id ?_); (conv => arg 1; whnf); first | (with_reducible exact o_nil) | (with_reducible refine o_cons ?_ ?_)) | rfl | fail))
  rcases z with _ | k
  · by_cases hlt : 6 < rows.length + C
    · repeat' (first | (((with_reducible refine g_id ?_); (conv => arg 3; whnf)); first | (with_reducible refine g_cond lay_ok 400 ?_ ?_ ?_) | (with_reducible refine g_fin ?_ ?_) | fail) | ((with_reducible refine o_id ?_); (conv => arg 1; whnf); first | (with_reducible exact o_nil) | (with_reducible refine o_cons ?_ ?_)) | (intro h; ((try simp only [Int.toNat_natCast] at h); repeat (first | replace h := of_decide_eq_true h | replace h := of_decide_eq_false h | fail)); (try (first | (exfalso; omega) | fail))) | omega | (show (1 : Int) ≤ ((rows.length : Nat) : Int); omega))
      all_goals (refine q_round ⟨1, .inr (by omega), by omega, ?_⟩; ((with_reducible refine s_id ?_); (conv => arg 1; whnf); (with_reducible refine s_some ?_); repeat' (first | ((with_reducible refine o_id ?_); (conv => arg 1; whnf); first | (with_reducible exact o_nil) | (with_reducible refine o_cons ?_ ?_)) | rfl | fail)))
    · have F := blw (C := C) (rows := rows) (goal := goal) (cst := cst) (most := most) hg hC (by first | omega | (simp only [List.length_take, List.length_drop]; omega)) hml' hmb
      obtain ⟨hbo, hgB, hlB, hrB, hgo, hhe, hse, hsol⟩ := F
      have hDl : (rows).length ≤ 6 := by first | omega | (simp only [List.length_take, List.length_drop]; omega)
      have hDC : (rows).length + C ≤ 6 := by first | omega | (simp only [List.length_take, List.length_drop]; omega)
      have hk := hg.k
      have hgl := val_len hg.g hg.c.2
      dsimp only at hk hgl
      have CS := c_solve ⟨(C : Int), rows, goal, cst⟩ most hg hDl (by omega)
      have CO := c_boxed ⟨(C : Int), rows, goal, cst⟩ most hg hDl (by omega) hbo
      have RS := r_small ⟨(C : Int), (boxM ⟨(C : Int), rows, goal, cst⟩ most).rows, goal, cst⟩ hgB (by dsimp only; omega)
      have RB := r_best C (C + ((rows).length + C)) ((rows).length + C) (boxM ⟨(C : Int), rows, goal, cst⟩ most).rows goal cst hgB (by omega) hrB rfl (by omega) hDC hk.1 hk.2 (by omega) hgo hhe
      have CV := fun (x : List Int) (hx : x.length ≤ 1000) => c_value ⟨(C : Int), (boxM ⟨(C : Int), rows, goal, cst⟩ most).rows, goal, cst⟩ x hgB hx
      dsimp only at CS CO RS RB CV
      repeat' (first | (((with_reducible refine g_id ?_); (conv => arg 3; whnf)); first | (with_reducible refine g_split lay_ok 400 ?_ ?_ ?_) | (with_reducible refine g_cond lay_ok 400 ?_ ?_ ?_) | (with_reducible refine g_fin ?_ ?_) | (refine g_call lay_ok 400 ?_ ?_ ?_ (CS) rfl) | (refine g_call lay_ok 400 ?_ ?_ ?_ (CO) rfl) | (refine g_call lay_ok 400 ?_ ?_ ?_ (RS) rfl)) | (with_reducible refine q_leave lay_ok 400 ?_) | (with_reducible exact o_nil) | ((with_reducible refine o_id ?_); (conv => arg 1; whnf); first | (with_reducible exact o_nil) | (with_reducible refine o_cons ?_ ?_)) | (intro h; ((try simp only [Int.toNat_natCast] at h); repeat (first | replace h := of_decide_eq_true h | replace h := of_decide_eq_false h | replace h := not_t h | replace h := not_f h | fail)); (try (first | contradiction | (exfalso; omega) | fail))) | rfl | omega | fail)
      repeat' (first | (((with_reducible refine g_id ?_); (conv => arg 3; whnf)); first | (refine g_call lay_ok 400 ?_ ?_ ?_ (RB) rfl)) | ((with_reducible refine o_id ?_); (conv => arg 1; whnf); first | (with_reducible exact o_nil) | (with_reducible refine o_cons ?_ ?_)) | (intro h; ((try simp only [Int.toNat_natCast] at h); repeat (first | replace h := of_decide_eq_true h | fail)); (try (first | contradiction | fail))) | rfl | fail)
      rename_i z
      obtain ⟨y, e⟩ := z
      have hbr : BR _ _ _ _ _ _ y e := h
      dsimp only
      rcases hse with hs | hs
      · obtain ⟨o1, o2, o3⟩ := hsol hs
        have hxl := (okX_is o1).1
        dsimp only at hxl
        obtain ⟨rfl, p2, p3, p4⟩ := o3 y e hbr
        repeat' (first | (((with_reducible refine g_id ?_); (conv => arg 3; whnf)); first | (with_reducible refine g_split lay_ok 400 ?_ ?_ ?_) | (with_reducible refine g_cond lay_ok 400 ?_ ?_ ?_) | (with_reducible refine g_fin ?_ ?_) | (refine g_call lay_ok 400 ?_ ?_ ?_ (CV ?_ ?_) rfl) | (refine g_call lay_ok 400 ?_ ?_ ?_ (f_Floor ?_ ?_ ?_) rfl) | (refine g_call lay_ok 400 ?_ ?_ ?_ (c_awake33) rfl)) | (with_reducible exact o_nil) | ((with_reducible refine o_id ?_); (conv => arg 1; whnf); first | (with_reducible exact o_nil) | (with_reducible refine o_cons ?_ ?_)) | (intro h; ((try simp only [Int.toNat_natCast] at h); repeat (first | replace h := of_decide_eq_true h | replace h := of_decide_eq_false h | replace h := not_t h | replace h := not_f h | fail)); (try (first | contradiction | exact Bool.noConfusion (h.symm.trans (by assumption) : false = true) | fail))) | rfl | omega | fail)
        all_goals (first | (((with_reducible refine e_id ?_); (conv => whnf)); refine ⟨(), trivial, ?_⟩; ((with_reducible refine s_id ?_); (conv => arg 1; whnf); (with_reducible refine s_some ?_); repeat' (first | ((with_reducible refine o_id ?_); (conv => arg 1; whnf); first | (with_reducible exact o_nil) | (with_reducible refine o_cons ?_ ?_)) | rfl | fail))))
      · repeat' (first | (((with_reducible refine g_id ?_); (conv => arg 3; whnf)); first | (with_reducible refine g_split lay_ok 400 ?_ ?_ ?_) | (with_reducible refine g_cond lay_ok 400 ?_ ?_ ?_) | (with_reducible refine g_fin ?_ ?_) | (refine g_call lay_ok 400 ?_ ?_ ?_ (c_awake33) rfl)) | (with_reducible exact o_nil) | ((with_reducible refine o_id ?_); (conv => arg 1; whnf); first | (with_reducible exact o_nil) | fail) | (intro h; ((try simp only [Int.toNat_natCast] at h); repeat (first | replace h := of_decide_eq_true h | replace h := of_decide_eq_false h | replace h := not_t h | replace h := not_f h | fail)); (try (first | contradiction | (exfalso; omega) | fail))) | fail)
        all_goals (first | (((with_reducible refine e_id ?_); (conv => whnf)); refine ⟨(), trivial, ?_⟩; ((with_reducible refine s_id ?_); (conv => arg 1; whnf); (with_reducible refine s_some ?_); repeat' (first | ((with_reducible refine o_id ?_); (conv => arg 1; whnf); first | (with_reducible exact o_nil) | (with_reducible refine o_cons ?_ ?_)) | rfl | fail))))
  · by_cases hlt : 6 < (rows.length - (k + 1)) + C
    · repeat' (first | (((with_reducible refine g_id ?_); (conv => arg 3; whnf)); first | (with_reducible refine g_cond lay_ok 400 ?_ ?_ ?_) | (with_reducible refine g_fin ?_ ?_) | (refine g_ev lay_ok 400 ?_ ((e_vwT lay_ok rfl rfl rfl rfl rfl ?_ ?_ ?_)) rfl rfl rfl ?_)) | (with_reducible exact o_nil) | ((with_reducible refine o_id ?_); (conv => arg 1; whnf); first | (with_reducible exact o_nil) | (with_reducible refine o_cons ?_ ?_)) | (intro h; ((try simp only [Int.toNat_natCast] at h); repeat (first | replace h := of_decide_eq_true h | replace h := of_decide_eq_false h | fail)); (try (first | (exfalso; omega) | fail))) | omega | fail)
      all_goals (refine q_round ⟨k + 2, .inr (by omega), by omega, ?_⟩; ((with_reducible refine s_id ?_); (conv => arg 1; whnf); (with_reducible refine s_some ?_); repeat' (first | ((with_reducible refine o_id ?_); (conv => arg 1; whnf); first | (with_reducible exact o_nil) | (with_reducible refine o_cons ?_ ?_)) | rfl | fail)))
    · have F := blw (C := C) (rows := (rows.drop (k + 1)).take (rows.length - (k + 1))) (goal := goal) (cst := cst) (most := most) (gd_drop hg) hC (by first | omega | (simp only [List.length_take, List.length_drop]; omega)) hml' hmb
      obtain ⟨hbo, hgB, hlB, hrB, hgo, hhe, hse, hsol⟩ := F
      have hDl : ((rows.drop (k + 1)).take (rows.length - (k + 1))).length ≤ 6 := by first | omega | (simp only [List.length_take, List.length_drop]; omega)
      have hDC : ((rows.drop (k + 1)).take (rows.length - (k + 1))).length + C ≤ 6 := by first | omega | (simp only [List.length_take, List.length_drop]; omega)
      have hk := hg.k
      have hgl := val_len hg.g hg.c.2
      dsimp only at hk hgl
      have CS := c_solve ⟨(C : Int), (rows.drop (k + 1)).take (rows.length - (k + 1)), goal, cst⟩ most (gd_drop hg) hDl (by omega)
      have CO := c_boxed ⟨(C : Int), (rows.drop (k + 1)).take (rows.length - (k + 1)), goal, cst⟩ most (gd_drop hg) hDl (by omega) hbo
      have RS := r_small ⟨(C : Int), (boxM ⟨(C : Int), (rows.drop (k + 1)).take (rows.length - (k + 1)), goal, cst⟩ most).rows, goal, cst⟩ hgB (by dsimp only; omega)
      have RB := r_best C (C + (((rows.drop (k + 1)).take (rows.length - (k + 1))).length + C)) (((rows.drop (k + 1)).take (rows.length - (k + 1))).length + C) (boxM ⟨(C : Int), (rows.drop (k + 1)).take (rows.length - (k + 1)), goal, cst⟩ most).rows goal cst hgB (by omega) hrB rfl (by omega) hDC hk.1 hk.2 (by omega) hgo hhe
      have CV := fun (x : List Int) (hx : x.length ≤ 1000) => c_value ⟨(C : Int), (boxM ⟨(C : Int), (rows.drop (k + 1)).take (rows.length - (k + 1)), goal, cst⟩ most).rows, goal, cst⟩ x hgB hx
      dsimp only at CS CO RS RB CV
      repeat' (first | (((with_reducible refine g_id ?_); (conv => arg 3; whnf)); first | (with_reducible refine g_split lay_ok 400 ?_ ?_ ?_) | (with_reducible refine g_cond lay_ok 400 ?_ ?_ ?_) | (with_reducible refine g_fin ?_ ?_) | (refine g_call lay_ok 400 ?_ ?_ ?_ (CS) rfl) | (refine g_call lay_ok 400 ?_ ?_ ?_ (CO) rfl) | (refine g_call lay_ok 400 ?_ ?_ ?_ (RS) rfl)) | (with_reducible refine q_leave lay_ok 400 ?_) | (with_reducible exact o_nil) | ((with_reducible refine o_id ?_); (conv => arg 1; whnf); first | (with_reducible exact o_nil) | (with_reducible refine o_cons ?_ ?_)) | (intro h; ((try simp only [Int.toNat_natCast] at h); repeat (first | replace h := of_decide_eq_true h | replace h := of_decide_eq_false h | replace h := not_t h | replace h := not_f h | fail)); (try (first | contradiction | (exfalso; omega) | fail))) | rfl | omega | fail)
      repeat' (first | (((with_reducible refine g_id ?_); (conv => arg 3; whnf)); first | (refine g_call lay_ok 400 ?_ ?_ ?_ (RB) rfl)) | ((with_reducible refine o_id ?_); (conv => arg 1; whnf); first | (with_reducible exact o_nil) | (with_reducible refine o_cons ?_ ?_)) | (intro h; ((try simp only [Int.toNat_natCast] at h); repeat (first | replace h := of_decide_eq_true h | fail)); (try (first | contradiction | fail))) | rfl | fail)
      rename_i z
      obtain ⟨y, e⟩ := z
      have hbr : BR _ _ _ _ _ _ y e := h
      dsimp only
      rcases hse with hs | hs
      · obtain ⟨o1, o2, o3⟩ := hsol hs
        have hxl := (okX_is o1).1
        dsimp only at hxl
        obtain ⟨rfl, p2, p3, p4⟩ := o3 y e hbr
        repeat' (first | (((with_reducible refine g_id ?_); (conv => arg 3; whnf)); first | (with_reducible refine g_split lay_ok 400 ?_ ?_ ?_) | (with_reducible refine g_cond lay_ok 400 ?_ ?_ ?_) | (with_reducible refine g_fin ?_ ?_) | (refine g_call lay_ok 400 ?_ ?_ ?_ (CV ?_ ?_) rfl) | (refine g_call lay_ok 400 ?_ ?_ ?_ (f_Floor ?_ ?_ ?_) rfl) | (refine g_call lay_ok 400 ?_ ?_ ?_ (c_awake33) rfl)) | (with_reducible exact o_nil) | ((with_reducible refine o_id ?_); (conv => arg 1; whnf); first | (with_reducible exact o_nil) | (with_reducible refine o_cons ?_ ?_)) | (intro h; ((try simp only [Int.toNat_natCast] at h); repeat (first | replace h := of_decide_eq_true h | replace h := of_decide_eq_false h | replace h := not_t h | replace h := not_f h | fail)); (try (first | contradiction | exact Bool.noConfusion (h.symm.trans (by assumption) : false = true) | fail))) | rfl | omega | fail)
        all_goals (first | (((with_reducible refine e_id ?_); (conv => whnf)); refine ⟨(), trivial, ?_⟩; ((with_reducible refine s_id ?_); (conv => arg 1; whnf); (with_reducible refine s_some ?_); repeat' (first | ((with_reducible refine o_id ?_); (conv => arg 1; whnf); first | (with_reducible exact o_nil) | (with_reducible refine o_cons ?_ ?_)) | rfl | fail))))
      · repeat' (first | (((with_reducible refine g_id ?_); (conv => arg 3; whnf)); first | (with_reducible refine g_split lay_ok 400 ?_ ?_ ?_) | (with_reducible refine g_cond lay_ok 400 ?_ ?_ ?_) | (with_reducible refine g_fin ?_ ?_) | (refine g_call lay_ok 400 ?_ ?_ ?_ (c_awake33) rfl)) | (with_reducible exact o_nil) | ((with_reducible refine o_id ?_); (conv => arg 1; whnf); first | (with_reducible exact o_nil) | fail) | (intro h; ((try simp only [Int.toNat_natCast] at h); repeat (first | replace h := of_decide_eq_true h | replace h := of_decide_eq_false h | replace h := not_t h | replace h := not_f h | fail)); (try (first | contradiction | (exfalso; omega) | fail))) | fail)
        all_goals (first | (((with_reducible refine e_id ?_); (conv => whnf)); refine ⟨(), trivial, ?_⟩; ((with_reducible refine s_id ?_); (conv => arg 1; whnf); (with_reducible refine s_some ?_); repeat' (first | ((with_reducible refine o_id ?_); (conv => arg 1; whnf); first | (with_reducible exact o_nil) | (with_reducible refine o_cons ?_ ?_)) | rfl | fail))))
end Go.Proofs.Ytkageldgmkajbaa
namespace Go.Proofs.Ytkageldgmkajbaa
open Go.RowKit
inductive FK where
  | int (k : IntKind)
  | bool
  | str
  | sl (e : TypeId)
def flatF (P : Program) (g : TypeId → Option (List FK)) : List Field → Nat → Option (List FK)
  | [], _ => some []
  | f :: l, o => if f.offset = o then (match g f.type, flatF P g l (o + P.cellsOf f.type) with
    | some a, some b => if a.length = P.cellsOf f.type then some (a ++ b) else none
    | _, _ => none) else none
def flatT (P : Program) : Nat → TypeId → Option (List FK)
  | 0, _ => none
  | n + 1, t => match P.underlying t with
    | some (.int k) => some [.int k]
    | some .bool => some [.bool]
    | some .string => some [.str]
    | some (.slice e) => some [.sl e]
    | some (.struct fs) => match flatF P (flatT P n) fs.toList 0 with
      | some ks => if ks.length = P.cellsOf t then some ks else none
      | none => none
    | _ => none
section
variable {H : Type} {enc : TypeId × Value → H} {P : Program} {w : World} {base : Nat} {spare : Nat → Bool} {held : Bool}
def CellK (enc : TypeId × Value → H) (P : Program) (w : World) (base : Nat) (spare : Nat → Bool) (held : Bool) (m : Nat) (v : Value) : FK → Prop
  | .int k => ∃ n, v = .int k n ∧ (Lit.int k n).wf = true
  | .bool => ∃ b, v = .bool b
  | .str => ∃ s : ByteArray, v = .string s ∧ s.size ≤ maxLen
  | .sl e => ∃ t x f, f ≤ m ∧ P.underlying t = some (.slice e) ∧ DataW.trod enc P w base spare held f t [v] = some x
theorem CellK.le {m m' : Nat} (h : m ≤ m') {v : Value} : ∀ {k : FK}, CellK enc P w base spare held m v k → CellK enc P w base spare held m' v k
  | .int _, g => g
  | .bool, g => g
  | .str, g => g
  | .sl _, ⟨t, x, f, h1, h2, h3⟩ => ⟨t, x, f, Nat.le_trans h1 h, h2, h3⟩
theorem flatF_ok {g : TypeId → Option (List FK)} {m : Nat} {cs : List Value}
    (hg : ∀ t ks cs' x, g t = some ks → DataW.trod enc P w base spare held m t cs' = some x → cs'.length = ks.length ∧ ∀ (j : Nat) (k : FK), ks[j]? = some k → ∃ v, cs'[j]? = some v ∧ CellK enc P w base spare held m v k) :
    ∀ (l : List Field) (o : Nat) (ks : List FK), flatF P g l o = some ks → (∀ f ∈ l, ∃ x, DataW.trod enc P w base spare held m f.type ((cs.drop f.offset).take (P.cellsOf f.type)) = some x) →
      ∀ (j : Nat) (k : FK), ks[j]? = some k → ∃ v, cs[o + j]? = some v ∧ CellK enc P w base spare held m v k
  | [], o, ks, h, _, j, k, hj => by
    simp only [flatF, Option.some.injEq] at h; subst h; simp at hj
  | f :: l, o, ks, h, hx, j, k, hj => by
    unfold flatF at h
    split at h
    · rename_i ho
      split at h
      · rename_i a b ha hb
        split at h
        · rename_i hl
          cases h
          obtain ⟨x, hx1⟩ := hx f List.mem_cons_self
          obtain ⟨g1, g2⟩ := hg _ _ _ _ ha hx1
          by_cases hlt : j < a.length
          · rw [List.getElem?_append_left hlt] at hj
            obtain ⟨v, hv, hk⟩ := g2 j k hj
            refine ⟨v, ?_, hk⟩
            rw [List.getElem?_take] at hv
            split at hv
            · rw [List.getElem?_drop, ho] at hv; exact hv
            · cases hv
          · rw [List.getElem?_append_right (by omega)] at hj
            have := flatF_ok hg l _ b hb (fun f' hf' => hx f' (List.mem_cons_of_mem _ hf')) _ k hj
            rw [← hl] at this
            rw [show o + j = o + a.length + (j - a.length) by omega]
            exact this
        · cases h
      · cases h
    · cases h
theorem flat_ok : ∀ (n : Nat) (t : TypeId) (ks : List FK), flatT P n t = some ks → ∀ {fuel : Nat} {cs : List Value} {x : DataW H × List MemPlace}, DataW.trod enc P w base spare held fuel t cs = some x →
    cs.length = ks.length ∧ ∀ (j : Nat) (k : FK), ks[j]? = some k → ∃ v, cs[j]? = some v ∧ CellK enc P w base spare held fuel v k
  | 0, t, ks, h, _, _, _, _ => by simp [flatT] at h
  | n + 1, t, ks, h, fuel, cs, x, hx => by
    have one : ∀ {v : Value} {k : FK}, cs = [v] → ks = [k] → CellK enc P w base spare held fuel v k → cs.length = ks.length ∧ ∀ (j : Nat) (k : FK), ks[j]? = some k → ∃ v, cs[j]? = some v ∧ CellK enc P w base spare held fuel v k := by
      intro v k e1 e2 hk
      subst e1; subst e2
      refine ⟨rfl, fun j k' hj => ?_⟩
      cases j with
      | zero => simp only [List.getElem?_cons_zero, Option.some.injEq] at hj; subst hj; exact ⟨v, rfl, hk⟩
      | succ j => simp at hj
    unfold flatT at h
    split at h
    · rename_i k ht
      cases h
      obtain ⟨n, rfl, rfl, hw⟩ := DataW.trod_int ht hx
      exact one rfl rfl ⟨n, rfl, hw⟩
    · rename_i ht
      cases h
      obtain ⟨b, rfl, rfl⟩ := DataW.trod_bool ht hx
      exact one rfl rfl ⟨b, rfl⟩
    · rename_i ht
      cases h
      obtain ⟨s, rfl, rfl, hs⟩ := DataW.trod_string ht hx
      exact one rfl rfl ⟨s, rfl, hs⟩
    · rename_i e ht
      cases h
      have e1 : ∃ v, cs = [v] := by
        rcases DataW.trod_slice ht hx with ⟨rfl, _⟩ | ⟨a, len, cap, _, _, _, _, rfl, _⟩
        · exact ⟨_, rfl⟩
        · exact ⟨_, rfl⟩
      obtain ⟨v, rfl⟩ := e1
      exact one rfl rfl ⟨t, x, fuel, Nat.le_refl _, ht, hx⟩
    · rename_i fs ht
      split at h
      · rename_i ks' hks
        split at h
        · rename_i hl
          cases h
          obtain ⟨xs, m, rfl, rfl, h1, h2, h3⟩ := DataW.trod_struct ht hx
          refine ⟨by rw [h1, hl], fun j k hj => ?_⟩
          have := flatF_ok (g := flatT P n) (m := m) (cs := cs) (fun t ks cs' x h hx => flat_ok n t ks h hx) fs.toList 0 ks hks (fun f hf => ?_) j k hj
          · obtain ⟨v, hv, hk⟩ := this
            rw [Nat.zero_add] at hv
            exact ⟨v, hv, hk.le (Nat.le_succ _)⟩
          · obtain ⟨i, hi⟩ := List.mem_iff_getElem?.1 hf
            have hi' : fs[i]? = some f := by simpa using hi
            have hlt : i < xs.length := by rw [h2]; exact (Array.getElem?_eq_some_iff.1 hi').1
            exact ⟨xs[i], (h3 i f hi').trans (List.getElem?_eq_getElem hlt)⟩
        · cases h
      · cases h
    · cases h
end
def tyB (a b : Ty) : Bool := (Ty.eq? a b).isSome
theorem tyB_eq {a b : Ty} (h : tyB a b = true) : a = b := by
  unfold tyB at h
  cases e : Ty.eq? a b with
  | none => rw [e] at h; cases h
  | some p => exact p.down
def fkB (codes : List (Nat × Ty)) : FK → CKd → Bool
  | .int k, .int k' => keq k k'
  | .bool, .bool => true
  | .str, .str => true
  | .sl e, .sl c => match find codes e with
    | some c' => tyB c' c
    | none => false
  | _, _ => false
def fksB (codes : List (Nat × Ty)) : List FK → List CKd → Bool
  | [], [] => true
  | a :: l, b :: m => fkB codes a b && fksB codes l m
  | _, _ => false
theorem fksB_get {codes : List (Nat × Ty)} : ∀ {l : List FK} {m : List CKd}, fksB codes l m = true → l.length = m.length ∧ ∀ (j : Nat) (b : CKd), m[j]? = some b → ∃ a, l[j]? = some a ∧ fkB codes a b = true
  | [], [], _ => ⟨rfl, fun j b h => by simp at h⟩
  | [], _ :: _, h => by simp [fksB] at h
  | _ :: _, [], h => by simp [fksB] at h
  | a :: l, b :: m, h => by
    simp only [fksB, Bool.and_eq_true] at h
    obtain ⟨h1, h2⟩ := fksB_get h.2
    refine ⟨by simp [h1], fun j b' hj => ?_⟩
    cases j with
    | zero => simp only [List.getElem?_cons_zero, Option.some.injEq] at hj; subst hj; exact ⟨a, rfl, h.1⟩
    | succ j => simp only [List.getElem?_cons_succ] at hj ⊢; exact h2 j b' hj
def codeB (P : Program) (codes : List (Nat × Ty)) (e : Nat) (c : Ty) : Bool := match flatT P 9 e with
  | some ks => Nat.beq (P.cellsOf e) (wid c) && fksB codes ks (cks c)
  | none => false
def codesB (P : Program) (codes : List (Nat × Ty)) : List (Nat × Ty) → Bool
  | [] => true
  | (e, c) :: l => codeB P codes e c && codesB P codes l
theorem codesB_find {P : Program} {codes : List (Nat × Ty)} {e : Nat} {c : Ty} : ∀ {l : List (Nat × Ty)}, codesB P codes l = true → find l e = some c → codeB P codes e c = true
  | [], _, h => by simp [find] at h
  | (e', c') :: l, hb, h => by
    simp only [codesB, Bool.and_eq_true] at hb
    rw [find_cons] at h
    split at h
    · rename_i he; subst he; cases h; exact hb.1
    · exact codesB_find hb.2 h
theorem mkc_ex {c : Ty} {ts : List TC} (h : ts.map ckOf = cks c) : ∃ x, mkc c ts = some x := by
  cases c
  all_goals (simp only [cks, List.map_eq_cons_iff, List.map_eq_nil_iff] at h)
  all_goals (repeat (obtain ⟨t, r, rfl, hk, h⟩ := h; cases t <;> cases hk))
  all_goals (subst h; exact ⟨_, rfl⟩)
def cellLoc (w : World) (L : Loc) (d : Nat) : Loc := match L.a with
  | some a => match w.cell? ⟨a.block, a.off + d, none⟩ with
    | some (.slice a' n m) => ⟨a', n, m⟩
    | _ => ⟨none, 0, 0⟩
  | none => ⟨none, 0, 0⟩
def vloc (w : World) : Ty → Loc → Path → Loc
  | _, L, [] => L
  | c, L, (i, j) :: p => match (cks c)[j]? with
    | some (.sl c') => vloc w c' (cellLoc w L (i * wid c + j)) p
    | _ => ⟨none, 0, 0⟩
def wfT : TC → Prop
  | .int k n => (Lit.int k n).wf = true
  | .str s => s.size ≤ maxLen
  | _ => True
def OpenL (w : World) (c : Ty) (L : Loc) (l : List (El c)) : Prop :=
  ∀ (p : Path) (c' : Ty) (l' : List (El c')), desc c l p = some ⟨c', l'⟩ → (vloc w c L p).len = l'.length ∧ l'.length ≤ (vloc w c L p).cap ∧ (vloc w c L p).cap ≤ maxLen ∧
    ∀ i x, l'[i]? = some x → ∀ j d, (tcells c' x)[j]? = some d → wfT d ∧ ∃ a, (vloc w c L p).a = some a ∧ a.spot = none ∧ w.cell? ⟨a.block, a.off + (i * wid c' + j), none⟩ = some (match d with | .int k n => .int k n | .bool b => .bool b | .str s => .string s | .sl _ _ => (vloc w c L (p ++ [(i, j)])).hd)
theorem exists_list {α : Type} {Q : Nat → α → Prop} : ∀ (n : Nat), (∀ i, i < n → ∃ y, Q i y) → ∃ l : List α, l.length = n ∧ ∀ i y, l[i]? = some y → Q i y
  | 0, _ => ⟨[], rfl, fun i y h => by simp at h⟩
  | n + 1, h => by
    obtain ⟨l, h1, h2⟩ := exists_list n fun i hi => h i (by omega)
    obtain ⟨y, hy⟩ := h n (by omega)
    refine ⟨l ++ [y], by simp [h1], fun i z hz => ?_⟩
    by_cases hi : i < l.length
    · rw [List.getElem?_append_left hi] at hz; exact h2 i z hz
    · rw [List.getElem?_append_right (by omega)] at hz
      have : i = n := by
        have := (List.getElem?_eq_some_iff.1 hz).1
        simp at this; omega
      subst this
      rw [h1, Nat.sub_self] at hz
      simp at hz; subst hz; exact hy
theorem tcells_kind {c : Ty} {x : El c} {j : Nat} {d : TC} (h : (tcells c x)[j]? = some d) : (cks c)[j]? = some (ckOf d) := by
  rw [← tcells_ck c x, List.getElem?_map, h]; rfl
theorem vloc_sl {w : World} {c c' : Ty} {L : Loc} {i j : Nat} {p : Path} (h : (cks c)[j]? = some (.sl c')) : vloc w c L ((i, j) :: p) = vloc w c' (cellLoc w L (i * wid c + j)) p := by
  simp only [vloc, h]
section
variable {H : Type} {enc : TypeId × Value → H} {P : Program} {w : World} {base : Nat} {spare : Nat → Bool} {held : Bool} {codes : List (Nat × Ty)}
def CellD (w : World) (v : Value) (d : TC) : Prop := wfT d ∧ match d with
  | .int k n => v = .int k n
  | .bool b => v = .bool b
  | .str s => v = .string s
  | .sl c l => ∃ L : Loc, v = L.hd ∧ OpenL w c L l
theorem open_list (hc : codesB P codes codes = true) : ∀ (N fuel : Nat), fuel ≤ N → ∀ {t e : TypeId} {c : Ty} {v : Value} {x : DataW H × List MemPlace}, P.underlying t = some (.slice e) → find codes e = some c → DataW.trod enc P w base spare held fuel t [v] = some x →
    ∃ (L : Loc) (l : List (El c)), v = L.hd ∧ OpenL w c L l := by
  intro N
  induction N with
  | zero =>
    intro fuel hN t e c v x ht he hx
    have : fuel = 0 := by omega
    subst this
    simp [DataW.trod] at hx
  | succ N ih =>
    intro fuel hN t e c v x ht he hx
    rcases DataW.trod_slice ht hx with ⟨hcs, _⟩ | ⟨a, len, cap, elems, rest, n, rfl, hcs, _, hb, hl, hm, hlen, hel, _⟩
    · simp only [List.cons.injEq, and_true] at hcs
      subst hcs
      refine ⟨⟨none, 0, 0⟩, [], rfl, fun p c' l' hd => ?_⟩
      obtain ⟨rfl, e2⟩ := desc_nil hd
      cases e2
      exact ⟨rfl, Nat.le_refl _, Nat.zero_le _, fun i x h => by simp at h⟩
    · simp only [List.cons.injEq, and_true] at hcs
      subst hcs
      have hcb := codesB_find hc he
      unfold codeB at hcb
      split at hcb
      · rename_i ks hks
        simp only [Bool.and_eq_true] at hcb
        obtain ⟨hw0, hfk⟩ := hcb
        have hw := Nat.eq_of_beq_eq_true hw0
        obtain ⟨f1, f2⟩ := fksB_get hfk
        -- one row
        have row : ∀ i, i < len → ∃ y : El c, ∀ j d, (tcells c y)[j]? = some d → ∃ v, w.cell? ((a.add (i * wid c)).add j) = some v ∧ CellD w v d := by
          intro i hi
          have h1 := hel i hi
          rw [hw] at h1
          have hlt : i < elems.length := by omega
          rw [List.getElem?_eq_getElem hlt] at h1
          obtain ⟨cs, hcs, htr⟩ := Option.bind_eq_some_iff.1 h1
          obtain ⟨g1, g2⟩ := flat_ok 9 e ks hks htr
          obtain ⟨_, hlc, hcell⟩ := World.cells?_some hcs
          have cell : ∀ j, j < wid c → ∃ d : TC, (cks c)[j]? = some (ckOf d) ∧ ∃ v, w.cell? ((a.add (i * wid c)).add j) = some v ∧ CellD w v d := by
            intro j hj
            have hjk : j < (cks c).length := by rw [cks_len]; exact hj
            obtain ⟨fk, h2, h3⟩ := f2 j _ (List.getElem?_eq_getElem hjk)
            obtain ⟨v, h4, h5⟩ := g2 j fk h2
            have h6 : w.cell? ((a.add (i * wid c)).add j) = some v := by rw [hcell j hj, h4]
            rw [List.getElem?_eq_getElem hjk]
            cases hck : (cks c)[j] with
            | int k =>
              rw [hck] at h3
              cases fk <;> simp only [fkB, Bool.false_eq_true] at h3
              have := keq_eq h3
              subst this
              obtain ⟨n, rfl, hwf⟩ := h5
              exact ⟨.int _ n, rfl, _, h6, hwf, rfl⟩
            | bool =>
              rw [hck] at h3
              cases fk <;> simp only [fkB, Bool.false_eq_true] at h3
              obtain ⟨b, rfl⟩ := h5
              exact ⟨.bool b, rfl, _, h6, trivial, rfl⟩
            | str =>
              rw [hck] at h3
              cases fk <;> simp only [fkB, Bool.false_eq_true] at h3
              obtain ⟨s, rfl, hs⟩ := h5
              exact ⟨.str s, rfl, _, h6, hs, rfl⟩
            | sl c1 =>
              rw [hck] at h3
              cases fk <;> simp only [fkB, Bool.false_eq_true] at h3
              rename_i e1
              split at h3
              · rename_i c2 hf
                have := tyB_eq h3
                subst this
                obtain ⟨t', x', f', y1, y2, y3⟩ := h5
                obtain ⟨L', l', rfl, ho⟩ := ih f' (by omega) y2 hf y3
                exact ⟨.sl _ l', rfl, _, h6, trivial, L', rfl, ho⟩
              · cases h3
          obtain ⟨ts, t1, t2⟩ := exists_list (wid c) cell
          have hk : ts.map ckOf = cks c := by
            apply List.ext_getElem?
            intro j
            by_cases hj : j < ts.length
            · rw [List.getElem?_map, List.getElem?_eq_getElem hj, (t2 j _ (List.getElem?_eq_getElem hj)).1]; rfl
            · rw [List.getElem?_eq_none (by simpa using hj), List.getElem?_eq_none (by rw [cks_len]; omega)]
          obtain ⟨y, hy⟩ := mkc_ex hk
          refine ⟨y, fun j d hd => ?_⟩
          rw [mkc_cells hy] at hd
          exact (t2 j d hd).2
        obtain ⟨l, l1, l2⟩ := exists_list len row
        refine ⟨⟨some a, len, cap⟩, l, rfl, ?_⟩
        have at_ : ∀ i y, l[i]? = some y → ∀ j d, (tcells c y)[j]? = some d → a.spot = none ∧ ∃ v, w.cell? ⟨a.block, a.off + (i * wid c + j), none⟩ = some v ∧ CellD w v d := by
          intro i y hi j d hj
          obtain ⟨v, h1, h2⟩ := l2 i y hi j d hj
          have hi0 : 0 < l.length := Nat.lt_of_le_of_lt (Nat.zero_le _) (List.getElem?_eq_some_iff.1 hi).1
          have hj0 : 0 < (tcells c l[0]).length := by rw [tcells_len]; exact wid_pos c
          obtain ⟨v0, h3, _⟩ := l2 0 _ (List.getElem?_eq_getElem hi0) 0 _ (List.getElem?_eq_getElem hj0)
          have sp : a.spot = none := by
            rw [Nat.zero_mul, show (a.add 0).add 0 = a from rfl] at h3
            unfold World.cell? at h3
            split at h3
            · cases hs : a.spot with
              | some s => rw [hs] at h3; simp at h3
              | none => rfl
            · cases h3
          refine ⟨sp, v, ?_, h2⟩
          obtain ⟨b, o, s⟩ := a
          simp only at sp
          subst sp
          rw [Addr.add_mid, Addr.add_mid, Nat.add_assoc] at h1
          exact h1
        have loc : ∀ i y, l[i]? = some y → ∀ j c1 l1', (tcells c y)[j]? = some (.sl c1 l1') → ∃ L' : Loc, OpenL w c1 L' l1' ∧ cellLoc w ⟨some a, len, cap⟩ (i * wid c + j) = L' ∧ w.cell? ⟨a.block, a.off + (i * wid c + j), none⟩ = some L'.hd := by
          intro i y hi j c1 l1' hj
          obtain ⟨_, v, h1, _, L', rfl, h2⟩ := at_ i y hi j _ hj
          refine ⟨L', h2, ?_, h1⟩
          simp only [cellLoc, h1, Loc.hd]
        intro p c' l' hd
        cases p with
        | nil =>
          simp only [desc, Option.some.injEq] at hd
          cases hd
          refine ⟨l1.symm, by rw [l1]; exact hl, hm, fun i y hi j d hj => ?_⟩
          obtain ⟨sp, v, h1, h2, h3⟩ := at_ i y hi j d hj
          refine ⟨h2, a, rfl, sp, h1.trans ?_⟩
          cases d with
          | int k n => simp only at h3; rw [h3]
          | bool b => simp only at h3; rw [h3]
          | str s => simp only at h3; rw [h3]
          | sl c1 l1' =>
            obtain ⟨L', _, h4, h5⟩ := loc i y hi j c1 l1' hj
            have hk := tcells_kind hj
            simp only [ckOf] at hk
            simp only [List.nil_append]
            rw [vloc_sl hk, h4]
            rw [h1] at h5
            exact h5
        | cons ij p =>
          obtain ⟨i, j⟩ := ij
          simp only [desc] at hd
          split at hd
          · cases hd
          · rename_i y hy
            split at hd
            · rename_i c1 l1' hj
              obtain ⟨L', h2, h4, h5⟩ := loc i y hy j c1 l1' hj
              have hk := tcells_kind hj
              simp only [ckOf] at hk
              have := h2 p c' l' hd
              simp only [vloc_sl hk, h4, List.cons_append]
              exact this
            · cases hd
      · cases hcb
end
structure Arg where
  c : Ty
  L : Loc
  l : List (El c)
def argMem : Nat → List Arg → List (Nat × MB)
  | _, [] => []
  | k, a :: r => (k, .list .tmp a.c a.l) :: argMem (k + 1) r
def argV (w : World) (avs : List Arg) : Vl := fun r => match avs[r.k]? with
  | some a => vloc w a.c a.L r.p
  | none => ⟨none, 0, 0⟩
theorem argMem_find : ∀ {avs : List Arg} {k r : Nat} {m : MB}, find (argMem k avs) r = some m → k ≤ r ∧ ∃ a, avs[r - k]? = some a ∧ m = .list .tmp a.c a.l
  | [], k, r, m, h => by simp [argMem, find] at h
  | a :: avs, k, r, m, h => by
    simp only [argMem, find_cons] at h
    split at h
    · rename_i e; subst e; cases h; exact ⟨Nat.le_refl _, a, by simp, rfl⟩
    · obtain ⟨h1, b, h2, h3⟩ := argMem_find h
      refine ⟨by omega, b, ?_, h3⟩
      rw [show r - k = (r - (k + 1)) + 1 by omega]
      simpa using h2
theorem args_cont {avs : List Arg} {r : Rid} {b : AB} (h : cont (argMem 0 avs) r = some b) : ∃ a c' l', avs[r.k]? = some a ∧ desc a.c a.l r.p = some ⟨c', l'⟩ ∧ b = .list .tmp c' l' := by
  obtain ⟨m, h1, h2⟩ := cont_iff.1 h
  obtain ⟨_, a, h3, rfl⟩ := argMem_find h1
  rw [Nat.sub_zero] at h3
  simp only [contB] at h2
  split at h2
  · rename_i c' l' hd
    cases h2
    exact ⟨a, c', l', h3, hd, by simp only [Md.at]⟩
  · cases h2
theorem args_ents {w : World} {avs : List Arg} (h : ∀ a ∈ avs, OpenL w a.c a.L a.l) : Ents (fun _ => False) (argV w avs) ⟨[], argMem 0 avs, avs.length⟩ w := by
  refine ⟨fun k m hk => ?_, fun r b hb => ?_, fun r r' b b' hb hb' _ _ hk _ => ?_, fun r b hb _ hk => ?_⟩
  · obtain ⟨_, a, h1, rfl⟩ := argMem_find hk
    exact ⟨by have := (List.getElem?_eq_some_iff.1 h1).1; simpa using this, rfl⟩
  · obtain ⟨a, c', l', h1, h2, rfl⟩ := args_cont hb
    obtain ⟨g1, g2, _, g3⟩ := h a (List.mem_of_getElem? h1) r.p c' l' h2
    have hv : ∀ p, argV w avs ⟨r.k, p⟩ = vloc w a.c a.L p := fun p => by simp only [argV, h1]
    have hr : argV w avs r = vloc w a.c a.L r.p := hv r.p
    refine ⟨by rw [hr]; exact g1, by rw [hr]; exact g2, (fun e => by cases e), fun i x hx j d hd => ?_⟩
    obtain ⟨_, ad, k1, k2, k3⟩ := g3 i x hx j d hd
    refine ⟨ad, by rw [hr]; exact k1, k2, k3.trans ?_⟩
    cases d <;> simp only [denT]
    simp only [Rid.ch, hv]
  · obtain ⟨a, c', l', h1, h2, rfl⟩ := args_cont hb
    cases hk
  · obtain ⟨a, c', l', h1, h2, rfl⟩ := args_cont hb
    exact absurd rfl hk
theorem args_dl {V : Vl} {avs : List Arg} {b : Nat} : ¬ Dl V (argMem 0 avs) b := by
  rintro ⟨r, y, hc, _, hk, _⟩
  obtain ⟨a, c', l', h1, h2, rfl⟩ := args_cont hc
  cases hk
theorem law_ofA {P : Program} {g : Nat} {svs : List SV} {vs : List Value} {w : World} (avs : List Arg) (n : Nat) (hn : avs.length = n) (h : ∀ a ∈ avs, OpenL w a.c a.L a.l)
    (T : Trip P g svs ⟨[], argMem 0 avs, n⟩ (Z := Unit) (fun _ => True) (fun _ => .bool true) (fun _ => ⟨[], [], n⟩))
    (hvs : denL (argV w avs) svs = vs) : Calls P g vs.toArray w fun e w' => e = .returned (.bool true) ∧ Below w.heap.size w w' := by
  subst hn
  have hT := T.runs (argV w avs) (fun _ => False) w (args_ents h) (fun b hb => hb.elim)
  rw [hvs] at hT
  exact hT.mono fun e w' ⟨z, V', _, he, _, _, _, _, hfr, _⟩ => ⟨he, hfr.2.2.os, hfr.2.2.tape, hfr.2.2.output, hfr.1, fun k hk => hfr.2.1 k hk args_dl⟩
theorem OpenL.max {w : World} {c : Ty} {L : Loc} {l : List (El c)} (h : OpenL w c L l) : l.length ≤ maxLen := by
  obtain ⟨_, h2, h3, _⟩ := h [] c l rfl
  exact Nat.le_trans h2 h3
theorem OpenL.wf {w : World} {c : Ty} {L : Loc} {l : List (El c)} (h : OpenL w c L l) {x : El c} (hx : x ∈ l) {d : TC} (hd : d ∈ tcells c x) : wfT d := by
  obtain ⟨_, _, _, h4⟩ := h [] c l rfl
  obtain ⟨i, hi⟩ := List.mem_iff_getElem?.1 hx
  obtain ⟨j, hj⟩ := List.mem_iff_getElem?.1 hd
  exact (h4 i x hi j d hj).1
theorem OpenL.sub {w : World} {c : Ty} {L : Loc} {l : List (El c)} (h : OpenL w c L l) {x : El c} (hx : x ∈ l) {c1 : Ty} {l1 : List (El c1)} (hd : .sl c1 l1 ∈ tcells c x) : ∃ L1, OpenL w c1 L1 l1 := by
  obtain ⟨i, hi⟩ := List.mem_iff_getElem?.1 hx
  obtain ⟨j, hj⟩ := List.mem_iff_getElem?.1 hd
  have hk := tcells_kind hj
  simp only [ckOf] at hk
  refine ⟨cellLoc w L (i * wid c + j), fun p c' l' hp => ?_⟩
  have hd' : desc c l ((i, j) :: p) = some ⟨c', l'⟩ := by simp only [desc, hi, hj]; exact hp
  have := h _ c' l' hd'
  simp only [vloc_sl hk, List.cons_append] at this
  exact this
end Go.Proofs.Ytkageldgmkajbaa
namespace Go.Proofs.Ytkageldgmkajbaa
open Go.RowKit
def codes : List (Nat × Ty) := [(3, .int), (22, .ints), (52, .term), (54, .row), (46, .frac), (69, .fracs)]
theorem codes_ok : codesB Try.prog codes codes = true := by kernel_rfl
end Go.Proofs.Ytkageldgmkajbaa
