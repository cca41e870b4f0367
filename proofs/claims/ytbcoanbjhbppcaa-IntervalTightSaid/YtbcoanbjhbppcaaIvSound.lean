/- Plain facts: the results of operators for words of two intervals lie in the interval of the results. No condition on any program. -/
import Derived.Test.YtbcoanbjhbppcaaIvR
import Derived.Test.YtbcoanbjhbppcaaIvPure
namespace Go.Proofs.Ytbcoanbjhbppcaa
set_option linter.unusedVariables false
theorem around_sound {x0 z : Int} {ys : List Int} (h1 : minL x0 ys ≤ z) (h2 : z ≤ maxL x0 ys) : hasI (aroundI x0 ys).1 (aroundI x0 ys).2 (wr z) = true := by
  unfold aroundI
  split
  · rename_i h
    simp only [isW, Bool.and_eq_true, decide_eq_true_eq] at h
    rw [wr_id (by omega) (by omega)]
    simp [hasI]; omega
  · have a := wr_lo z
    have b := wr_hi z
    simp [hasI]; omega
theorem all_sound (z : Int) : hasI allI.1 allI.2 (wr z) = true := by
  have a := wr_lo z
  have b := wr_hi z
  show (decide (-2147483648 ≤ wr z) && decide (wr z ≤ 2147483647)) = true
  simp [a, b]
theorem mul_lr {a b y : Int} (h : a ≤ b) : (0 ≤ y → a * y ≤ b * y) ∧ (y ≤ 0 → b * y ≤ a * y) :=
  ⟨fun hy => Int.mul_le_mul_of_nonneg_right h hy, fun hy => Int.mul_le_mul_of_nonpos_right h hy⟩
theorem mul_between {p q r s x y : Int} (h1 : p ≤ x) (h2 : x ≤ q) (h3 : r ≤ y) (h4 : y ≤ s) : minL (p * r) [p * s, q * r, q * s] ≤ x * y ∧ x * y ≤ maxL (p * r) [p * s, q * r, q * s] := by
  have a1 := mul_lr (y := y) h1
  have a2 := mul_lr (y := y) h2
  have b1 := mul_lr (y := p) h3
  have b2 := mul_lr (y := p) h4
  have b3 := mul_lr (y := q) h3
  have b4 := mul_lr (y := q) h4
  simp only [Int.mul_comm _ p, Int.mul_comm _ q] at b1 b2 b3 b4
  simp only [minL, maxL, List.foldl, imin, imax]
  have c := Int.le_total 0 y
  have d := Int.le_total 0 p
  have e := Int.le_total 0 q
  grind
theorem tdiv_mono {a b c : Int} (h : a ≤ b) (hc : 0 < c) : a.tdiv c ≤ b.tdiv c := by
  by_cases ha : 0 ≤ a
  · rw [Int.tdiv_eq_ediv_of_nonneg ha, Int.tdiv_eq_ediv_of_nonneg (by omega)]
    exact Int.ediv_le_ediv hc h
  · have e : a.tdiv c = -((-a).tdiv c) := by rw [Int.neg_tdiv]; omega
    have a0 : 0 ≤ (-a) / c := Int.ediv_nonneg (by omega) (by omega)
    rw [e, Int.tdiv_eq_ediv_of_nonneg (by omega)]
    by_cases hb : 0 ≤ b
    · rw [Int.tdiv_eq_ediv_of_nonneg hb]
      have := Int.ediv_nonneg hb (Int.le_of_lt hc)
      omega
    · have e2 : b.tdiv c = -((-b).tdiv c) := by rw [Int.neg_tdiv]; omega
      rw [e2, Int.tdiv_eq_ediv_of_nonneg (by omega)]
      have := Int.ediv_le_ediv hc (show -b ≤ -a by omega)
      omega
theorem ediv_anti {a c d : Int} (h : 0 ≤ a) (hc : 0 < c) (hd : c ≤ d) : a / d ≤ a / c := by
  rw [Int.le_ediv_iff_mul_le hc]
  have h0 : 0 ≤ a / d := Int.ediv_nonneg h (by omega)
  have h1 : a / d * c ≤ a / d * d := Int.mul_le_mul_of_nonneg_left hd h0
  have h2 : a / d * d ≤ a := Int.ediv_mul_le _ (by omega)
  omega
theorem tdiv_anti {a c d : Int} (hc : 0 < c) (hd : c ≤ d) : (0 ≤ a → a.tdiv d ≤ a.tdiv c) ∧ (a ≤ 0 → a.tdiv c ≤ a.tdiv d) := by
  constructor
  · intro h
    rw [Int.tdiv_eq_ediv_of_nonneg h, Int.tdiv_eq_ediv_of_nonneg h]
    exact ediv_anti h hc hd
  · intro h
    have e : a.tdiv c = -((-a).tdiv c) := by rw [Int.neg_tdiv]; omega
    have e2 : a.tdiv d = -((-a).tdiv d) := by rw [Int.neg_tdiv]; omega
    rw [e, e2, Int.tdiv_eq_ediv_of_nonneg (by omega), Int.tdiv_eq_ediv_of_nonneg (by omega)]
    have := ediv_anti (a := -a) (by omega) hc hd
    omega
theorem div_between {p q r s x y : Int} (h1 : p ≤ x) (h2 : x ≤ q) (h3 : r ≤ y) (h4 : y ≤ s) (hr : 1 ≤ r) : minL (p.tdiv r) [p.tdiv s, q.tdiv r, q.tdiv s] ≤ x.tdiv y ∧ x.tdiv y ≤ maxL (p.tdiv r) [p.tdiv s, q.tdiv r, q.tdiv s] := by
  have a1 := tdiv_mono (c := y) h1 (by omega)
  have a2 := tdiv_mono (c := y) h2 (by omega)
  have b1 := tdiv_anti (a := p) (c := r) (d := y) (by omega) h3
  have b2 := tdiv_anti (a := p) (c := y) (d := s) (by omega) h4
  have b3 := tdiv_anti (a := q) (c := r) (d := y) (by omega) h3
  have b4 := tdiv_anti (a := q) (c := y) (d := s) (by omega) h4
  simp only [minL, maxL, List.foldl, imin, imax]
  have d := Int.le_total 0 p
  have e := Int.le_total 0 q
  grind
theorem fdiv_ediv {a : Int} (n : Nat) : a.fdiv (2 ^ n) = a / 2 ^ n := by
  rw [Int.fdiv_eq_ediv_of_nonneg _ (Int.le_of_lt (Int.pow_pos (by decide)))]
theorem ediv_anti' {a c d : Int} (hc : 0 < c) (hd : c ≤ d) : (0 ≤ a → a / d ≤ a / c) ∧ (a ≤ 0 → a / c ≤ a / d) := by
  refine ⟨fun h => ediv_anti h hc hd, fun h => ?_⟩
  rw [Int.le_ediv_iff_mul_le (by omega)]
  have h0 : a / c ≤ 0 := by
    have := Int.ediv_le_ediv hc h
    rw [Int.zero_ediv] at this
    exact this
  have h1 : a / c * d ≤ a / c * c := Int.mul_le_mul_of_nonpos_left h0 hd
  have h2 : a / c * c ≤ a := Int.ediv_mul_le _ (by omega)
  omega
theorem pow_mono {m n : Nat} (h : m ≤ n) : (2 : Int) ^ m ≤ 2 ^ n := by
  have := Nat.pow_le_pow_right (show 0 < 2 by decide) h
  have e : ∀ k : Nat, (((2 : Nat) ^ k : Nat) : Int) = (2 : Int) ^ k := fun k => by rw [Int.natCast_pow]; rfl
  rw [← e, ← e]
  omega
theorem pow_pos' (n : Nat) : (0 : Int) < 2 ^ n := Int.pow_pos (by decide)
theorem shr_between {p q r s x y : Int} (h1 : p ≤ x) (h2 : x ≤ q) (h3 : r ≤ y) (h4 : y ≤ s) (hr : 0 ≤ r) : minL (shrI p r) [shrI p s, shrI q r, shrI q s] ≤ shrI x y ∧ shrI x y ≤ maxL (shrI p r) [shrI p s, shrI q r, shrI q s] := by
  unfold shrI
  simp only [fdiv_ediv]
  have a1 := Int.ediv_le_ediv (pow_pos' y.toNat) h1
  have a2 := Int.ediv_le_ediv (pow_pos' y.toNat) h2
  have m1 := pow_mono (show r.toNat ≤ y.toNat by omega)
  have m2 := pow_mono (show y.toNat ≤ s.toNat by omega)
  have b1 := ediv_anti' (a := p) (pow_pos' r.toNat) m1
  have b2 := ediv_anti' (a := p) (pow_pos' y.toNat) m2
  have b3 := ediv_anti' (a := q) (pow_pos' r.toNat) m1
  have b4 := ediv_anti' (a := q) (pow_pos' y.toNat) m2
  simp only [minL, maxL, List.foldl, imin, imax]
  have d := Int.le_total 0 p
  have e := Int.le_total 0 q
  generalize p / 2 ^ r.toNat = A at *
  generalize p / 2 ^ s.toNat = B at *
  generalize q / 2 ^ r.toNat = C at *
  generalize q / 2 ^ s.toNat = D at *
  generalize p / 2 ^ y.toNat = E at *
  generalize q / 2 ^ y.toNat = F at *
  generalize x / 2 ^ y.toNat = G at *
  clear m1 m2
  grind
theorem shr_any {x p q : Int} (n : Int) (h1 : p ≤ x) (h2 : x ≤ q) : imin p 0 ≤ shrI x n ∧ shrI x n ≤ imax q 0 := by
  unfold shrI
  rw [fdiv_ediv]
  have hp := pow_pos' n.toNat
  have b1 := ediv_anti' (a := x) (c := 1) (d := 2 ^ n.toNat) (by decide) (by omega)
  rw [Int.ediv_one] at b1
  have c1 : 0 ≤ x → 0 ≤ x / 2 ^ n.toNat := fun h => Int.ediv_nonneg h (Int.le_of_lt hp)
  have c2 : x ≤ 0 → x / 2 ^ n.toNat ≤ 0 := fun h => by have := Int.ediv_le_ediv hp h; rwa [Int.zero_ediv] at this
  generalize x / 2 ^ n.toNat = G at *
  clear hp
  unfold imin imax
  grind
/-! ### Remainders, bits -/
theorem tmod_bd' (x : Int) {y : Int} (hy : 0 < y) : (0 ≤ x → 0 ≤ x.tmod y ∧ x.tmod y ≤ x ∧ x.tmod y ≤ y - 1) ∧ (x ≤ 0 → x.tmod y ≤ 0 ∧ x ≤ x.tmod y ∧ -(y - 1) ≤ x.tmod y) := by
  have pos : ∀ z : Int, 0 ≤ z → 0 ≤ z.tmod y ∧ z.tmod y ≤ z ∧ z.tmod y ≤ y - 1 := by
    intro z hz
    rw [Int.tmod_eq_emod_of_nonneg hz]
    have h1 := Int.emod_nonneg z (show y ≠ 0 by omega)
    have h2 := Int.emod_lt_of_pos z hy
    have h3 := Int.emod_add_mul_ediv z y
    have h4 : 0 ≤ y * (z / y) := Int.mul_nonneg (by omega) (Int.ediv_nonneg hz (by omega))
    omega
  refine ⟨pos x, fun h => ?_⟩
  have e : x.tmod y = -((-x).tmod y) := by rw [Int.neg_tmod]; omega
  have := pos (-x) (by omega)
  omega
theorem rem_in {p q s x y : Int} (h1 : p ≤ x) (h2 : x ≤ q) (h3 : 1 ≤ y) (h4 : y ≤ s) : (remI p q s).1 ≤ x.tmod y ∧ x.tmod y ≤ (remI p q s).2 := by
  have hb := tmod_bd' x (show 0 < y by omega)
  unfold remI
  simp only
  unfold imin imax
  grind
theorem bit_nat (op : BinOp) {x y : Int} (hx : 0 ≤ x) (hx' : x ≤ 2147483647) (hy : 0 ≤ y) (hy' : y ≤ 2147483647) :
    bitI .and .i64 x y = ((x.toNat &&& y.toNat : Nat) : Int) ∧ bitI .or .i64 x y = ((x.toNat ||| y.toNat : Nat) : Int) ∧ bitI .xor .i64 x y = ((x.toNat ^^^ y.toNat : Nat) : Int) := by
  have e : ∀ z : Int, 0 ≤ z → z ≤ 2147483647 → (BitVec.ofInt IntKind.i64.bits z).toNat = z.toNat := by
    intro z h h'
    show (BitVec.ofInt 64 z).toNat = _
    rw [BitVec.toNat_ofInt]
    have : ((2 ^ 64 : Nat) : Int) = 18446744073709551616 := by decide
    rw [this]; omega
  have lx : x.toNat < 2 ^ 31 := by have : (2 : Nat) ^ 31 = 2147483648 := by decide
                                   omega
  have ly : y.toNat < 2 ^ 31 := by have : (2 : Nat) ^ 31 = 2147483648 := by decide
                                   omega
  have p31 : (2 : Nat) ^ 31 = 2147483648 := by decide
  refine ⟨?_, ?_, ?_⟩
  · unfold bitI
    simp only [BitVec.toNat_and, e x hx hx', e y hy hy']
    have := Nat.and_lt_two_pow x.toNat ly
    exact w64 (by omega) (by omega)
  · unfold bitI
    simp only [BitVec.toNat_or, e x hx hx', e y hy hy']
    have := Nat.or_lt_two_pow lx ly
    exact w64 (by omega) (by omega)
  · unfold bitI
    simp only [BitVec.toNat_xor, e x hx hx', e y hy hy']
    have := Nat.xor_lt_two_pow lx ly
    exact w64 (by omega) (by omega)
theorem toNat64 {z : Int} (h : 0 ≤ z) (h' : z ≤ 2147483647) : (BitVec.ofInt IntKind.i64.bits z).toNat = z.toNat := by
  show (BitVec.ofInt 64 z).toNat = _
  rw [BitVec.toNat_ofInt]
  have : ((2 ^ 64 : Nat) : Int) = 18446744073709551616 := by decide
  rw [this]; omega
theorem and_left {x : Int} (y : Int) (hx : 0 ≤ x) (hx' : x ≤ 2147483647) : 0 ≤ bitI .and .i64 x y ∧ bitI .and .i64 x y ≤ x := by
  unfold bitI
  simp only [BitVec.toNat_and, toNat64 hx hx']
  have h := @Nat.and_le_left x.toNat (BitVec.ofInt IntKind.i64.bits y).toNat
  rw [w64 (by omega) (by omega)]
  omega
theorem and_right (x : Int) {y : Int} (hy : 0 ≤ y) (hy' : y ≤ 2147483647) : 0 ≤ bitI .and .i64 x y ∧ bitI .and .i64 x y ≤ y := by
  unfold bitI
  simp only [BitVec.toNat_and, toNat64 hy hy']
  have h := @Nat.and_le_right (BitVec.ofInt IntKind.i64.bits x).toNat y.toNat
  rw [w64 (by omega) (by omega)]
  omega
theorem mask_pow' (n : Int) : ∀ (k j : Nat) (m : Int), m + 1 = 2 ^ j → ∃ i : Nat, maskN n k m + 1 = 2 ^ i
  | 0, j, m, h => ⟨j, h⟩
  | k + 1, j, m, h => by
    unfold maskN
    by_cases hlt : m < n
    · rw [if_pos hlt]
      exact mask_pow' n k (j + 1) (2 * m + 1) (by rw [Int.pow_succ, ← h]; omega)
    · rw [if_neg hlt]; exact ⟨j, h⟩
theorem mask_pow (n : Int) : ∃ i : Nat, maskI n + 1 = 2 ^ i := mask_pow' n 32 0 0 (by decide)
theorem mask_hi' (n : Int) (hn : n ≤ 2147483647) : ∀ (k : Nat) (m : Int), 0 ≤ m → (m + 1) * 2 ^ k = 2147483648 → n ≤ maskN n (k + 1) m ∧ 0 ≤ maskN n (k + 1) m ∧ maskN n (k + 1) m ≤ 2147483647
  | 0, m, h0, h => by
    simp at h
    unfold maskN
    have : ¬ m < n := by omega
    rw [if_neg this]
    omega
  | k + 1, m, h0, h => by
    have hp : (1 : Int) ≤ 2 ^ (k + 1) := by have := pow_pos' (k + 1); omega
    have hm : (m + 1) * 1 ≤ (m + 1) * 2 ^ (k + 1) := Int.mul_le_mul_of_nonneg_left hp (by omega)
    unfold maskN
    by_cases hlt : m < n
    · rw [if_pos hlt]
      rw [Int.pow_succ] at h
      have e : (2 * m + 1 + 1) * 2 ^ k = 2147483648 := by rw [← h, Int.mul_comm ((2 : Int) ^ k) 2, ← Int.mul_assoc]; congr 1; omega
      exact mask_hi' n hn k (2 * m + 1) (by omega) e
    · rw [if_neg hlt]; omega
theorem mask_bd {n : Int} (hn : n ≤ 2147483647) : n ≤ maskI n ∧ 0 ≤ maskI n ∧ maskI n ≤ 2147483647 := mask_hi' n hn 31 0 (by decide) (by decide)
theorem orx_mask {x y n : Int} (hx : 0 ≤ x) (hx' : x ≤ n) (hy : 0 ≤ y) (hy' : y ≤ n) (hn : n ≤ 2147483647) :
    (imax x y ≤ bitI .or .i64 x y ∧ bitI .or .i64 x y ≤ maskI n) ∧ (0 ≤ bitI .xor .i64 x y ∧ bitI .xor .i64 x y ≤ maskI n) := by
  obtain ⟨_, e2, e3⟩ := bit_nat .or hx (by omega) hy (by omega)
  obtain ⟨m1, m2, m3⟩ := mask_bd hn
  obtain ⟨i, hi⟩ := mask_pow n
  have e : (((2 : Nat) ^ i : Nat) : Int) = (2 : Int) ^ i := by rw [Int.natCast_pow]; rfl
  have lx : x.toNat < 2 ^ i := by omega
  have ly : y.toNat < 2 ^ i := by omega
  have o1 := Nat.or_lt_two_pow lx ly
  have o2 := Nat.xor_lt_two_pow lx ly
  have o3 := @Nat.left_le_or x.toNat y.toNat
  have o4 := @Nat.right_le_or x.toNat y.toNat
  rw [e2, e3]
  unfold imax
  split <;> omega
theorem inn {a b z : Int} (c : a ≤ z) (d : z ≤ b) (e : -2147483648 ≤ a) (f : b ≤ 2147483647) : hasI a b (wr z) = true := by
  rw [wr_id (by omega) (by omega)]
  simp [hasI, c, d]
theorem nemp {p q r s x y : Int} (h1 : p ≤ x) (h2 : x ≤ q) (h3 : r ≤ y) (h4 : y ≤ s) : ¬ (q < p ∨ s < r) := by omega
theorem d1 {p q r s : Int} (h : ¬ (q < p ∨ s < r)) : doF 1 p q r s = aroundI (p + r) [q + s] := by unfold doF; rw [if_neg h]; rfl
theorem sound1 {p q r s x y : Int} (hp : -2147483648 ≤ p) (h1 : p ≤ x) (h2 : x ≤ q) (hq : q ≤ 2147483647) (hr : -2147483648 ≤ r) (h3 : r ≤ y) (h4 : y ≤ s) (hs : s ≤ 2147483647) : hasI (doF 1 p q r s).1 (doF 1 p q r s).2 (wr (opW 1 x y)) = true := by
  have e := d1 (nemp h1 h2 h3 h4)
  have w : opW 1 x y = x + y := rfl
  rw [e, w]
  exact around_sound (by simp only [minL, List.foldl, imin]; split <;> omega) (by simp only [maxL, List.foldl, imax]; split <;> omega)
theorem d2 {p q r s : Int} (h : ¬ (q < p ∨ s < r)) : doF 2 p q r s = aroundI (p - s) [q - r] := by unfold doF; rw [if_neg h]; rfl
theorem sound2 {p q r s x y : Int} (hp : -2147483648 ≤ p) (h1 : p ≤ x) (h2 : x ≤ q) (hq : q ≤ 2147483647) (hr : -2147483648 ≤ r) (h3 : r ≤ y) (h4 : y ≤ s) (hs : s ≤ 2147483647) : hasI (doF 2 p q r s).1 (doF 2 p q r s).2 (wr (opW 2 x y)) = true := by
  have e := d2 (nemp h1 h2 h3 h4)
  have w : opW 2 x y = x - y := rfl
  rw [e, w]
  exact around_sound (by simp only [minL, List.foldl, imin]; split <;> omega) (by simp only [maxL, List.foldl, imax]; split <;> omega)
theorem d3 {p q r s : Int} (h : ¬ (q < p ∨ s < r)) : doF 3 p q r s = aroundI (p * r) [p * s, q * r, q * s] := by unfold doF; rw [if_neg h]; rfl
theorem sound3 {p q r s x y : Int} (hp : -2147483648 ≤ p) (h1 : p ≤ x) (h2 : x ≤ q) (hq : q ≤ 2147483647) (hr : -2147483648 ≤ r) (h3 : r ≤ y) (h4 : y ≤ s) (hs : s ≤ 2147483647) : hasI (doF 3 p q r s).1 (doF 3 p q r s).2 (wr (opW 3 x y)) = true := by
  have e := d3 (nemp h1 h2 h3 h4)
  have w : opW 3 x y = x * y := rfl
  rw [e, w]
  have m := mul_between h1 h2 h3 h4
  exact around_sound m.1 m.2
theorem d4 {p q r s : Int} (h : ¬ (q < p ∨ s < r)) : doF 4 p q r s = (if 1 ≤ r then aroundI (p.tdiv r) [p.tdiv s, q.tdiv r, q.tdiv s] else allI) := by unfold doF; rw [if_neg h]; rfl
theorem sound4 {p q r s x y : Int} (hp : -2147483648 ≤ p) (h1 : p ≤ x) (h2 : x ≤ q) (hq : q ≤ 2147483647) (hr : -2147483648 ≤ r) (h3 : r ≤ y) (h4 : y ≤ s) (hs : s ≤ 2147483647) : hasI (doF 4 p q r s).1 (doF 4 p q r s).2 (wr (opW 4 x y)) = true := by
  have e := d4 (nemp h1 h2 h3 h4)
  have w : opW 4 x y = (if y = 0 then 0 else x.tdiv y) := rfl
  rw [e, w]
  split
  · rw [if_neg (by omega)]
    have m := div_between h1 h2 h3 h4 (by assumption)
    exact around_sound m.1 m.2
  · exact all_sound _
theorem d5 {p q r s : Int} (h : ¬ (q < p ∨ s < r)) : doF 5 p q r s = (if 1 ≤ r then remI p q s else allI) := by unfold doF; rw [if_neg h]; rfl
theorem sound5 {p q r s x y : Int} (hp : -2147483648 ≤ p) (h1 : p ≤ x) (h2 : x ≤ q) (hq : q ≤ 2147483647) (hr : -2147483648 ≤ r) (h3 : r ≤ y) (h4 : y ≤ s) (hs : s ≤ 2147483647) : hasI (doF 5 p q r s).1 (doF 5 p q r s).2 (wr (opW 5 x y)) = true := by
  have e := d5 (nemp h1 h2 h3 h4)
  have w : opW 5 x y = (if y = 0 then 0 else x.tmod y) := rfl
  rw [e, w]
  split
  · rw [if_neg (by omega)]
    have m := rem_in (s := s) h1 h2 (show 1 ≤ y by omega) h4
    refine inn m.1 m.2 ?_ ?_
    · unfold remI imax; simp only; split <;> (try split) <;> omega
    · unfold remI imin; simp only; split <;> (try split) <;> omega
  · exact all_sound _
theorem d6 {p q r s : Int} (h : ¬ (q < p ∨ s < r)) : doF 6 p q r s = (if 0 ≤ p ∧ 0 ≤ r then (0, imin q s) else if 0 ≤ p then (0, q) else if 0 ≤ r then (0, s) else allI) := by unfold doF; rw [if_neg h]; show bwI 6 p q r s = _; unfold bwI; by_cases a : 0 ≤ p <;> by_cases b : 0 ≤ r <;> simp [a, b]
theorem sound6 {p q r s x y : Int} (hp : -2147483648 ≤ p) (h1 : p ≤ x) (h2 : x ≤ q) (hq : q ≤ 2147483647) (hr : -2147483648 ≤ r) (h3 : r ≤ y) (h4 : y ≤ s) (hs : s ≤ 2147483647) : hasI (doF 6 p q r s).1 (doF 6 p q r s).2 (wr (opW 6 x y)) = true := by
  have e := d6 (nemp h1 h2 h3 h4)
  have w : opW 6 x y = bitI .and .i64 x y := rfl
  rw [e, w]
  by_cases a : 0 ≤ p
  · have l := and_left (x := x) y (by omega) (by omega)
    by_cases b : 0 ≤ r
    · have l' := and_right x (y := y) (by omega) (by omega)
      rw [if_pos ⟨a, b⟩]
      refine inn (by omega) ?_ (by omega) ?_ <;> simp only [imin] <;> split <;> omega
    · rw [if_neg (by omega), if_pos a]
      exact inn (by omega) (by simp only; omega) (by simp) (by simp only; omega)
  · rw [if_neg (by omega), if_neg a]
    by_cases b : 0 ≤ r
    · have l' := and_right x (y := y) (by omega) (by omega)
      rw [if_pos b]
      exact inn (by omega) (by simp only; omega) (by simp) (by simp only; omega)
    · rw [if_neg b]; exact all_sound _
theorem d7 {p q r s : Int} (h : ¬ (q < p ∨ s < r)) : doF 7 p q r s = (if 0 ≤ p ∧ 0 ≤ r then (imax p r, maskI (imax q s)) else allI) := by unfold doF; rw [if_neg h]; show bwI 7 p q r s = _; unfold bwI; by_cases a : 0 ≤ p <;> by_cases b : 0 ≤ r <;> simp [a, b]
theorem sound7 {p q r s x y : Int} (hp : -2147483648 ≤ p) (h1 : p ≤ x) (h2 : x ≤ q) (hq : q ≤ 2147483647) (hr : -2147483648 ≤ r) (h3 : r ≤ y) (h4 : y ≤ s) (hs : s ≤ 2147483647) : hasI (doF 7 p q r s).1 (doF 7 p q r s).2 (wr (opW 7 x y)) = true := by
  have e := d7 (nemp h1 h2 h3 h4)
  have w : opW 7 x y = bitI .or .i64 x y := rfl
  rw [e, w]
  by_cases a : 0 ≤ p ∧ 0 ≤ r
  · rw [if_pos a]
    have n1 : q ≤ imax q s ∧ s ≤ imax q s ∧ imax q s ≤ 2147483647 := by unfold imax; split <;> omega
    have m := (orx_mask (x := x) (y := y) (n := imax q s) (by omega) (by omega) (by omega) (by omega) (by omega)).1
    have b := mask_bd (n := imax q s) (by omega)
    have g : imax p r ≤ imax x y ∧ -2147483648 ≤ imax p r := by unfold imax; split <;> split <;> omega
    exact inn (by simp only; omega) (by simp only; omega) (by simp only; omega) (by simp only; omega)
  · rw [if_neg a]; exact all_sound _
theorem d8 {p q r s : Int} (h : ¬ (q < p ∨ s < r)) : doF 8 p q r s = (if 0 ≤ p ∧ 0 ≤ r then (0, maskI (imax q s)) else allI) := by unfold doF; rw [if_neg h]; show bwI 8 p q r s = _; unfold bwI; by_cases a : 0 ≤ p <;> by_cases b : 0 ≤ r <;> simp [a, b]
theorem sound8 {p q r s x y : Int} (hp : -2147483648 ≤ p) (h1 : p ≤ x) (h2 : x ≤ q) (hq : q ≤ 2147483647) (hr : -2147483648 ≤ r) (h3 : r ≤ y) (h4 : y ≤ s) (hs : s ≤ 2147483647) : hasI (doF 8 p q r s).1 (doF 8 p q r s).2 (wr (opW 8 x y)) = true := by
  have e := d8 (nemp h1 h2 h3 h4)
  have w : opW 8 x y = bitI .xor .i64 x y := rfl
  rw [e, w]
  by_cases a : 0 ≤ p ∧ 0 ≤ r
  · rw [if_pos a]
    have n1 : q ≤ imax q s ∧ s ≤ imax q s ∧ imax q s ≤ 2147483647 := by unfold imax; split <;> omega
    have m := (orx_mask (x := x) (y := y) (n := imax q s) (by omega) (by omega) (by omega) (by omega) (by omega)).2
    have b := mask_bd (n := imax q s) (by omega)
    have g : imax p r ≤ imax x y ∧ -2147483648 ≤ imax p r := by unfold imax; split <;> split <;> omega
    exact inn (by simp only; omega) (by simp only; omega) (by simp only; omega) (by simp only; omega)
  · rw [if_neg a]; exact all_sound _
theorem d9 {p q r s : Int} (h : ¬ (q < p ∨ s < r)) : doF 9 p q r s = (if r = s ∧ 0 ≤ r ∧ r ≤ 31 ∧ 0 ≤ p ∧ isW (shlI q r) = true then (shlI p r, shlI q r) else allI) := by unfold doF; rw [if_neg h]; rfl
theorem sound9 {p q r s x y : Int} (hp : -2147483648 ≤ p) (h1 : p ≤ x) (h2 : x ≤ q) (hq : q ≤ 2147483647) (hr : -2147483648 ≤ r) (h3 : r ≤ y) (h4 : y ≤ s) (hs : s ≤ 2147483647) : hasI (doF 9 p q r s).1 (doF 9 p q r s).2 (wr (opW 9 x y)) = true := by
  have e := d9 (nemp h1 h2 h3 h4)
  have w : opW 9 x y = shlI x (y % 32) := rfl
  rw [e, w]
  by_cases a : r = s ∧ 0 ≤ r ∧ r ≤ 31 ∧ 0 ≤ p ∧ isW (shlI q r) = true
  · rw [if_pos a]
    obtain ⟨a1, a2, a3, a4, a5⟩ := a
    have e1 : y % 32 = r := by omega
    have b := isW_of a5
    have pp := pow_pos' r.toNat
    rw [e1]
    have m1 : shlI p r ≤ shlI x r := Int.mul_le_mul_of_nonneg_right h1 (by omega)
    have m2 : shlI x r ≤ shlI q r := Int.mul_le_mul_of_nonneg_right h2 (by omega)
    have m3 : 0 ≤ shlI p r := Int.mul_nonneg a4 (by omega)
    exact inn m1 m2 (by simp only; omega) (by simp only; omega)
  · rw [if_neg a]; exact all_sound _
theorem d10 {p q r s : Int} (h : ¬ (q < p ∨ s < r)) : doF 10 p q r s = (if 0 ≤ r ∧ s ≤ 31 then aroundI (shrI p r) [shrI p s, shrI q r, shrI q s] else (imin p 0, imax q 0)) := by unfold doF; rw [if_neg h]; rfl
theorem sound10 {p q r s x y : Int} (hp : -2147483648 ≤ p) (h1 : p ≤ x) (h2 : x ≤ q) (hq : q ≤ 2147483647) (hr : -2147483648 ≤ r) (h3 : r ≤ y) (h4 : y ≤ s) (hs : s ≤ 2147483647) : hasI (doF 10 p q r s).1 (doF 10 p q r s).2 (wr (opW 10 x y)) = true := by
  have e := d10 (nemp h1 h2 h3 h4)
  have w : opW 10 x y = shrI x (y % 32) := rfl
  rw [e, w]
  by_cases a : 0 ≤ r ∧ s ≤ 31
  · rw [if_pos a]
    have e1 : y % 32 = y := by omega
    rw [e1]
    have m := shr_between h1 h2 h3 h4 a.1
    exact around_sound m.1 m.2
  · rw [if_neg a]
    have m := shr_any (y % 32) h1 h2
    refine inn m.1 m.2 ?_ ?_
    · simp only [imin]; split <;> omega
    · simp only [imax]; split <;> omega
theorem truth_sound {a n b : Bool} (h1 : a = true → b = true) (h2 : n = true → b = false) : hasI (truthI a n).1 (truthI a n).2 (wr (trI b)) = true := by
  cases a <;> cases n <;> cases b <;> first | rfl | simp_all
theorem disj_no {p q r s x y : Int} (hp : -2147483648 ≤ p) (h1 : p ≤ x) (h2 : x ≤ q) (hq : q ≤ 2147483647) (hr : -2147483648 ≤ r) (h3 : r ≤ y) (h4 : y ≤ s) (hs : s ≤ 2147483647) (h : disj p q r s = true) : x ≠ y := by
  intro e
  subst e
  have f1 := vI_fix (p := p) (q := q) (.inr ⟨by omega, by omega, by omega⟩)
  have f2 := vI_fix (p := r) (q := s) (.inr ⟨by omega, by omega, by omega⟩)
  unfold disj at h
  rw [f1, f2] at h
  simp only [decide_eq_true_eq] at h
  have : (meetI p q r s).1 ≤ (meetI p q r s).2 := by grind [meetI, madeI, maxL, minL, List.foldl, imax, imin, emptyB]
  omega
theorem eqA_eq {p q r s x y : Int} (h1 : p ≤ x) (h2 : x ≤ q) (h3 : r ≤ y) (h4 : y ≤ s) (h : eqA p q r s = true) : x = y := by
  simp only [eqA, Bool.and_eq_true, beq_iff_eq] at h
  omega
theorem d11 {p q r s : Int} (h : ¬ (q < p ∨ s < r)) : doF 11 p q r s = truthI (decide (q < r)) (decide (s ≤ p)) := by unfold doF; rw [if_neg h]; rfl
theorem sound11 {p q r s x y : Int} (hp : -2147483648 ≤ p) (h1 : p ≤ x) (h2 : x ≤ q) (hq : q ≤ 2147483647) (hr : -2147483648 ≤ r) (h3 : r ≤ y) (h4 : y ≤ s) (hs : s ≤ 2147483647) : hasI (doF 11 p q r s).1 (doF 11 p q r s).2 (wr (opW 11 x y)) = true := by
  have e := d11 (nemp h1 h2 h3 h4)
  have w : opW 11 x y = trI (decide (x < y)) := rfl
  rw [e, w]
  refine truth_sound ?_ ?_ <;> intro h <;> simp only [decide_eq_true_eq, decide_eq_false_iff_not] at h ⊢ <;> omega
theorem d12 {p q r s : Int} (h : ¬ (q < p ∨ s < r)) : doF 12 p q r s = truthI (decide (q ≤ r)) (decide (s < p)) := by unfold doF; rw [if_neg h]; rfl
theorem sound12 {p q r s x y : Int} (hp : -2147483648 ≤ p) (h1 : p ≤ x) (h2 : x ≤ q) (hq : q ≤ 2147483647) (hr : -2147483648 ≤ r) (h3 : r ≤ y) (h4 : y ≤ s) (hs : s ≤ 2147483647) : hasI (doF 12 p q r s).1 (doF 12 p q r s).2 (wr (opW 12 x y)) = true := by
  have e := d12 (nemp h1 h2 h3 h4)
  have w : opW 12 x y = trI (decide (x ≤ y)) := rfl
  rw [e, w]
  refine truth_sound ?_ ?_ <;> intro h <;> simp only [decide_eq_true_eq, decide_eq_false_iff_not] at h ⊢ <;> omega
theorem d13 {p q r s : Int} (h : ¬ (q < p ∨ s < r)) : doF 13 p q r s = truthI (eqA p q r s) (disj p q r s) := by unfold doF; rw [if_neg h]; rfl
theorem sound13 {p q r s x y : Int} (hp : -2147483648 ≤ p) (h1 : p ≤ x) (h2 : x ≤ q) (hq : q ≤ 2147483647) (hr : -2147483648 ≤ r) (h3 : r ≤ y) (h4 : y ≤ s) (hs : s ≤ 2147483647) : hasI (doF 13 p q r s).1 (doF 13 p q r s).2 (wr (opW 13 x y)) = true := by
  have e := d13 (nemp h1 h2 h3 h4)
  have w : opW 13 x y = trI (x == y) := rfl
  rw [e, w]
  refine truth_sound ?_ ?_ <;> intro h
  · simp [eqA_eq h1 h2 h3 h4 h]
  · simp [disj_no hp h1 h2 hq hr h3 h4 hs h]
theorem d14 {p q r s : Int} (h : ¬ (q < p ∨ s < r)) : doF 14 p q r s = truthI (disj p q r s) (eqA p q r s) := by unfold doF; rw [if_neg h]; rfl
theorem sound14 {p q r s x y : Int} (hp : -2147483648 ≤ p) (h1 : p ≤ x) (h2 : x ≤ q) (hq : q ≤ 2147483647) (hr : -2147483648 ≤ r) (h3 : r ≤ y) (h4 : y ≤ s) (hs : s ≤ 2147483647) : hasI (doF 14 p q r s).1 (doF 14 p q r s).2 (wr (opW 14 x y)) = true := by
  have e := d14 (nemp h1 h2 h3 h4)
  have w : opW 14 x y = trI (x != y) := rfl
  rw [e, w]
  refine truth_sound ?_ ?_ <;> intro h
  · simp [disj_no hp h1 h2 hq hr h3 h4 hs h]
  · simp [eqA_eq h1 h2 h3 h4 h]
theorem sound {op p q r s x y : Int} (o1 : 1 ≤ op) (o2 : op ≤ 14) (hp : -2147483648 ≤ p) (h1 : p ≤ x) (h2 : x ≤ q) (hq : q ≤ 2147483647) (hr : -2147483648 ≤ r) (h3 : r ≤ y) (h4 : y ≤ s) (hs : s ≤ 2147483647) :
    hasI (doF op p q r s).1 (doF op p q r s).2 (dow op x y) = true := by
  unfold dow
  rw [if_pos ⟨o1, o2⟩, wr_id (n := x) (by omega) (by omega), wr_id (n := y) (by omega) (by omega)]
  have cs : op = 1 ∨ op = 2 ∨ op = 3 ∨ op = 4 ∨ op = 5 ∨ op = 6 ∨ op = 7 ∨ op = 8 ∨ op = 9 ∨ op = 10 ∨ op = 11 ∨ op = 12 ∨ op = 13 ∨ op = 14 := by omega
  rcases cs with rfl | rfl | rfl | rfl | rfl | rfl | rfl | rfl | rfl | rfl | rfl | rfl | rfl | rfl
  · exact sound1 hp h1 h2 hq hr h3 h4 hs
  · exact sound2 hp h1 h2 hq hr h3 h4 hs
  · exact sound3 hp h1 h2 hq hr h3 h4 hs
  · exact sound4 hp h1 h2 hq hr h3 h4 hs
  · exact sound5 hp h1 h2 hq hr h3 h4 hs
  · exact sound6 hp h1 h2 hq hr h3 h4 hs
  · exact sound7 hp h1 h2 hq hr h3 h4 hs
  · exact sound8 hp h1 h2 hq hr h3 h4 hs
  · exact sound9 hp h1 h2 hq hr h3 h4 hs
  · exact sound10 hp h1 h2 hq hr h3 h4 hs
  · exact sound11 hp h1 h2 hq hr h3 h4 hs
  · exact sound12 hp h1 h2 hq hr h3 h4 hs
  · exact sound13 hp h1 h2 hq hr h3 h4 hs
  · exact sound14 hp h1 h2 hq hr h3 h4 hs
theorem around_bd (x : Int) (ys : List Int) : -2147483648 ≤ (aroundI x ys).1 ∧ (aroundI x ys).2 ≤ 2147483647 := by
  unfold aroundI
  split
  · rename_i h
    simp only [Bool.and_eq_true] at h
    exact ⟨(isW_of h.1).1, (isW_of h.2).2⟩
  · exact ⟨by decide, by decide⟩
theorem do_bd {op p q r s : Int} (o1 : 1 ≤ op) (o2 : op ≤ 14) (hp : -2147483648 ≤ p) (hq : q ≤ 2147483647) (hr : -2147483648 ≤ r) (hs : s ≤ 2147483647) (h1 : p ≤ q) (h2 : r ≤ s) : -2147483648 ≤ (doF op p q r s).1 ∧ (doF op p q r s).2 ≤ 2147483647 := by
  have n1 : q ≤ imax q s ∧ s ≤ imax q s ∧ imax q s ≤ 2147483647 := by unfold imax; split <;> omega
  have b := mask_bd (n := imax q s) (by omega)
  have g : -2147483648 ≤ imax p r := by unfold imax; split <;> omega
  have g2 : imin q s ≤ 2147483647 := by unfold imin; split <;> omega
  have g3 : -2147483648 ≤ imin p 0 ∧ imax q 0 ≤ 2147483647 := by unfold imin imax; constructor <;> split <;> omega
  have g4 : 1 ≤ r → -2147483648 ≤ (remI p q s).1 ∧ (remI p q s).2 ≤ 2147483647 := by
    intro h
    unfold remI imax imin
    simp only
    constructor <;> split <;> (try split) <;> omega
  have ne : ¬ (q < p ∨ s < r) := by omega
  have al : -2147483648 ≤ allI.1 ∧ allI.2 ≤ 2147483647 := ⟨by decide, by decide⟩
  have tr : ∀ a n : Bool, -2147483648 ≤ (truthI a n).1 ∧ (truthI a n).2 ≤ 2147483647 := by intro a n; cases a <;> cases n <;> decide
  have cs : op = 1 ∨ op = 2 ∨ op = 3 ∨ op = 4 ∨ op = 5 ∨ op = 6 ∨ op = 7 ∨ op = 8 ∨ op = 9 ∨ op = 10 ∨ op = 11 ∨ op = 12 ∨ op = 13 ∨ op = 14 := by omega
  rcases cs with rfl | rfl | rfl | rfl | rfl | rfl | rfl | rfl | rfl | rfl | rfl | rfl | rfl | rfl
  · rw [d1 ne]; exact around_bd _ _
  · rw [d2 ne]; exact around_bd _ _
  · rw [d3 ne]; exact around_bd _ _
  · rw [d4 ne]; split
    · exact around_bd _ _
    · exact al
  · rw [d5 ne]; split
    · exact g4 (by assumption)
    · exact al
  · rw [d6 ne]; split
    · simp only; omega
    · split
      · simp only; omega
      · split
        · simp only; omega
        · exact al
  · rw [d7 ne]; split
    · simp only; omega
    · exact al
  · rw [d8 ne]; split
    · simp only; omega
    · exact al
  · rw [d9 ne]; split
    · rename_i h
      have := isW_of h.2.2.2.2
      have k : 0 ≤ shlI p r := Int.mul_nonneg h.2.2.2.1 (by have := pow_pos' r.toNat; omega)
      simp only; omega
    · exact al
  · rw [d10 ne]; split
    · exact around_bd _ _
    · simp only; omega
  · rw [d11 ne]; exact tr _ _
  · rw [d12 ne]; exact tr _ _
  · rw [d13 ne]; exact tr _ _
  · rw [d14 ne]; exact tr _ _
theorem do_none (op : Int) {p q r s : Int} (h : (p = 1 ∧ q = 0) ∨ (r = 1 ∧ s = 0)) : doF op p q r s = (1, 0) := by
  unfold doF; rw [if_pos (by omega)]
theorem hasI_le {a b n : Int} (h : hasI a b n = true) : a ≤ n ∧ n ≤ b := by simpa [hasI] using h
theorem do_vI {op p q r s : Int} (o1 : 1 ≤ op) (o2 : op ≤ 14) (h1 : vI p q) (h2 : vI r s) : vI (doF op p q r s).1 (doF op p q r s).2 := by
  rcases h1 with ⟨rfl, rfl⟩ | ⟨a1, a2, a3⟩
  · rw [do_none op (.inl ⟨rfl, rfl⟩)]; exact .inl ⟨rfl, rfl⟩
  · rcases h2 with ⟨rfl, rfl⟩ | ⟨b1, b2, b3⟩
    · rw [do_none op (.inr ⟨rfl, rfl⟩)]; exact .inl ⟨rfl, rfl⟩
    · have k := hasI_le (sound (x := p) (y := r) o1 o2 a1 (by omega) a2 a3 b1 (by omega) b2 b3)
      have b := do_bd o1 o2 a1 a3 b1 b3 a2 b2
      exact .inr ⟨b.1, by omega, b.2⟩
theorem in_mod {lo hi : Int} (n : Int) (h : lo ≤ hi) : lo ≤ lo + n % (hi - lo + 1) ∧ lo + n % (hi - lo + 1) ≤ hi := by
  have m1 := Int.emod_nonneg n (show hi - lo + 1 ≠ 0 by omega)
  have m2 := Int.emod_lt_of_pos n (show 0 < hi - lo + 1 by omega)
  omega
theorem sound_vI {op p q r s : Int} (o1 : 1 ≤ op) (o2 : op ≤ 14) (h1 : vI p q) (h2 : vI r s) (n1 : ¬ (p = 1 ∧ q = 0)) (n2 : ¬ (r = 1 ∧ s = 0)) (m n : Int) :
    hasI (doF op p q r s).1 (doF op p q r s).2 (dow op (p + m % (q - p + 1)) (r + n % (s - r + 1))) = true := by
  rcases h1 with h1 | ⟨a1, a2, a3⟩
  · exact absurd h1 n1
  rcases h2 with h2 | ⟨b1, b2, b3⟩
  · exact absurd h2 n2
  have i1 := in_mod m a2
  have i2 := in_mod n b2
  exact sound o1 o2 a1 i1.1 i1.2 a3 b1 i2.1 i2.2 b3
theorem valid_vI {p q : Int} (h : vI p q) : validI p q = true := by
  unfold vI at h
  simp only [validI, isW, Bool.or_eq_true, Bool.and_eq_true, beq_iff_eq, decide_eq_true_eq]
  omega
end Go.Proofs.Ytbcoanbjhbppcaa
