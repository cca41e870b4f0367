/- Parts of the proof. No condition. -/
import Derived.Test.YtkageldgmkajbaaQ5
import Derived.Lib.AppendZeros
set_option linter.unusedVariables false
set_option linter.unusedSimpArgs false
set_option linter.unusedSectionVars false
namespace Go.Proofs.Ytkageldgmkajbaa
open Go.RowKit
structure WkF (x : Frc) : Prop where
  n0 : -1152921504606846976 ≤ x.num
  n1 : x.num ≤ 1152921504606846976
  d0 : 0 ≤ x.den
  d1 : x.den ≤ 1152921504606846976
theorem redF_wk (neg : Bool) (n d : Nat) : WkF (redF neg n d) := by
  unfold redF
  split
  · exact ⟨by decide, by decide, by decide, by decide⟩
  · split
    · rename_i h
      obtain ⟨h1, h2⟩ := h
      generalize n / Nat.gcd n d = p, d / Nat.gcd n d = q at *
      cases neg
      · exact ⟨by simp only [Bool.false_eq_true, if_false]; omega, by simp only [Bool.false_eq_true, if_false]; omega, by simp only; omega, by simp only; omega⟩
      · exact ⟨by simp only [if_true]; omega, by simp only [if_true]; omega, by simp only; omega, by simp only; omega⟩
    · exact ⟨by decide, by decide, by decide, by decide⟩
def mulF (x y : Frc) : Frc := redF (decide (x.num < 0) != decide (y.num < 0)) (x.num.natAbs * y.num.natAbs) (x.den.toNat * y.den.toNat)
def mulE (x y : Frc) : Int := redE (x.num.natAbs * y.num.natAbs) (x.den.toNat * y.den.toNat)
def divF (x y : Frc) : Frc := if y.num = 0 then ⟨0, 0⟩ else redF (decide (x.num < 0) != decide (y.num < 0)) (x.num.natAbs * y.den.toNat) (x.den.toNat * y.num.natAbs)
def divE (x y : Frc) : Int := if y.num = 0 then 36 else redE (x.num.natAbs * y.den.toNat) (x.den.toNat * y.num.natAbs)
def addA (x y : Frc) : Nat := x.num.natAbs * y.den.toNat
def addF (x y : Frc) : Frc := if decide (x.num < 0) = decide (y.num < 0) then redF (decide (x.num < 0)) (addA x y + addA y x) (x.den.toNat * y.den.toNat)
  else if addA x y < addA y x then redF (decide (y.num < 0)) (addA y x - addA x y) (x.den.toNat * y.den.toNat) else redF (decide (x.num < 0)) (addA x y - addA y x) (x.den.toNat * y.den.toNat)
def addE (x y : Frc) : Int := if decide (x.num < 0) = decide (y.num < 0) then redE (addA x y + addA y x) (x.den.toNat * y.den.toNat)
  else if addA x y < addA y x then redE (addA y x - addA x y) (x.den.toNat * y.den.toNat) else redE (addA x y - addA y x) (x.den.toNat * y.den.toNat)
def negF (x : Frc) : Frc := ⟨-x.num, x.den⟩
theorem negF_wk {x : Frc} (h : WkF x) : WkF (negF x) := ⟨by have := h.n1; show _ ≤ -x.num; omega, by have := h.n0; show -x.num ≤ _; omega, h.d0, h.d1⟩
def subF (x y : Frc) : Frc := addF x (negF y)
def subE (x y : Frc) : Int := addE x (negF y)
def cmpF (x y : Frc) : Int := if decide (x.num < 0) = decide (y.num < 0) then (if x.num < 0 then (if addA y x < addA x y then -1 else if addA y x = addA x y then 0 else 1) else (if addA x y < addA y x then -1 else if addA x y = addA y x then 0 else 1)) else if x.num < 0 then -1 else 1
theorem mulF_wk (x y : Frc) : WkF (mulF x y) := redF_wk _ _ _
theorem divF_wk (x y : Frc) : WkF (divF x y) := by
  unfold divF
  split
  · exact ⟨by decide, by decide, by decide, by decide⟩
  · exact redF_wk _ _ _
theorem addF_wk (x y : Frc) : WkF (addF x y) := by
  unfold addF
  split
  · exact redF_wk _ _ _
  · split <;> exact redF_wk _ _ _
theorem subF_wk (x y : Frc) : WkF (subF x y) := addF_wk _ _
theorem m60 {a b : Nat} (ha : a ≤ 1152921504606846976) (hb : b ≤ 1152921504606846976) : a * b ≤ 1329227995784915872903807060280344576 := Nat.mul_le_mul ha hb
theorem wk_dec {x : Frc} (h : WkF x) : ∃ (d : Nat), x.den = (d : Int) ∧ d ≤ 1152921504606846976 ∧ x.num.natAbs ≤ 1152921504606846976 := ⟨x.den.toNat, by have := h.d0; omega, by have := h.d1; omega, by have := h.n0; have := h.n1; omega⟩
theorem w_eq {m n : Nat} : (wh m = wh n ∧ wl m = wl n) ↔ m = n := by unfold wh wl; omega
attribute [local irreducible] wh wl bitI redF redE
set_option maxHeartbeats 8000000 in
theorem f_Mul (x y : Frc) (hx : WkF x) (hy : WkF y) : Trip Try.prog 54 [.agg [.int .i64 x.num, .int .i64 x.den], .agg [.int .i64 y.num, .int .i64 y.den]] ⟨[], [], 0⟩ (Z := Unit) (fun _ => True) (fun _ => .tup [.agg [.int .i64 (mulF x y).num, .int .i64 (mulF x y).den], .int .i64 (mulE x y)]) (fun _ => ⟨[], [], 0⟩) := by
  unfold mulF mulE
  obtain ⟨a, b⟩ := x
  obtain ⟨c, d⟩ := y
  obtain ⟨b', rfl, hb1, ha1⟩ := wk_dec hx
  obtain ⟨d', rfl, hd1, hc1⟩ := wk_dec hy
  obtain ⟨a0, a1, _, _⟩ := hx
  obtain ⟨c0, c1, _, _⟩ := hy
  dsimp only at *
  simp only [Int.toNat_natCast]
  have m1 := m60 ha1 hc1
  have m2 := m60 hb1 hd1
  refine trip_by (rs := [_, _]) 400 lay_ok Try.func54 rfl (by kernel_rfl) Try.ntmps54 Try.results54 rfl rfl ?_
  repeat' (first | (((with_reducible refine g_id ?_); (conv => arg 3; whnf)); first | (with_reducible refine g_fin ?_ ?_) | (refine g_call lay_ok 400 ?_ ?_ ?_ (f_size ?_ ?_ ?_) rfl) | (refine g_call lay_ok 400 ?_ ?_ ?_ (f_mul ?_ ?_ ?_ ?_) rfl) | (refine g_call lay_ok 400 ?_ ?_ ?_ (f_red ?_ ?_ ?_ ?_ ?_) rfl) | (refine g_flow 1 lay_ok mixed_ok 400 19935744 [0, 1, 3, 0, 8, 24, 63, 0, 128, 384, 0, 1024, 3968, 8064, 0, 16384, 49152, 0, 131072, 393216, 1048448, 2097151, 4194303, 4194303, 16777215, 33554431] (.q 0 (.q 1 (.q 2 (.q 3 (.q 4 (.q 5 (.q 6 (.q 7 (.q 8 (.q 10 (.q 11 (.q 14 (.q 15 (.q 16 (.q 17 (.q 18 (.q 19 (.e 9 [0, 1, 2, 3, 4, 5, 6, 10, 11, 14, 15, 16, 17, 18, 19] (.e 12 [0, 1, 2, 3, 4, 5, 6, 14, 15, 16, 17, 18, 19] (.e 13 [0, 1, 2, 3, 4, 5, 6, 14, 15, 16, 17, 18, 19] (.e 20 [0, 1, 2, 3, 4, 5, 6] (.e 21 [] (.q 22 (.q 23 (.e 24 [] (.q 25 .fin) .stop))) .stop) .stop) .stop) .stop) .stop)))))))))))))))))) (by kernel_rfl) ?_ ?_)) | (((with_reducible refine w_id ?_); (conv => arg 4; whnf)); first | (with_reducible refine w_fin ?_ ?_) | (with_reducible refine w_tt ?_) | (with_reducible refine w_eff lay_ok 400 ?_ rfl rfl ?_ ?_)) | (with_reducible refine q_flow ?_ ?_) | ((with_reducible refine h_id ?_); (conv => arg 1; whnf); (with_reducible refine s_some ?_)) | (with_reducible exact o_nil) | ((with_reducible refine o_id ?_); (conv => arg 1; whnf); first | (with_reducible exact o_nil) | (with_reducible refine o_cons ?_ ?_)) | (intro h; ((try simp only [Int.toNat_natCast] at h); repeat (first | replace h := of_decide_eq_true h | fail)); (try (first | contradiction | fail))) | omega | rfl | fail)
  all_goals (((with_reducible refine e_id ?_); (conv => whnf)); refine ⟨(), trivial, ?_⟩; ((with_reducible refine s_id ?_); (conv => arg 1; whnf); (with_reducible refine s_some ?_); repeat' (first | ((with_reducible refine o_id ?_); (conv => arg 1; whnf); first | (with_reducible exact o_nil) | (with_reducible refine o_cons ?_ ?_)) | rfl | fail)))
set_option maxHeartbeats 8000000 in
theorem f_Div (x y : Frc) (hx : WkF x) (hy : WkF y) : Trip Try.prog 52 [.agg [.int .i64 x.num, .int .i64 x.den], .agg [.int .i64 y.num, .int .i64 y.den]] ⟨[], [], 0⟩ (Z := Unit) (fun _ => True) (fun _ => .tup [.agg [.int .i64 (divF x y).num, .int .i64 (divF x y).den], .int .i64 (divE x y)]) (fun _ => ⟨[], [], 0⟩) := by
  unfold divF divE
  obtain ⟨a, b⟩ := x
  obtain ⟨c, d⟩ := y
  obtain ⟨b', rfl, hb1, ha1⟩ := wk_dec hx
  obtain ⟨d', rfl, hd1, hc1⟩ := wk_dec hy
  obtain ⟨a0, a1, _, _⟩ := hx
  obtain ⟨c0, c1, _, _⟩ := hy
  dsimp only at *
  simp only [Int.toNat_natCast]
  have m1 := m60 ha1 hc1
  have m2 := m60 hb1 hd1
  have m3 := m60 ha1 hd1
  have m4 := m60 hb1 hc1
  have m5 := m60 hc1 hb1
  by_cases hc : c = 0
  · rw [if_pos hc, if_pos hc]
    refine trip_by (rs := [_, _]) 400 lay_ok Try.func52 rfl (by kernel_rfl) Try.ntmps52 Try.results52 rfl rfl ?_
    repeat' (first | (((with_reducible refine g_id ?_); (conv => arg 3; whnf)); first | (with_reducible refine g_cond lay_ok 400 ?_ ?_ ?_) | (with_reducible refine g_fin ?_ ?_) | fail) | ((with_reducible refine o_id ?_); (conv => arg 1; whnf); first | (with_reducible exact o_nil) | fail) | (intro h; ((try simp only [Int.toNat_natCast] at h); repeat (first | replace h := of_decide_eq_true h | replace h := of_decide_eq_false h | fail)); (try (first | contradiction | fail))) | fail)
    all_goals (((with_reducible refine e_id ?_); (conv => whnf)); refine ⟨(), trivial, ?_⟩; ((with_reducible refine s_id ?_); (conv => arg 1; whnf); (with_reducible refine s_some ?_); repeat' (first | ((with_reducible refine o_id ?_); (conv => arg 1; whnf); first | (with_reducible exact o_nil) | (with_reducible refine o_cons ?_ ?_)) | rfl | fail)))
  · rw [if_neg hc, if_neg hc]
    refine trip_by (rs := [_, _]) 400 lay_ok Try.func52 rfl (by kernel_rfl) Try.ntmps52 Try.results52 rfl rfl ?_
    repeat' (first | (((with_reducible refine g_id ?_); (conv => arg 3; whnf)); first | (with_reducible refine g_cond lay_ok 400 ?_ ?_ ?_) | (with_reducible refine g_fin ?_ ?_) | (refine g_call lay_ok 400 ?_ ?_ ?_ (f_size ?_ ?_ ?_) rfl) | (refine g_call lay_ok 400 ?_ ?_ ?_ (f_mul ?_ ?_ ?_ ?_) rfl) | (refine g_call lay_ok 400 ?_ ?_ ?_ (f_red ?_ ?_ ?_ ?_ ?_) rfl) | (refine g_flow 3 lay_ok mixed_ok 400 20455936 [0, 1, 3, 0, 8, 24, 63, 0, 128, 384, 0, 1024, 3072, 8064, 0, 16384, 49152, 0, 131072, 409472, 1048448, 2097151, 4194303, 4194303, 16777215, 33554431] (.q 0 (.q 1 (.q 2 (.q 3 (.q 4 (.q 5 (.q 6 (.q 7 (.q 8 (.q 10 (.q 11 (.q 12 (.q 14 (.q 15 (.q 16 (.q 17 (.q 18 (.e 9 [0, 1, 2, 3, 4, 5, 6, 10, 11, 12, 14, 15, 16, 17, 18] (.e 13 [0, 1, 2, 3, 4, 5, 6, 14, 15, 16, 17, 18] (.e 19 [0, 1, 2, 3, 4, 5, 6, 14, 15, 16] (.e 20 [0, 1, 2, 3, 4, 5, 6] (.e 21 [] (.q 22 (.q 23 (.e 24 [] (.q 25 .fin) .stop))) .stop) .stop) .stop) .stop) .stop)))))))))))))))))) (by kernel_rfl) ?_ ?_)) | (((with_reducible refine w_id ?_); (conv => arg 4; whnf)); first | (with_reducible refine w_fin ?_ ?_) | (with_reducible refine w_tt ?_) | (with_reducible refine w_eff lay_ok 400 ?_ rfl rfl ?_ ?_)) | (with_reducible refine q_flow ?_ ?_) | ((with_reducible refine h_id ?_); (conv => arg 1; whnf); (with_reducible refine s_some ?_)) | (with_reducible exact o_nil) | ((with_reducible refine o_id ?_); (conv => arg 1; whnf); first | (with_reducible exact o_nil) | (with_reducible refine o_cons ?_ ?_)) | (intro h; ((try simp only [Int.toNat_natCast] at h); repeat (first | replace h := of_decide_eq_true h | replace h := of_decide_eq_false h | fail)); (try (first | contradiction | fail))) | omega | rfl | fail)
    all_goals (((with_reducible refine e_id ?_); (conv => whnf)); refine ⟨(), trivial, ?_⟩; ((with_reducible refine s_id ?_); (conv => arg 1; whnf); (with_reducible refine s_some ?_); repeat' (first | ((with_reducible refine o_id ?_); (conv => arg 1; whnf); first | (with_reducible exact o_nil) | (with_reducible refine o_cons ?_ ?_)) | rfl | fail)))
set_option maxHeartbeats 8000000 in
theorem f_Add (x y : Frc) (hx : WkF x) (hy : WkF y) : Trip Try.prog 44 [.agg [.int .i64 x.num, .int .i64 x.den], .agg [.int .i64 y.num, .int .i64 y.den]] ⟨[], [], 0⟩ (Z := Unit) (fun _ => True) (fun _ => .tup [.agg [.int .i64 (addF x y).num, .int .i64 (addF x y).den], .int .i64 (addE x y)]) (fun _ => ⟨[], [], 0⟩) := by
  unfold addF addE addA
  obtain ⟨a, b⟩ := x
  obtain ⟨c, d⟩ := y
  obtain ⟨b', rfl, hb1, ha1⟩ := wk_dec hx
  obtain ⟨d', rfl, hd1, hc1⟩ := wk_dec hy
  obtain ⟨a0, a1, _, _⟩ := hx
  obtain ⟨c0, c1, _, _⟩ := hy
  dsimp only at *
  simp only [Int.toNat_natCast]
  have m1 := m60 ha1 hc1
  have m2 := m60 hb1 hd1
  have m3 := m60 ha1 hd1
  have m4 := m60 hb1 hc1
  have m5 := m60 hc1 hb1
  by_cases hs : decide (a < 0) = decide (c < 0)
  · rw [if_pos hs, if_pos hs]
    refine trip_by (rs := [_, _]) 400 lay_ok Try.func44 rfl (by kernel_rfl) Try.ntmps44 Try.results44 rfl rfl ?_
    repeat' (first | (((with_reducible refine g_id ?_); (conv => arg 3; whnf)); first | (with_reducible refine g_cond lay_ok 400 ?_ ?_ ?_) | (with_reducible refine g_fin ?_ ?_) | (refine g_call lay_ok 400 ?_ ?_ ?_ (f_mul ?_ ?_ ?_ ?_) rfl) | (refine g_call lay_ok 400 ?_ ?_ ?_ (f_red ?_ ?_ ?_ ?_ ?_) rfl) | (refine g_call lay_ok 400 ?_ ?_ ?_ (f_add ?_ ?_ ?_ ?_ ?_) rfl) | (refine g_draw lay_ok mixed_ok 400 16 [0, 1, 2, 3, 4, 5, 6, 7, 8, 9, 10, 11, 12, 13, 14, 15] rfl (by kernel_rfl) ?_ ?_) | (refine g_flow 4 lay_ok mixed_ok 400 1184 [0, 1, 3, 0, 0, 24, 0, 127, 255, 255, 1023, 2047] (.q 0 (.q 1 (.q 2 (.q 3 (.q 4 (.q 6 (.e 5 [0, 1, 2, 6] (.e 7 [] (.q 8 (.q 9 (.e 10 [] (.q 11 .fin) .stop))) .stop) .stop))))))) (by kernel_rfl) ?_ ?_) | fail) | (((with_reducible refine d_id ?_); (conv => arg 5; whnf)); first | (with_reducible refine d_fin ?_ ?_) | (refine d_call lay_ok 400 ?_ ?_ ?_ (f_size ?_ ?_ ?_) rfl rfl) | (refine d_call lay_ok 400 ?_ ?_ ?_ (f_mul ?_ ?_ ?_ ?_) rfl rfl) | fail) | (((with_reducible refine w_id ?_); (conv => arg 4; whnf)); first | (with_reducible refine w_fin ?_ ?_) | (with_reducible refine w_tt ?_) | (with_reducible refine w_eff lay_ok 400 ?_ rfl rfl ?_ ?_)) | (with_reducible refine q_flow ?_ ?_) | ((with_reducible refine h_id ?_); (conv => arg 1; whnf); (with_reducible refine s_some ?_)) | (with_reducible exact o_nil) | ((with_reducible refine o_id ?_); (conv => arg 1; whnf); first | (with_reducible exact o_nil) | (with_reducible refine o_cons ?_ ?_)) | (intro h; ((try simp only [Int.toNat_natCast] at h); repeat (first | replace h := of_decide_eq_true h | replace h := of_decide_eq_false h | fail)); (try (first | contradiction | fail))) | omega | rfl | fail)
    all_goals (((with_reducible refine e_id ?_); (conv => whnf)); refine ⟨(), trivial, ?_⟩; ((with_reducible refine s_id ?_); (conv => arg 1; whnf); (with_reducible refine s_some ?_); repeat' (first | ((with_reducible refine o_id ?_); (conv => arg 1; whnf); first | (with_reducible exact o_nil) | (with_reducible refine o_cons ?_ ?_)) | rfl | fail)))
  · rw [if_neg hs, if_neg hs]
    by_cases hl : a.natAbs * d' < c.natAbs * b'
    · rw [if_pos hl, if_pos hl]
      refine trip_by (rs := [_, _]) 400 lay_ok Try.func44 rfl (by kernel_rfl) Try.ntmps44 Try.results44 rfl rfl ?_
      repeat' (first | (((with_reducible refine g_id ?_); (conv => arg 3; whnf)); first | (with_reducible refine g_cond lay_ok 400 ?_ ?_ ?_) | (with_reducible refine g_fin ?_ ?_) | (refine g_call lay_ok 400 ?_ ?_ ?_ (f_mul ?_ ?_ ?_ ?_) rfl) | (refine g_call lay_ok 400 ?_ ?_ ?_ (f_red ?_ ?_ ?_ ?_ ?_) rfl) | (refine g_call lay_ok 400 ?_ ?_ ?_ (f_sub ?_ ?_ ?_ ?_ ?_) rfl) | (refine g_call lay_ok 400 ?_ ?_ ?_ (f_less ?_ ?_ ?_ ?_) rfl) | (refine g_draw lay_ok mixed_ok 400 16 [0, 1, 2, 3, 4, 5, 6, 7, 8, 9, 10, 11, 12, 13, 14, 15] rfl (by kernel_rfl) ?_ ?_) | (refine g_flow 6 lay_ok mixed_ok 400 1184 [0, 1, 3, 0, 0, 24, 0, 127, 255, 255, 1023, 2047] (.q 0 (.q 1 (.q 2 (.q 3 (.q 4 (.q 6 (.e 5 [0, 1, 2, 6] (.e 7 [] (.q 8 (.q 9 (.e 10 [] (.q 11 .fin) .stop))) .stop) .stop))))))) (by kernel_rfl) ?_ ?_) | fail) | (((with_reducible refine d_id ?_); (conv => arg 5; whnf)); first | (with_reducible refine d_fin ?_ ?_) | (refine d_call lay_ok 400 ?_ ?_ ?_ (f_size ?_ ?_ ?_) rfl rfl) | (refine d_call lay_ok 400 ?_ ?_ ?_ (f_mul ?_ ?_ ?_ ?_) rfl rfl) | fail) | (((with_reducible refine w_id ?_); (conv => arg 4; whnf)); first | (with_reducible refine w_fin ?_ ?_) | (with_reducible refine w_tt ?_) | (with_reducible refine w_eff lay_ok 400 ?_ rfl rfl ?_ ?_)) | (with_reducible refine q_flow ?_ ?_) | ((with_reducible refine h_id ?_); (conv => arg 1; whnf); (with_reducible refine s_some ?_)) | (with_reducible exact o_nil) | ((with_reducible refine o_id ?_); (conv => arg 1; whnf); first | (with_reducible exact o_nil) | (with_reducible refine o_cons ?_ ?_)) | (intro h; ((try simp only [Int.toNat_natCast] at h); repeat (first | replace h := of_decide_eq_true h | replace h := of_decide_eq_false h | fail)); (try (first | contradiction | fail))) | omega | rfl | fail)
      all_goals (((with_reducible refine e_id ?_); (conv => whnf)); refine ⟨(), trivial, ?_⟩; ((with_reducible refine s_id ?_); (conv => arg 1; whnf); (with_reducible refine s_some ?_); repeat' (first | ((with_reducible refine o_id ?_); (conv => arg 1; whnf); first | (with_reducible exact o_nil) | (with_reducible refine o_cons ?_ ?_)) | rfl | fail)))
    · rw [if_neg hl, if_neg hl]
      refine trip_by (rs := [_, _]) 400 lay_ok Try.func44 rfl (by kernel_rfl) Try.ntmps44 Try.results44 rfl rfl ?_
      repeat' (first | (((with_reducible refine g_id ?_); (conv => arg 3; whnf)); first | (with_reducible refine g_cond lay_ok 400 ?_ ?_ ?_) | (with_reducible refine g_fin ?_ ?_) | (refine g_call lay_ok 400 ?_ ?_ ?_ (f_mul ?_ ?_ ?_ ?_) rfl) | (refine g_call lay_ok 400 ?_ ?_ ?_ (f_red ?_ ?_ ?_ ?_ ?_) rfl) | (refine g_call lay_ok 400 ?_ ?_ ?_ (f_sub ?_ ?_ ?_ ?_ ?_) rfl) | (refine g_call lay_ok 400 ?_ ?_ ?_ (f_less ?_ ?_ ?_ ?_) rfl) | (refine g_draw lay_ok mixed_ok 400 16 [0, 1, 2, 3, 4, 5, 6, 7, 8, 9, 10, 11, 12, 13, 14, 15] rfl (by kernel_rfl) ?_ ?_) | (refine g_flow 7 lay_ok mixed_ok 400 1184 [0, 1, 3, 0, 0, 24, 0, 127, 255, 255, 1023, 2047] (.q 0 (.q 1 (.q 2 (.q 3 (.q 4 (.q 6 (.e 5 [0, 1, 2, 6] (.e 7 [] (.q 8 (.q 9 (.e 10 [] (.q 11 .fin) .stop))) .stop) .stop))))))) (by kernel_rfl) ?_ ?_)) | (((with_reducible refine d_id ?_); (conv => arg 5; whnf)); first | (with_reducible refine d_fin ?_ ?_) | (refine d_call lay_ok 400 ?_ ?_ ?_ (f_size ?_ ?_ ?_) rfl rfl) | (refine d_call lay_ok 400 ?_ ?_ ?_ (f_mul ?_ ?_ ?_ ?_) rfl rfl) | fail) | (((with_reducible refine w_id ?_); (conv => arg 4; whnf)); first | (with_reducible refine w_fin ?_ ?_) | (with_reducible refine w_tt ?_) | (with_reducible refine w_eff lay_ok 400 ?_ rfl rfl ?_ ?_)) | (with_reducible refine q_flow ?_ ?_) | ((with_reducible refine h_id ?_); (conv => arg 1; whnf); (with_reducible refine s_some ?_)) | (with_reducible exact o_nil) | ((with_reducible refine o_id ?_); (conv => arg 1; whnf); first | (with_reducible exact o_nil) | (with_reducible refine o_cons ?_ ?_)) | (intro h; ((try simp only [Int.toNat_natCast] at h); repeat (first | replace h := of_decide_eq_true h | replace h := of_decide_eq_false h | fail)); (try (first | contradiction | fail))) | omega | rfl | fail)
      all_goals (((with_reducible refine e_id ?_); (conv => whnf)); refine ⟨(), trivial, ?_⟩; ((with_reducible refine s_id ?_); (conv => arg 1; whnf); (with_reducible refine s_some ?_); repeat' (first | ((with_reducible refine o_id ?_); (conv => arg 1; whnf); first | (with_reducible exact o_nil) | (with_reducible refine o_cons ?_ ?_)) | rfl | fail)))
theorem f_Neg (x : Frc) (hx : WkF x) : Trip Try.prog 51 [.agg [.int .i64 x.num, .int .i64 x.den]] ⟨[], [], 0⟩ (Z := Unit) (fun _ => True) (fun _ => .agg [.int .i64 (negF x).num, .int .i64 (negF x).den]) (fun _ => ⟨[], [], 0⟩) := by
  obtain ⟨a, b⟩ := x
  obtain ⟨a0, a1, _, _⟩ := hx
  unfold negF
  dsimp only at *
  refine trip_by (rs := [_]) 400 lay_ok Try.func51 rfl (by kernel_rfl) Try.ntmps51 Try.results51 rfl rfl ?_
  repeat' (first | (((with_reducible refine g_id ?_); (conv => arg 3; whnf)); first | (with_reducible refine g_fin ?_ ?_)) | ((with_reducible refine o_id ?_); (conv => arg 1; whnf); first | (with_reducible exact o_nil) | (with_reducible refine o_cons ?_ ?_)) | omega | fail)
  all_goals (((with_reducible refine e_id ?_); (conv => whnf)); refine ⟨(), trivial, ?_⟩; ((with_reducible refine s_id ?_); (conv => arg 1; whnf); (with_reducible refine s_some ?_); repeat' (first | ((with_reducible refine o_id ?_); (conv => arg 1; whnf); first | (with_reducible exact o_nil) | (with_reducible refine o_cons ?_ ?_)) | rfl | fail)))
attribute [local irreducible] addF addE
set_option maxHeartbeats 8000000 in
theorem f_Sub (x y : Frc) (hx : WkF x) (hy : WkF y) : Trip Try.prog 40 [.agg [.int .i64 x.num, .int .i64 x.den], .agg [.int .i64 y.num, .int .i64 y.den]] ⟨[], [], 0⟩ (Z := Unit) (fun _ => True) (fun _ => .tup [.agg [.int .i64 (subF x y).num, .int .i64 (subF x y).den], .int .i64 (subE x y)]) (fun _ => ⟨[], [], 0⟩) := by
  have hn := negF_wk hy
  unfold subF subE
  refine trip_by (rs := [_, _]) 400 lay_ok Try.func40 rfl (by kernel_rfl) Try.ntmps40 Try.results40 rfl rfl ?_
  repeat' (first | (((with_reducible refine g_id ?_); (conv => arg 3; whnf)); first | (with_reducible refine g_fin ?_ ?_) | (refine g_call lay_ok 400 ?_ ?_ ?_ (f_Neg ?_ ?_) rfl) | (refine g_call lay_ok 400 ?_ ?_ ?_ (f_Add ?_ ?_ ?_ ?_) rfl) | (refine g_flow 1 lay_ok mixed_ok 400 76 [0, 0, 2, 7, 15, 15, 63, 127] (.q 0 (.q 1 (.e 2 [0] (.e 3 [] (.q 4 (.q 5 (.e 6 [] (.q 7 .fin) .stop))) .stop) .stop))) (by kernel_rfl) ?_ ?_)) | (((with_reducible refine w_id ?_); (conv => arg 4; whnf)); first | (with_reducible refine w_fin ?_ ?_) | (with_reducible refine w_tt ?_) | (with_reducible refine w_eff lay_ok 400 ?_ rfl rfl ?_ ?_)) | (with_reducible refine q_flow ?_ ?_) | ((with_reducible refine h_id ?_); (conv => arg 1; whnf); (with_reducible refine s_some ?_)) | (with_reducible exact o_nil) | ((with_reducible refine o_id ?_); (conv => arg 1; whnf); first | (with_reducible exact o_nil) | (with_reducible refine o_cons ?_ ?_)) | (intro h; ((try simp only [Int.toNat_natCast] at h); repeat (first | replace h := of_decide_eq_true h | fail)); (try (first | contradiction | fail))) | omega | rfl | fail)
  all_goals (((with_reducible refine e_id ?_); (conv => whnf)); refine ⟨(), trivial, ?_⟩; ((with_reducible refine s_id ?_); (conv => arg 1; whnf); (with_reducible refine s_some ?_); repeat' (first | ((with_reducible refine o_id ?_); (conv => arg 1; whnf); first | (with_reducible exact o_nil) | (with_reducible refine o_cons ?_ ?_)) | rfl | fail)))
set_option maxHeartbeats 8000000 in
theorem f_Cmp (x y : Frc) (hx : WkF x) (hy : WkF y) : Trip Try.prog 53 [.agg [.int .i64 x.num, .int .i64 x.den], .agg [.int .i64 y.num, .int .i64 y.den]] ⟨[], [], 0⟩ (Z := Unit) (fun _ => True) (fun _ => .int .i64 (cmpF x y)) (fun _ => ⟨[], [], 0⟩) := by
  unfold cmpF addA
  obtain ⟨a, b⟩ := x
  obtain ⟨c, d⟩ := y
  obtain ⟨b', rfl, hb1, ha1⟩ := wk_dec hx
  obtain ⟨d', rfl, hd1, hc1⟩ := wk_dec hy
  obtain ⟨a0, a1, _, _⟩ := hx
  obtain ⟨c0, c1, _, _⟩ := hy
  dsimp only at *
  simp only [Int.toNat_natCast]
  have m1 := m60 ha1 hc1
  have m2 := m60 hb1 hd1
  have m3 := m60 ha1 hd1
  have m4 := m60 hb1 hc1
  have m5 := m60 hc1 hb1
  have Z : ∀ m n : Nat, m ≤ 1329227995784915872903807060280344576 → n ≤ 1329227995784915872903807060280344576 → ((wh m = wh n ∧ wl m = wl n) ↔ m = n) := fun m n h1 h2 => w_eq
  by_cases hs : decide (a < 0) = decide (c < 0)
  · rw [if_pos hs]
    by_cases ha : a < 0
    · rw [if_pos ha]
      refine trip_by (rs := [_]) 400 lay_ok Try.func53 rfl (by kernel_rfl) Try.ntmps53 Try.results53 rfl rfl ?_
      repeat' (first | (((with_reducible refine g_id ?_); (conv => arg 3; whnf)); first | (with_reducible refine g_cond lay_ok 400 ?_ ?_ ?_) | (with_reducible refine g_fin ?_ ?_) | (refine g_call lay_ok 400 ?_ ?_ ?_ (f_less ?_ ?_ ?_ ?_) rfl) | (refine g_draw lay_ok mixed_ok 400 16 [0, 1, 2, 3, 4, 5, 6, 7, 8, 9, 10, 11, 12, 13, 14, 15] rfl (by kernel_rfl) ?_ ?_) | (refine g_ev lay_ok 400 ?_ (e_eqw rfl rfl rfl) rfl rfl rfl ?_)) | (((with_reducible refine d_id ?_); (conv => arg 5; whnf)); first | (with_reducible refine d_fin ?_ ?_) | (refine d_call lay_ok 400 ?_ ?_ ?_ (f_size ?_ ?_ ?_) rfl rfl) | (refine d_call lay_ok 400 ?_ ?_ ?_ (f_mul ?_ ?_ ?_ ?_) rfl rfl) | fail) | (with_reducible exact o_nil) | ((with_reducible refine o_id ?_); (conv => arg 1; whnf); first | (with_reducible exact o_nil) | (with_reducible refine o_cons ?_ ?_)) | (intro h; ((try simp only [Int.toNat_natCast] at h); repeat (first | replace h := of_decide_eq_true h | replace h := of_decide_eq_false h | replace h := not_t h | replace h := not_f h | fail)); (try (first | contradiction | fail))) | omega | rfl | fail)
      all_goals (((with_reducible refine e_id ?_); (conv => whnf)); refine ⟨(), trivial, ?_⟩; ((with_reducible refine s_id ?_); (conv => arg 1; whnf); (with_reducible refine s_some ?_); repeat' (first | ((with_reducible refine o_id ?_); (conv => arg 1; whnf); first | (with_reducible exact o_nil) | (with_reducible refine o_cons ?_ ?_)) | omega | (rw [if_neg (by assumption), if_pos (w_eq.1 (by assumption))]; done) | (rw [if_neg (by assumption), if_neg (fun e => absurd (w_eq.2 e) (by assumption))]; done))))
    · rw [if_neg ha]
      refine trip_by (rs := [_]) 400 lay_ok Try.func53 rfl (by kernel_rfl) Try.ntmps53 Try.results53 rfl rfl ?_
      repeat' (first | (((with_reducible refine g_id ?_); (conv => arg 3; whnf)); first | (with_reducible refine g_cond lay_ok 400 ?_ ?_ ?_) | (with_reducible refine g_fin ?_ ?_) | (refine g_call lay_ok 400 ?_ ?_ ?_ (f_less ?_ ?_ ?_ ?_) rfl) | (refine g_draw lay_ok mixed_ok 400 16 [0, 1, 2, 3, 4, 5, 6, 7, 8, 9, 10, 11, 12, 13, 14, 15] rfl (by kernel_rfl) ?_ ?_) | (refine g_ev lay_ok 400 ?_ (e_eqw rfl rfl rfl) rfl rfl rfl ?_)) | (((with_reducible refine d_id ?_); (conv => arg 5; whnf)); first | (with_reducible refine d_fin ?_ ?_) | (refine d_call lay_ok 400 ?_ ?_ ?_ (f_size ?_ ?_ ?_) rfl rfl) | (refine d_call lay_ok 400 ?_ ?_ ?_ (f_mul ?_ ?_ ?_ ?_) rfl rfl) | fail) | (with_reducible exact o_nil) | ((with_reducible refine o_id ?_); (conv => arg 1; whnf); first | (with_reducible exact o_nil) | (with_reducible refine o_cons ?_ ?_)) | (intro h; ((try simp only [Int.toNat_natCast] at h); repeat (first | replace h := of_decide_eq_true h | replace h := of_decide_eq_false h | replace h := not_t h | replace h := not_f h | fail)); (try (first | contradiction | fail))) | omega | rfl | fail)
      all_goals (((with_reducible refine e_id ?_); (conv => whnf)); refine ⟨(), trivial, ?_⟩; ((with_reducible refine s_id ?_); (conv => arg 1; whnf); (with_reducible refine s_some ?_); repeat' (first | ((with_reducible refine o_id ?_); (conv => arg 1; whnf); first | (with_reducible exact o_nil) | (with_reducible refine o_cons ?_ ?_)) | omega | (rw [if_neg (by assumption), if_pos (w_eq.1 (by assumption))]; done) | (rw [if_neg (by assumption), if_neg (fun e => absurd (w_eq.2 e) (by assumption))]; done))))
  · rw [if_neg hs]
    by_cases ha : a < 0
    · rw [if_pos ha]
      refine trip_by (rs := [_]) 400 lay_ok Try.func53 rfl (by kernel_rfl) Try.ntmps53 Try.results53 rfl rfl ?_
      repeat' (first | (((with_reducible refine g_id ?_); (conv => arg 3; whnf)); first | (with_reducible refine g_cond lay_ok 400 ?_ ?_ ?_) | (with_reducible refine g_fin ?_ ?_) | fail) | ((with_reducible refine o_id ?_); (conv => arg 1; whnf); first | (with_reducible exact o_nil) | fail) | (intro h; ((try simp only [Int.toNat_natCast] at h); repeat (first | replace h := of_decide_eq_true h | replace h := of_decide_eq_false h | replace h := not_t h | replace h := not_f h | fail)); (try (first | contradiction | fail))) | fail)
      all_goals (((with_reducible refine e_id ?_); (conv => whnf)); refine ⟨(), trivial, ?_⟩; ((with_reducible refine s_id ?_); (conv => arg 1; whnf); (with_reducible refine s_some ?_); repeat' (first | ((with_reducible refine o_id ?_); (conv => arg 1; whnf); first | (with_reducible exact o_nil) | (with_reducible refine o_cons ?_ ?_)) | rfl | fail)))
    · rw [if_neg ha]
      refine trip_by (rs := [_]) 400 lay_ok Try.func53 rfl (by kernel_rfl) Try.ntmps53 Try.results53 rfl rfl ?_
      repeat' (first | (((with_reducible refine g_id ?_); (conv => arg 3; whnf)); first | (with_reducible refine g_cond lay_ok 400 ?_ ?_ ?_) | (with_reducible refine g_fin ?_ ?_) | fail) | ((with_reducible refine o_id ?_); (conv => arg 1; whnf); first | (with_reducible exact o_nil) | fail) | (intro h; ((try simp only [Int.toNat_natCast] at h); repeat (first | replace h := of_decide_eq_true h | replace h := of_decide_eq_false h | replace h := not_t h | replace h := not_f h | fail)); (try (first | contradiction | fail))) | fail)
      all_goals (((with_reducible refine e_id ?_); (conv => whnf)); refine ⟨(), trivial, ?_⟩; ((with_reducible refine s_id ?_); (conv => arg 1; whnf); (with_reducible refine s_some ?_); repeat' (first | ((with_reducible refine o_id ?_); (conv => arg 1; whnf); first | (with_reducible exact o_nil) | (with_reducible refine o_cons ?_ ?_)) | rfl | fail)))
def flo (x : Frc) : Int := if x.num.tmod x.den < 0 then x.num.tdiv x.den - 1 else x.num.tdiv x.den
set_option maxHeartbeats 8000000 in
theorem f_Floor (x : Frc) (hx : WkF x) (h1 : 1 ≤ x.den) : Trip Try.prog 21 [.agg [.int .i64 x.num, .int .i64 x.den]] ⟨[], [], 0⟩ (Z := Unit) (fun _ => True) (fun _ => .int .i64 (flo x)) (fun _ => ⟨[], [], 0⟩) := by
  obtain ⟨a, b⟩ := x
  obtain ⟨a0, a1, _, _⟩ := hx
  unfold flo
  dsimp only at *
  have T : -1152921504606846976 ≤ a.tdiv b ∧ a.tdiv b ≤ 1152921504606846976 := by
    have : (a.tdiv b).natAbs ≤ a.natAbs := by rw [Int.natAbs_tdiv]; exact Nat.div_le_self _ _
    omega
  by_cases hm : a.tmod b < 0
  · rw [if_pos hm]
    refine trip_by (rs := [_]) 400 lay_ok Try.func21 rfl (by kernel_rfl) Try.ntmps21 Try.results21 rfl rfl ?_
    repeat' (first | (((with_reducible refine g_id ?_); (conv => arg 3; whnf)); first | (with_reducible refine g_cond lay_ok 400 ?_ ?_ ?_) | (with_reducible refine g_fin ?_ ?_)) | ((with_reducible refine o_id ?_); (conv => arg 1; whnf); first | (with_reducible exact o_nil) | (with_reducible refine o_cons ?_ ?_)) | (intro h; ((try simp only [Int.toNat_natCast] at h); repeat (first | replace h := of_decide_eq_true h | replace h := of_decide_eq_false h | fail)); (try (first | contradiction | (exfalso; omega) | fail))) | omega | fail)
    all_goals (((with_reducible refine e_id ?_); (conv => whnf)); refine ⟨(), trivial, ?_⟩; ((with_reducible refine s_id ?_); (conv => arg 1; whnf); (with_reducible refine s_some ?_); repeat' (first | ((with_reducible refine o_id ?_); (conv => arg 1; whnf); first | (with_reducible exact o_nil) | (with_reducible refine o_cons ?_ ?_)) | rfl | fail)))
  · rw [if_neg hm]
    refine trip_by (rs := [_]) 400 lay_ok Try.func21 rfl (by kernel_rfl) Try.ntmps21 Try.results21 rfl rfl ?_
    repeat' (first | (((with_reducible refine g_id ?_); (conv => arg 3; whnf)); first | (with_reducible refine g_cond lay_ok 400 ?_ ?_ ?_) | (with_reducible refine g_fin ?_ ?_)) | ((with_reducible refine o_id ?_); (conv => arg 1; whnf); first | (with_reducible exact o_nil) | (with_reducible refine o_cons ?_ ?_)) | (intro h; ((try simp only [Int.toNat_natCast] at h); repeat (first | replace h := of_decide_eq_true h | replace h := of_decide_eq_false h | fail)); (try (first | contradiction | (exfalso; omega) | fail))) | omega | fail)
    all_goals (((with_reducible refine e_id ?_); (conv => whnf)); refine ⟨(), trivial, ?_⟩; ((with_reducible refine s_id ?_); (conv => arg 1; whnf); (with_reducible refine s_some ?_); repeat' (first | ((with_reducible refine o_id ?_); (conv => arg 1; whnf); first | (with_reducible exact o_nil) | (with_reducible refine o_cons ?_ ?_)) | rfl | fail)))
end Go.Proofs.Ytkageldgmkajbaa
namespace Go.Proofs.Ytkageldgmkajbaa
open Go.RowKit
universe u
mutual
def svT (φ : Rid → Rid) : SV → SV
  | .sl r => .sl (φ r)
  | .el r es i f => .el (φ r) es i f
  | .vw r es i n c => .vw (φ r) es i n c
  | .clo g l => .clo g (svTL φ l)
  | .agg l => .agg (svTL φ l)
  | .tup l => .tup (svTL φ l)
  | v => v
def svTL (φ : Rid → Rid) : List SV → List SV
  | [] => []
  | x :: l => svT φ x :: svTL φ l
end
structure RidOk (V : Vl) (nb : Nat) (φ : Rid → Rid) : Prop where
  val : ∀ r, r.k < nb → V (φ r) = V r
  lt : ∀ r, r.k < nb → (φ r).k < nb
mutual
theorem svT_den {V : Vl} {nb : Nat} {φ : Rid → Rid} (h : RidOk V nb φ) : ∀ v, okV nb v = true → den V (svT φ v) = den V v
  | .int _ _, _ => rfl
  | .tf _, _ => rfl
  | .bool _, _ => rfl
  | .str _, _ => rfl
  | .ptr _ _, _ => rfl
  | .slc _ _ _ _, _ => rfl
  | .undef, _ => rfl
  | .val _, _ => rfl
  | .mp _, _ => rfl
  | .el r _ _ _, hk => by simp only [okV, Nat.blt_eq] at hk; simp only [svT, den, h.val r hk]
  | .sl r, hk => by simp only [okV, Nat.blt_eq] at hk; simp only [svT, den, h.val r hk]
  | .vw r _ _ _ _, hk => by simp only [okV, Nat.blt_eq] at hk; simp only [svT, den, h.val r hk]
  | .clo _ l, hk => by simp only [okV] at hk; simp only [svT, den, svTL_den h l hk]
  | .agg l, hk => by simp only [okV] at hk; simp only [svT, den, svTL_den h l hk]
  | .tup l, hk => by simp only [okV] at hk; simp only [svT, den, svTL_den h l hk]
theorem svTL_den {V : Vl} {nb : Nat} {φ : Rid → Rid} (h : RidOk V nb φ) : ∀ l, okL nb l = true → denL V (svTL φ l) = denL V l
  | [], _ => rfl
  | x :: l, hk => by
    unfold okL at hk
    cases hx : okV nb x with
    | false => simp [hx] at hk
    | true => simp only [hx] at hk; simp only [svTL, denL, svT_den h x hx, svTL_den h l hk]
end
mutual
theorem svT_ok {V : Vl} {nb : Nat} {φ : Rid → Rid} (h : RidOk V nb φ) : ∀ v, okV nb v = true → okV nb (svT φ v) = true
  | .int _ _, _ => rfl
  | .tf _, _ => rfl
  | .bool _, _ => rfl
  | .str _, _ => rfl
  | .ptr _ _, hk => hk
  | .slc _ _ _ _, hk => hk
  | .undef, _ => rfl
  | .val _, _ => rfl
  | .mp _, hk => hk
  | .el r _ _ _, hk => by simp only [okV, Nat.blt_eq] at hk; simp only [svT, okV, Nat.blt_eq]; exact h.lt r hk
  | .sl r, hk => by simp only [okV, Nat.blt_eq] at hk; simp only [svT, okV, Nat.blt_eq]; exact h.lt r hk
  | .vw r _ _ _ _, hk => by simp only [okV, Nat.blt_eq] at hk; simp only [svT, okV, Nat.blt_eq]; exact h.lt r hk
  | .clo _ l, hk => by simp only [okV] at hk; simp only [svT, okV]; exact svTL_ok h l hk
  | .agg l, hk => by simp only [okV] at hk; simp only [svT, okV]; exact svTL_ok h l hk
  | .tup l, hk => by simp only [okV] at hk; simp only [svT, okV]; exact svTL_ok h l hk
theorem svTL_ok {V : Vl} {nb : Nat} {φ : Rid → Rid} (h : RidOk V nb φ) : ∀ l, okL nb l = true → okL nb (svTL φ l) = true
  | [], _ => rfl
  | x :: l, hk => by
    unfold okL at hk
    cases hx : okV nb x with
    | false => simp [hx] at hk
    | true => simp only [hx] at hk; simp only [svTL, okL, svT_ok h x hx, svTL_ok h l hk]
end
def mbT (φ : Rid → Rid) : MB → MB
  | .cells c => .cells (svTL φ c)
  | .deck v => .deck (svT φ v)
  | m => m
def abT (φ : Rid → Rid) : AB → AB
  | .cells c => .cells (svTL φ c)
  | .deck v => .deck (svT φ v)
  | b => b
def envT (φ : Rid → Rid) : List (Nat × SV) → List (Nat × SV)
  | [] => []
  | (t, v) :: l => (t, svT φ v) :: envT φ l
def memT (φ : Rid → Rid) : List (Nat × MB) → List (Nat × MB)
  | [] => []
  | (t, v) :: l => (t, mbT φ v) :: memT φ l
theorem envT_find {φ : Rid → Rid} {t : Nat} : ∀ {l : List (Nat × SV)}, find (envT φ l) t = (find l t).map (svT φ)
  | [] => rfl
  | (k, v) :: l => by simp only [envT, find_cons, envT_find (l := l)]; split <;> rfl
theorem memT_find {φ : Rid → Rid} {t : Nat} : ∀ {l : List (Nat × MB)}, find (memT φ l) t = (find l t).map (mbT φ)
  | [] => rfl
  | (k, v) :: l => by simp only [memT, find_cons, memT_find (l := l)]; split <;> rfl
theorem contB_T {φ : Rid → Rid} {m : MB} {p : Path} : contB (mbT φ m) p = (contB m p).map (abT φ) := by
  cases m with
  | cells c => cases p <;> rfl
  | deck v => cases p <;> rfl
  | mp es => cases p <;> rfl
  | dead => cases p <;> rfl
  | hole b c l =>
    cases p with
    | nil => rfl
    | cons x q =>
      obtain ⟨i, j⟩ := x
      simp only [mbT, contB]
      split
      · rfl
      · cases desc c l ((i, j) :: q) <;> rfl
  | list md c l =>
    simp only [mbT, contB]
    cases desc c l p <;> rfl
theorem cont_T {φ : Rid → Rid} {m : List (Nat × MB)} {r : Rid} : cont (memT φ m) r = (cont m r).map (abT φ) := by
  unfold cont
  rw [memT_find]
  cases find m r.k with
  | none => rfl
  | some b => exact contB_T
theorem abT_kind {φ : Rid → Rid} {b : AB} : kindB (abT φ b) = kindB b := by cases b <;> rfl
theorem abT_live {φ : Rid → Rid} {L : Loc} {b : AB} : liveB L (abT φ b) = liveB L b := by cases b <;> rfl
theorem AtB.T {V : Vl} {w : World} {nb : Nat} {φ : Rid → Rid} (h : RidOk V nb φ) {r : Rid} {b : AB} (hb : okA nb b = true) (ha : AtB V w r b) : AtB V w r (abT φ b) := by
  cases b with
  | cells c =>
    obtain ⟨bb, t, h1, h2⟩ := ha
    exact ⟨bb, t, h1, by rw [svTL_den h c hb]; exact h2⟩
  | deck v =>
    obtain ⟨bb, t, p, a, n, c, h1, h2, h3⟩ := ha
    exact ⟨bb, t, p, a, n, c, h1, by rw [svT_den h v hb]; exact h2, by rw [svT_den h v hb]; exact h3⟩
  | mp es => exact ha
  | list d c l => exact ha
theorem Rep.T {x : Cx} {g : Gx} {V : Vl} {s : St} {a : Act} {w : World} (hr : Rep x g V s a w) {φ : Rid → Rid} (h : RidOk V s.nb φ) : Rep x g V ⟨envT φ s.env, memT φ s.mem, s.nb⟩ a w := by
  have back : ∀ {r : Rid} {b : AB}, cont (memT φ s.mem) r = some b → ∃ b0, cont s.mem r = some b0 ∧ b = abT φ b0 := by
    intro r b hb
    rw [cont_T] at hb
    obtain ⟨b0, h1, h2⟩ := Option.map_eq_some_iff.1 hb
    exact ⟨b0, h1, h2.symm⟩
  refine ⟨hr.defers, hr.size, fun t v hv => ?_, fun t v hv => ?_, ⟨fun k m hk => ?_, fun r b hb => ?_, fun r r' b b' hb hb' hl hl' hk he => ?_, fun r b hb hl hk => ?_⟩, hr.frame, fun b hb => hr.own b ?_, hr.pin, hr.d0⟩
  · rw [envT_find] at hv
    obtain ⟨v0, h1, rfl⟩ := Option.map_eq_some_iff.1 hv
    rw [svT_den h v0 (hr.envOk _ _ h1)]
    exact hr.env t v0 h1
  · rw [envT_find] at hv
    obtain ⟨v0, h1, rfl⟩ := Option.map_eq_some_iff.1 hv
    exact svT_ok h v0 (hr.envOk _ _ h1)
  · rw [memT_find] at hk
    obtain ⟨m0, h1, rfl⟩ := Option.map_eq_some_iff.1 hk
    obtain ⟨h2, h3⟩ := hr.ents.ok _ _ h1
    refine ⟨h2, ?_⟩
    cases m0 with
    | cells c => exact svTL_ok h c h3
    | deck v => exact svT_ok h v h3
    | mp es => rfl
    | list _ _ _ => rfl
    | hole _ _ _ => rfl
    | dead => rfl
  · obtain ⟨b0, h1, rfl⟩ := back hb
    exact (hr.ents.at_ r b0 h1).T h (hr.ents.okc h1).2
  · obtain ⟨b0, h1, rfl⟩ := back hb
    obtain ⟨b0', h1', rfl⟩ := back hb'
    rw [abT_live] at hl hl'
    rw [abT_kind] at hk
    exact hr.ents.sep r r' b0 b0' h1 h1' hl hl' hk he
  · obtain ⟨b0, h1, rfl⟩ := back hb
    rw [abT_live] at hl
    rw [abT_kind] at hk
    exact hr.ents.d0 r b0 h1 hl hk
  · obtain ⟨r, y, h1, h2, h3, h4⟩ := hb
    obtain ⟨b0, h5, rfl⟩ := back h1
    exact ⟨r, b0, h5, by rw [abT_live] at h2; exact h2, by rw [abT_kind] at h3; exact h3, h4⟩
def ckAt : List CKd → Nat → Nat → List CKd
  | _, _, 0 => []
  | [], _, _ + 1 => []
  | k :: l, 0, n + 1 => k :: ckAt l 0 n
  | _ :: l, f + 1, n + 1 => ckAt l f (n + 1)
def mvOf : Nat → List Pr → List (Nat × Nat)
  | _, [] => []
  | f, .own k :: l => (k, f) :: mvOf (f + 1) l
  | f, .no :: l => mvOf (f + 1) l
  | f, .fz _ :: l => mvOf (f + 1) l
theorem mvOf_find : ∀ {l : List Pr} {f k j : Nat}, find (mvOf f l) k = some j → f ≤ j ∧ l[j - f]? = some (.own k)
  | [], f, k, j, h => by simp [mvOf, find] at h
  | p :: l, f, k, j, h => by
    have tail : find (mvOf (f + 1) l) k = some j → f ≤ j ∧ (p :: l)[j - f]? = some (.own k) := by
      intro h
      obtain ⟨h1, h2⟩ := mvOf_find h
      refine ⟨by omega, ?_⟩
      rw [show j - f = (j - (f + 1)) + 1 by omega]
      simpa using h2
    cases p with
    | no => exact tail h
    | fz r => exact tail h
    | own k' =>
      simp only [mvOf, find_cons] at h
      split at h
      · rename_i e; cases h; subst e; exact ⟨Nat.le_refl _, by simp⟩
      · exact tail h
def ridT (k nb f n i : Nat) (mv : List (Nat × Nat)) : Rid → Rid
  | ⟨k', []⟩ => match Nat.beq k' k with
    | true => ⟨nb, []⟩
    | false => match find mv k' with
      | some d => ⟨nb, [(i, d)]⟩
      | none => ⟨k', []⟩
  | ⟨k', (a, j) :: q⟩ => match Nat.beq k' k with
    | true => match Nat.blt j f with
      | true => ⟨nb, (a, j) :: q⟩
      | false => match Nat.ble (Nat.add f n) j with
        | true => ⟨nb, (a, j) :: q⟩
        | false => ⟨k', (a, j) :: q⟩
    | false => match find mv k' with
      | some d => ⟨nb, (i, d) :: (a, j) :: q⟩
      | none => ⟨k', (a, j) :: q⟩
def pvS (k f n i : Nat) (ps : List Pr) : Pv := fun a j => if a = i ∧ f ≤ j ∧ j < f + n then (ps[j - f]?).bind Pr.rid else some ⟨k, [(a, j)]⟩
def valsS {c : Ty} (V : Vl) (pv : Pv) (zs : List (El c)) : List Value := (List.range (zs.length * wid c)).map fun q => match (tcells c (gt zs (q / wid c)))[q % wid c]? with
  | some t => denP V pv (q / wid c) (q % wid c) t
  | none => Go.undef
theorem valsS_get {c : Ty} {V : Vl} {pv : Pv} {zs : List (El c)} {a j : Nat} {x : El c} {t : TC} (hx : zs[a]? = some x) (hj : (tcells c x)[j]? = some t) : (valsS V pv zs)[a * wid c + j]? = some (denP V pv a j t) := by
  have ha : a < zs.length := (List.getElem?_eq_some_iff.1 hx).1
  have hjw : j < wid c := by have := (List.getElem?_eq_some_iff.1 hj).1; rw [tcells_len] at this; exact this
  have hlt : a * wid c + j < zs.length * wid c := by
    have : (a + 1) * wid c ≤ zs.length * wid c := Nat.mul_le_mul_right _ ha
    rw [Nat.succ_mul] at this; omega
  have e1 : (a * wid c + j) / wid c = a := by rw [Nat.mul_comm, Nat.mul_add_div (by omega), Nat.div_eq_of_lt hjw]; rfl
  have e2 : (a * wid c + j) % wid c = j := by rw [Nat.mul_comm, Nat.mul_add_mod, Nat.mod_eq_of_lt hjw]
  unfold valsS
  rw [List.getElem?_map, List.getElem?_range hlt, Option.map_some, e1, e2, gt_eq hx, hj]
theorem valsS_len {c : Ty} {V : Vl} {pv : Pv} {zs : List (El c)} : (valsS V pv zs).length = zs.length * wid c := by simp [valsS]
theorem valsS_inv {c : Ty} {V : Vl} {pv : Pv} {zs : List (El c)} {q : Nat} {u : Value} (h : (valsS V pv zs)[q]? = some u) : ∃ a x j t, q = a * wid c + j ∧ zs[a]? = some x ∧ (tcells c x)[j]? = some t ∧ u = denP V pv a j t := by
  have hq : q < (valsS V pv zs).length := (List.getElem?_eq_some_iff.1 h).1
  obtain ⟨h1, h2, h3⟩ := flat_idx valsS_len hq
  have hx := List.getElem?_eq_getElem h1
  have hj : q % wid c < (tcells c zs[q / wid c]).length := by rw [tcells_len]; exact h2
  have := valsS_get (V := V) (pv := pv) hx (List.getElem?_eq_getElem hj)
  rw [h3, h] at this
  exact ⟨_, _, _, _, h3.symm, hx, List.getElem?_eq_getElem hj, Option.some.inj this⟩
structure RowS {c : Ty} (mem : List (Nat × MB)) (V : Vl) (vs : List SV) (ts : List TC) (ps : List Pr) (b : Bool) (f : Nat) (x x' : El c) : Prop where
  len : ts.length = vs.length ∧ ps.length = vs.length ∧ f + vs.length ≤ wid c
  cell : ∀ j t, (tcells c x')[j]? = some t → (f ≤ j ∧ j < f + vs.length ∧ ∃ v p b', vs[j - f]? = some v ∧ ps[j - f]? = some p ∧ CellOk mem V v t p b' ∧ (b' = true → b = true)) ∨ (¬ (f ≤ j ∧ j < f + vs.length) ∧ (tcells c x)[j]? = some t)
theorem rowS_of {c : Ty} {mem : List (Nat × MB)} {V : Vl} {vs : List SV} {ts : List TC} {ps : List Pr} {b : Bool} {obs : List Prop} {f : Nat} {x x' : El c} {cs : List TC} {vr : List SV} (hc : cellsT mem (ckAt (cks c) f vs.length) vs = some (ts, ps, b, obs, vr)) (ho : AllP obs) (hr : vr = []) (hs : spliceT (tcells c x) f ts = some cs) (hm : mkc c cs = some x') : RowS mem V vs ts ps b f x x' := by
  obtain ⟨k1, k2, k3, k4, k5⟩ := cellsT_ok (V := V) hc ho
  obtain ⟨g1, g2, g3⟩ := spliceT_get hs
  subst hr
  simp only [List.length_nil, Nat.add_zero] at k3
  rw [tcells_len] at g1
  refine ⟨⟨by omega, by omega, by omega⟩, fun j t hj => ?_⟩
  rw [mkc_cells hm, g3] at hj
  by_cases h : f ≤ j ∧ j < f + ts.length
  · rw [if_pos h] at hj
    obtain ⟨v, p, b', q1, q2, q3, q4⟩ := k5 _ _ hj
    exact .inl ⟨h.1, by omega, v, p, b', q1, q2, q3, q4⟩
  · rw [if_neg h] at hj
    exact .inr ⟨fun hh => h ⟨hh.1, by omega⟩, hj⟩
theorem rowsP_store {c : Ty} {mem : List (Nat × MB)} {V : Vl} {vs : List SV} {ts : List TC} {ps : List Pr} {b : Bool} {f i k : Nat} {l : List (El c)} {x' : El c} {m md : Md} (hm : find mem k = some (.list m c l)) (hi : i < l.length) (R : RowS mem V vs ts ps b f (gt l i) x')
    (hn : nodupB (kills ps) = true) (hk : notIn k (kills ps) = true) (hmm : m = .own ∨ (m = .sh ∧ md = .sh)) (hb : b = true → md = .sh) : RowsP mem V md (k :: kills ps) c (l.set i x') (valsS V (pvS k f vs.length i ps) (l.set i x')) (pvS k f vs.length i ps) := by
  have hni := notIn_spec hk
  have getr : ∀ {a : Nat} {x : El c}, (l.set i x')[a]? = some x → (a = i ∧ x = x') ∨ (a ≠ i ∧ l[a]? = some x) := by
    intro a x h
    by_cases e : a = i
    · subst e; rw [List.getElem?_set_self hi] at h; exact .inl ⟨rfl, (Option.some.inj h).symm⟩
    · rw [List.getElem?_set_ne (Ne.symm e)] at h; exact .inr ⟨e, h⟩
  have pvo : ∀ {a j : Nat}, ¬ (a = i ∧ f ≤ j ∧ j < f + vs.length) → pvS k f vs.length i ps a j = some ⟨k, [(a, j)]⟩ := fun h => if_neg h
  have pvn : ∀ {a j : Nat}, (a = i ∧ f ≤ j ∧ j < f + vs.length) → pvS k f vs.length i ps a j = (ps[j - f]?).bind Pr.rid := fun h => if_pos h
  have oldc : ∀ {a : Nat} {x : El c} {j : Nat} {c1 : Ty} {l1 : List (El c1)}, l[a]? = some x → (tcells c x)[j]? = some (.sl c1 l1) → ¬ (a = i ∧ f ≤ j ∧ j < f + vs.length) →
      (pvS k f vs.length i ps a j = none ∧ l1 = []) ∨ ∃ ρ m c0 l0, pvS k f vs.length i ps a j = some ρ ∧ find mem ρ.k = some (.list m c0 l0) ∧ desc c0 l0 ρ.p = some ⟨c1, l1⟩ ∧ ((m = .own ∧ ρ.k ∈ k :: kills ps) ∨ (m = .sh ∧ (ρ.k ∈ k :: kills ps ∨ ρ.p ≠ []) ∧ md = .sh) ∨ (m = .fz ∧ md = .sh)) := by
    intro a x j c1 l1 hx hj hnot
    refine .inr ⟨⟨k, [(a, j)]⟩, m, c, l, pvo hnot, hm, by simp only [desc, hx, hj], ?_⟩
    rcases hmm with rfl | ⟨rfl, h⟩
    · exact .inl ⟨rfl, List.mem_cons_self⟩
    · exact .inr (.inl ⟨rfl, .inl List.mem_cons_self, h⟩)
  refine ⟨valsS_len, fun a x hx j t hj => valsS_get hx hj, fun a x hx j c1 l1 hj => ?_, fun a j a' j' ρ ρ' q q' c0 l0 e1 e2 e3 e4 e5 => ?_⟩
  · rcases getr hx with ⟨rfl, rfl⟩ | ⟨hne, hx'⟩
    · rcases R.cell j _ hj with ⟨h1, h2, v, p, b', q1, q2, q3, q4⟩ | ⟨h1, h2⟩
      · rw [pvn ⟨rfl, h1, h2⟩, q2, Option.bind_some]
        rcases q3.con c1 l1 rfl with ⟨rfl, rfl⟩ | ⟨ρ, m', c0, l0, g1, g2, g3, g4⟩
        · exact .inl ⟨rfl, rfl⟩
        · refine .inr ⟨ρ, m', c0, l0, g1, g2, g3, ?_⟩
          rcases g4 with ⟨rfl, rfl⟩ | ⟨rfl, rfl, hbb⟩ | ⟨rfl, rfl, hbb⟩
          · exact .inl ⟨rfl, List.mem_cons_of_mem _ (mem_kills q2)⟩
          · exact .inr (.inl ⟨rfl, .inl (List.mem_cons_of_mem _ (mem_kills q2)), hb (q4 hbb)⟩)
          · exact .inr (.inr ⟨rfl, hb (q4 hbb)⟩)
      · exact oldc (gt_at hi) h2 (fun h => h1 h.2)
    · exact oldc hx' hj (fun h => hne h.1)
  · -- two places of one list
    have cas : ∀ {a j : Nat} {ρ : Rid}, pvS k f vs.length i ps a j = some ρ → (ρ = ⟨k, [(a, j)]⟩ ∧ ¬ (a = i ∧ f ≤ j ∧ j < f + vs.length)) ∨ (a = i ∧ f ≤ j ∧ j < f + vs.length ∧ ∃ p, ps[j - f]? = some p ∧ p.rid = some ρ) := by
      intro a j ρ h
      by_cases hc : a = i ∧ f ≤ j ∧ j < f + vs.length
      · rw [pvn hc] at h
        obtain ⟨p, h1, h2⟩ := Option.bind_eq_some_iff.1 h
        exact .inr ⟨hc.1, hc.2.1, hc.2.2, p, h1, h2⟩
      · rw [pvo hc] at h; cases h; exact .inl ⟨rfl, hc⟩
    -- a new cell's list
    have newp : ∀ {j : Nat} {p : Pr} {ρ0 : Rid}, f ≤ j → j < f + vs.length → ps[j - f]? = some p → p.rid = some ρ0 → (p = .own ρ0.k ∧ ρ0.k ∈ kills ps) ∨ ∃ c0 l0, find mem ρ0.k = some (.list .fz c0 l0) := by
      intro j p ρ0 h1 h2 hp hr
      have hjw : j < (tcells c x').length := by rw [tcells_len]; have := R.len.2.2; omega
      rcases R.cell j _ (List.getElem?_eq_getElem hjw) with ⟨_, _, v, p', b', q1, q2, q3, q4⟩ | ⟨h3, _⟩
      · rw [hp] at q2
        cases q2
        cases ht : (tcells c x')[j] with
        | sl c1 l1 =>
          rw [ht] at q3
          rcases q3.con c1 l1 rfl with ⟨rfl, _⟩ | ⟨ρ1, m1, c0', l0', g1, g2, g3, g4⟩
          · cases hr
          · rw [hr] at g1
            cases g1
            rcases g4 with ⟨_, h⟩ | ⟨_, h, _⟩ | ⟨h, _⟩
            · exact .inl ⟨h, mem_kills (by rw [hp, h])⟩
            · exact .inl ⟨h, mem_kills (by rw [hp, h])⟩
            · subst h; exact .inr ⟨_, _, g2⟩
        | int k n => rw [ht] at q3; have := q3.no rfl; subst this; cases hr
        | bool b => rw [ht] at q3; have := q3.no rfl; subst this; cases hr
        | str s => rw [ht] at q3; have := q3.no rfl; subst this; cases hr
      · exact absurd ⟨h1, h2⟩ h3
    have nofz : ∀ {r : Rid}, find mem r.k = some (.list .own c0 l0) → ¬ ∃ c0 l0, find mem r.k = some (.list .fz c0 l0) := by
      rintro r h ⟨c2, l2, h2⟩
      rw [h] at h2; cases h2
    rcases cas e1 with ⟨rfl, n1⟩ | ⟨rfl, a1, a2, p, a3, a4⟩ <;> rcases cas e2 with ⟨rfl, n2⟩ | ⟨rfl, b1, b2, p', b3, b4⟩
    · simp only [List.cons_append, List.nil_append, List.cons.injEq, Prod.mk.injEq] at e5
      exact e5.1
    · exfalso
      rcases newp b1 b2 b3 b4 with ⟨_, h⟩ | h
      · rw [← e4] at h; exact hni h
      · exact nofz (r := ρ') (by rw [← e4]; exact e3) h
    · exfalso
      rcases newp a1 a2 a3 a4 with ⟨_, h⟩ | h
      · rw [e4] at h; exact hni h
      · exact nofz e3 h
    · refine ⟨rfl, ?_⟩
      rcases newp a1 a2 a3 a4 with ⟨h, _⟩ | h
      · rcases newp b1 b2 b3 b4 with ⟨h', _⟩ | h'
        · rw [← e4] at h'
          rw [h] at a3
          rw [h'] at b3
          have := nodup_kills hn a3 b3
          omega
        · exact absurd h' (nofz (by rw [← e4]; exact e3))
      · exact absurd h (nofz e3)
theorem ridT_ok {c : Ty} {mem : List (Nat × MB)} {V : Vl} {ps : List Pr} {f n i k nb : Nat} (hl : ps.length = n) (hk : k < nb) (hlt : ∀ k1 ∈ kills ps, k1 < nb) : RidOk (V.ext nb (nlF V (pvS k f n i ps) (V ⟨k, []⟩))) (nb + 1) (ridT k nb f n i (mvOf f ps)) := by
  have vn : ∀ p, V.ext nb (nlF V (pvS k f n i ps) (V ⟨k, []⟩)) ⟨nb, p⟩ = nlF V (pvS k f n i ps) (V ⟨k, []⟩) p := fun p => Vl.ext_new
  have vo : ∀ {r : Rid}, r.k ≠ nb → V.ext nb (nlF V (pvS k f n i ps) (V ⟨k, []⟩)) r = V r := fun h => if_neg h
  have mvn : ∀ {k' d : Nat}, find (mvOf f ps) k' = some d → k' ≠ nb := fun h e => by have := hlt _ (mem_kills (mvOf_find h).2); omega
  have mvk : ∀ {k' d : Nat}, find (mvOf f ps) k' = some d → k' ≠ nb → ∀ q, V.ext nb (nlF V (pvS k f n i ps) (V ⟨k, []⟩)) ⟨nb, (i, d) :: q⟩ = V.ext nb (nlF V (pvS k f n i ps) (V ⟨k, []⟩)) ⟨k', q⟩ := by
    intro k' d h hne q
    obtain ⟨h1, h2⟩ := mvOf_find h
    have hlt := (List.getElem?_eq_some_iff.1 h2).1
    rw [vn, vo (by exact hne)]
    simp only [nlF, pvL]
    unfold pvS
    rw [if_pos ⟨rfl, h1, by omega⟩, h2]
    rfl
  have key : ∀ r : Rid, r.k < nb + 1 → V.ext nb (nlF V (pvS k f n i ps) (V ⟨k, []⟩)) (ridT k nb f n i (mvOf f ps) r) = V.ext nb (nlF V (pvS k f n i ps) (V ⟨k, []⟩)) r ∧ (ridT k nb f n i (mvOf f ps) r).k < nb + 1 := by
    rintro ⟨k', p⟩ hr
    have kne : k' = k → k' ≠ nb := fun e h => by omega
    cases p with
    | nil =>
      simp only [ridT]
      split
      · rename_i e
        have e := Nat.eq_of_beq_eq_true e
        subst e
        exact ⟨by rw [vn, vo (by exact kne rfl)]; rfl, Nat.lt_succ_self _⟩
      · split
        · rename_i d hd
          exact ⟨mvk hd (mvn hd) [], Nat.lt_succ_self _⟩
        · exact ⟨rfl, hr⟩
    | cons aj q =>
      obtain ⟨a, j⟩ := aj
      have same : k' = k → ¬ (f ≤ j ∧ j < f + n) → V.ext nb (nlF V (pvS k f n i ps) (V ⟨k, []⟩)) ⟨nb, (a, j) :: q⟩ = V.ext nb (nlF V (pvS k f n i ps) (V ⟨k, []⟩)) ⟨k', (a, j) :: q⟩ := by
        intro e h
        subst e
        rw [vn, vo (by exact kne rfl)]
        simp only [nlF, pvL, pvS]
        rw [if_neg (fun hh => h hh.2)]
        rfl
      simp only [ridT]
      split
      · rename_i e
        have e := Nat.eq_of_beq_eq_true e
        split
        · rename_i h1
          rw [Nat.blt_eq] at h1
          exact ⟨same e (by omega), Nat.lt_succ_self _⟩
        · split
          · rename_i h1
            have h1 := Nat.le_of_ble_eq_true h1
            exact ⟨same e (by simp only [Nat.add_eq] at h1; omega), Nat.lt_succ_self _⟩
          · exact ⟨rfl, hr⟩
      · split
        · rename_i d hd
          exact ⟨mvk hd (mvn hd) _, Nat.lt_succ_self _⟩
        · exact ⟨rfl, hr⟩
  exact ⟨fun r hr => (key r hr).1, fun r hr => (key r hr).2⟩
structure StoreD where
  k : Nat
  i : Nat
  f : Nat
  n : Nat
  ks : List Nat
  mv : List (Nat × Nat)
  m : MB
  obs : List Prop
def mdS : Md → Bool → Option Md
  | .own, b => some (match b with | true => .sh | false => .own)
  | .sh, _ => some .sh
  | _, _ => none
def storeD (L : Lay) (s : St) (T : TypeId) (p y : Operand) : Option StoreD := match s.get p, s.get y, find L T with
  | some (.el ⟨k, []⟩ es i f), some u, some ti => match find s.mem k, cellsO u with
    | some (.list m c l), some vs => match cellsT s.mem (ckAt (cks c) f vs.length) vs, Nat.beq vs.length ti.zs.length, Nat.beq es (wid c) with
      | some (ts, ps, b, obs, []), true, true => match spliceT (tcells c (gt l i)) f ts, nodupB (kills ps), notIn k (kills ps), mdS m b with
        | some cs, true, true, some md => match mkc c cs with
          | some x => some ⟨k, i, f, vs.length, kills ps, mvOf f ps, .list md c (l.set i x), (i < l.length) :: obs⟩
          | none => none
        | _, _, _, _ => none
      | _, _, _ => none
    | _, _ => none
  | _, _, _ => none
section
variable {x : Cx} {s : St} (hL : LayOk x.P x.L)
include hL
theorem step_storeL {T : TypeId} {p y : Operand} {ty : TypeId} {pos : String} {after : Array Edge} {gd : Option (Nat × Bool)} {d : StoreD} (h : storeD x.L s T p y = some d) (ho : AllP d.obs) :
    StepTo x s ⟨none, .store T p y, ty, pos, after, gd⟩ ⟨envT (ridT d.k s.nb d.f d.n d.i d.mv) s.env, memT (ridT d.k s.nb d.f d.n d.i d.mv) ((s.nb, d.m) :: killL (d.k :: d.ks) s.mem), s.nb + 1⟩ :=
  ⟨fun g V a w Q hr => by
    unfold storeD at h
    split at h
    · rename_i k es i f u ti hp hy ht
      split at h
      · rename_i m c l vs hm hvs
        split at h
        · rename_i ts ps b obs hct h2 hes0
          split at h
          · rename_i cs1 md hsp hnd hni hmd
            split at h
            · rename_i x' hmk
              simp only [Option.some.injEq] at h
              subst h
              obtain ⟨hi, ho'⟩ := ho
              have hes : es = wid c := Nat.eq_of_beq_eq_true hes0
              have R := rowS_of (V := V) hct ho' rfl hsp hmk
              have hmm : m = .own ∨ (m = .sh ∧ md = .sh) := by
                unfold mdS at hmd
                split at hmd
                · exact .inl rfl
                · cases hmd; exact .inr ⟨rfl, rfl⟩
                · cases hmd
              have hbb : b = true → md = .sh := by
                intro e
                subst e
                unfold mdS at hmd
                split at hmd
                · simpa using hmd.symm
                · cases hmd; rfl
                · cases hmd
              have hmd' : md = .own ∨ md = .sh := by
                unfold mdS at hmd
                split at hmd
                · cases b <;> simp only [Option.some.injEq] at hmd <;> subst hmd <;> simp
                · cases hmd; exact .inr rfl
                · cases hmd
              have RP := rowsP_store (k := k) hm hi R hnd hni hmm hbb
              have hkn := (hr.ents.ok _ _ hm).1
              have hksn : ∀ k1 ∈ kills ps, k1 < s.nb := by
                intro k1 hk1
                obtain ⟨j, hj⟩ := kills_mem hk1
                have hjl : j < ps.length := (List.getElem?_eq_some_iff.1 hj).1
                have hl2 := R.len
                have hjw : f + j < (tcells c x').length := by rw [tcells_len]; omega
                rcases R.cell (f + j) _ (List.getElem?_eq_getElem hjw) with ⟨_, _, v, p', b', q1, q2, q3, q4⟩ | ⟨h3, _⟩
                · rw [Nat.add_sub_cancel_left, hj] at q2
                  cases q2
                  cases hte : (tcells c x')[f + j] with
                  | sl c1 l1 =>
                    rw [hte] at q3
                    rcases q3.con c1 l1 rfl with ⟨h, _⟩ | ⟨ρ1, m1, c0', l0', g1, g2, g3, g4⟩
                    · cases h
                    · cases g1; exact (hr.ents.ok _ _ g2).1
                  | int k n => rw [hte] at q3; have := q3.no rfl; cases this
                  | bool b => rw [hte] at q3; have := q3.no rfl; cases this
                  | str s => rw [hte] at q3; have := q3.no rfl; cases this
                · exact absurd ⟨by omega, by omega⟩ h3
              have hmdo : m.at [] = .own := by rcases hmm with rfl | ⟨rfl, _⟩ <;> rfl
              have hc : cont s.mem ⟨k, []⟩ = some (.list .own c l) := cont_iff.2 ⟨_, hm, by simp only [contB, desc, hmdo]⟩
              have hat := hr.ents.at_ _ _ hc
              obtain ⟨ad, a1, a2, _⟩ := row_cells hat hi
              obtain ⟨q1, q2, q3, q4⟩ := hat
              obtain ⟨ad', cs, tt, b1, b2, b3, b4, b5⟩ : ∃ a cs t, (V ⟨k, []⟩).a = some a ∧ a.spot = none ∧ w.heap[a.block]? = some (.cells cs t) ∧ a.off + (V ⟨k, []⟩).cap * wid c ≤ cs.size ∧ (V ⟨k, []⟩).cap ≤ maxLen := by
                rcases q3 rfl with h | h
                · omega
                · exact h
              rw [a1] at b1
              cases b1
              obtain ⟨ii, g1, g2, g3, _⟩ := (hL.at ht).info
              have hz : (denL V vs).length = ti.zero.length := by rw [denL_length, TI.zero_len]; exact Nat.eq_of_beq_eq_true h2
              have hfw := R.len.2.2
              have hfit : ad.off + (i * wid c + f) + vs.length ≤ cs.size := by
                have : (i + 1) * wid c ≤ (V ⟨k, []⟩).cap * wid c := Nat.mul_le_mul_right _ (by omega)
                rw [Nat.add_mul] at this
                omega
              let cs' := (cs.toList.take (ad.off + (i * wid c + f)) ++ denL V vs ++ cs.toList.drop (ad.off + (i * wid c + f) + (denL V vs).length)).toArray
              have hone : ∀ v ∈ denL V vs, v.oneCell' = true := by
                intro v hv
                rw [denL_eq] at hv
                obtain ⟨v0, hv0, rfl⟩ := List.mem_map.1 hv
                obtain ⟨j, hj⟩ := List.mem_iff_getElem?.1 hv0
                have hjl : j < vs.length := (List.getElem?_eq_some_iff.1 hj).1
                have hjw : f + j < (tcells c x').length := by rw [tcells_len]; omega
                rcases R.cell (f + j) _ (List.getElem?_eq_getElem hjw) with ⟨_, _, v1, p', b', y1, y2, y3, y4⟩ | ⟨h3, _⟩
                · rw [Nat.add_sub_cancel_left, hj] at y1
                  cases y1
                  exact oneC_den _ y3.one
                · exact absurd ⟨by omega, by omega⟩ h3
              have run : (Instr.storeAt T (den V (.el ⟨k, []⟩ es i f)) (den V u)).run x.P w = .ok () (w.setRow ad.block cs') := by
                simp only [Instr.storeAt, den, Loc.at, a1, Option.map_some, Instr.sureAddr, Sem.run_bind, Sem.run_pure, Result.andThen_ok, storeVar, r_sizeOf g1, cellsO_den hvs]
                rw [if_neg (by simp [hz, g2])]
                have := run_storeCells_at (P := x.P) ad.block (ad.off + (i * wid c + f)) tt (denL V vs) 0 cs w b3 (by rw [denL_length]; omega) hone
                simp only [Nat.add_zero] at this
                rw [hes]
                exact this
              unfold Oper.wp
              have : (execOp a.eval ⟨none, .store T p y, ty, pos, after, gd⟩).run x.P w = .ok .skip (w.setRow ad.block cs') := by
                simp only [execOp, hr.env.get hp, hr.env.get hy, Sem.run_bind, run, Result.andThen_ok, Sem.run_pure]
              rw [this]
              have hbl : (V ⟨k, []⟩).b = ad.block := by unfold Loc.b; rw [a1]
              have hsz : cs'.size = cs.size := by
                simp only [cs', List.size_toArray, List.length_append, List.length_take, List.length_drop, Array.length_toList, denL_length]
                omega
              have hcell : ∀ o, cs'[o]? = if ad.off + (i * wid c + f) ≤ o ∧ o < ad.off + (i * wid c + f) + vs.length then (vs[o - (ad.off + (i * wid c + f))]?).map (den V) else cs[o]? := by
                intro o
                simp only [cs', List.getElem?_toArray]
                by_cases h1 : o < ad.off + (i * wid c + f)
                · rw [if_neg (by omega), List.append_assoc, List.getElem?_append_left (by simp; omega), List.getElem?_take, if_pos h1]; simp
                · by_cases h2 : o < ad.off + (i * wid c + f) + vs.length
                  · rw [if_pos ⟨by omega, h2⟩, List.append_assoc, List.getElem?_append_right (by simp; omega), List.getElem?_append_left (by simp [denL_length]; omega), denL_get']
                    congr 2
                    simp; omega
                  · rw [if_neg (by omega), List.getElem?_append_right (by simp [denL_length]; omega), List.getElem?_drop]
                    simp only [Array.getElem?_toList]
                    congr 1
                    simp [denL_length]; omega
              have hh := setRow_heap w ad.block cs cs' tt (0, 0) b3
              have other : ∀ b, b ≠ ad.block → (w.setRow ad.block cs').heap[b]? = w.heap[b]? := fun b hb => setRow_other w ad.block b _ hb
              have hrep := hr.list (w' := w.setRow ad.block cs') (md := md) hmd' RP (fun k1 hk1 => by
                  rcases List.mem_cons.1 hk1 with rfl | h
                  · exact hkn
                  · exact hksn k1 h) (L := V ⟨k, []⟩) (by rw [List.length_set]; exact q1) (by rw [List.length_set]; exact q2)
                (.inr ⟨ad, cs', tt, a1, a2, hh, by rw [hsz]; exact b4, b5⟩)
                (fun q v hv => by
                  refine ⟨ad, a1, a2, cell_of hh ?_⟩
                  obtain ⟨aa, xx, j, t, rfl, hx, hj, rfl⟩ := valsS_inv hv
                  have hjw : j < wid c := by have := (List.getElem?_eq_some_iff.1 hj).1; rw [tcells_len] at this; exact this
                  have oldv : ∀ {x0 : El c}, l[aa]? = some x0 → (tcells c x0)[j]? = some t → ¬ (aa = i ∧ f ≤ j ∧ j < f + vs.length) → cs'[ad.off + (aa * wid c + j)]? = some (denP V (pvS k f vs.length i ps) aa j t) := by
                    intro x0 hx0 hj0 hnot
                    obtain ⟨ad2, y1, y2, y3⟩ := q4 aa x0 hx0 j t hj0
                    rw [a1] at y1
                    cases y1
                    simp only [World.cell?, b3, Option.isSome_none, Bool.false_eq_true, if_false] at y3
                    rw [hcell, if_neg, y3]
                    · congr 1
                      cases t <;> simp only [denT, denP]
                      have e0 : pvS k f vs.length i ps aa j = some ⟨k, [(aa, j)]⟩ := if_neg hnot
                      simp only [pvL, e0, Rid.ch, List.nil_append, List.append_nil]
                    · intro hin
                      apply hnot
                      have e1 : aa = i := by
                        rcases Nat.lt_trichotomy aa i with hlt | heq | hgt
                        · have : (aa + 1) * wid c ≤ i * wid c := Nat.mul_le_mul_right _ hlt
                          rw [Nat.add_mul] at this; omega
                        · exact heq
                        · have : (i + 1) * wid c ≤ aa * wid c := Nat.mul_le_mul_right _ hgt
                          rw [Nat.add_mul] at this; omega
                      subst e1
                      exact ⟨rfl, by omega, by omega⟩
                  by_cases e : aa = i
                  · subst e
                    rw [List.getElem?_set_self hi] at hx
                    cases hx
                    rcases R.cell j t hj with ⟨h1, h2, v, p', b', y1, y2, y3, y4⟩ | ⟨h1, h2⟩
                    · rw [hcell, if_pos (by omega), show ad.off + (aa * wid c + j) - (ad.off + (aa * wid c + f)) = j - f by omega, y1, Option.map_some, y3.val]
                      congr 1
                      have e2 : pvS k f vs.length aa ps aa j = p'.rid := by unfold pvS; rw [if_pos ⟨rfl, h1, h2⟩, y2]; rfl
                      cases t <;> simp only [denP, pvL, e2]
                      cases p' <;> simp [Pr.rid]
                    · exact oldv (gt_at hi) h2 (fun h => h1 h.2)
                  · rw [List.getElem?_set_ne (Ne.symm e)] at hx
                    exact oldv hx hj (fun h => e h.1))
                (some k) (fun hcap => ⟨List.mem_cons_self, _, hc, hcap, rfl, rfl⟩) (fun kb h => by cases h; exact List.mem_cons_self)
                (fun aa j ρ kb e1 e2 e3 => by
                  cases e2
                  unfold pvS at e1
                  split at e1
                  · rename_i hc3
                    exfalso
                    obtain ⟨p', z1, z2⟩ := Option.bind_eq_some_iff.1 e1
                    have hjw : j < (tcells c x').length := by rw [tcells_len]; omega
                    rcases R.cell j _ (List.getElem?_eq_getElem hjw) with ⟨_, _, v, p2, b', y1, y2, y3, y4⟩ | ⟨h3, _⟩
                    · rw [z1] at y2
                      cases y2
                      cases hte : (tcells c x')[j] with
                      | sl c1 l1 =>
                        rw [hte] at y3
                        rcases y3.con c1 l1 rfl with ⟨rfl, _⟩ | ⟨ρ1, m1, c0', l0', g1, g2, g3, g4⟩
                        · cases z2
                        · rw [z2] at g1
                          cases g1
                          rcases g4 with ⟨_, h⟩ | ⟨_, h, _⟩ | ⟨h, _⟩
                          · have := mem_kills (by rw [z1, h] : ps[j - f]? = some (.own ρ.k))
                            rw [e3] at this
                            exact notIn_spec hni this
                          · have := mem_kills (by rw [z1, h] : ps[j - f]? = some (.own ρ.k))
                            rw [e3] at this
                            exact notIn_spec hni this
                          · subst h
                            rw [e3, hm] at g2
                            cases g2
                            rcases hmm with h | ⟨h, _⟩ <;> cases h
                      | int k n => rw [hte] at y3; have := y3.no rfl; subst this; cases z2
                      | bool b => rw [hte] at y3; have := y3.no rfl; subst this; cases z2
                      | str s => rw [hte] at y3; have := y3.no rfl; subst this; cases z2
                    · exact h3 hc3.2
                  · cases e1; intro h; cases h)
                (by rw [setRow_size]; exact Nat.le_refl _) (fun b hb hne => other b (by
                  have := hne k rfl (by omega)
                  rw [hbl] at this
                  exact this)) ⟨rfl, rfl, rfl⟩
              exact ⟨_, hrep.T (ridT_ok (c := c) (mem := s.mem) (f := f) (i := i) (R.len.2.1) hkn hksn)⟩
            · cases h
          · cases h
        · cases h
      · cases h
    · cases h⟩
omit hL
end
def envTP {β : Type u} (φ : Rid → Rid) : List (Nat × SV) → (List (Nat × SV) → β) → β
  | [], f => f []
  | (t, v) :: l, f => plV (svT φ v) fun v => envTP φ l fun r => f ((t, v) :: r)
theorem envTP_eq {β : Type u} {φ : Rid → Rid} : ∀ (l : List (Nat × SV)) (f : List (Nat × SV) → β), envTP φ l f = f (envT φ l)
  | [], f => rfl
  | (t, v) :: l, f => by simp only [envTP, plV_eq, envTP_eq l, envT]
def memTP {β : Type u} (φ : Rid → Rid) : List (Nat × MB) → (List (Nat × MB) → β) → β
  | [], f => f []
  | (t, m) :: l, f => match m with
    | .cells c => plL (svTL φ c) fun c => memTP φ l fun r => f ((t, .cells c) :: r)
    | .deck v => plV (svT φ v) fun v => memTP φ l fun r => f ((t, .deck v) :: r)
    | m => memTP φ l fun r => f ((t, m) :: r)
theorem memTP_eq {β : Type u} {φ : Rid → Rid} : ∀ (l : List (Nat × MB)) (f : List (Nat × MB) → β), memTP φ l f = f (memT φ l)
  | [], f => rfl
  | (t, m) :: l, f => by cases m <;> simp only [memTP, plV_eq, plL_eq, memTP_eq l, memT, mbT]
def storeR (d : StoreD) (s : St) (f : St → Res) : Res := match d, s with
  | ⟨k, i, fc, n, ks, mv, m, _⟩, ⟨env, mem, nb⟩ => killP (k :: ks) mem fun mem1 => memTP (ridT k nb fc n i mv) ((nb, m) :: mem1) fun mem2 => envTP (ridT k nb fc n i mv) env fun env2 => nx nb fun nb' => f ⟨env2, mem2, nb'⟩
section
variable {x : Cx} {Q : Exit → St → Prop} {obs : List Prop} {K : List Kf} {all l : List Oper} {env : List (Nat × SV)} {mem : List (Nat × MB)} {nb : Nat}
theorem g_storeL (hL : LayOk x.P x.L) (fuel : Nat) {T : TypeId} {p y : Operand} {ty : TypeId} {pos : String} {after : Array Edge} {gd : Option (Nat × Bool)} {d : StoreD} (ho : AllP obs) (hg : goes all env gd = some true) (hd : storeD x.L ⟨env, mem, nb⟩ T p y = some d) (ho2 : AllP d.obs)
    (hk : Good x Q (storeR d ⟨env, mem, nb⟩ fun s' => run x fuel [] (.ops all l) K s')) : Good x Q (.ops obs all (⟨none, .store T p y, ty, pos, after, gd⟩ :: l) K ⟨env, mem, nb⟩) := by
  obtain ⟨k, i, fc, n, ks, mv, m, ob⟩ := d
  simp only [storeR, killP_eq, memTP_eq, envTP_eq, nx_eq] at hk
  exact ⟨ho, sq_step hg (step_storeL hL hd ho2) (run_ok hL hk).2⟩
end
theorem Trip.sub {P : Program} {g : Nat} {avs : List SV} {pre : St} {Z : Type} {ψ : Z → Prop} {res res' : Z → SV} {post post' : Z → St} (T : Trip P g avs pre ψ res post)
    (h : ∀ z, ψ z → SubG pre.nb ⟨[(0, res' z)], (post' z).mem, (post' z).nb⟩ ⟨[(0, res z)], (post z).mem, (post z).nb⟩) : Trip P g avs pre ψ res' post' := by
  refine ⟨T.can, fun V D0 w hE hD => (T.runs V D0 w hE hD).mono fun e w' ⟨z, V1, hz, he, hok, hnb, hag, hE1, hfr, hown⟩ => ?_⟩
  have hT := SubG_ok (x := ⟨P, [], 1, pre.nb⟩) (h z hz)
  have hr1 : Rep ⟨P, [], 1, pre.nb⟩ ⟨w, D0, Dl V pre.mem, V⟩ V1 ⟨[(0, res z)], (post z).mem, (post z).nb⟩ { tmps := #[den V1 (res z)], defers := [] } w' := by
    refine ⟨rfl, rfl, fun t v hv => ?_, fun t v hv => ?_, hE1.env, hfr, hown, ⟨hnb, hag⟩, fun b hb => ⟨hD b hb, ?_⟩⟩
    · simp only [find_cons] at hv
      split at hv
      · rename_i e; subst e; cases hv; rfl
      · simp [find] at hv
    · simp only [find_cons] at hv
      split at hv
      · cases hv; exact hok
      · simp [find] at hv
    · rintro ⟨r, y, hc, hl, hk, rfl⟩
      exact hE.d0 r y hc hl (by rw [hk]; simp) hb
  obtain ⟨V2, h2⟩ := hT.run _ V1 _ w' hr1
  have hres : den V2 (res' z) = den V1 (res z) := by
    have := h2.env 0 (res' z) (by simp [find])
    simpa using this.symm
  exact ⟨z, V2, hz, by rw [hres]; exact he, h2.envOk 0 (res' z) (by simp [find]), h2.pin.1, h2.pin.2, h2.ents.env, h2.frame, h2.own⟩
end Go.Proofs.Ytkageldgmkajbaa
namespace Go.Proofs.Ytkageldgmkajbaa
open Go.RowKit
section
variable {x : Cx} {s : St} (hL : LayOk x.P x.L)
include hL
end
section
variable {x : Cx} {s : St} (hL : LayOk x.P x.L)
include hL
end
section
variable {x : Cx} {Q : Exit → St → Prop} {obs : List Prop} {K : List Kf} {all l : List Oper} {env : List (Nat × SV)} {mem : List (Nat × MB)} {nb : Nat}
end
section
variable {x : Cx} {s : St} (hL : LayOk x.P x.L)
include hL
end
section
variable {x : Cx} {Q : Exit → St → Prop} {obs : List Prop} {K : List Kf} {all l : List Oper} {env : List (Nat × SV)} {mem : List (Nat × MB)} {nb : Nat}
end
section
variable {x : Cx} {Q : Exit → St → Prop} {obs : List Prop} {K : List Kf} {all l : List Oper}
end
section
variable {x : Cx} {s : St} (hL : LayOk x.P x.L)
include hL
end
section
variable {x : Cx} {Q : Exit → St → Prop} {obs : List Prop} {K : List Kf} {all l : List Oper} {env : List (Nat × SV)} {mem : List (Nat × MB)} {nb : Nat}
end
end Go.Proofs.Ytkageldgmkajbaa
namespace Go.Proofs.Ytkageldgmkajbaa
open Go.RowKit
abbrev gf (l : List Frc) (i : Nat) : Frc := gt (c := .frac) l i
abbrev gr (l : List (List Frc)) (i : Nat) : List Frc := gt (c := .fracs) l i
def upN (h : Nat → Frc) (l : List Frc) : Nat → List Frc
  | 0 => l
  | z + 1 => (upN h l z).set z (h z)
theorem upN_len {h : Nat → Frc} {l : List Frc} : ∀ z, (upN h l z).length = l.length
  | 0 => rfl
  | z + 1 => by rw [show upN h l (z + 1) = (upN h l z).set z (h z) from rfl, List.length_set]; exact upN_len z
theorem gf_set {l : List Frc} {z j : Nat} {x : Frc} (hz : z < l.length) : gf (l.set z x) j = if j = z then x else gf l j := by
  unfold gf
  by_cases e : j = z
  · rw [if_pos e, e]; exact gt_eq (c := .frac) (by rw [List.getElem?_set_self hz])
  · rw [if_neg e]
    have e2 : (l.set z x)[j]? = l[j]? := List.getElem?_set_ne (Ne.symm e)
    exact congrArg (fun o => Option.getD o (dflt .frac)) e2
theorem gf_upN {h : Nat → Frc} {l : List Frc} {j : Nat} : ∀ {z : Nat}, z ≤ l.length → gf (upN h l z) j = if j < z then h j else gf l j
  | 0, _ => by rw [if_neg (Nat.not_lt_zero _)]; rfl
  | z + 1, hz => by
    show gf ((upN h l z).set z (h z)) j = _
    rw [gf_set (by rw [upN_len]; omega), gf_upN (by omega)]
    by_cases e : j = z
    · rw [if_pos e, if_pos (by omega), e]
    · rw [if_neg e]
      by_cases e2 : j < z
      · rw [if_pos e2, if_pos (by omega)]
      · rw [if_neg e2, if_neg (by omega)]
theorem upN_s {h : Nat → Frc} {l : List Frc} {z : Nat} {x : Frc} (hx : h z = x) : (upN h l z).set z x = upN h l (z + 1) := by rw [← hx]; rfl
theorem gf_at {h : Nat → Frc} {l : List Frc} {z : Nat} (hz : z ≤ l.length) : gf (upN h l z) z = gf l z := by rw [gf_upN hz, if_neg (Nat.lt_irrefl _)]
def WkL (l : List Frc) : Prop := ∀ j, WkF (gf l j)
def clH (l y : List Frc) (col j : Nat) : Frc := subF (gf l j) (mulF (gf l col) (gf y j))
def clr (l y : List Frc) (col : Nat) : List Frc := upN (clH l y col) l l.length
theorem clr_len (l y : List Frc) (col : Nat) : (clr l y col).length = l.length := upN_len _
theorem gf_clr {l y : List Frc} {col j : Nat} (h : j < l.length) : gf (clr l y col) j = clH l y col j := by unfold clr; rw [gf_upN (Nat.le_refl _), if_pos h]
theorem gf_out {l : List Frc} {j : Nat} (h : ¬ j < l.length) : gf l j = ⟨0, 0⟩ := by
  show l.getD j (dflt .frac) = _
  rw [List.getD_eq_getElem?_getD, List.getElem?_eq_none (by omega)]; rfl
theorem wk_zero : WkF ⟨0, 0⟩ := ⟨by decide, by decide, by decide, by decide⟩
theorem clr_wk (l y : List Frc) (col : Nat) : WkL (clr l y col) := fun j => by
  by_cases h : j < l.length
  · rw [gf_clr h]; exact subF_wk _ _
  · rw [gf_out (by rw [clr_len]; exact h)]; exact wk_zero
def zrs (n : Nat) : List Frc := List.replicate n ⟨0, 1⟩
theorem zrs_s (n : Nat) : zrs n ++ [⟨0, 1⟩] = zrs (n + 1) := by unfold zrs; rw [List.replicate_succ']
theorem zrs_len (n : Nat) : (zrs n).length = n := List.length_replicate
attribute [local irreducible] mulF mulE subF subE divF divE addF addE clr upN zrs
theorem r_whole (n : Int) : Trip Try.prog 39 [.int .i64 n] ⟨[], [], 0⟩ (Z := Unit) (fun _ => True) (fun _ => .agg [.int .i64 n, .int .i64 1]) (fun _ => ⟨[], [], 0⟩) := by
  refine trip_by (rs := [_]) 400 lay_ok Try.func39 rfl (by kernel_rfl) Try.ntmps39 Try.results39 rfl rfl ?_
  repeat' (first | (((with_reducible refine g_id ?_); (conv => arg 3; whnf)); first | (with_reducible refine g_fin ?_ ?_)) | ((with_reducible refine o_id ?_); (conv => arg 1; whnf); first | (with_reducible exact o_nil) | fail) | fail)
  all_goals (((with_reducible refine e_id ?_); (conv => whnf)); refine ⟨(), trivial, ?_⟩; ((with_reducible refine s_id ?_); (conv => arg 1; whnf); (with_reducible refine s_some ?_); repeat' (first | ((with_reducible refine o_id ?_); (conv => arg 1; whnf); first | (with_reducible exact o_nil) | (with_reducible refine o_cons ?_ ?_)) | rfl | fail)))
theorem r_zeros (n : Int) (h0 : 0 ≤ n) (h1 : n ≤ 1048576) : Trip Try.prog 38 [.int .i64 n] ⟨[], [], 0⟩ (Z := Unit) (fun _ => True) (fun _ => .sl ⟨0, []⟩) (fun _ => ⟨[], [(0, .list .own .frac (zrs n.toNat))], 1⟩) := by
  refine trip_by (rs := [_]) 400 lay_ok Try.func38 rfl (by kernel_rfl) Try.ntmps38 Try.results38 rfl rfl ?_
  repeat' (first | (((with_reducible refine g_id ?_); (conv => arg 3; whnf)); first | (with_reducible refine g_split lay_ok 400 ?_ ?_ ?_) | fail) | fail)
  refine g_loop lay_ok 400 (Z := Nat) (fun z => (z : Int) ≤ n) (fun z => ⟨[(3, .sl ⟨0, []⟩), (4, .int .i64 n), (5, .int .i64 (z : Int))], [(0, .list .own .frac (zrs z))], 1⟩) (fun z => n.toNat - z) ?_ ⟨0, by omega, ?_⟩ (fun z hz => ?_)
  · repeat' (first | ((with_reducible refine o_id ?_); (conv => arg 1; whnf); first | (with_reducible exact o_nil) | fail) | fail)
  · ((with_reducible refine s_id ?_); (conv => arg 1; whnf); (with_reducible refine s_some ?_); repeat' (first | ((with_reducible refine o_id ?_); (conv => arg 1; whnf); first | (with_reducible exact o_nil) | (with_reducible refine o_cons ?_ ?_)) | (with_reducible rfl) | omega | (unfold zrs; rfl)))
  by_cases hlt : (z : Int) < n
  · repeat' (first | (((with_reducible refine g_id ?_); (conv => arg 3; whnf)); first | (with_reducible refine g_cond lay_ok 400 ?_ ?_ ?_) | (with_reducible refine g_fin ?_ ?_) | (refine g_call lay_ok 400 ?_ ?_ ?_ (r_whole ?_) rfl)) | ((with_reducible refine o_id ?_); (conv => arg 1; whnf); first | (with_reducible exact o_nil) | (with_reducible refine o_cons ?_ ?_)) | (intro h; ((try simp only [Int.toNat_natCast] at h); repeat (first | replace h := of_decide_eq_true h | replace h := of_decide_eq_false h | fail)); (try (first | contradiction | fail))) | omega | rfl | (simp only [zrs_len, List.length_cons, List.length_nil]; omega) | fail)
    all_goals (refine q_round ⟨z + 1, by omega, by omega, ?_⟩; ((with_reducible refine s_id ?_); (conv => arg 1; whnf); (with_reducible refine s_some ?_); repeat' (first | ((with_reducible refine o_id ?_); (conv => arg 1; whnf); first | (with_reducible exact o_nil) | (with_reducible refine o_cons ?_ ?_)) | (with_reducible rfl) | omega | (exact (zrs_s _).symm) | fail)))
  · have e : n = (z : Int) := by omega
    subst e
    rw [Int.toNat_natCast]
    repeat' (first | (((with_reducible refine g_id ?_); (conv => arg 3; whnf)); first | (with_reducible refine g_cond lay_ok 400 ?_ ?_ ?_) | (with_reducible refine g_fin ?_ ?_) | fail) | (with_reducible refine q_leave lay_ok 400 ?_) | (with_reducible exact o_nil) | ((with_reducible refine o_id ?_); (conv => arg 1; whnf); first | (with_reducible exact o_nil) | fail) | (intro h; ((try simp only [Int.toNat_natCast] at h); repeat (first | replace h := of_decide_eq_true h | replace h := of_decide_eq_false h | fail)); (try (first | contradiction | fail))) | fail)
    all_goals (((with_reducible refine e_id ?_); (conv => whnf)); refine ⟨(), trivial, ?_⟩; ((with_reducible refine s_id ?_); (conv => arg 1; whnf); (with_reducible refine s_some ?_); repeat' (first | ((with_reducible refine o_id ?_); (conv => arg 1; whnf); first | (with_reducible exact o_nil) | (with_reducible refine o_cons ?_ ?_)) | rfl | fail)))
set_option maxHeartbeats 8000000 in
theorem r_clearR (RS : List (List Frc)) (k row col : Nat) (hk : k < RS.length) (hr : row < RS.length) (hc : col < (gr RS k).length) (hle : (gr RS k).length ≤ (gr RS row).length) (hm : (gr RS k).length ≤ 1000) (hl : WkL (gr RS k)) (hy : WkL (gr RS row)) : Trip Try.prog 43 [.sl ⟨0, [(k, 0)]⟩, .sl ⟨0, [(row, 0)]⟩, .int .i64 (col : Int)] ⟨[], [(0, .list .tmp .fracs RS)], 1⟩ (Z := Unit) (fun _ => True) (fun _ => .sl ⟨1, []⟩) (fun _ => ⟨[], [(0, .list .tmp .fracs RS), (1, .list .own .frac (clr (gr RS k) (gr RS row) col))], 2⟩) := by
  refine trip_by (rs := [_]) 400 lay_ok Try.func43 rfl (by kernel_rfl) Try.ntmps43 Try.results43 rfl rfl ?_
  repeat' (first | (((with_reducible refine g_id ?_); (conv => arg 3; whnf)); first | (with_reducible refine g_split lay_ok 400 ?_ ?_ ?_) | fail) | fail)
  refine g_loop lay_ok 400 (Z := Nat) (fun z => z ≤ (gr RS k).length) (fun z => ⟨[(1, .sl ⟨0, [(row, 0)]⟩), (7, .ptr 1 0), (8, .sl ⟨2, []⟩), (19, .int .i64 ((gr RS k).length : Int)), (20, .int .i64 (z : Int))], [(0, .list .tmp .fracs RS), (1, .cells [.int .i64 (gf (gr RS k) col).num, .int .i64 (gf (gr RS k) col).den]), (2, .list .own .frac (upN (clH (gr RS k) (gr RS row) col) (gr RS k) z))], 3⟩) (fun z => (gr RS k).length - z) ?_ ⟨0, Nat.zero_le _, ?_⟩ (fun z hz => ?_)
  · repeat' (first | ((with_reducible refine o_id ?_); (conv => arg 1; whnf); first | (with_reducible exact o_nil) | (with_reducible refine o_cons ?_ ?_)) | omega | assumption | (show (col : Int) < ((gr RS k).length : Int); omega) | (show (([] : List Frc).length + (gr RS k).length) * 16 ≤ 140737488355328; simp only [List.length_nil]; omega) | fail)
  · ((with_reducible refine s_id ?_); (conv => arg 1; whnf); (with_reducible refine s_some ?_); repeat' (first | ((with_reducible refine o_id ?_); (conv => arg 1; whnf); first | (with_reducible exact o_nil) | (with_reducible refine o_cons ?_ ?_)) | (with_reducible rfl) | omega | (exact rfl) | (unfold upN; rfl)))
  by_cases hlt : z < (gr RS k).length
  · have hU : WkF (gf (upN (clH (gr RS k) (gr RS row) col) (gr RS k) z) z) := by rw [gf_at (Nat.le_of_lt hlt)]; exact hl z
    have E : clH (gr RS k) (gr RS row) col z = clH (gr RS k) (gr RS row) col z := rfl
    conv at E => lhs; unfold clH
    rw [← gf_at (h := clH (gr RS k) (gr RS row) col) (Nat.le_of_lt hlt)] at E
    repeat' (first | (((with_reducible refine g_id ?_); (conv => arg 3; whnf)); first | (with_reducible refine g_cond lay_ok 400 ?_ ?_ ?_) | (with_reducible refine g_fin ?_ ?_) | (refine g_call lay_ok 400 ?_ ?_ ?_ (f_Mul ?_ ?_ ?_ ?_) rfl) | (refine g_call lay_ok 400 ?_ ?_ ?_ (f_Sub ?_ ?_ ?_ ?_) rfl) | (refine g_flow 6 lay_ok mixed_ok 400 1568 [0, 0, 0, 6, 14, 31, 63, 127, 127, 0, 767, 2047] (.q 0 (.q 1 (.q 2 (.q 3 (.q 4 (.e 5 [] (.q 6 (.q 7 (.q 8 (.e 9 [0, 1, 2, 3, 4, 6, 7, 8] (.e 10 [8] (.q 11 .fin) .stop) .stop)))) (.e 9 [0, 1, 2, 3, 4] (.e 5 [] (.q 6 (.q 7 (.q 8 (.e 10 [8] (.q 11 .fin) .stop)))) .stop) .stop))))))) (by kernel_rfl) ?_ ?_) | (refine g_flow 7 lay_ok mixed_ok 400 4224 [0, 0, 0, 0, 12, 28, 0, 124, 252, 508, 508, 1023, 3071] (.q 0 (.q 1 (.q 2 (.q 3 (.q 4 (.q 5 (.q 6 (.e 7 [0, 1] (.q 8 (.q 9 (.q 10 (.q 11 (.e 12 [10] (.fin) .stop))))) .stop)))))))) (by kernel_rfl) ?_ ?_)) | (((with_reducible refine w_id ?_); (conv => arg 4; whnf)); first | (with_reducible refine w_fin ?_ ?_) | (with_reducible refine w_tt ?_) | (with_reducible refine w_eff lay_ok 400 ?_ rfl rfl ?_ ?_)) | (with_reducible refine q_flow ?_ ?_) | ((with_reducible refine h_id ?_); (conv => arg 1; whnf); (with_reducible refine s_some ?_)) | (with_reducible exact o_nil) | ((with_reducible refine o_id ?_); (conv => arg 1; whnf); first | (with_reducible exact o_nil) | (with_reducible refine o_cons ?_ ?_)) | (intro h; ((try simp only [Int.toNat_natCast] at h); repeat (first | replace h := of_decide_eq_true h | replace h := of_decide_eq_false h | fail)); (try (first | (exfalso; omega) | fail))) | omega | rfl | assumption | (simp only [upN_len, Int.toNat_natCast]; omega) | (exact hl _) | (exact hy _) | (exact mulF_wk _ _) | (show (z : Int) < ((gr RS row).length : Int); omega) | (show (z : Int).toNat < (gr RS row).length; omega) | fail)
    all_goals (refine q_round ⟨z + 1, by omega, by omega, ?_⟩; ((with_reducible refine s_id ?_); (conv => arg 1; whnf); (with_reducible refine s_some ?_); repeat' (first | ((with_reducible refine o_id ?_); (conv => arg 1; whnf); first | (with_reducible exact o_nil) | (with_reducible refine o_cons ?_ ?_)) | (with_reducible rfl) | omega | (exact (upN_s E.symm).symm))))
  · have e : z = (gr RS k).length := by omega
    subst e
    repeat' (first | (((with_reducible refine g_id ?_); (conv => arg 3; whnf)); first | (with_reducible refine g_cond lay_ok 400 ?_ ?_ ?_) | (with_reducible refine g_fin ?_ ?_) | fail) | (with_reducible refine q_leave lay_ok 400 ?_) | (with_reducible exact o_nil) | ((with_reducible refine o_id ?_); (conv => arg 1; whnf); first | (with_reducible exact o_nil) | fail) | (intro h; ((try simp only [Int.toNat_natCast] at h); repeat (first | replace h := of_decide_eq_true h | replace h := of_decide_eq_false h | fail)); (try (first | (exfalso; omega) | fail))) | fail)
    all_goals (((with_reducible refine e_id ?_); (conv => whnf)); refine ⟨(), trivial, ?_⟩; ((with_reducible refine s_id ?_); (conv => arg 1; whnf); (with_reducible refine s_some ?_); repeat' (first | ((with_reducible refine o_id ?_); (conv => arg 1; whnf); first | (with_reducible exact o_nil) | (with_reducible refine o_cons ?_ ?_)) | rfl | (unfold clr; rfl))))
set_option maxHeartbeats 8000000 in
theorem r_clearG (RS : List (List Frc)) (G : List Frc) (row col : Nat) (hr : row < RS.length) (hc : col < G.length) (hle : G.length ≤ (gr RS row).length) (hm : G.length ≤ 1000) (hl : WkL G) (hy : WkL (gr RS row)) : Trip Try.prog 43 [.sl ⟨0, []⟩, .sl ⟨1, [(row, 0)]⟩, .int .i64 (col : Int)] ⟨[], [(0, .list .tmp .frac G), (1, .list .tmp .fracs RS)], 2⟩ (Z := Unit) (fun _ => True) (fun _ => .sl ⟨2, []⟩) (fun _ => ⟨[], [(0, .list .tmp .frac G), (1, .list .tmp .fracs RS), (2, .list .own .frac (clr G (gr RS row) col))], 3⟩) := by
  refine trip_by (rs := [_]) 400 lay_ok Try.func43 rfl (by kernel_rfl) Try.ntmps43 Try.results43 rfl rfl ?_
  repeat' (first | (((with_reducible refine g_id ?_); (conv => arg 3; whnf)); first | (with_reducible refine g_split lay_ok 400 ?_ ?_ ?_) | fail) | fail)
  refine g_loop lay_ok 400 (Z := Nat) (fun z => z ≤ G.length) (fun z => ⟨[(1, .sl ⟨1, [(row, 0)]⟩), (7, .ptr 2 0), (8, .sl ⟨3, []⟩), (19, .int .i64 (G.length : Int)), (20, .int .i64 (z : Int))], [(0, .list .tmp .frac G), (1, .list .tmp .fracs RS), (2, .cells [.int .i64 (gf G col).num, .int .i64 (gf G col).den]), (3, .list .own .frac (upN (clH G (gr RS row) col) G z))], 4⟩) (fun z => G.length - z) ?_ ⟨0, Nat.zero_le _, ?_⟩ (fun z hz => ?_)
  · repeat' (first | ((with_reducible refine o_id ?_); (conv => arg 1; whnf); first | (with_reducible exact o_nil) | (with_reducible refine o_cons ?_ ?_)) | omega | (simp only [List.length_append, List.length_cons, List.length_nil]; omega) | fail)
  · ((with_reducible refine s_id ?_); (conv => arg 1; whnf); (with_reducible refine s_some ?_); repeat' (first | ((with_reducible refine o_id ?_); (conv => arg 1; whnf); first | (with_reducible exact o_nil) | (with_reducible refine o_cons ?_ ?_)) | (with_reducible rfl) | omega | (simp only [List.length_append, List.length_cons, List.length_nil]; omega) | (exact rfl) | (unfold upN; rfl)))
  by_cases hlt : z < G.length
  · have hU : WkF (gf (upN (clH G (gr RS row) col) G z) z) := by rw [gf_at (Nat.le_of_lt hlt)]; exact hl z
    have E : clH G (gr RS row) col z = clH G (gr RS row) col z := rfl
    conv at E => lhs; unfold clH
    rw [← gf_at (h := clH G (gr RS row) col) (Nat.le_of_lt hlt)] at E
    repeat' (first | (((with_reducible refine g_id ?_); (conv => arg 3; whnf)); first | (with_reducible refine g_cond lay_ok 400 ?_ ?_ ?_) | (with_reducible refine g_fin ?_ ?_) | (refine g_call lay_ok 400 ?_ ?_ ?_ (f_Mul ?_ ?_ ?_ ?_) rfl) | (refine g_call lay_ok 400 ?_ ?_ ?_ (f_Sub ?_ ?_ ?_ ?_) rfl) | (refine g_flow 6 lay_ok mixed_ok 400 1568 [0, 0, 0, 6, 14, 31, 63, 127, 127, 0, 767, 2047] (.q 0 (.q 1 (.q 2 (.q 3 (.q 4 (.e 5 [] (.q 6 (.q 7 (.q 8 (.e 9 [0, 1, 2, 3, 4, 6, 7, 8] (.e 10 [8] (.q 11 .fin) .stop) .stop)))) (.e 9 [0, 1, 2, 3, 4] (.e 5 [] (.q 6 (.q 7 (.q 8 (.e 10 [8] (.q 11 .fin) .stop)))) .stop) .stop))))))) (by kernel_rfl) ?_ ?_) | (refine g_flow 7 lay_ok mixed_ok 400 4224 [0, 0, 0, 0, 12, 28, 0, 124, 252, 508, 508, 1023, 3071] (.q 0 (.q 1 (.q 2 (.q 3 (.q 4 (.q 5 (.q 6 (.e 7 [0, 1] (.q 8 (.q 9 (.q 10 (.q 11 (.e 12 [10] (.fin) .stop))))) .stop)))))))) (by kernel_rfl) ?_ ?_)) | (((with_reducible refine w_id ?_); (conv => arg 4; whnf)); first | (with_reducible refine w_fin ?_ ?_) | (with_reducible refine w_tt ?_) | (with_reducible refine w_eff lay_ok 400 ?_ rfl rfl ?_ ?_)) | (with_reducible refine q_flow ?_ ?_) | ((with_reducible refine h_id ?_); (conv => arg 1; whnf); (with_reducible refine s_some ?_)) | (with_reducible exact o_nil) | ((with_reducible refine o_id ?_); (conv => arg 1; whnf); first | (with_reducible exact o_nil) | (with_reducible refine o_cons ?_ ?_)) | (intro h; ((try simp only [Int.toNat_natCast] at h); repeat (first | replace h := of_decide_eq_true h | replace h := of_decide_eq_false h | fail)); (try (first | (exfalso; omega) | fail))) | omega | rfl | assumption | (simp only [upN_len, Int.toNat_natCast]; omega) | (exact hl _) | (exact hy _) | (exact mulF_wk _ _) | (show (z : Int) < ((gr RS row).length : Int); omega) | (show (z : Int).toNat < (gr RS row).length; omega) | fail)
    all_goals (refine q_round ⟨z + 1, by omega, by omega, ?_⟩; ((with_reducible refine s_id ?_); (conv => arg 1; whnf); (with_reducible refine s_some ?_); repeat' (first | ((with_reducible refine o_id ?_); (conv => arg 1; whnf); first | (with_reducible exact o_nil) | (with_reducible refine o_cons ?_ ?_)) | (with_reducible rfl) | omega | (exact (upN_s E.symm).symm))))
  · have e : z = G.length := by omega
    subst e
    repeat' (first | (((with_reducible refine g_id ?_); (conv => arg 3; whnf)); first | (with_reducible refine g_cond lay_ok 400 ?_ ?_ ?_) | (with_reducible refine g_fin ?_ ?_) | fail) | (with_reducible refine q_leave lay_ok 400 ?_) | (with_reducible exact o_nil) | ((with_reducible refine o_id ?_); (conv => arg 1; whnf); first | (with_reducible exact o_nil) | fail) | (intro h; ((try simp only [Int.toNat_natCast] at h); repeat (first | replace h := of_decide_eq_true h | replace h := of_decide_eq_false h | fail)); (try (first | (exfalso; omega) | fail))) | fail)
    all_goals (((with_reducible refine e_id ?_); (conv => whnf)); refine ⟨(), trivial, ?_⟩; ((with_reducible refine s_id ?_); (conv => arg 1; whnf); (with_reducible refine s_some ?_); repeat' (first | ((with_reducible refine o_id ?_); (conv => arg 1; whnf); first | (with_reducible exact o_nil) | (with_reducible refine o_cons ?_ ?_)) | rfl | (unfold clr; rfl))))
end Go.Proofs.Ytkageldgmkajbaa
namespace Go.Proofs.Ytkageldgmkajbaa
open Go.RowKit
theorem gr_set {L : List (List Frc)} {z j : Nat} {x : List Frc} (hz : z < L.length) : gr (L.set z x) j = if j = z then x else gr L j := by
  by_cases e : j = z
  · rw [if_pos e, e]; exact gt_eq (c := .fracs) (by rw [List.getElem?_set_self hz])
  · rw [if_neg e]
    have e2 : (L.set z x)[j]? = L[j]? := List.getElem?_set_ne (Ne.symm e)
    exact congrArg (fun o => Option.getD o (dflt .fracs)) e2
structure Tbl (L : List (List Frc)) (n m : Nat) : Prop where
  hn : L.length = n
  hm : ∀ k, k < n → (gr L k).length = m
  hw : ∀ k, k < n → WkL (gr L k)
theorem Tbl.set {L : List (List Frc)} {n m k : Nat} {r : List Frc} (h : Tbl L n m) (hk : k < n) (hr : r.length = m) (hw : WkL r) : Tbl (L.set k r) n m :=
  ⟨by rw [List.length_set]; exact h.hn, fun j hj => by
    rw [gr_set (by rw [h.hn]; exact hk)]; split
    · exact hr
    · exact h.hm j hj, fun j hj => by
    rw [gr_set (by rw [h.hn]; exact hk)]; split
    · exact hw
    · exact h.hw j hj⟩
def dvH (l : List Frc) (p : Frc) (j : Nat) : Frc := divF (gf l j) p
theorem dv_wk {l : List Frc} {p : Frc} (hl : WkL l) {z : Nat} (hz : z ≤ l.length) : WkL (upN (dvH l p) l z) := fun j => by
  rw [gf_upN hz]; split
  · exact divF_wk _ _
  · exact hl j
def dvl (l : List Frc) (p : Frc) : List Frc := upN (dvH l p) l l.length
def pvN (L : List (List Frc)) (row col : Nat) : Nat → List (List Frc)
  | 0 => L
  | z + 1 => if z = row then pvN L row col z else (pvN L row col z).set z (clr (gr (pvN L row col z) z) (gr (pvN L row col z) row) col)
def pv1 (L : List (List Frc)) (row col : Nat) : List (List Frc) := L.set row (dvl (gr L row) (gf (gr L row) col))
def pvM (L : List (List Frc)) (row col : Nat) : List (List Frc) := pvN (pv1 L row col) row col L.length
def pvG (L : List (List Frc)) (g : List Frc) (row col : Nat) : List Frc := clr g (gr (pvM L row col) row) col
theorem pvN_tbl {L : List (List Frc)} {n m row col : Nat} (h : Tbl L n m) : ∀ z, z ≤ n → Tbl (pvN L row col z) n m
  | 0, _ => h
  | z + 1, hz => by
    have ih := pvN_tbl (row := row) (col := col) h z (by omega)
    unfold pvN
    split
    · exact ih
    · exact ih.set (by omega) (by rw [clr_len]; exact ih.hm z (by omega)) (clr_wk _ _ _)
theorem pv1_tbl {L : List (List Frc)} {n m row col : Nat} (h : Tbl L n m) (hr : row < n) : Tbl (pv1 L row col) n m :=
  h.set hr (by unfold dvl; rw [upN_len]; exact h.hm row hr) (dv_wk (h.hw row hr) (Nat.le_refl _))
theorem pvM_tbl {L : List (List Frc)} {n m row col : Nat} (h : Tbl L n m) (hr : row < n) : Tbl (pvM L row col) n m := pvN_tbl (pv1_tbl h hr) _ (by rw [h.hn]; exact Nat.le_refl _)
theorem pvN_y {L : List (List Frc)} {row col z : Nat} (h : z = row) : pvN L row col (z + 1) = pvN L row col z := by show (if z = row then _ else _) = _; rw [if_pos h]
theorem pvN_n {L : List (List Frc)} {row col z : Nat} (h : ¬ z = row) : pvN L row col (z + 1) = (pvN L row col z).set z (clr (gr (pvN L row col z) z) (gr (pvN L row col z) row) col) := by show (if z = row then _ else _) = _; rw [if_neg h]
theorem set_gtR {L : List (List Frc)} {k : Nat} : L.set k (gr L k) = L := by
  apply List.ext_getElem?
  intro i
  by_cases hk : k < L.length
  · by_cases e : i = k
    · subst e
      rw [List.getElem?_set_self hk]
      show some ((L[i]?).getD (dflt .fracs)) = L[i]?
      rw [List.getElem?_eq_getElem hk]; rfl
    · rw [List.getElem?_set_ne (Ne.symm e)]
  · rw [List.set_eq_of_length_le (by omega)]
theorem pv_s {RS L : List (List Frc)} {row z : Nat} {h : Nat → Frc} {l : List Frc} {x : Frc} (hL : RS.set row (upN h l z) = L) (hr : row < RS.length) (hx : h z = x) : L.set row ((gr L row).set z x) = RS.set row (upN h l (z + 1)) := by
  rw [← hL, gr_set hr, if_pos rfl, upN_s hx, List.set_set]
theorem pv_0 {RS : List (List Frc)} {row : Nat} {h : Nat → Frc} : RS.set row (upN h (gr RS row) 0) = RS := by
  show RS.set row (gr RS row) = RS
  exact set_gtR
attribute [local irreducible] mulF mulE subF subE divF divE addF addE clr upN pvN
set_option maxHeartbeats 8000000 in
theorem r_pivot (RS : List (List Frc)) (bs : List Int) (g : List Frc) (row col n m : Nat) (hT : Tbl RS n m) (hr : row < n) (hc : col < m) (hb : bs.length = n) (hg : g.length = m) (hgw : WkL g) (hn : n ≤ 1000) (hm : m ≤ 1000) : Trip Try.prog 42 [.ptr 3 0, .int .i64 (row : Int), .int .i64 (col : Int)] ⟨[], [(0, .list .own .fracs RS), (1, .list .own .int bs), (2, .list .own .frac g), (3, .cells [.sl ⟨0, []⟩, .sl ⟨1, []⟩, .sl ⟨2, []⟩])], 4⟩ (Z := Unit) (fun _ => True) (fun _ => .tup []) (fun _ => ⟨[], [(1, .list .own .int (bs.set row (col : Int))), (3, .cells [.sl ⟨4, []⟩, .sl ⟨1, []⟩, .sl ⟨5, []⟩]), (4, .list .own .fracs (pvM RS row col)), (5, .list .own .frac (pvG RS g row col))], 6⟩) := by
  have hN := hT.hn
  have hlr := hT.hm row hr
  have hpw : WkF (gf (gr RS row) col) := hT.hw row hr col
  refine trip_by (rs := []) 400 lay_ok Try.func42 rfl (by kernel_rfl) Try.ntmps42 Try.results42 rfl rfl ?_
  repeat' (first | (((with_reducible refine g_id ?_); (conv => arg 3; whnf)); first | (with_reducible refine g_split lay_ok 400 ?_ ?_ ?_) | fail) | fail)
  refine g_loop lay_ok 400 (Z := Nat) (fun z => z ≤ m) (fun z => ⟨[(0, .ptr 3 0), (1, .int .i64 (row : Int)), (2, .int .i64 (col : Int)), (6, .ptr 4 0), (26, .int .i64 (m : Int)), (27, .int .i64 (z : Int))], [(0, .list .own .fracs (RS.set row (upN (dvH (gr RS row) (gf (gr RS row) col)) (gr RS row) z))), (1, .list .own .int bs), (2, .list .own .frac g), (3, .cells [.sl ⟨0, []⟩, .sl ⟨1, []⟩, .sl ⟨2, []⟩]), (4, .cells [.int .i64 (gf (gr RS row) col).num, .int .i64 (gf (gr RS row) col).den])], 5⟩) (fun z => m - z) ?_ ⟨0, Nat.zero_le _, ?_⟩ (fun z hz => ?_)
  · repeat' (first | ((with_reducible refine o_id ?_); (conv => arg 1; whnf); first | (with_reducible exact o_nil) | (with_reducible refine o_cons ?_ ?_)) | omega | (show (col : Int).toNat < (gr RS row).length; omega) | (show (col : Int) < ((gr RS row).length : Int); omega) | fail)
  · ((with_reducible refine s_id ?_); (conv => arg 1; whnf); (with_reducible refine s_some ?_); repeat' (first | ((with_reducible refine o_id ?_); (conv => arg 1; whnf); first | (with_reducible exact o_nil) | (with_reducible refine o_cons ?_ ?_)) | (with_reducible rfl) | omega | (exact pv_0) | (show (m : Int) = ((gr RS row).length : Int); omega) | (exact rfl)))
  by_cases hlt : z < m
  · generalize hL : RS.set row (upN (dvH (gr RS row) (gf (gr RS row) col)) (gr RS row) z) = L
    have hLn : L.length = n := by rw [← hL, List.length_set]; exact hN
    have hLr : gr L row = upN (dvH (gr RS row) (gf (gr RS row) col)) (gr RS row) z := by rw [← hL, gr_set (by omega), if_pos rfl]
    have hLl : (gr L row).length = m := by rw [hLr, upN_len]; exact hlr
    have hLg : gf (gr L row) z = gf (gr RS row) z := by rw [hLr]; exact gf_at (by omega)
    have hLw : WkF (gf (gr L row) z) := by rw [hLg]; exact hT.hw row hr z
    have E : dvH (gr RS row) (gf (gr RS row) col) z = divF (gf (gr L row) z) (gf (gr RS row) col) := by rw [hLg]; rfl
    repeat' (first | (((with_reducible refine g_id ?_); (conv => arg 3; whnf)); first | (with_reducible refine g_cond lay_ok 400 ?_ ?_ ?_) | (with_reducible refine g_fin ?_ ?_) | (refine g_call lay_ok 400 ?_ ?_ ?_ (f_Div ?_ ?_ ?_ ?_) rfl) | (refine g_flow 4 lay_ok mixed_ok 400 17301504 [0, 1, 3, 7, 0, 31, 63, 0, 0, 256, 768, 1792, 0, 7936, 16128, 0, 65280, 130816, 0, 524032, 1048320, 2096896, 2096896, 4194303, 12582911] (.q 0 (.q 1 (.q 2 (.q 3 (.q 4 (.q 5 (.q 6 (.q 7 (.q 8 (.q 9 (.q 10 (.q 11 (.q 12 (.q 13 (.q 14 (.q 15 (.q 16 (.q 17 (.q 18 (.e 19 [0, 1, 2, 3, 4, 5, 6, 7] (.q 20 (.q 21 (.q 22 (.q 23 (.e 24 [22] (.fin) .stop))))) .stop)))))))))))))))))))) (by kernel_rfl) ?_ ?_) | fail) | (((with_reducible refine w_id ?_); (conv => arg 4; whnf)); first | (with_reducible refine w_fin ?_ ?_) | (with_reducible refine w_tt ?_) | (with_reducible refine w_eff lay_ok 400 ?_ rfl rfl ?_ ?_)) | (with_reducible refine q_flow ?_ ?_) | ((with_reducible refine h_id ?_); (conv => arg 1; whnf); (with_reducible refine s_some ?_)) | (with_reducible exact o_nil) | ((with_reducible refine o_id ?_); (conv => arg 1; whnf); first | (with_reducible exact o_nil) | (with_reducible refine o_cons ?_ ?_)) | (intro h; ((try simp only [Int.toNat_natCast] at h); repeat (first | replace h := of_decide_eq_true h | replace h := of_decide_eq_false h | fail)); (try (first | (exfalso; omega) | fail))) | omega | rfl | assumption | (show (z : Int) < ((gr L row).length : Int); omega) | (show (z : Int).toNat < (gr L row).length; omega) | fail)
    all_goals (refine q_round ⟨z + 1, by omega, by omega, ?_⟩; ((with_reducible refine s_id ?_); (conv => arg 1; whnf); (with_reducible refine s_some ?_); repeat' (first | ((with_reducible refine o_id ?_); (conv => arg 1; whnf); first | (with_reducible exact o_nil) | (with_reducible refine o_cons ?_ ?_)) | (with_reducible rfl) | omega | (exact (pv_s hL (by omega) E).symm) | fail)))
  · have e1 : RS.set row (upN (dvH (gr RS row) (gf (gr RS row) col)) (gr RS row) z) = pv1 RS row col := by rw [show z = (gr RS row).length by omega]; rfl
    rw [e1]
    have hP := pv1_tbl (col := col) hT hr
    have eR : pvM RS row col = pvN (pv1 RS row col) row col n := by unfold pvM; rw [hN]
    generalize pv1 RS row col = P at *
    have hPn := hP.hn
    repeat' (first | (((with_reducible refine g_id ?_); (conv => arg 3; whnf)); first | (with_reducible refine g_cond lay_ok 400 ?_ ?_ ?_) | (with_reducible refine g_fin ?_ ?_) | fail) | (with_reducible refine q_leave lay_ok 400 ?_) | (with_reducible exact o_nil) | ((with_reducible refine o_id ?_); (conv => arg 1; whnf); first | (with_reducible exact o_nil) | fail) | (intro h; ((try simp only [Int.toNat_natCast] at h); repeat (first | replace h := of_decide_eq_true h | replace h := of_decide_eq_false h | fail)); (try (first | (exfalso; omega) | fail))) | fail)
    refine g_loop lay_ok 400 (Z := Nat) (fun z => z ≤ n) (fun z => ⟨[(0, .ptr 3 0), (1, .int .i64 (row : Int)), (2, .int .i64 (col : Int)), (59, .int .i64 (n : Int)), (60, .int .i64 (z : Int))], [(1, .list .own .int bs), (2, .list .own .frac g), (3, .cells [.sl ⟨5, []⟩, .sl ⟨1, []⟩, .sl ⟨2, []⟩]), (5, .list .own .fracs (pvN P row col z))], 6⟩) (fun z => n - z) ?_ ⟨0, Nat.zero_le _, ?_⟩ (fun z hz => ?_)
    · repeat' (first | ((with_reducible refine o_id ?_); (conv => arg 1; whnf); first | (with_reducible exact o_nil) | fail) | fail)
    · ((with_reducible refine s_id ?_); (conv => arg 1; whnf); (with_reducible refine s_some ?_); repeat' (first | ((with_reducible refine o_id ?_); (conv => arg 1; whnf); first | (with_reducible exact o_nil) | (with_reducible refine o_cons ?_ ?_)) | (with_reducible rfl) | omega | (unfold pvN; rfl)))
    by_cases hlt2 : z < n
    · have hLT := pvN_tbl (row := row) (col := col) hP z (by omega)
      by_cases hzr : z = row
      · have E := pvN_y (L := P) (col := col) hzr
        generalize pvN P row col z = L at *
        have hLn := hLT.hn
        repeat' (first | (((with_reducible refine g_id ?_); (conv => arg 3; whnf)); first | (with_reducible refine g_cond lay_ok 400 ?_ ?_ ?_) | (with_reducible refine g_fin ?_ ?_) | fail) | ((with_reducible refine o_id ?_); (conv => arg 1; whnf); first | (with_reducible exact o_nil) | (with_reducible refine o_cons ?_ ?_)) | (intro h; ((try simp only [Int.toNat_natCast] at h); repeat (first | replace h := of_decide_eq_true h | replace h := of_decide_eq_false h | replace h := not_t h | replace h := not_f h | fail)); (try (first | (exfalso; omega) | fail))) | omega | fail)
        all_goals (refine q_round ⟨z + 1, by omega, by omega, ?_⟩; ((with_reducible refine s_id ?_); (conv => arg 1; whnf); (with_reducible refine s_some ?_); repeat' (first | ((with_reducible refine o_id ?_); (conv => arg 1; whnf); first | (with_reducible exact o_nil) | (with_reducible refine o_cons ?_ ?_)) | (with_reducible rfl) | omega | fail)))
      · have E := pvN_n (L := P) (col := col) hzr
        generalize pvN P row col z = L at *
        have hLn := hLT.hn
        have l1 := hLT.hm z (by omega)
        have l2 := hLT.hm row (by omega)
        repeat' (first | (((with_reducible refine g_id ?_); (conv => arg 3; whnf)); first | (with_reducible refine g_cond lay_ok 400 ?_ ?_ ?_) | (with_reducible refine g_fin ?_ ?_) | (refine g_call lay_ok 400 ?_ ?_ ?_ (r_clearR ?_ ?_ ?_ ?_ ?_ ?_ ?_ ?_ ?_ ?_ ?_) rfl) | (refine g_storeL lay_ok 400 ?_ rfl rfl ?_ ?_) | (refine g_flow 10 lay_ok mixed_ok 400 5242880 [0, 1, 3, 7, 0, 0, 32, 96, 224, 0, 992, 2016, 0, 4096, 12288, 28672, 0, 126976, 258048, 0, 1048544, 2097151, 4194303] (.q 0 (.q 1 (.q 2 (.q 3 (.q 4 (.q 5 (.q 6 (.q 7 (.q 8 (.q 9 (.q 10 (.q 11 (.q 12 (.q 13 (.q 14 (.q 15 (.q 16 (.q 17 (.q 18 (.q 19 (.e 20 [0, 1, 2, 3, 4] (.q 21 (.e 22 [] (.fin) .stop)) .stop))))))))))))))))))))) (by kernel_rfl) ?_ ?_) | fail) | (((with_reducible refine w_id ?_); (conv => arg 4; whnf)); first | (with_reducible refine w_fin ?_ ?_) | (with_reducible refine w_tt ?_) | (with_reducible refine w_eff lay_ok 400 ?_ rfl rfl ?_ ?_)) | (with_reducible refine q_flow ?_ ?_) | ((with_reducible refine h_id ?_); (conv => arg 1; whnf); (with_reducible refine s_some ?_)) | (with_reducible exact o_nil) | (with_reducible refine o_cons ?_ ?_) | ((with_reducible refine o_id ?_); (conv => arg 1; whnf); first | (with_reducible exact o_nil) | (with_reducible refine o_cons ?_ ?_)) | (intro h; ((try simp only [Int.toNat_natCast] at h); repeat (first | replace h := of_decide_eq_true h | replace h := of_decide_eq_false h | replace h := not_t h | replace h := not_f h | fail)); (try (first | (exfalso; omega) | fail))) | omega | rfl | (simp only [Int.toNat_natCast]; omega) | (exact hLT.hw z (by omega) _) | (exact hLT.hw row (by omega) _) | fail)
        all_goals (refine q_round ⟨z + 1, by omega, by omega, ?_⟩; ((with_reducible refine s_id ?_); (conv => arg 1; whnf); (with_reducible refine s_some ?_); repeat' (first | ((with_reducible refine o_id ?_); (conv => arg 1; whnf); first | (with_reducible exact o_nil) | (with_reducible refine o_cons ?_ ?_)) | (with_reducible rfl) | omega | assumption | fail)))
    · have e2 : z = n := by omega
      subst e2
      rw [show pvG RS g row col = clr g (gr (pvM RS row col) row) col from rfl, eR]
      have hLT := pvN_tbl (row := row) (col := col) hP z (by omega)
      generalize pvN P row col z = L at *
      clear eR
      have hLn := hLT.hn
      have l2 := hLT.hm row (by omega)
      repeat' (first | (((with_reducible refine g_id ?_); (conv => arg 3; whnf)); first | (with_reducible refine g_cond lay_ok 400 ?_ ?_ ?_) | (with_reducible refine g_fin ?_ ?_) | (refine g_call lay_ok 400 ?_ ?_ ?_ (r_clearG ?_ ?_ ?_ ?_ ?_ ?_ ?_ ?_ ?_ ?_) rfl) | (refine g_flow 12 lay_ok mixed_ok 400 73728 [0, 0, 2, 6, 14, 0, 32, 96, 224, 0, 992, 2016, 0, 8190, 16383, 32767, 65535] (.q 0 (.q 1 (.q 2 (.q 3 (.q 4 (.q 5 (.q 6 (.q 7 (.q 8 (.q 9 (.q 10 (.q 11 (.q 12 (.e 13 [0] (.q 14 (.q 15 (.e 16 [] (.fin) .stop))) .stop)))))))))))))) (by kernel_rfl) ?_ ?_)) | (((with_reducible refine w_id ?_); (conv => arg 4; whnf)); first | (with_reducible refine w_fin ?_ ?_) | (with_reducible refine w_tt ?_) | (with_reducible refine w_eff lay_ok 400 ?_ rfl rfl ?_ ?_)) | (with_reducible refine q_flow ?_ ?_) | ((with_reducible refine h_id ?_); (conv => arg 1; whnf); (with_reducible refine s_some ?_)) | (with_reducible refine q_leave lay_ok 400 ?_) | (with_reducible exact o_nil) | ((with_reducible refine o_id ?_); (conv => arg 1; whnf); first | (with_reducible exact o_nil) | (with_reducible refine o_cons ?_ ?_)) | (intro h; ((try simp only [Int.toNat_natCast] at h); repeat (first | replace h := of_decide_eq_true h | replace h := of_decide_eq_false h | fail)); (try (first | (exfalso; omega) | fail))) | omega | rfl | (simp only [Int.toNat_natCast]; omega) | (exact hLT.hw row (by omega) _) | (exact hgw _) | fail)
      all_goals (((with_reducible refine e_id ?_); (conv => whnf)); refine ⟨(), trivial, ?_⟩; ((with_reducible refine s_id ?_); (conv => arg 1; whnf); (with_reducible refine s_some ?_); repeat' (first | ((with_reducible refine o_id ?_); (conv => arg 1; whnf); first | (with_reducible exact o_nil) | (with_reducible refine o_cons ?_ ?_)) | rfl | fail)))
end Go.Proofs.Ytkageldgmkajbaa
namespace Go.Proofs.Ytkageldgmkajbaa
open Go.RowKit
abbrev gi (l : List Int) (i : Nat) : Int := gt (c := .int) l i
structure TS where
  L : List (List Frc)
  b : List Int
  g : List Frc
def colN (g : List Frc) : Nat → Int
  | 0 => -1
  | c + 1 => if colN g c < 0 then (if (gf g c).num < 0 then (c : Int) else -1) else colN g c
theorem colN_bd (g : List Frc) : ∀ c, -1 ≤ colN g c ∧ colN g c < c
  | 0 => ⟨Int.le_refl _, by show (-1 : Int) < ((0 : Nat) : Int); decide⟩
  | c + 1 => by
    have ih := colN_bd g c
    show -1 ≤ (if _ then _ else _) ∧ (if _ then _ else _) < _
    split
    · split <;> omega
    · omega
theorem colN_lo {g : List Frc} {c : Nat} (h : colN g c < 0) : colN g c = -1 := by have := (colN_bd g c).1; omega
theorem colN_s1 {g : List Frc} {c : Nat} (h : colN g c < 0) (h2 : (gf g c).num < 0) : colN g (c + 1) = (c : Int) := by show (if _ then _ else _) = _; rw [if_pos h, if_pos h2]
theorem colN_s2 {g : List Frc} {c : Nat} (h : colN g c < 0) (h2 : ¬ (gf g c).num < 0) : colN g (c + 1) = colN g c := by show (if _ then _ else _) = _; rw [if_pos h, if_neg h2, colN_lo h]
theorem colN_st {g : List Frc} {c : Nat} (h : ¬ colN g c < 0) : ∀ d, colN g (c + d) = colN g c
  | 0 => rfl
  | d + 1 => by
    have ih := colN_st h d
    show (if colN g (c + d) < 0 then _ else colN g (c + d)) = _
    rw [ih, if_neg h]
theorem colN_end {g : List Frc} {c n : Nat} (h : ¬ colN g c < 0) (hn : c ≤ n) : colN g n = colN g c := by
  have := colN_st h (n - c)
  rw [show c + (n - c) = n by omega] at this; exact this
def rowN (L : List (List Frc)) (b : List Int) (c l : Nat) : Nat → Int × Frc
  | 0 => (-1, ⟨0, 0⟩)
  | k + 1 => if (gf (gr L k) c).num ≤ 0 then rowN L b c l k
    else if 0 ≤ (rowN L b c l k).1 ∧ (0 < cmpF (divF (gf (gr L k) l) (gf (gr L k) c)) (rowN L b c l k).2 ∨ cmpF (divF (gf (gr L k) l) (gf (gr L k) c)) (rowN L b c l k).2 = 0 ∧ gi b (rowN L b c l k).1.toNat < gi b k) then rowN L b c l k
    else ((k : Int), divF (gf (gr L k) l) (gf (gr L k) c))
theorem rowN_bd (L : List (List Frc)) (b : List Int) (c l : Nat) : ∀ k, -1 ≤ (rowN L b c l k).1 ∧ (rowN L b c l k).1 < k ∧ WkF (rowN L b c l k).2
  | 0 => ⟨Int.le_refl _, by show (-1 : Int) < ((0 : Nat) : Int); decide, wk_zero⟩
  | k + 1 => by
    have ih := rowN_bd L b c l k
    unfold rowN
    split
    · exact ⟨ih.1, by omega, ih.2.2⟩
    · split
      · exact ⟨ih.1, by omega, ih.2.2⟩
      · exact ⟨by dsimp only; omega, by dsimp only; omega, divF_wk _ _⟩
def cSel (n : Nat) (t : TS) : Int := colN t.g n
def rSel (n : Nat) (t : TS) : Int := (rowN t.L t.b (cSel n t).toNat (t.g.length - 1) t.L.length).1
def nxt (n : Nat) (t : TS) : TS := ⟨pvM t.L (rSel n t).toNat (cSel n t).toNat, t.b.set (rSel n t).toNat (cSel n t), pvG t.L t.g (rSel n t).toNat (cSel n t).toNat⟩
def goesT (n : Nat) (t : TS) : Prop := ¬ cSel n t < 0 ∧ ¬ rSel n t < 0
def itT (n : Nat) (t : TS) : Nat → TS
  | 0 => t
  | s + 1 => nxt n (itT n t s)
structure TOK (t : TS) (k m : Nat) : Prop where
  T : Tbl t.L k (m + 1)
  b : t.b.length = k
  g : t.g.length = m + 1
  w : WkL t.g
theorem TOK.piv {t : TS} {k m r c : Nat} (h : TOK t k m) (hr : r < k) {x : Int} : TOK ⟨pvM t.L r c, t.b.set r x, pvG t.L t.g r c⟩ k m :=
  ⟨pvM_tbl h.T hr, by rw [List.length_set]; exact h.b, by show (clr _ _ _).length = _; rw [clr_len]; exact h.g, clr_wk _ _ _⟩
theorem TOK.nxt {t : TS} {k m n : Nat} (h : TOK t k m) (hg : goesT n t) : TOK (nxt n t) k m := by
  have h1 := rowN_bd t.L t.b (cSel n t).toNat (t.g.length - 1) t.L.length
  have h2 := hg.2
  have h3 := h.T.hn
  exact h.piv (by unfold rSel at *; omega)
theorem TOK.it {t : TS} {k m n : Nat} (h : TOK t k m) : ∀ s, (∀ i, i < s → goesT n (itT n t i)) → TOK (itT n t s) k m
  | 0, _ => h
  | s + 1, hs => (h.it s fun i hi => hs i (by omega)).nxt (hs s (by omega))
theorem ex_w {I : Nat → Prop} {m : Nat → Nat} {n : Nat} {P : Nat → Prop} (k : Nat) (hI : I k) (hm : m k < n) (hP : P k) : ∃ z, I z ∧ m z < n ∧ P z := ⟨_, hI, hm, hP⟩
section
variable {L : List (List Frc)} {b : List Int} {c l k : Nat} {R : Int} {B : Frc}
theorem rw_1 (e : rowN L b c l k = (R, B)) (h : (gf (gr L k) c).num ≤ 0) : rowN L b c l (k + 1) = (R, B) := by
  show (if _ then _ else _) = _
  rw [if_pos h, e]
theorem rw_2 (e : rowN L b c l k = (R, B)) (h : ¬ (gf (gr L k) c).num ≤ 0) (h2 : 0 ≤ R ∧ (0 < cmpF (divF (gf (gr L k) l) (gf (gr L k) c)) B ∨ cmpF (divF (gf (gr L k) l) (gf (gr L k) c)) B = 0 ∧ gi b R.toNat < gi b k)) : rowN L b c l (k + 1) = (R, B) := by
  show (if _ then _ else _) = _
  rw [if_neg h, e, if_pos h2]
theorem rw_3 (e : rowN L b c l k = (R, B)) (h : ¬ (gf (gr L k) c).num ≤ 0) (h2 : ¬ (0 ≤ R ∧ (0 < cmpF (divF (gf (gr L k) l) (gf (gr L k) c)) B ∨ cmpF (divF (gf (gr L k) l) (gf (gr L k) c)) B = 0 ∧ gi b R.toNat < gi b k))) : rowN L b c l (k + 1) = ((k : Int), divF (gf (gr L k) l) (gf (gr L k) c)) := by
  show (if _ then _ else _) = _
  rw [if_neg h, e, if_neg h2]
end
attribute [local irreducible] mulF mulE subF subE divF divE addF addE clr upN pvN pvM pvG cmpF colN rowN
set_option maxHeartbeats 8000000 in
theorem r_run (t : TS) (n k m : Nat) (hT : TOK t k m) (hnm : n ≤ m) (hk : k ≤ 1000) (hm : m ≤ 999) (hend : ∀ s, (∀ i, i < s → goesT n (itT n t i)) → s < 16777216) : Trip Try.prog 41 [.ptr 3 0, .int .i64 (n : Int)] ⟨[], [(0, .list .own .fracs t.L), (1, .list .own .int t.b), (2, .list .own .frac t.g), (3, .cells [.sl ⟨0, []⟩, .sl ⟨1, []⟩, .sl ⟨2, []⟩])], 4⟩ (Z := Nat) (fun z => (∀ i, i < z → goesT n (itT n t i)) ∧ ¬ goesT n (itT n t z)) (fun z => .bool (decide (cSel n (itT n t z) < 0))) (fun z => ⟨[], [(1, .list .own .int (itT n t z).b), (3, .cells [.sl ⟨4, []⟩, .sl ⟨1, []⟩, .sl ⟨5, []⟩]), (4, .list .own .fracs (itT n t z).L), (5, .list .own .frac (itT n t z).g)], 6⟩) := by
  have hg := hT.g
  refine trip_by (rs := [_]) 400 lay_ok Try.func41 rfl (by kernel_rfl) Try.ntmps41 Try.results41 rfl rfl ?_
  repeat' (first | (((with_reducible refine g_id ?_); (conv => arg 3; whnf)); first | (with_reducible refine g_split lay_ok 400 ?_ ?_ ?_) | fail) | fail)
  refine g_loop lay_ok 400 (Z := Nat) (fun s => ∀ i, i < s → goesT n (itT n t i)) (fun s => ⟨[(0, .ptr 3 0), (1, .int .i64 (n : Int)), (5, .int .i64 (m : Int))], [(1, .list .own .int (itT n t s).b), (3, .cells [.sl ⟨4, []⟩, .sl ⟨1, []⟩, .sl ⟨5, []⟩]), (4, .list .own .fracs (itT n t s).L), (5, .list .own .frac (itT n t s).g)], 6⟩) (fun s => 16777216 - s) ?_ ⟨0, fun i hi => absurd hi (Nat.not_lt_zero i), ?_⟩ (fun s hs => ?_)
  · repeat' (first | ((with_reducible refine o_id ?_); (conv => arg 1; whnf); first | (with_reducible exact o_nil) | (with_reducible refine o_cons ?_ ?_)) | omega | fail)
  · ((with_reducible refine s_id ?_); (conv => arg 1; whnf); (with_reducible refine s_some ?_); repeat' (first | ((with_reducible refine o_id ?_); (conv => arg 1; whnf); first | (with_reducible exact o_nil) | (with_reducible refine o_cons ?_ ?_)) | (with_reducible rfl) | omega | (exact rfl)))
  have hS := hend s hs
  have hU := hT.it s hs
  have hN : goesT n (itT n t s) → ∀ i, i < s + 1 → goesT n (itT n t i) := fun h i hi => by
    by_cases e : i = s
    · rw [e]; exact h
    · exact hs i (by omega)
  have hN1 : goesT n (itT n t s) → s + 1 < 16777216 := fun h => hend _ (hN h)
  have eS : itT n t (s + 1) = nxt n (itT n t s) := rfl
  obtain ⟨u, hu⟩ : ∃ u, itT n t s = u := ⟨_, rfl⟩
  rw [hu] at hU hN hN1 eS ⊢
  have hg1 := hU.g
  have hb1 := hU.b
  have hL1 := hU.T.hn
  repeat' (first | (((with_reducible refine g_id ?_); (conv => arg 3; whnf)); first | (with_reducible refine g_split lay_ok 400 ?_ ?_ ?_) | fail) | fail)
  refine g_loop lay_ok 400 (Z := Nat) (fun q => q ≤ n) (fun q => ⟨[(0, .ptr 3 0), (1, .int .i64 (n : Int)), (5, .int .i64 (m : Int)), (6, .int .i64 (colN u.g q)), (7, .int .i64 (q : Int))], [(1, .list .own .int u.b), (3, .cells [.sl ⟨4, []⟩, .sl ⟨1, []⟩, .sl ⟨5, []⟩]), (4, .list .own .fracs u.L), (5, .list .own .frac u.g)], 6⟩) (fun q => n - q) ?_ ⟨0, Nat.zero_le _, ?_⟩ (fun q hq => ?_)
  · repeat' (first | ((with_reducible refine o_id ?_); (conv => arg 1; whnf); first | (with_reducible exact o_nil) | fail) | fail)
  · ((with_reducible refine s_id ?_); (conv => arg 1; whnf); (with_reducible refine s_some ?_); repeat' (first | ((with_reducible refine o_id ?_); (conv => arg 1; whnf); first | (with_reducible exact o_nil) | (with_reducible refine o_cons ?_ ?_)) | (with_reducible rfl) | omega | (unfold colN; rfl)))
  by_cases hq1 : q < n
  · by_cases hq2 : colN u.g q < 0
    · by_cases hq3 : (gf u.g q).num < 0
      · have E := colN_s1 hq2 hq3
        have hq4 := hq3
        repeat' (first | (((with_reducible refine g_id ?_); (conv => arg 3; whnf)); first | (with_reducible refine g_split lay_ok 400 ?_ ?_ ?_) | (with_reducible refine g_cond lay_ok 400 ?_ ?_ ?_) | (with_reducible refine g_fin ?_ ?_) | fail) | ((with_reducible refine o_id ?_); (conv => arg 1; whnf); first | (with_reducible exact o_nil) | (with_reducible refine o_cons ?_ ?_)) | (intro h; ((try simp only [Int.toNat_natCast] at h); repeat (first | replace h := of_decide_eq_true h | replace h := of_decide_eq_false h | fail)); (try (first | contradiction | (exfalso; omega) | fail))) | omega | fail)
        all_goals (refine q_round ⟨q + 1, by omega, by omega, ?_⟩; ((with_reducible refine s_id ?_); (conv => arg 1; whnf); (with_reducible refine s_some ?_); repeat' (first | ((with_reducible refine o_id ?_); (conv => arg 1; whnf); first | (with_reducible exact o_nil) | (with_reducible refine o_cons ?_ ?_)) | (with_reducible rfl) | omega | fail)))
      · have E := colN_s2 hq2 hq3
        have hq4 := hq3
        repeat' (first | (((with_reducible refine g_id ?_); (conv => arg 3; whnf)); first | (with_reducible refine g_split lay_ok 400 ?_ ?_ ?_) | (with_reducible refine g_cond lay_ok 400 ?_ ?_ ?_) | (with_reducible refine g_fin ?_ ?_) | fail) | ((with_reducible refine o_id ?_); (conv => arg 1; whnf); first | (with_reducible exact o_nil) | (with_reducible refine o_cons ?_ ?_)) | (intro h; ((try simp only [Int.toNat_natCast] at h); repeat (first | replace h := of_decide_eq_true h | replace h := of_decide_eq_false h | fail)); (try (first | contradiction | (exfalso; omega) | fail))) | omega | fail)
        all_goals (refine q_round ⟨q + 1, by omega, by omega, ?_⟩; ((with_reducible refine s_id ?_); (conv => arg 1; whnf); (with_reducible refine s_some ?_); repeat' (first | ((with_reducible refine o_id ?_); (conv => arg 1; whnf); first | (with_reducible exact o_nil) | (with_reducible refine o_cons ?_ ?_)) | (with_reducible rfl) | omega | fail)))
    · have eC : colN u.g q = cSel n u := (colN_end hq2 (by omega)).symm
      rw [eC]
      by_cases hc : cSel n u < 0
      · repeat' (first | (((with_reducible refine g_id ?_); (conv => arg 3; whnf)); first | (with_reducible refine g_split lay_ok 400 ?_ ?_ ?_) | fail) | ((with_reducible refine o_id ?_); (conv => arg 1; whnf); first | (with_reducible exact o_nil) | fail) | (intro h; ((try simp only [Int.toNat_natCast] at h); repeat (first | replace h := of_decide_eq_true h | replace h := of_decide_eq_false h | fail)); (try (first | (exfalso; omega) | fail))) | fail)
        all_goals (((with_reducible refine e_id ?_); (conv => whnf)); refine ⟨s, ⟨hs, by rw [hu]; exact fun h => h.1 hc⟩, ?_⟩; simp only [hu]; ((with_reducible refine s_id ?_); (conv => arg 1; whnf); (with_reducible refine s_some ?_); repeat' (first | (with_reducible exact o_nil) | fail)))
      · have hcb := colN_bd u.g n
        have hcb2 : cSel n u = colN u.g n := rfl
        obtain ⟨c, hcc⟩ : ∃ c : Nat, cSel n u = (c : Int) := ⟨(cSel n u).toNat, by omega⟩
        rw [hcc]
        have hcn : c < n := by omega
        repeat' (first | (((with_reducible refine g_id ?_); (conv => arg 3; whnf)); first | (with_reducible refine g_split lay_ok 400 ?_ ?_ ?_) | (with_reducible refine g_cond lay_ok 400 ?_ ?_ ?_) | (with_reducible refine g_fin ?_ ?_) | fail) | (with_reducible refine q_leave lay_ok 400 ?_) | (with_reducible exact o_nil) | ((with_reducible refine o_id ?_); (conv => arg 1; whnf); first | (with_reducible exact o_nil) | fail) | (intro h; ((try simp only [Int.toNat_natCast] at h); repeat (first | replace h := of_decide_eq_true h | replace h := of_decide_eq_false h | fail)); (try (first | contradiction | (exfalso; omega) | fail))) | fail)
        refine g_loop lay_ok 400 (Z := Nat) (fun q => q ≤ k) (fun q => ⟨[(0, .ptr 3 0), (1, .int .i64 (n : Int)), (5, .int .i64 (m : Int)), (6, .int .i64 (c : Int)), (8, .int .i64 (rowN u.L u.b c m q).1), (9, .ptr 6 0), (45, .sl ⟨4, []⟩), (46, .int .i64 (k : Int)), (47, .int .i64 (q : Int))], [(1, .list .own .int u.b), (3, .cells [.sl ⟨4, []⟩, .sl ⟨1, []⟩, .sl ⟨5, []⟩]), (4, .list .own .fracs u.L), (5, .list .own .frac u.g), (6, .cells [.int .i64 (rowN u.L u.b c m q).2.num, .int .i64 (rowN u.L u.b c m q).2.den])], 7⟩) (fun q => k - q) ?_ ⟨0, Nat.zero_le _, ?_⟩ (fun q hq => ?_)
        · repeat' (first | ((with_reducible refine o_id ?_); (conv => arg 1; whnf); first | (with_reducible exact o_nil) | fail) | fail)
        · ((with_reducible refine s_id ?_); (conv => arg 1; whnf); (with_reducible refine s_some ?_); repeat' (first | ((with_reducible refine o_id ?_); (conv => arg 1; whnf); first | (with_reducible exact o_nil) | (with_reducible refine o_cons ?_ ?_)) | (with_reducible rfl) | omega | (unfold rowN; rfl)))
        have hRB := rowN_bd u.L u.b c m q
        obtain ⟨⟨R, B⟩, e⟩ : ∃ X, rowN u.L u.b c m q = X := ⟨_, rfl⟩
        rw [e] at hRB ⊢
        obtain ⟨hR0, hR1, hBw⟩ := hRB
        dsimp only at hR0 hR1 hBw ⊢
        by_cases hqk : q < k
        · have hw := hU.T.hw q hqk
          have hrl := hU.T.hm q hqk
          by_cases n1 : (gf (gr u.L q) c).num ≤ 0
          · have E := rw_1 e n1
            repeat' (first | (((with_reducible refine g_id ?_); (conv => arg 3; whnf)); first | (with_reducible refine g_cond lay_ok 400 ?_ ?_ ?_) | (with_reducible refine g_fin ?_ ?_) | fail) | ((with_reducible refine o_id ?_); (conv => arg 1; whnf); first | (with_reducible exact o_nil) | (with_reducible refine o_cons ?_ ?_)) | (intro h; ((try simp only [Int.toNat_natCast] at h); repeat (first | replace h := of_decide_eq_true h | replace h := of_decide_eq_false h | fail)); (try (first | contradiction | (exfalso; omega) | fail))) | omega | (show (c : Int) < ((gr u.L q).length : Int); omega) | (show (c : Int).toNat < (gr u.L q).length; omega) | fail)
            all_goals (refine q_round ⟨q + 1, by omega, by omega, ?_⟩; rw [E]; ((with_reducible refine s_id ?_); (conv => arg 1; whnf); (with_reducible refine s_some ?_); repeat' (first | ((with_reducible refine o_id ?_); (conv => arg 1; whnf); first | (with_reducible exact o_nil) | (with_reducible refine o_cons ?_ ?_)) | (with_reducible rfl) | omega | fail)))
          · have hD : WkF (divF (gf (gr u.L q) m) (gf (gr u.L q) c)) := divF_wk _ _
            by_cases n2 : 0 ≤ R ∧ (0 < cmpF (divF (gf (gr u.L q) m) (gf (gr u.L q) c)) B ∨ cmpF (divF (gf (gr u.L q) m) (gf (gr u.L q) c)) B = 0 ∧ gi u.b R.toNat < gi u.b q)
            · have E := rw_2 e n1 n2
              obtain ⟨n3, n4⟩ := n2
              rcases n4 with n4 | ⟨n4, n5⟩
              · repeat' (first | (((with_reducible refine g_id ?_); (conv => arg 3; whnf)); first | (with_reducible refine g_cond lay_ok 400 ?_ ?_ ?_) | (with_reducible refine g_fin ?_ ?_) | (refine g_call lay_ok 400 ?_ ?_ ?_ (f_Div ?_ ?_ ?_ ?_) rfl) | (refine g_call lay_ok 400 ?_ ?_ ?_ (f_Cmp ?_ ?_ ?_ ?_) rfl) | (refine g_flow 16 lay_ok mixed_ok 400 12544 [0, 0, 3, 7, 0, 0, 48, 112, 255, 511, 1023, 1023, 0, 6143, 16383] (.q 0 (.q 1 (.q 2 (.q 3 (.q 4 (.q 5 (.q 6 (.q 7 (.e 8 [] (.q 9 (.q 10 (.q 11 (.e 12 [0, 1, 2, 3, 4, 5, 6, 7, 9, 10, 11] (.e 13 [11] (.q 14 .fin) .stop) .stop)))) (.e 12 [0, 1, 2, 3, 4, 5, 6, 7] (.e 8 [] (.q 9 (.q 10 (.q 11 (.e 13 [11] (.q 14 .fin) .stop)))) .stop) .stop)))))))))) (by kernel_rfl) ?_ ?_) | (refine g_flow 19 lay_ok mixed_ok 400 0 [0, 1, 3, 7, 15, 31, 63, 127, 255, 511, 63, 2047, 4095, 63, 8255, 24639, 57407, 63, 254015, 516159, 1048575, 2097151, 4194303] (.q 0 (.q 1 (.q 2 (.q 3 (.q 4 (.q 5 (.q 6 (.q 7 (.q 8 (.q 9 (.q 10 (.q 11 (.q 12 (.q 13 (.q 14 (.q 15 (.q 16 (.q 17 (.q 18 (.q 19 (.q 20 (.q 21 (.q 22 .fin))))))))))))))))))))))) (by kernel_rfl) ?_ ?_) | fail) | (((with_reducible refine w_id ?_); (conv => arg 4; whnf)); first | (with_reducible refine w_fin ?_ ?_) | (with_reducible refine w_split lay_ok 400 ?_ ?_ ?_) | (with_reducible refine w_tt ?_) | (with_reducible refine w_eff lay_ok 400 ?_ rfl rfl ?_ ?_)) | (with_reducible refine q_flow ?_ ?_) | ((with_reducible refine h_id ?_); (conv => arg 1; whnf); (with_reducible refine s_some ?_)) | (with_reducible exact o_nil) | ((with_reducible refine o_id ?_); (conv => arg 1; whnf); first | (with_reducible exact o_nil) | (with_reducible refine o_cons ?_ ?_)) | (intro h; ((try simp only [Int.toNat_natCast] at h); repeat (first | replace h := of_decide_eq_true h | replace h := of_decide_eq_false h | fail)); (try (first | contradiction | (exfalso; omega) | fail))) | omega | rfl | assumption | (show (m : Int) < ((gr u.L q).length : Int); omega) | (show (c : Int) < ((gr u.L q).length : Int); omega) | (show (m : Int).toNat < (gr u.L q).length; omega) | (show (c : Int).toNat < (gr u.L q).length; omega) | (exact hw _) | fail)
                all_goals (refine q_round ⟨q + 1, by omega, by omega, ?_⟩; rw [E]; ((with_reducible refine s_id ?_); (conv => arg 1; whnf); (with_reducible refine s_some ?_); repeat' (first | ((with_reducible refine o_id ?_); (conv => arg 1; whnf); first | (with_reducible exact o_nil) | (with_reducible refine o_cons ?_ ?_)) | (with_reducible rfl) | omega | fail)))
              · repeat' (first | (((with_reducible refine g_id ?_); (conv => arg 3; whnf)); first | (with_reducible refine g_cond lay_ok 400 ?_ ?_ ?_) | (with_reducible refine g_fin ?_ ?_) | (refine g_call lay_ok 400 ?_ ?_ ?_ (f_Div ?_ ?_ ?_ ?_) rfl) | (refine g_call lay_ok 400 ?_ ?_ ?_ (f_Cmp ?_ ?_ ?_ ?_) rfl) | (refine g_flow 16 lay_ok mixed_ok 400 12544 [0, 0, 3, 7, 0, 0, 48, 112, 255, 511, 1023, 1023, 0, 6143, 16383] (.q 0 (.q 1 (.q 2 (.q 3 (.q 4 (.q 5 (.q 6 (.q 7 (.e 8 [] (.q 9 (.q 10 (.q 11 (.e 12 [0, 1, 2, 3, 4, 5, 6, 7, 9, 10, 11] (.e 13 [11] (.q 14 .fin) .stop) .stop)))) (.e 12 [0, 1, 2, 3, 4, 5, 6, 7] (.e 8 [] (.q 9 (.q 10 (.q 11 (.e 13 [11] (.q 14 .fin) .stop)))) .stop) .stop)))))))))) (by kernel_rfl) ?_ ?_) | (refine g_flow 19 lay_ok mixed_ok 400 0 [0, 1, 3, 7, 15, 31, 63, 127, 255, 511, 63, 2047, 4095, 63, 8255, 24639, 57407, 63, 254015, 516159, 1048575, 2097151, 4194303] (.q 0 (.q 1 (.q 2 (.q 3 (.q 4 (.q 5 (.q 6 (.q 7 (.q 8 (.q 9 (.q 10 (.q 11 (.q 12 (.q 13 (.q 14 (.q 15 (.q 16 (.q 17 (.q 18 (.q 19 (.q 20 (.q 21 (.q 22 .fin))))))))))))))))))))))) (by kernel_rfl) ?_ ?_) | fail) | (((with_reducible refine w_id ?_); (conv => arg 4; whnf)); first | (with_reducible refine w_fin ?_ ?_) | (with_reducible refine w_split lay_ok 400 ?_ ?_ ?_) | (with_reducible refine w_tt ?_) | (with_reducible refine w_eff lay_ok 400 ?_ rfl rfl ?_ ?_)) | (with_reducible refine q_flow ?_ ?_) | ((with_reducible refine h_id ?_); (conv => arg 1; whnf); (with_reducible refine s_some ?_)) | (with_reducible exact o_nil) | ((with_reducible refine o_id ?_); (conv => arg 1; whnf); first | (with_reducible exact o_nil) | (with_reducible refine o_cons ?_ ?_)) | (intro h; ((try simp only [Int.toNat_natCast] at h); repeat (first | replace h := of_decide_eq_true h | replace h := of_decide_eq_false h | fail)); (try (first | contradiction | (exfalso; omega) | fail))) | omega | rfl | assumption | (show (m : Int) < ((gr u.L q).length : Int); omega) | (show (c : Int) < ((gr u.L q).length : Int); omega) | (show (m : Int).toNat < (gr u.L q).length; omega) | (show (c : Int).toNat < (gr u.L q).length; omega) | (exact hw _) | fail)
                all_goals (refine q_round ⟨q + 1, by omega, by omega, ?_⟩; rw [E]; ((with_reducible refine s_id ?_); (conv => arg 1; whnf); (with_reducible refine s_some ?_); repeat' (first | ((with_reducible refine o_id ?_); (conv => arg 1; whnf); first | (with_reducible exact o_nil) | (with_reducible refine o_cons ?_ ?_)) | (with_reducible rfl) | omega | fail)))
            · have E := rw_3 e n1 n2
              by_cases n3 : 0 ≤ R
              · by_cases n4 : cmpF (divF (gf (gr u.L q) m) (gf (gr u.L q) c)) B = 0
                · have n5 : ¬ gi u.b R.toNat < gi u.b q := fun h => n2 ⟨n3, Or.inr ⟨n4, h⟩⟩
                  have n6 : ¬ 0 < cmpF (divF (gf (gr u.L q) m) (gf (gr u.L q) c)) B := by rw [n4]; decide
                  repeat' (first | (((with_reducible refine g_id ?_); (conv => arg 3; whnf)); first | (with_reducible refine g_cond lay_ok 400 ?_ ?_ ?_) | (with_reducible refine g_fin ?_ ?_) | (refine g_call lay_ok 400 ?_ ?_ ?_ (f_Div ?_ ?_ ?_ ?_) rfl) | (refine g_call lay_ok 400 ?_ ?_ ?_ (f_Cmp ?_ ?_ ?_ ?_) rfl) | (refine g_flow 16 lay_ok mixed_ok 400 12544 [0, 0, 3, 7, 0, 0, 48, 112, 255, 511, 1023, 1023, 0, 6143, 16383] (.q 0 (.q 1 (.q 2 (.q 3 (.q 4 (.q 5 (.q 6 (.q 7 (.e 8 [] (.q 9 (.q 10 (.q 11 (.e 12 [0, 1, 2, 3, 4, 5, 6, 7, 9, 10, 11] (.e 13 [11] (.q 14 .fin) .stop) .stop)))) (.e 12 [0, 1, 2, 3, 4, 5, 6, 7] (.e 8 [] (.q 9 (.q 10 (.q 11 (.e 13 [11] (.q 14 .fin) .stop)))) .stop) .stop)))))))))) (by kernel_rfl) ?_ ?_) | (refine g_flow 19 lay_ok mixed_ok 400 0 [0, 1, 3, 7, 15, 31, 63, 127, 255, 511, 63, 2047, 4095, 63, 8255, 24639, 57407, 63, 254015, 516159, 1048575, 2097151, 4194303] (.q 0 (.q 1 (.q 2 (.q 3 (.q 4 (.q 5 (.q 6 (.q 7 (.q 8 (.q 9 (.q 10 (.q 11 (.q 12 (.q 13 (.q 14 (.q 15 (.q 16 (.q 17 (.q 18 (.q 19 (.q 20 (.q 21 (.q 22 .fin))))))))))))))))))))))) (by kernel_rfl) ?_ ?_) | (refine g_flow 20 lay_ok mixed_ok 400 8 [0, 0, 1, 7] (.q 0 (.q 1 (.q 2 (.e 3 [] (.fin) .stop)))) (by kernel_rfl) ?_ ?_)) | (((with_reducible refine w_id ?_); (conv => arg 4; whnf)); first | (with_reducible refine w_fin ?_ ?_) | (with_reducible refine w_split lay_ok 400 ?_ ?_ ?_) | (with_reducible refine w_tt ?_) | (with_reducible refine w_eff lay_ok 400 ?_ rfl rfl ?_ ?_)) | (with_reducible refine q_flow ?_ ?_) | ((with_reducible refine h_id ?_); (conv => arg 1; whnf); (with_reducible refine s_some ?_)) | (with_reducible exact o_nil) | ((with_reducible refine o_id ?_); (conv => arg 1; whnf); first | (with_reducible exact o_nil) | (with_reducible refine o_cons ?_ ?_)) | (intro h; ((try simp only [Int.toNat_natCast] at h); repeat (first | replace h := of_decide_eq_true h | replace h := of_decide_eq_false h | fail)); (try (first | contradiction | (exfalso; omega) | fail))) | omega | rfl | assumption | (show (m : Int) < ((gr u.L q).length : Int); omega) | (show (c : Int) < ((gr u.L q).length : Int); omega) | (show (m : Int).toNat < (gr u.L q).length; omega) | (show (c : Int).toNat < (gr u.L q).length; omega) | (exact hw _) | fail)
                  all_goals (refine q_round ⟨q + 1, by omega, by omega, ?_⟩; rw [E]; ((with_reducible refine s_id ?_); (conv => arg 1; whnf); (with_reducible refine s_some ?_); repeat' (first | ((with_reducible refine o_id ?_); (conv => arg 1; whnf); first | (with_reducible exact o_nil) | (with_reducible refine o_cons ?_ ?_)) | (with_reducible rfl) | omega | (exact rfl))))
                · have n5 : ¬ 0 < cmpF (divF (gf (gr u.L q) m) (gf (gr u.L q) c)) B := fun h => n2 ⟨n3, Or.inl h⟩
                  repeat' (first | (((with_reducible refine g_id ?_); (conv => arg 3; whnf)); first | (with_reducible refine g_cond lay_ok 400 ?_ ?_ ?_) | (with_reducible refine g_fin ?_ ?_) | (refine g_call lay_ok 400 ?_ ?_ ?_ (f_Div ?_ ?_ ?_ ?_) rfl) | (refine g_call lay_ok 400 ?_ ?_ ?_ (f_Cmp ?_ ?_ ?_ ?_) rfl) | (refine g_flow 16 lay_ok mixed_ok 400 12544 [0, 0, 3, 7, 0, 0, 48, 112, 255, 511, 1023, 1023, 0, 6143, 16383] (.q 0 (.q 1 (.q 2 (.q 3 (.q 4 (.q 5 (.q 6 (.q 7 (.e 8 [] (.q 9 (.q 10 (.q 11 (.e 12 [0, 1, 2, 3, 4, 5, 6, 7, 9, 10, 11] (.e 13 [11] (.q 14 .fin) .stop) .stop)))) (.e 12 [0, 1, 2, 3, 4, 5, 6, 7] (.e 8 [] (.q 9 (.q 10 (.q 11 (.e 13 [11] (.q 14 .fin) .stop)))) .stop) .stop)))))))))) (by kernel_rfl) ?_ ?_) | (refine g_flow 19 lay_ok mixed_ok 400 0 [0, 1, 3, 7, 15, 31, 63, 127, 255, 511, 63, 2047, 4095, 63, 8255, 24639, 57407, 63, 254015, 516159, 1048575, 2097151, 4194303] (.q 0 (.q 1 (.q 2 (.q 3 (.q 4 (.q 5 (.q 6 (.q 7 (.q 8 (.q 9 (.q 10 (.q 11 (.q 12 (.q 13 (.q 14 (.q 15 (.q 16 (.q 17 (.q 18 (.q 19 (.q 20 (.q 21 (.q 22 .fin))))))))))))))))))))))) (by kernel_rfl) ?_ ?_) | (refine g_flow 20 lay_ok mixed_ok 400 8 [0, 0, 1, 7] (.q 0 (.q 1 (.q 2 (.e 3 [] (.fin) .stop)))) (by kernel_rfl) ?_ ?_)) | (((with_reducible refine w_id ?_); (conv => arg 4; whnf)); first | (with_reducible refine w_fin ?_ ?_) | (with_reducible refine w_split lay_ok 400 ?_ ?_ ?_) | (with_reducible refine w_tt ?_) | (with_reducible refine w_eff lay_ok 400 ?_ rfl rfl ?_ ?_)) | (with_reducible refine q_flow ?_ ?_) | ((with_reducible refine h_id ?_); (conv => arg 1; whnf); (with_reducible refine s_some ?_)) | (with_reducible exact o_nil) | ((with_reducible refine o_id ?_); (conv => arg 1; whnf); first | (with_reducible exact o_nil) | (with_reducible refine o_cons ?_ ?_)) | (intro h; ((try simp only [Int.toNat_natCast] at h); repeat (first | replace h := of_decide_eq_true h | replace h := of_decide_eq_false h | fail)); (try (first | contradiction | (exfalso; omega) | fail))) | omega | rfl | assumption | (show (m : Int) < ((gr u.L q).length : Int); omega) | (show (c : Int) < ((gr u.L q).length : Int); omega) | (show (m : Int).toNat < (gr u.L q).length; omega) | (show (c : Int).toNat < (gr u.L q).length; omega) | (exact hw _) | fail)
                  all_goals (refine q_round ⟨q + 1, by omega, by omega, ?_⟩; rw [E]; ((with_reducible refine s_id ?_); (conv => arg 1; whnf); (with_reducible refine s_some ?_); repeat' (first | ((with_reducible refine o_id ?_); (conv => arg 1; whnf); first | (with_reducible exact o_nil) | (with_reducible refine o_cons ?_ ?_)) | (with_reducible rfl) | omega | (exact rfl))))
              · repeat' (first | (((with_reducible refine g_id ?_); (conv => arg 3; whnf)); first | (with_reducible refine g_cond lay_ok 400 ?_ ?_ ?_) | (with_reducible refine g_fin ?_ ?_) | (refine g_call lay_ok 400 ?_ ?_ ?_ (f_Div ?_ ?_ ?_ ?_) rfl) | (refine g_flow 16 lay_ok mixed_ok 400 12544 [0, 0, 3, 7, 0, 0, 48, 112, 255, 511, 1023, 1023, 0, 6143, 16383] (.q 0 (.q 1 (.q 2 (.q 3 (.q 4 (.q 5 (.q 6 (.q 7 (.e 8 [] (.q 9 (.q 10 (.q 11 (.e 12 [0, 1, 2, 3, 4, 5, 6, 7, 9, 10, 11] (.e 13 [11] (.q 14 .fin) .stop) .stop)))) (.e 12 [0, 1, 2, 3, 4, 5, 6, 7] (.e 8 [] (.q 9 (.q 10 (.q 11 (.e 13 [11] (.q 14 .fin) .stop)))) .stop) .stop)))))))))) (by kernel_rfl) ?_ ?_) | (refine g_flow 20 lay_ok mixed_ok 400 8 [0, 0, 1, 7] (.q 0 (.q 1 (.q 2 (.e 3 [] (.fin) .stop)))) (by kernel_rfl) ?_ ?_)) | (((with_reducible refine w_id ?_); (conv => arg 4; whnf)); first | (with_reducible refine w_fin ?_ ?_) | (with_reducible refine w_tt ?_) | (with_reducible refine w_eff lay_ok 400 ?_ rfl rfl ?_ ?_)) | (with_reducible refine q_flow ?_ ?_) | ((with_reducible refine h_id ?_); (conv => arg 1; whnf); (with_reducible refine s_some ?_)) | (with_reducible exact o_nil) | ((with_reducible refine o_id ?_); (conv => arg 1; whnf); first | (with_reducible exact o_nil) | (with_reducible refine o_cons ?_ ?_)) | (intro h; ((try simp only [Int.toNat_natCast] at h); repeat (first | replace h := of_decide_eq_true h | replace h := of_decide_eq_false h | fail)); (try (first | contradiction | (exfalso; omega) | fail))) | omega | rfl | (show (m : Int) < ((gr u.L q).length : Int); omega) | (show (c : Int) < ((gr u.L q).length : Int); omega) | (show (m : Int).toNat < (gr u.L q).length; omega) | (show (c : Int).toNat < (gr u.L q).length; omega) | (exact hw _) | fail)
                all_goals (refine q_round ⟨q + 1, by omega, by omega, ?_⟩; rw [E]; ((with_reducible refine s_id ?_); (conv => arg 1; whnf); (with_reducible refine s_some ?_); repeat' (first | ((with_reducible refine o_id ?_); (conv => arg 1; whnf); first | (with_reducible exact o_nil) | (with_reducible refine o_cons ?_ ?_)) | (with_reducible rfl) | omega | (exact rfl))))
        · have eq : q = k := by omega
          have eR : rSel n u = R := by unfold rSel; rw [hcc, Int.toNat_natCast, hg1, hL1, ← eq, show m + 1 - 1 = m by omega, e]
          by_cases hR : R < 0
          · repeat' (first | (((with_reducible refine g_id ?_); (conv => arg 3; whnf)); first | (with_reducible refine g_cond lay_ok 400 ?_ ?_ ?_) | (with_reducible refine g_fin ?_ ?_) | fail) | (with_reducible refine q_leave lay_ok 400 ?_) | (with_reducible refine q_ret lay_ok 400 ?_) | (with_reducible exact o_nil) | ((with_reducible refine o_id ?_); (conv => arg 1; whnf); first | (with_reducible exact o_nil) | fail) | (intro h; ((try simp only [Int.toNat_natCast] at h); repeat (first | replace h := of_decide_eq_true h | replace h := of_decide_eq_false h | fail)); (try (first | contradiction | (exfalso; omega) | fail))) | fail)
            all_goals (((with_reducible refine e_id ?_); (conv => whnf)); refine ⟨s, ⟨hs, by rw [hu]; exact fun h => h.2 (by rw [eR]; exact hR)⟩, ?_⟩; simp only [hu]; ((with_reducible refine s_id ?_); (conv => arg 1; whnf); (with_reducible refine s_some ?_); repeat' (first | ((with_reducible refine o_id ?_); (conv => arg 1; whnf); first | (with_reducible exact o_nil) | (with_reducible refine o_cons ?_ ?_)) | (with_reducible rfl) | (exact decide_eq_false hc) | fail)))
          · obtain ⟨r, rfl⟩ : ∃ r : Nat, R = (r : Int) := ⟨R.toNat, by omega⟩
            have hgo : goesT n u := ⟨hc, by rw [eR]; exact hR⟩
            have hN2 := hN hgo
            have hN3 := hN1 hgo
            have eN : nxt n u = ⟨pvM u.L r c, u.b.set r (c : Int), pvG u.L u.g r c⟩ := by unfold nxt; rw [eR, hcc, Int.toNat_natCast, Int.toNat_natCast]
            rw [eN] at eS
            have hTu := hU.T
            have hwu := hU.w
            repeat' (first | (((with_reducible refine g_id ?_); (conv => arg 3; whnf)); first | (with_reducible refine g_cond lay_ok 400 ?_ ?_ ?_) | (with_reducible refine g_fin ?_ ?_) | (refine g_call lay_ok 400 ?_ ?_ ?_ (r_pivot u.L u.b u.g r c k (m + 1) hTu (by omega) (by omega) hb1 hg1 hwu (by omega) (by omega)) rfl) | fail) | (with_reducible refine q_leave lay_ok 400 ?_) | (with_reducible exact o_nil) | ((with_reducible refine o_id ?_); (conv => arg 1; whnf); first | (with_reducible exact o_nil) | (with_reducible refine o_cons ?_ ?_)) | (intro h; ((try simp only [Int.toNat_natCast] at h); repeat (first | replace h := of_decide_eq_true h | replace h := of_decide_eq_false h | fail)); (try (first | contradiction | (exfalso; omega) | fail))) | omega | rfl | fail)
            all_goals (refine q_round (ex_w (s + 1) hN2 (by omega) ?_); rw [eS]; ((with_reducible refine s_id ?_); (conv => arg 1; whnf); (with_reducible refine s_some ?_); repeat' (first | ((with_reducible refine o_id ?_); (conv => arg 1; whnf); first | (with_reducible exact o_nil) | (with_reducible refine o_cons ?_ ?_)) | (with_reducible rfl) | fail)))
  · have e5 : q = n := by omega
    have eC : colN u.g q = cSel n u := by rw [e5]; rfl
    rw [eC]
    by_cases hc : cSel n u < 0
    · repeat' (first | (((with_reducible refine g_id ?_); (conv => arg 3; whnf)); first | (with_reducible refine g_split lay_ok 400 ?_ ?_ ?_) | (with_reducible refine g_cond lay_ok 400 ?_ ?_ ?_) | (with_reducible refine g_fin ?_ ?_) | fail) | (with_reducible refine q_leave lay_ok 400 ?_) | (with_reducible refine q_ret lay_ok 400 ?_) | (with_reducible exact o_nil) | ((with_reducible refine o_id ?_); (conv => arg 1; whnf); first | (with_reducible exact o_nil) | fail) | (intro h; ((try simp only [Int.toNat_natCast] at h); repeat (first | replace h := of_decide_eq_true h | replace h := of_decide_eq_false h | fail)); (try (first | contradiction | (exfalso; omega) | fail))) | fail)
      all_goals (((with_reducible refine e_id ?_); (conv => whnf)); refine ⟨s, ⟨hs, by rw [hu]; exact fun h => h.1 hc⟩, ?_⟩; simp only [hu]; ((with_reducible refine s_id ?_); (conv => arg 1; whnf); (with_reducible refine s_some ?_); repeat' (first | ((with_reducible refine o_id ?_); (conv => arg 1; whnf); first | (with_reducible exact o_nil) | (with_reducible refine o_cons ?_ ?_)) | (with_reducible rfl) | (exact decide_eq_true hc) | fail)))
    · have hcb := colN_bd u.g n
      have hcb2 : cSel n u = colN u.g n := rfl
      obtain ⟨c, hcc⟩ : ∃ c : Nat, cSel n u = (c : Int) := ⟨(cSel n u).toNat, by omega⟩
      rw [hcc]
      have hcn : c < n := by omega
      repeat' (first | (((with_reducible refine g_id ?_); (conv => arg 3; whnf)); first | (with_reducible refine g_split lay_ok 400 ?_ ?_ ?_) | (with_reducible refine g_cond lay_ok 400 ?_ ?_ ?_) | (with_reducible refine g_fin ?_ ?_) | fail) | (with_reducible refine q_leave lay_ok 400 ?_) | ((with_reducible refine o_id ?_); (conv => arg 1; whnf); first | (with_reducible exact o_nil) | fail) | (intro h; ((try simp only [Int.toNat_natCast] at h); repeat (first | replace h := of_decide_eq_true h | replace h := of_decide_eq_false h | fail)); (try (first | contradiction | (exfalso; omega) | fail))) | fail)
      refine g_loop lay_ok 400 (Z := Nat) (fun q => q ≤ k) (fun q => ⟨[(0, .ptr 3 0), (1, .int .i64 (n : Int)), (5, .int .i64 (m : Int)), (6, .int .i64 (c : Int)), (8, .int .i64 (rowN u.L u.b c m q).1), (9, .ptr 6 0), (45, .sl ⟨4, []⟩), (46, .int .i64 (k : Int)), (47, .int .i64 (q : Int))], [(1, .list .own .int u.b), (3, .cells [.sl ⟨4, []⟩, .sl ⟨1, []⟩, .sl ⟨5, []⟩]), (4, .list .own .fracs u.L), (5, .list .own .frac u.g), (6, .cells [.int .i64 (rowN u.L u.b c m q).2.num, .int .i64 (rowN u.L u.b c m q).2.den])], 7⟩) (fun q => k - q) ?_ ⟨0, Nat.zero_le _, ?_⟩ (fun q hq => ?_)
      · repeat' (first | ((with_reducible refine o_id ?_); (conv => arg 1; whnf); first | (with_reducible exact o_nil) | fail) | fail)
      · ((with_reducible refine s_id ?_); (conv => arg 1; whnf); (with_reducible refine s_some ?_); repeat' (first | ((with_reducible refine o_id ?_); (conv => arg 1; whnf); first | (with_reducible exact o_nil) | (with_reducible refine o_cons ?_ ?_)) | (with_reducible rfl) | omega | (unfold rowN; rfl)))
      have hRB := rowN_bd u.L u.b c m q
      obtain ⟨⟨R, B⟩, e⟩ : ∃ X, rowN u.L u.b c m q = X := ⟨_, rfl⟩
      rw [e] at hRB ⊢
      obtain ⟨hR0, hR1, hBw⟩ := hRB
      dsimp only at hR0 hR1 hBw ⊢
      by_cases hqk : q < k
      · have hw := hU.T.hw q hqk
        have hrl := hU.T.hm q hqk
        by_cases n1 : (gf (gr u.L q) c).num ≤ 0
        · have E := rw_1 e n1
          repeat' (first | (((with_reducible refine g_id ?_); (conv => arg 3; whnf)); first | (with_reducible refine g_cond lay_ok 400 ?_ ?_ ?_) | (with_reducible refine g_fin ?_ ?_) | fail) | ((with_reducible refine o_id ?_); (conv => arg 1; whnf); first | (with_reducible exact o_nil) | (with_reducible refine o_cons ?_ ?_)) | (intro h; ((try simp only [Int.toNat_natCast] at h); repeat (first | replace h := of_decide_eq_true h | replace h := of_decide_eq_false h | fail)); (try (first | contradiction | (exfalso; omega) | fail))) | omega | (show (c : Int) < ((gr u.L q).length : Int); omega) | (show (c : Int).toNat < (gr u.L q).length; omega) | fail)
          all_goals (refine q_round ⟨q + 1, by omega, by omega, ?_⟩; rw [E]; ((with_reducible refine s_id ?_); (conv => arg 1; whnf); (with_reducible refine s_some ?_); repeat' (first | ((with_reducible refine o_id ?_); (conv => arg 1; whnf); first | (with_reducible exact o_nil) | (with_reducible refine o_cons ?_ ?_)) | (with_reducible rfl) | omega | fail)))
        · have hD : WkF (divF (gf (gr u.L q) m) (gf (gr u.L q) c)) := divF_wk _ _
          by_cases n2 : 0 ≤ R ∧ (0 < cmpF (divF (gf (gr u.L q) m) (gf (gr u.L q) c)) B ∨ cmpF (divF (gf (gr u.L q) m) (gf (gr u.L q) c)) B = 0 ∧ gi u.b R.toNat < gi u.b q)
          · have E := rw_2 e n1 n2
            obtain ⟨n3, n4⟩ := n2
            rcases n4 with n4 | ⟨n4, n5⟩
            · repeat' (first | (((with_reducible refine g_id ?_); (conv => arg 3; whnf)); first | (with_reducible refine g_cond lay_ok 400 ?_ ?_ ?_) | (with_reducible refine g_fin ?_ ?_) | (refine g_call lay_ok 400 ?_ ?_ ?_ (f_Div ?_ ?_ ?_ ?_) rfl) | (refine g_call lay_ok 400 ?_ ?_ ?_ (f_Cmp ?_ ?_ ?_ ?_) rfl) | (refine g_flow 16 lay_ok mixed_ok 400 12544 [0, 0, 3, 7, 0, 0, 48, 112, 255, 511, 1023, 1023, 0, 6143, 16383] (.q 0 (.q 1 (.q 2 (.q 3 (.q 4 (.q 5 (.q 6 (.q 7 (.e 8 [] (.q 9 (.q 10 (.q 11 (.e 12 [0, 1, 2, 3, 4, 5, 6, 7, 9, 10, 11] (.e 13 [11] (.q 14 .fin) .stop) .stop)))) (.e 12 [0, 1, 2, 3, 4, 5, 6, 7] (.e 8 [] (.q 9 (.q 10 (.q 11 (.e 13 [11] (.q 14 .fin) .stop)))) .stop) .stop)))))))))) (by kernel_rfl) ?_ ?_) | (refine g_flow 19 lay_ok mixed_ok 400 0 [0, 1, 3, 7, 15, 31, 63, 127, 255, 511, 63, 2047, 4095, 63, 8255, 24639, 57407, 63, 254015, 516159, 1048575, 2097151, 4194303] (.q 0 (.q 1 (.q 2 (.q 3 (.q 4 (.q 5 (.q 6 (.q 7 (.q 8 (.q 9 (.q 10 (.q 11 (.q 12 (.q 13 (.q 14 (.q 15 (.q 16 (.q 17 (.q 18 (.q 19 (.q 20 (.q 21 (.q 22 .fin))))))))))))))))))))))) (by kernel_rfl) ?_ ?_) | fail) | (((with_reducible refine w_id ?_); (conv => arg 4; whnf)); first | (with_reducible refine w_fin ?_ ?_) | (with_reducible refine w_split lay_ok 400 ?_ ?_ ?_) | (with_reducible refine w_tt ?_) | (with_reducible refine w_eff lay_ok 400 ?_ rfl rfl ?_ ?_)) | (with_reducible refine q_flow ?_ ?_) | ((with_reducible refine h_id ?_); (conv => arg 1; whnf); (with_reducible refine s_some ?_)) | (with_reducible exact o_nil) | ((with_reducible refine o_id ?_); (conv => arg 1; whnf); first | (with_reducible exact o_nil) | (with_reducible refine o_cons ?_ ?_)) | (intro h; ((try simp only [Int.toNat_natCast] at h); repeat (first | replace h := of_decide_eq_true h | replace h := of_decide_eq_false h | fail)); (try (first | contradiction | (exfalso; omega) | fail))) | omega | rfl | assumption | (show (m : Int) < ((gr u.L q).length : Int); omega) | (show (c : Int) < ((gr u.L q).length : Int); omega) | (show (m : Int).toNat < (gr u.L q).length; omega) | (show (c : Int).toNat < (gr u.L q).length; omega) | (exact hw _) | fail)
              all_goals (refine q_round ⟨q + 1, by omega, by omega, ?_⟩; rw [E]; ((with_reducible refine s_id ?_); (conv => arg 1; whnf); (with_reducible refine s_some ?_); repeat' (first | ((with_reducible refine o_id ?_); (conv => arg 1; whnf); first | (with_reducible exact o_nil) | (with_reducible refine o_cons ?_ ?_)) | (with_reducible rfl) | omega | fail)))
            · repeat' (first | (((with_reducible refine g_id ?_); (conv => arg 3; whnf)); first | (with_reducible refine g_cond lay_ok 400 ?_ ?_ ?_) | (with_reducible refine g_fin ?_ ?_) | (refine g_call lay_ok 400 ?_ ?_ ?_ (f_Div ?_ ?_ ?_ ?_) rfl) | (refine g_call lay_ok 400 ?_ ?_ ?_ (f_Cmp ?_ ?_ ?_ ?_) rfl) | (refine g_flow 16 lay_ok mixed_ok 400 12544 [0, 0, 3, 7, 0, 0, 48, 112, 255, 511, 1023, 1023, 0, 6143, 16383] (.q 0 (.q 1 (.q 2 (.q 3 (.q 4 (.q 5 (.q 6 (.q 7 (.e 8 [] (.q 9 (.q 10 (.q 11 (.e 12 [0, 1, 2, 3, 4, 5, 6, 7, 9, 10, 11] (.e 13 [11] (.q 14 .fin) .stop) .stop)))) (.e 12 [0, 1, 2, 3, 4, 5, 6, 7] (.e 8 [] (.q 9 (.q 10 (.q 11 (.e 13 [11] (.q 14 .fin) .stop)))) .stop) .stop)))))))))) (by kernel_rfl) ?_ ?_) | (refine g_flow 19 lay_ok mixed_ok 400 0 [0, 1, 3, 7, 15, 31, 63, 127, 255, 511, 63, 2047, 4095, 63, 8255, 24639, 57407, 63, 254015, 516159, 1048575, 2097151, 4194303] (.q 0 (.q 1 (.q 2 (.q 3 (.q 4 (.q 5 (.q 6 (.q 7 (.q 8 (.q 9 (.q 10 (.q 11 (.q 12 (.q 13 (.q 14 (.q 15 (.q 16 (.q 17 (.q 18 (.q 19 (.q 20 (.q 21 (.q 22 .fin))))))))))))))))))))))) (by kernel_rfl) ?_ ?_) | fail) | (((with_reducible refine w_id ?_); (conv => arg 4; whnf)); first | (with_reducible refine w_fin ?_ ?_) | (with_reducible refine w_split lay_ok 400 ?_ ?_ ?_) | (with_reducible refine w_tt ?_) | (with_reducible refine w_eff lay_ok 400 ?_ rfl rfl ?_ ?_)) | (with_reducible refine q_flow ?_ ?_) | ((with_reducible refine h_id ?_); (conv => arg 1; whnf); (with_reducible refine s_some ?_)) | (with_reducible exact o_nil) | ((with_reducible refine o_id ?_); (conv => arg 1; whnf); first | (with_reducible exact o_nil) | (with_reducible refine o_cons ?_ ?_)) | (intro h; ((try simp only [Int.toNat_natCast] at h); repeat (first | replace h := of_decide_eq_true h | replace h := of_decide_eq_false h | fail)); (try (first | contradiction | (exfalso; omega) | fail))) | omega | rfl | assumption | (show (m : Int) < ((gr u.L q).length : Int); omega) | (show (c : Int) < ((gr u.L q).length : Int); omega) | (show (m : Int).toNat < (gr u.L q).length; omega) | (show (c : Int).toNat < (gr u.L q).length; omega) | (exact hw _) | fail)
              all_goals (refine q_round ⟨q + 1, by omega, by omega, ?_⟩; rw [E]; ((with_reducible refine s_id ?_); (conv => arg 1; whnf); (with_reducible refine s_some ?_); repeat' (first | ((with_reducible refine o_id ?_); (conv => arg 1; whnf); first | (with_reducible exact o_nil) | (with_reducible refine o_cons ?_ ?_)) | (with_reducible rfl) | omega | fail)))
          · have E := rw_3 e n1 n2
            by_cases n3 : 0 ≤ R
            · by_cases n4 : cmpF (divF (gf (gr u.L q) m) (gf (gr u.L q) c)) B = 0
              · have n5 : ¬ gi u.b R.toNat < gi u.b q := fun h => n2 ⟨n3, Or.inr ⟨n4, h⟩⟩
                have n6 : ¬ 0 < cmpF (divF (gf (gr u.L q) m) (gf (gr u.L q) c)) B := by rw [n4]; decide
                repeat' (first | (((with_reducible refine g_id ?_); (conv => arg 3; whnf)); first | (with_reducible refine g_cond lay_ok 400 ?_ ?_ ?_) | (with_reducible refine g_fin ?_ ?_) | (refine g_call lay_ok 400 ?_ ?_ ?_ (f_Div ?_ ?_ ?_ ?_) rfl) | (refine g_call lay_ok 400 ?_ ?_ ?_ (f_Cmp ?_ ?_ ?_ ?_) rfl) | (refine g_flow 16 lay_ok mixed_ok 400 12544 [0, 0, 3, 7, 0, 0, 48, 112, 255, 511, 1023, 1023, 0, 6143, 16383] (.q 0 (.q 1 (.q 2 (.q 3 (.q 4 (.q 5 (.q 6 (.q 7 (.e 8 [] (.q 9 (.q 10 (.q 11 (.e 12 [0, 1, 2, 3, 4, 5, 6, 7, 9, 10, 11] (.e 13 [11] (.q 14 .fin) .stop) .stop)))) (.e 12 [0, 1, 2, 3, 4, 5, 6, 7] (.e 8 [] (.q 9 (.q 10 (.q 11 (.e 13 [11] (.q 14 .fin) .stop)))) .stop) .stop)))))))))) (by kernel_rfl) ?_ ?_) | (refine g_flow 19 lay_ok mixed_ok 400 0 [0, 1, 3, 7, 15, 31, 63, 127, 255, 511, 63, 2047, 4095, 63, 8255, 24639, 57407, 63, 254015, 516159, 1048575, 2097151, 4194303] (.q 0 (.q 1 (.q 2 (.q 3 (.q 4 (.q 5 (.q 6 (.q 7 (.q 8 (.q 9 (.q 10 (.q 11 (.q 12 (.q 13 (.q 14 (.q 15 (.q 16 (.q 17 (.q 18 (.q 19 (.q 20 (.q 21 (.q 22 .fin))))))))))))))))))))))) (by kernel_rfl) ?_ ?_) | (refine g_flow 20 lay_ok mixed_ok 400 8 [0, 0, 1, 7] (.q 0 (.q 1 (.q 2 (.e 3 [] (.fin) .stop)))) (by kernel_rfl) ?_ ?_)) | (((with_reducible refine w_id ?_); (conv => arg 4; whnf)); first | (with_reducible refine w_fin ?_ ?_) | (with_reducible refine w_split lay_ok 400 ?_ ?_ ?_) | (with_reducible refine w_tt ?_) | (with_reducible refine w_eff lay_ok 400 ?_ rfl rfl ?_ ?_)) | (with_reducible refine q_flow ?_ ?_) | ((with_reducible refine h_id ?_); (conv => arg 1; whnf); (with_reducible refine s_some ?_)) | (with_reducible exact o_nil) | ((with_reducible refine o_id ?_); (conv => arg 1; whnf); first | (with_reducible exact o_nil) | (with_reducible refine o_cons ?_ ?_)) | (intro h; ((try simp only [Int.toNat_natCast] at h); repeat (first | replace h := of_decide_eq_true h | replace h := of_decide_eq_false h | fail)); (try (first | contradiction | (exfalso; omega) | fail))) | omega | rfl | assumption | (show (m : Int) < ((gr u.L q).length : Int); omega) | (show (c : Int) < ((gr u.L q).length : Int); omega) | (show (m : Int).toNat < (gr u.L q).length; omega) | (show (c : Int).toNat < (gr u.L q).length; omega) | (exact hw _) | fail)
                all_goals (refine q_round ⟨q + 1, by omega, by omega, ?_⟩; rw [E]; ((with_reducible refine s_id ?_); (conv => arg 1; whnf); (with_reducible refine s_some ?_); repeat' (first | ((with_reducible refine o_id ?_); (conv => arg 1; whnf); first | (with_reducible exact o_nil) | (with_reducible refine o_cons ?_ ?_)) | (with_reducible rfl) | omega | (exact rfl))))
              · have n5 : ¬ 0 < cmpF (divF (gf (gr u.L q) m) (gf (gr u.L q) c)) B := fun h => n2 ⟨n3, Or.inl h⟩
                repeat' (first | (((with_reducible refine g_id ?_); (conv => arg 3; whnf)); first | (with_reducible refine g_cond lay_ok 400 ?_ ?_ ?_) | (with_reducible refine g_fin ?_ ?_) | (refine g_call lay_ok 400 ?_ ?_ ?_ (f_Div ?_ ?_ ?_ ?_) rfl) | (refine g_call lay_ok 400 ?_ ?_ ?_ (f_Cmp ?_ ?_ ?_ ?_) rfl) | (refine g_flow 16 lay_ok mixed_ok 400 12544 [0, 0, 3, 7, 0, 0, 48, 112, 255, 511, 1023, 1023, 0, 6143, 16383] (.q 0 (.q 1 (.q 2 (.q 3 (.q 4 (.q 5 (.q 6 (.q 7 (.e 8 [] (.q 9 (.q 10 (.q 11 (.e 12 [0, 1, 2, 3, 4, 5, 6, 7, 9, 10, 11] (.e 13 [11] (.q 14 .fin) .stop) .stop)))) (.e 12 [0, 1, 2, 3, 4, 5, 6, 7] (.e 8 [] (.q 9 (.q 10 (.q 11 (.e 13 [11] (.q 14 .fin) .stop)))) .stop) .stop)))))))))) (by kernel_rfl) ?_ ?_) | (refine g_flow 19 lay_ok mixed_ok 400 0 [0, 1, 3, 7, 15, 31, 63, 127, 255, 511, 63, 2047, 4095, 63, 8255, 24639, 57407, 63, 254015, 516159, 1048575, 2097151, 4194303] (.q 0 (.q 1 (.q 2 (.q 3 (.q 4 (.q 5 (.q 6 (.q 7 (.q 8 (.q 9 (.q 10 (.q 11 (.q 12 (.q 13 (.q 14 (.q 15 (.q 16 (.q 17 (.q 18 (.q 19 (.q 20 (.q 21 (.q 22 .fin))))))))))))))))))))))) (by kernel_rfl) ?_ ?_) | (refine g_flow 20 lay_ok mixed_ok 400 8 [0, 0, 1, 7] (.q 0 (.q 1 (.q 2 (.e 3 [] (.fin) .stop)))) (by kernel_rfl) ?_ ?_)) | (((with_reducible refine w_id ?_); (conv => arg 4; whnf)); first | (with_reducible refine w_fin ?_ ?_) | (with_reducible refine w_split lay_ok 400 ?_ ?_ ?_) | (with_reducible refine w_tt ?_) | (with_reducible refine w_eff lay_ok 400 ?_ rfl rfl ?_ ?_)) | (with_reducible refine q_flow ?_ ?_) | ((with_reducible refine h_id ?_); (conv => arg 1; whnf); (with_reducible refine s_some ?_)) | (with_reducible exact o_nil) | ((with_reducible refine o_id ?_); (conv => arg 1; whnf); first | (with_reducible exact o_nil) | (with_reducible refine o_cons ?_ ?_)) | (intro h; ((try simp only [Int.toNat_natCast] at h); repeat (first | replace h := of_decide_eq_true h | replace h := of_decide_eq_false h | fail)); (try (first | contradiction | (exfalso; omega) | fail))) | omega | rfl | assumption | (show (m : Int) < ((gr u.L q).length : Int); omega) | (show (c : Int) < ((gr u.L q).length : Int); omega) | (show (m : Int).toNat < (gr u.L q).length; omega) | (show (c : Int).toNat < (gr u.L q).length; omega) | (exact hw _) | fail)
                all_goals (refine q_round ⟨q + 1, by omega, by omega, ?_⟩; rw [E]; ((with_reducible refine s_id ?_); (conv => arg 1; whnf); (with_reducible refine s_some ?_); repeat' (first | ((with_reducible refine o_id ?_); (conv => arg 1; whnf); first | (with_reducible exact o_nil) | (with_reducible refine o_cons ?_ ?_)) | (with_reducible rfl) | omega | (exact rfl))))
            · repeat' (first | (((with_reducible refine g_id ?_); (conv => arg 3; whnf)); first | (with_reducible refine g_cond lay_ok 400 ?_ ?_ ?_) | (with_reducible refine g_fin ?_ ?_) | (refine g_call lay_ok 400 ?_ ?_ ?_ (f_Div ?_ ?_ ?_ ?_) rfl) | (refine g_flow 16 lay_ok mixed_ok 400 12544 [0, 0, 3, 7, 0, 0, 48, 112, 255, 511, 1023, 1023, 0, 6143, 16383] (.q 0 (.q 1 (.q 2 (.q 3 (.q 4 (.q 5 (.q 6 (.q 7 (.e 8 [] (.q 9 (.q 10 (.q 11 (.e 12 [0, 1, 2, 3, 4, 5, 6, 7, 9, 10, 11] (.e 13 [11] (.q 14 .fin) .stop) .stop)))) (.e 12 [0, 1, 2, 3, 4, 5, 6, 7] (.e 8 [] (.q 9 (.q 10 (.q 11 (.e 13 [11] (.q 14 .fin) .stop)))) .stop) .stop)))))))))) (by kernel_rfl) ?_ ?_) | (refine g_flow 20 lay_ok mixed_ok 400 8 [0, 0, 1, 7] (.q 0 (.q 1 (.q 2 (.e 3 [] (.fin) .stop)))) (by kernel_rfl) ?_ ?_)) | (((with_reducible refine w_id ?_); (conv => arg 4; whnf)); first | (with_reducible refine w_fin ?_ ?_) | (with_reducible refine w_tt ?_) | (with_reducible refine w_eff lay_ok 400 ?_ rfl rfl ?_ ?_)) | (with_reducible refine q_flow ?_ ?_) | ((with_reducible refine h_id ?_); (conv => arg 1; whnf); (with_reducible refine s_some ?_)) | (with_reducible exact o_nil) | ((with_reducible refine o_id ?_); (conv => arg 1; whnf); first | (with_reducible exact o_nil) | (with_reducible refine o_cons ?_ ?_)) | (intro h; ((try simp only [Int.toNat_natCast] at h); repeat (first | replace h := of_decide_eq_true h | replace h := of_decide_eq_false h | fail)); (try (first | contradiction | (exfalso; omega) | fail))) | omega | rfl | (show (m : Int) < ((gr u.L q).length : Int); omega) | (show (c : Int) < ((gr u.L q).length : Int); omega) | (show (m : Int).toNat < (gr u.L q).length; omega) | (show (c : Int).toNat < (gr u.L q).length; omega) | (exact hw _) | fail)
              all_goals (refine q_round ⟨q + 1, by omega, by omega, ?_⟩; rw [E]; ((with_reducible refine s_id ?_); (conv => arg 1; whnf); (with_reducible refine s_some ?_); repeat' (first | ((with_reducible refine o_id ?_); (conv => arg 1; whnf); first | (with_reducible exact o_nil) | (with_reducible refine o_cons ?_ ?_)) | (with_reducible rfl) | omega | (exact rfl))))
      · have eq : q = k := by omega
        have eR : rSel n u = R := by unfold rSel; rw [hcc, Int.toNat_natCast, hg1, hL1, ← eq, show m + 1 - 1 = m by omega, e]
        by_cases hR : R < 0
        · repeat' (first | (((with_reducible refine g_id ?_); (conv => arg 3; whnf)); first | (with_reducible refine g_cond lay_ok 400 ?_ ?_ ?_) | (with_reducible refine g_fin ?_ ?_) | fail) | (with_reducible refine q_leave lay_ok 400 ?_) | (with_reducible refine q_ret lay_ok 400 ?_) | (with_reducible exact o_nil) | ((with_reducible refine o_id ?_); (conv => arg 1; whnf); first | (with_reducible exact o_nil) | fail) | (intro h; ((try simp only [Int.toNat_natCast] at h); repeat (first | replace h := of_decide_eq_true h | replace h := of_decide_eq_false h | fail)); (try (first | contradiction | (exfalso; omega) | fail))) | fail)
          all_goals (((with_reducible refine e_id ?_); (conv => whnf)); refine ⟨s, ⟨hs, by rw [hu]; exact fun h => h.2 (by rw [eR]; exact hR)⟩, ?_⟩; simp only [hu]; ((with_reducible refine s_id ?_); (conv => arg 1; whnf); (with_reducible refine s_some ?_); repeat' (first | ((with_reducible refine o_id ?_); (conv => arg 1; whnf); first | (with_reducible exact o_nil) | (with_reducible refine o_cons ?_ ?_)) | (with_reducible rfl) | (exact decide_eq_false hc) | fail)))
        · obtain ⟨r, rfl⟩ : ∃ r : Nat, R = (r : Int) := ⟨R.toNat, by omega⟩
          have hgo : goesT n u := ⟨hc, by rw [eR]; exact hR⟩
          have hN2 := hN hgo
          have hN3 := hN1 hgo
          have eN : nxt n u = ⟨pvM u.L r c, u.b.set r (c : Int), pvG u.L u.g r c⟩ := by unfold nxt; rw [eR, hcc, Int.toNat_natCast, Int.toNat_natCast]
          rw [eN] at eS
          have hTu := hU.T
          have hwu := hU.w
          repeat' (first | (((with_reducible refine g_id ?_); (conv => arg 3; whnf)); first | (with_reducible refine g_cond lay_ok 400 ?_ ?_ ?_) | (with_reducible refine g_fin ?_ ?_) | (refine g_call lay_ok 400 ?_ ?_ ?_ (r_pivot u.L u.b u.g r c k (m + 1) hTu (by omega) (by omega) hb1 hg1 hwu (by omega) (by omega)) rfl) | fail) | (with_reducible refine q_leave lay_ok 400 ?_) | (with_reducible exact o_nil) | ((with_reducible refine o_id ?_); (conv => arg 1; whnf); first | (with_reducible exact o_nil) | (with_reducible refine o_cons ?_ ?_)) | (intro h; ((try simp only [Int.toNat_natCast] at h); repeat (first | replace h := of_decide_eq_true h | replace h := of_decide_eq_false h | fail)); (try (first | contradiction | (exfalso; omega) | fail))) | omega | rfl | fail)
          all_goals (refine q_round (ex_w (s + 1) hN2 (by omega) ?_); rw [eS]; ((with_reducible refine s_id ?_); (conv => arg 1; whnf); (with_reducible refine s_some ?_); repeat' (first | ((with_reducible refine o_id ?_); (conv => arg 1; whnf); first | (with_reducible exact o_nil) | (with_reducible refine o_cons ?_ ?_)) | (with_reducible rfl) | fail)))
end Go.Proofs.Ytkageldgmkajbaa
namespace Go.Proofs.Ytkageldgmkajbaa
open Go.RowKit
abbrev gw (l : List Row) (i : Nat) : Row := gt (c := .row) l i
abbrev gm (l : List Term) (i : Nat) : Term := gt (c := .term) l i
def trN (sg : Int) (ts : List Term) (l : List Frc) : Nat → List Frc
  | 0 => l
  | z + 1 => (trN sg ts l z).set (gm ts z).of_.toNat ⟨sg * (gm ts z).co, 1⟩
theorem trN_s {sg : Int} {ts : List Term} {l : List Frc} {z : Nat} : trN sg ts l (z + 1) = (trN sg ts l z).set (gm ts z).of_.toNat ⟨sg * (gm ts z).co, 1⟩ := rfl
theorem trN_len {sg : Int} {ts : List Term} {l : List Frc} : ∀ z, (trN sg ts l z).length = l.length
  | 0 => rfl
  | z + 1 => by rw [trN_s, List.length_set]; exact trN_len z
theorem WkL.set {l : List Frc} (h : WkL l) {i : Nat} {x : Frc} (hx : WkF x) : WkL (l.set i x) := fun j => by
  by_cases hi : i < l.length
  · rw [gf_set hi]; split
    · exact hx
    · exact h j
  · rw [List.set_eq_of_length_le (by omega)]; exact h j
theorem wk_one : WkF ⟨0, 1⟩ := ⟨by decide, by decide, by decide, by decide⟩
theorem wk_int {n : Int} (h0 : -1152921504606846976 ≤ n) (h1 : n ≤ 1152921504606846976) : WkF ⟨n, 1⟩ := ⟨h0, h1, by show (0 : Int) ≤ 1; decide, by show (1 : Int) ≤ 1152921504606846976; decide⟩
theorem zrs_wk (n : Nat) : WkL (zrs n) := fun j => by
  by_cases h : j < n
  · have e : gf (zrs n) j = ⟨0, 1⟩ := by
      unfold zrs gf
      show (List.replicate n (⟨0, 1⟩ : Frc)).getD j (dflt .frac) = _
      rw [List.getD_eq_getElem?_getD, List.getElem?_replicate, if_pos h]; rfl
    rw [e]; exact wk_one
  · rw [gf_out (by rw [zrs_len]; exact h)]; exact wk_zero
theorem trN_wk {sg : Int} {ts : List Term} {l : List Frc} (hl : WkL l) (hb : ∀ z, z < ts.length → -1000 ≤ sg * (gm ts z).co ∧ sg * (gm ts z).co ≤ 1000) : ∀ z, z ≤ ts.length → WkL (trN sg ts l z)
  | 0, _ => hl
  | z + 1, h => by
    have := hb z (by omega)
    rw [trN_s]; exact (trN_wk hl hb z (by omega)).set (wk_int (by omega) (by omega))
def lenZ (n K : Nat) : List Frc := zrs ((n : Int) + (K : Int) + 1).toNat
def rwP (sg : Int) (C n K i : Nat) (r : Row) : List Frc := ((trN sg r.te (lenZ n K) r.te.length).set ((C : Int) + (i : Int)).toNat ⟨sg, 1⟩).set ((n : Int) + (K : Int)).toNat ⟨sg * r.mo, 1⟩
def rwQ (C n K i : Nat) (r : Row) : List Frc := (rwP (-1) C n K i r).set ((n : Int) + (i : Int)).toNat ⟨1, 1⟩
def gN (n K : Nat) (row g : List Frc) : Nat → List Frc
  | 0 => g
  | c + 1 => if c < n ∨ c = n + K then (gN n K row g c).set c (subF (gf (gN n K row g c) c) (gf row c)) else gN n K row g c
theorem gN_y {n K : Nat} {row g : List Frc} {c : Nat} (h : c < n ∨ c = n + K) : gN n K row g (c + 1) = (gN n K row g c).set c (subF (gf (gN n K row g c) c) (gf row c)) := if_pos h
theorem gN_n {n K : Nat} {row g : List Frc} {c : Nat} (h : ¬ (c < n ∨ c = n + K)) : gN n K row g (c + 1) = gN n K row g c := if_neg h
theorem gN_ok {n K : Nat} {row g : List Frc} (hg : WkL g) : ∀ c, (gN n K row g c).length = g.length ∧ WkL (gN n K row g c)
  | 0 => ⟨rfl, hg⟩
  | c + 1 => by
    have ih := gN_ok (n := n) (K := K) (row := row) hg c
    by_cases h : c < n ∨ c = n + K
    · rw [gN_y h]; exact ⟨by rw [List.length_set]; exact ih.1, ih.2.set (subF_wk _ _)⟩
    · rw [gN_n h]; exact ih
def bld (rows : List Row) (C n K : Nat) : Nat → TS
  | 0 => ⟨[], [], lenZ n K⟩
  | i + 1 => if (gw rows i).mo < 0 then ⟨(bld rows C n K i).L ++ [rwQ C n K i (gw rows i)], (bld rows C n K i).b ++ [(n : Int) + (i : Int)], gN n K (rwQ C n K i (gw rows i)) (bld rows C n K i).g (bld rows C n K i).g.length⟩
    else ⟨(bld rows C n K i).L ++ [rwP 1 C n K i (gw rows i)], (bld rows C n K i).b ++ [(C : Int) + (i : Int)], (bld rows C n K i).g⟩
theorem bld_y {rows : List Row} {C n K i : Nat} (h : (gw rows i).mo < 0) : bld rows C n K (i + 1) = ⟨(bld rows C n K i).L ++ [rwQ C n K i (gw rows i)], (bld rows C n K i).b ++ [(n : Int) + (i : Int)], gN n K (rwQ C n K i (gw rows i)) (bld rows C n K i).g (bld rows C n K i).g.length⟩ := if_pos h
theorem bld_n {rows : List Row} {C n K i : Nat} (h : ¬ (gw rows i).mo < 0) : bld rows C n K (i + 1) = ⟨(bld rows C n K i).L ++ [rwP 1 C n K i (gw rows i)], (bld rows C n K i).b ++ [(C : Int) + (i : Int)], (bld rows C n K i).g⟩ := if_neg h
theorem gr_app {L : List (List Frc)} {r : List Frc} {k : Nat} : gr (L ++ [r]) k = if k < L.length then gr L k else if k = L.length then r else [] := by
  show (L ++ [r]).getD k (dflt .fracs) = _
  rw [List.getD_eq_getElem?_getD]
  by_cases h : k < L.length
  · rw [if_pos h, List.getElem?_append_left h]
    exact (List.getD_eq_getElem?_getD ..).symm
  · rw [if_neg h, List.getElem?_append_right (by omega)]
    by_cases e : k = L.length
    · rw [if_pos e, e, Nat.sub_self]; rfl
    · rw [if_neg e, List.getElem?_eq_none (by simp only [List.length_cons, List.length_nil]; omega)]; rfl
theorem Tbl.app {L : List (List Frc)} {n m : Nat} {r : List Frc} (h : Tbl L n m) (hr : r.length = m) (hw : WkL r) : Tbl (L ++ [r]) (n + 1) m :=
  ⟨by rw [List.length_append, h.hn]; rfl, fun k hk => by
    rw [gr_app, h.hn]
    by_cases e : k < n
    · rw [if_pos e]; exact h.hm k e
    · rw [if_neg e, if_pos (by omega)]; exact hr, fun k hk => by
    rw [gr_app, h.hn]
    by_cases e : k < n
    · rw [if_pos e]; exact h.hw k e
    · rw [if_neg e, if_pos (by omega)]; exact hw⟩
theorem lenZ_len (n K : Nat) : (lenZ n K).length = n + K + 1 := by unfold lenZ; rw [zrs_len]; omega
def RwsOK (rows : List Row) (C K : Nat) : Prop := rows.length = K ∧ ∀ i, i < K → (-50 ≤ (gw rows i).mo ∧ (gw rows i).mo ≤ 50) ∧ (gw rows i).te.length ≤ 6 ∧ ∀ z, z < (gw rows i).te.length → 0 ≤ (gm (gw rows i).te z).of_ ∧ (gm (gw rows i).te z).of_ < (C : Int) ∧ -9 ≤ (gm (gw rows i).te z).co ∧ (gm (gw rows i).te z).co ≤ 9
theorem rwP_ok {rows : List Row} {C n K i : Nat} (h : RwsOK rows C K) (hi : i < K) {sg : Int} (hs : sg = 1 ∨ sg = -1) : (rwP sg C n K i (gw rows i)).length = n + K + 1 ∧ WkL (rwP sg C n K i (gw rows i)) := by
  have h1 := h.2 i hi
  constructor
  · unfold rwP; rw [List.length_set, List.length_set, trN_len, lenZ_len]
  · have hb : ∀ z, z < (gw rows i).te.length → -1000 ≤ sg * (gm (gw rows i).te z).co ∧ sg * (gm (gw rows i).te z).co ≤ 1000 := fun z hz => by
      have := h1.2.2 z hz
      rcases hs with rfl | rfl <;> omega
    unfold rwP
    refine ((trN_wk (zrs_wk _) hb _ (Nat.le_refl _)).set ?_).set ?_
    · rcases hs with rfl | rfl <;> exact wk_int (by decide) (by decide)
    · rcases hs with rfl | rfl <;> exact wk_int (by omega) (by omega)
theorem bld_ok {rows : List Row} {C n K : Nat} (h : RwsOK rows C K) : ∀ i, i ≤ K → TOK (bld rows C n K i) i (n + K)
  | 0, _ => ⟨⟨rfl, fun k hk => absurd hk (Nat.not_lt_zero _), fun k hk => absurd hk (Nat.not_lt_zero _)⟩, rfl, lenZ_len n K, zrs_wk _⟩
  | i + 1, hi => by
    have ih := bld_ok (n := n) h i (by omega)
    by_cases c : (gw rows i).mo < 0
    · rw [bld_y c]
      have h1 := rwP_ok (n := n) h (show i < K by omega) (sg := -1) (.inr rfl)
      have h2 := gN_ok (n := n) (K := K) (row := rwQ C n K i (gw rows i)) ih.w (bld rows C n K i).g.length
      exact ⟨ih.T.app (by unfold rwQ; rw [List.length_set]; exact h1.1) (h1.2.set (wk_int (by decide) (by decide))), by show (_ ++ [_]).length = _; rw [List.length_append, ih.b]; rfl, by rw [h2.1]; exact ih.g, h2.2⟩
    · rw [bld_n c]
      have h1 := rwP_ok (n := n) h (show i < K by omega) (sg := 1) (.inl rfl)
      exact ⟨ih.T.app h1.1 h1.2, by show (_ ++ [_]).length = _; rw [List.length_append, ih.b]; rfl, ih.g, ih.w⟩
theorem gi_set {l : List Int} {z j : Nat} {x : Int} (hz : z < l.length) : gi (l.set z x) j = if j = z then x else gi l j := by
  by_cases e : j = z
  · rw [if_pos e, e]; exact gt_eq (c := .int) (by rw [List.getElem?_set_self hz])
  · rw [if_neg e]
    have e2 : (l.set z x)[j]? = l[j]? := List.getElem?_set_ne (Ne.symm e)
    exact congrArg (fun o => Option.getD o (dflt .int)) e2
theorem gi_app {l : List Int} {r : Int} {k : Nat} (hk : k < l.length + 1) : gi (l ++ [r]) k = if k < l.length then gi l k else r := by
  show (l ++ [r]).getD k (dflt .int) = _
  rw [List.getD_eq_getElem?_getD]
  by_cases h : k < l.length
  · rw [if_pos h, List.getElem?_append_left h]
    exact (List.getD_eq_getElem?_getD ..).symm
  · rw [if_neg h, List.getElem?_append_right (by omega), show k - l.length = 0 by omega]; rfl
def BO (b : List Int) (m : Nat) : Prop := ∀ i, i < b.length → 0 ≤ gi b i ∧ gi b i < (m : Int)
theorem BO.set {b : List Int} {m i : Nat} {x : Int} (h : BO b m) (h0 : 0 ≤ x) (h1 : x < (m : Int)) : BO (b.set i x) m := fun j hj => by
  rw [List.length_set] at hj
  by_cases hi : i < b.length
  · rw [gi_set hi]; split
    · exact ⟨h0, h1⟩
    · exact h j hj
  · rw [List.set_eq_of_length_le (by omega)]; exact h j hj
theorem BO.app {b : List Int} {m : Nat} {x : Int} (h : BO b m) (h0 : 0 ≤ x) (h1 : x < (m : Int)) : BO (b ++ [x]) m := fun j hj => by
  rw [List.length_append, List.length_singleton] at hj
  rw [gi_app hj]; split
  · rename_i e; exact h j e
  · exact ⟨h0, h1⟩
theorem bld_bo {rows : List Row} {C n K : Nat} (hn : n = C + K) : ∀ i, i ≤ K → BO (bld rows C n K i).b (n + K)
  | 0, _ => fun j hj => absurd hj (Nat.not_lt_zero _)
  | i + 1, hi => by
    have ih := bld_bo (rows := rows) hn i (by omega)
    by_cases c : (gw rows i).mo < 0
    · rw [bld_y c]; exact ih.app (by omega) (by omega)
    · rw [bld_n c]; exact ih.app (by omega) (by omega)
theorem BO.it {t : TS} {n m : Nat} (h : BO t.b m) (hn : n ≤ m) : ∀ s, (∀ i, i < s → goesT n (itT n t i)) → BO (itT n t s).b m
  | 0, _ => h
  | s + 1, hs => by
    have ih := h.it hn s fun i hi => hs i (by omega)
    have hg := hs s (by omega)
    have hb := colN_bd (itT n t s).g n
    have h1 := hg.1
    have e : cSel n (itT n t s) = colN (itT n t s).g n := rfl
    exact ih.set (by omega) (by omega)
inductive Drv (n : Nat) (t0 : TS) : Nat → TS → Prop
  | nil : Drv n t0 0 t0
  | low {i : Nat} {t : TS} : Drv n t0 i t → gi t.b i < (n : Int) → Drv n t0 (i + 1) t
  | non {i : Nat} {t : TS} : Drv n t0 i t → ¬ gi t.b i < (n : Int) → (∀ c, c < n → (gf (gr t.L i) c).num = 0) → Drv n t0 (i + 1) t
  | piv {i c : Nat} {t : TS} : Drv n t0 i t → ¬ gi t.b i < (n : Int) → c < n → (∀ j, j < c → (gf (gr t.L i) j).num = 0) → (gf (gr t.L i) c).num ≠ 0 → Drv n t0 (i + 1) ⟨pvM t.L i c, t.b.set i (c : Int), pvG t.L t.g i c⟩
theorem Drv.ok {n m k i : Nat} {t0 t : TS} (h : Drv n t0 i t) (h0 : TOK t0 k m) (hb : BO t0.b m) (hn : n ≤ m) (hi : i ≤ k) : TOK t k m ∧ BO t.b m := by
  induction h with
  | nil => exact ⟨h0, hb⟩
  | low _ _ ih => exact ih (by omega)
  | non _ _ _ ih => exact ih (by omega)
  | piv _ _ hc _ _ ih =>
    obtain ⟨i1, i2⟩ := ih (by omega)
    exact ⟨i1.piv (by omega), i2.set (by omega) (by omega)⟩
def tgN (goal : List Term) (l : List Frc) : Nat → List Frc
  | 0 => l
  | z + 1 => (tgN goal l z).set (gm goal z).of_.toNat ⟨-(gm goal z).co, 1⟩
theorem tgN_s {goal : List Term} {l : List Frc} {z : Nat} : tgN goal l (z + 1) = (tgN goal l z).set (gm goal z).of_.toNat ⟨-(gm goal z).co, 1⟩ := rfl
theorem tgN_ok {goal : List Term} {l : List Frc} (hl : WkL l) (hb : ∀ z, z < goal.length → -9 ≤ (gm goal z).co ∧ (gm goal z).co ≤ 9) : ∀ z, z ≤ goal.length → (tgN goal l z).length = l.length ∧ WkL (tgN goal l z)
  | 0, _ => ⟨rfl, hl⟩
  | z + 1, hz => by
    have ih := tgN_ok hl hb z (by omega)
    have := hb z (by omega)
    rw [tgN_s]; exact ⟨by rw [List.length_set]; exact ih.1, ih.2.set (wk_int (by omega) (by omega))⟩
def cgN (L : List (List Frc)) (b : List Int) (g : List Frc) : Nat → List Frc
  | 0 => g
  | i + 1 => clr (cgN L b g i) (gr L i) (gi b i).toNat
theorem cgN_s {L : List (List Frc)} {b : List Int} {g : List Frc} {i : Nat} : cgN L b g (i + 1) = clr (cgN L b g i) (gr L i) (gi b i).toNat := rfl
theorem cgN_ok {L : List (List Frc)} {b : List Int} {g : List Frc} (hg : WkL g) : ∀ i, (cgN L b g i).length = g.length ∧ WkL (cgN L b g i)
  | 0 => ⟨rfl, hg⟩
  | i + 1 => by
    have ih := cgN_ok (L := L) (b := b) hg i
    rw [cgN_s]; exact ⟨by rw [clr_len]; exact ih.1, clr_wk _ _ _⟩
def ph2 (goal : List Term) (n K : Nat) (v : TS) : TS := ⟨v.L, v.b, cgN v.L v.b (tgN goal (lenZ n K) goal.length) K⟩
def BR (rows : List Row) (goal : List Term) (cst : Int) (C n K : Nat) (x : Frc) (e : Int) : Prop :=
  ∃ s1, (∀ i, i < s1 → goesT n (itT n (bld rows C n K K) i)) ∧ ¬ goesT n (itT n (bld rows C n K K) s1) ∧
    (((gf (itT n (bld rows C n K K) s1).g (n + K)).num ≠ 0 ∧ x = ⟨0, 0⟩ ∧ e = 34) ∨
     ((gf (itT n (bld rows C n K K) s1).g (n + K)).num = 0 ∧ ∃ v, Drv n (itT n (bld rows C n K K) s1) K v ∧
       ∃ s2, (∀ i, i < s2 → goesT n (itT n (ph2 goal n K v) i)) ∧ ¬ goesT n (itT n (ph2 goal n K v) s2) ∧
         ((¬ cSel n (itT n (ph2 goal n K v) s2) < 0 ∧ x = ⟨0, 0⟩ ∧ e = 35) ∨ (cSel n (itT n (ph2 goal n K v) s2) < 0 ∧ x = addF (gf (itT n (ph2 goal n K v) s2).g (n + K)) ⟨cst, 1⟩ ∧ e = 0))))
def HE (rows : List Row) (goal : List Term) (C n K : Nat) : Prop :=
  (∀ s, (∀ i, i < s → goesT n (itT n (bld rows C n K K) i)) → s < 16777216) ∧
  ∀ s1 v, (∀ i, i < s1 → goesT n (itT n (bld rows C n K K) i)) → ¬ goesT n (itT n (bld rows C n K K) s1) → (gf (itT n (bld rows C n K K) s1).g (n + K)).num = 0 → Drv n (itT n (bld rows C n K K) s1) K v →
    ∀ s, (∀ i, i < s → goesT n (itT n (ph2 goal n K v) i)) → s < 16777216
theorem ex_nT {I : Nat × TS → Prop} {m : Nat × TS → Nat} {n : Nat} {P : Nat × TS → Prop} (k : Nat) (t : TS) (hI : I (k, t)) (hm : m (k, t) < n) (hP : P (k, t)) : ∃ z, I z ∧ m z < n ∧ P z := ⟨_, hI, hm, hP⟩
attribute [local irreducible] mulF mulE subF subE divF divE addF addE clr upN pvN pvM pvG cmpF colN rowN zrs trN gN bld
end Go.Proofs.Ytkageldgmkajbaa
namespace Go.Proofs.Ytkageldgmkajbaa
open Go.RowKit
def fr (q : Rat) : Frc := ⟨q.num, (q.den : Int)⟩
def Fit (q : Rat) : Prop := q.num.natAbs ≤ 1152921504606846976 ∧ q.den ≤ 1152921504606846976
def sgn (neg : Bool) (n : Nat) : Int := if neg then -(n : Int) else (n : Int)
theorem sgn_abs (neg : Bool) (n : Nat) : (sgn neg n).natAbs = n := by unfold sgn; cases neg <;> simp
theorem redF_rat {neg : Bool} {n d : Nat} (hd : d ≠ 0) {q : Rat} (hq : q = Rat.normalize (sgn neg n) d hd) (hf : Fit q) : redF neg n d = fr q := by
  subst hq
  have h1 := hf.1
  have h2 := hf.2
  have e1 := Rat.num_normalize (num := sgn neg n) (den := d) hd
  have e2 := Rat.den_normalize (num := sgn neg n) (den := d) hd
  rw [sgn_abs] at e1 e2
  unfold fr
  by_cases hn : n = 0
  · subst hn
    have z : redF neg 0 d = ⟨0, 1⟩ := if_pos rfl
    have z1 : sgn neg 0 = 0 := by unfold sgn; cases neg <;> rfl
    rw [z, e1, e2, z1, Nat.gcd_zero_left, Nat.div_self (by omega), Int.zero_ediv]
    rfl
  · have hg : Nat.gcd n d ≠ 0 := fun e => hn (Nat.eq_zero_of_gcd_eq_zero_left e)
    have e3 : (Rat.normalize (sgn neg n) d hd).num = sgn neg (n / Nat.gcd n d) := by
      rw [e1]
      unfold sgn
      cases neg
      · simp only [Bool.false_eq_true, if_false]; rfl
      · simp only [if_true]
        rw [Int.neg_ediv_of_dvd (Int.natCast_dvd_natCast.2 (Nat.gcd_dvd_left n d))]
        rfl
    rw [e3] at h1
    rw [sgn_abs] at h1
    rw [e2] at h2
    unfold redF
    rw [if_neg hn, if_pos ⟨h1, h2⟩, e3, e2]
    unfold sgn
    cases neg <;> rfl
theorem sgn_mul (a c : Int) : sgn (decide (a < 0) != decide (c < 0)) (a.natAbs * c.natAbs) = a * c := by
  unfold sgn
  by_cases ha : a < 0 <;> by_cases hc : c < 0
  · have : a * c = (-a) * (-c) := by rw [Int.neg_mul_neg]
    simp only [ha, hc, decide_true, bne_self_eq_false, Bool.false_eq_true, if_false, Int.natCast_mul]
    rw [this, show ((a.natAbs : Nat) : Int) = -a by omega, show ((c.natAbs : Nat) : Int) = -c by omega]
  · simp only [ha, hc, decide_true, decide_false, Bool.bne_false, if_true, Int.natCast_mul]
    rw [show ((a.natAbs : Nat) : Int) = -a by omega, show ((c.natAbs : Nat) : Int) = c by omega, Int.neg_mul, Int.neg_neg]
  · simp only [ha, hc, decide_true, decide_false, Bool.false_bne, if_true, Int.natCast_mul]
    rw [show ((a.natAbs : Nat) : Int) = a by omega, show ((c.natAbs : Nat) : Int) = -c by omega, Int.mul_neg, Int.neg_neg]
  · simp only [ha, hc, decide_false, bne_self_eq_false, Bool.false_eq_true, if_false, Int.natCast_mul]
    rw [show ((a.natAbs : Nat) : Int) = a by omega, show ((c.natAbs : Nat) : Int) = c by omega]
theorem mulF_fr {p q : Rat} (h : Fit (p * q)) : mulF (fr p) (fr q) = fr (p * q) := by
  refine redF_rat (Nat.mul_ne_zero p.den_nz q.den_nz) ?_ h
  rw [Rat.mul_def]
  congr 1
  exact (sgn_mul p.num q.num).symm
theorem negF_fr (p : Rat) : negF (fr p) = fr (-p) := rfl
theorem sgn_add1 {a c : Int} (x y : Nat) (h : decide (a < 0) = decide (c < 0)) : sgn (decide (a < 0)) (a.natAbs * y + c.natAbs * x) = a * (y : Int) + c * (x : Int) := by
  unfold sgn
  by_cases ha : a < 0
  · have hc : c < 0 := by simpa [ha] using h.symm
    simp only [ha, decide_true, if_true, Int.natCast_add, Int.natCast_mul]
    rw [show ((a.natAbs : Nat) : Int) = -a by omega, show ((c.natAbs : Nat) : Int) = -c by omega, Int.neg_mul, Int.neg_mul]; omega
  · have hc : ¬ c < 0 := by simpa [ha] using h.symm
    simp only [ha, decide_false, Bool.false_eq_true, if_false, Int.natCast_add, Int.natCast_mul]
    rw [show ((a.natAbs : Nat) : Int) = a by omega, show ((c.natAbs : Nat) : Int) = c by omega]
theorem sgn_add2 {a c : Int} (x y : Nat) (h : ¬ decide (a < 0) = decide (c < 0)) (hl : c.natAbs * x ≤ a.natAbs * y) : sgn (decide (a < 0)) (a.natAbs * y - c.natAbs * x) = a * (y : Int) + c * (x : Int) := by
  unfold sgn
  by_cases ha : a < 0
  · have hc : ¬ c < 0 := fun e => h (by simp [ha, e])
    simp only [ha, decide_true, if_true]
    rw [Int.natCast_sub hl, Int.natCast_mul, Int.natCast_mul, show ((a.natAbs : Nat) : Int) = -a by omega, show ((c.natAbs : Nat) : Int) = c by omega, Int.neg_mul]; omega
  · have hc : c < 0 := Classical.byContradiction fun e => h (by simp [ha, e])
    simp only [ha, decide_false, Bool.false_eq_true, if_false]
    rw [Int.natCast_sub hl, Int.natCast_mul, Int.natCast_mul, show ((a.natAbs : Nat) : Int) = a by omega, show ((c.natAbs : Nat) : Int) = -c by omega, Int.neg_mul]; omega
theorem addF_fr {p q : Rat} (h : Fit (p + q)) : addF (fr p) (fr q) = fr (p + q) := by
  have hd := Nat.mul_ne_zero p.den_nz q.den_nz
  have e : p + q = Rat.normalize (p.num * (q.den : Int) + q.num * (p.den : Int)) (p.den * q.den) hd := Rat.add_def p q
  have a1 : addA (fr p) (fr q) = p.num.natAbs * q.den := rfl
  have a2 : addA (fr q) (fr p) = q.num.natAbs * p.den := rfl
  unfold addF
  rw [a1, a2]
  have d1 : (fr p).den.toNat * (fr q).den.toNat = p.den * q.den := rfl
  rw [d1]
  split
  · rename_i hs
    refine redF_rat hd ?_ h
    rw [e]; congr 1; exact (sgn_add1 p.den q.den hs).symm
  · rename_i hs
    split
    · rename_i hl
      refine redF_rat hd ?_ h
      rw [e]; congr 1
      have := sgn_add2 (a := q.num) (c := p.num) q.den p.den (fun h => hs h.symm) (Nat.le_of_lt hl)
      exact (this.trans (Int.add_comm _ _)).symm
    · rename_i hl
      refine redF_rat hd ?_ h
      rw [e]; congr 1
      exact (sgn_add2 (a := p.num) (c := q.num) p.den q.den hs (by omega)).symm
theorem subF_fr {p q : Rat} (h : Fit (p - q)) : subF (fr p) (fr q) = fr (p - q) := by
  have e : p - q = p + -q := Rat.sub_eq_add_neg p q
  unfold subF
  rw [negF_fr, e]
  rw [e] at h
  exact addF_fr h
theorem rat_num (q : Rat) : q * ((q.den : Nat) : Rat) = (q.num : Rat) := by
  have h := Rat.num_divInt_den q
  rw [Rat.divInt_eq_div] at h
  have hd : ((q.den : Nat) : Rat) ≠ 0 := by
    have := q.den_nz
    exact fun e => this (by exact_mod_cast e)
  have h2 : ((q.num : Int) : Rat) / (((q.den : Nat) : Int) : Rat) = q := h
  have h3 : (((q.den : Nat) : Int) : Rat) = ((q.den : Nat) : Rat) := rfl
  rw [h3] at h2
  grind
theorem rat_norm {q : Rat} {a : Int} {d : Nat} (hd : d ≠ 0) (h : q * (d : Rat) = (a : Rat)) : q = Rat.normalize a d hd := by
  rw [Rat.normalize_eq_mkRat, Rat.mkRat_eq_div]
  have : (d : Rat) ≠ 0 := fun e => hd (by exact_mod_cast e)
  grind
theorem num_neg {q : Rat} : q.num < 0 ↔ q < 0 := by
  have := Rat.num_nonneg (q := q)
  rw [← Int.not_le, this, Rat.not_le]
theorem num_zero {q : Rat} : q.num = 0 ↔ q = 0 := Rat.num_eq_zero
theorem natAbs_ne {q : Rat} (hq : q ≠ 0) : q.num.natAbs ≠ 0 := fun e => hq (num_zero.1 (Int.natAbs_eq_zero.1 e))
theorem divF_fr {p q : Rat} (hq : q ≠ 0) (h : Fit (p / q)) : divF (fr p) (fr q) = fr (p / q) := by
  have hd : p.den * q.num.natAbs ≠ 0 := Nat.mul_ne_zero p.den_nz (natAbs_ne hq)
  have h0 : ¬ (fr q).num = 0 := fun e => hq (num_zero.1 e)
  unfold divF
  rw [if_neg h0]
  refine redF_rat (neg := decide (p.num < 0) != decide (q.num < 0)) (n := p.num.natAbs * q.den) (d := p.den * q.num.natAbs) hd ?_ h
  refine rat_norm hd ?_
  have ep := rat_num p
  have eq := rat_num q
  have es : sgn (decide (p.num < 0) != decide (q.num < 0)) (p.num.natAbs * q.den) * (q.num.natAbs : Int) = p.num * q.num * (q.den : Int) := by
    have := sgn_mul p.num q.num
    rw [← this]
    unfold sgn
    split
    · rw [Int.natCast_mul, Int.natCast_mul, Int.neg_mul, Int.neg_mul]; congr 1; rw [Int.mul_right_comm]
    · rw [Int.natCast_mul, Int.natCast_mul, Int.mul_right_comm]
  have hn : ((q.num.natAbs : Nat) : Rat) ≠ 0 := fun e => natAbs_ne hq (by exact_mod_cast e)
  have es2 : ((sgn (decide (p.num < 0) != decide (q.num < 0)) (p.num.natAbs * q.den) : Int) : Rat) * ((q.num.natAbs : Nat) : Rat) = (p.num : Rat) * (q.num : Rat) * ((q.den : Nat) : Rat) := by exact_mod_cast es
  have ea : ((q.num.natAbs : Nat) : Rat) * ((q.num.natAbs : Nat) : Rat) = (q.num : Rat) * (q.num : Rat) := by
    have : (q.num.natAbs : Int) * (q.num.natAbs : Int) = q.num * q.num := Int.natAbs_mul_self
    exact_mod_cast this
  rw [Rat.natCast_mul]
  have hqd : ((q.den : Nat) : Rat) ≠ 0 := fun e => q.den_nz (by exact_mod_cast e)
  generalize ((sgn (decide (p.num < 0) != decide (q.num < 0)) (p.num.natAbs * q.den) : Int) : Rat) = S at *
  generalize ((q.num.natAbs : Nat) : Rat) = N at *
  generalize ((q.den : Nat) : Rat) = D at *
  generalize (q.num : Rat) = Q at *
  generalize (p.num : Rat) = P at *
  generalize ((p.den : Nat) : Rat) = E at *
  have e1 : S * N = P * Q * D := es2
  have hS : S = P * Q * D / N := by grind
  rw [hS]
  have hqq : q = Q / D := by grind
  have e3 : p / q * (E * N) = P * D * N / Q := by
    have hQ : Q ≠ 0 := by grind
    rw [hqq]; grind
  rw [e3]
  have hQ : Q ≠ 0 := by grind
  grind
theorem num_pos {q : Rat} : 0 < q.num ↔ 0 < q := by
  have h1 := Rat.num_nonneg (q := q)
  have h2 := num_zero (q := q)
  constructor
  · intro h
    have a : 0 ≤ q := h1.1 (by omega)
    have b : q ≠ 0 := fun e => by have := h2.2 e; omega
    grind
  · intro h
    have a : 0 ≤ q.num := h1.2 (Rat.le_of_lt h)
    have b : q.num ≠ 0 := fun e => by have := h2.1 e; grind
    omega
theorem den_pos (q : Rat) : (0 : Rat) < ((q.den : Nat) : Rat) := by
  have := Nat.pos_of_ne_zero q.den_nz
  exact_mod_cast this
theorem lt_num {p q : Rat} : p < q ↔ p.num * (q.den : Int) < q.num * (p.den : Int) := by
  have ep := rat_num p
  have eq := rat_num q
  have dp := den_pos p
  have dq := den_pos q
  have key : ((p.num * (q.den : Int) : Int) : Rat) = p * (((p.den : Nat) : Rat) * ((q.den : Nat) : Rat)) := by
    have : ((p.num * (q.den : Int) : Int) : Rat) = (p.num : Rat) * ((q.den : Nat) : Rat) := by exact_mod_cast rfl
    rw [this]; grind
  have key2 : ((q.num * (p.den : Int) : Int) : Rat) = q * (((p.den : Nat) : Rat) * ((q.den : Nat) : Rat)) := by
    have : ((q.num * (p.den : Int) : Int) : Rat) = (q.num : Rat) * ((p.den : Nat) : Rat) := by exact_mod_cast rfl
    rw [this]; grind
  have hD : 0 < ((p.den : Nat) : Rat) * ((q.den : Nat) : Rat) := Rat.mul_pos dp dq
  generalize ((p.den : Nat) : Rat) * ((q.den : Nat) : Rat) = D at *
  have hI : p.num * (q.den : Int) < q.num * (p.den : Int) ↔ ((p.num * (q.den : Int) : Int) : Rat) < ((q.num * (p.den : Int) : Int) : Rat) := Rat.intCast_lt_intCast.symm
  rw [hI, key, key2]
  exact (Rat.mul_lt_mul_right hD).symm
theorem cmpF_fr (p q : Rat) : cmpF (fr p) (fr q) = if p < q then -1 else if p = q then 0 else 1 := by
  have h1 := lt_num (p := p) (q := q)
  have h2 := lt_num (p := q) (q := p)
  have hpq : p = q ↔ ¬ p < q ∧ ¬ q < p := by grind
  have a1 : addA (fr p) (fr q) = p.num.natAbs * q.den := rfl
  have a2 : addA (fr q) (fr p) = q.num.natAbs * p.den := rfl
  have dp := Nat.pos_of_ne_zero p.den_nz
  have dq := Nat.pos_of_ne_zero q.den_nz
  have b1 : ((p.num.natAbs * q.den : Nat) : Int) = (p.num.natAbs : Int) * (q.den : Int) := Int.natCast_mul _ _
  have b2 : ((q.num.natAbs * p.den : Nat) : Int) = (q.num.natAbs : Int) * (p.den : Int) := Int.natCast_mul _ _
  unfold cmpF
  rw [a1, a2]
  show (if decide (p.num < 0) = decide (q.num < 0) then (if p.num < 0 then _ else _) else if p.num < 0 then (-1 : Int) else 1) = _
  by_cases ha : p.num < 0 <;> by_cases hc : q.num < 0
  · rw [if_pos (by simp [ha, hc]), if_pos ha]
    rw [show (p.num.natAbs : Int) = -p.num by omega, Int.neg_mul] at b1
    rw [show (q.num.natAbs : Int) = -q.num by omega, Int.neg_mul] at b2
    by_cases c1 : p < q
    · have := h1.1 c1
      rw [if_pos c1, if_pos (by omega)]
    · have n1 : ¬ _ := fun e => c1 (h1.2 e)
      rw [if_neg c1, if_neg (by omega)]
      by_cases c2 : p = q
      · have n2 : ¬ _ := fun e => (hpq.1 c2).2 (h2.2 e)
        rw [if_pos c2, if_pos (by omega)]
      · have c3 : q < p := by grind
        have := h2.1 c3
        rw [if_neg c2, if_neg (by omega)]
  · have : p.num * (q.den : Int) < 0 := Int.mul_neg_of_neg_of_pos ha (by omega)
    have h0 : 0 ≤ q.num * (p.den : Int) := Int.mul_nonneg (by omega) (by omega)
    rw [if_neg (by simp [ha, hc]), if_pos ha, if_pos (h1.2 (by omega))]
  · have : q.num * (p.den : Int) < 0 := Int.mul_neg_of_neg_of_pos hc (by omega)
    have h0 : 0 ≤ p.num * (q.den : Int) := Int.mul_nonneg (by omega) (by omega)
    rw [if_neg (by simp [ha, hc]), if_neg ha, if_neg (fun e => by have := h1.1 e; omega), if_neg (fun e => by have := (hpq.1 e).2; exact this (h2.2 (by omega)))]
  · rw [if_pos (by simp [ha, hc]), if_neg ha]
    rw [show (p.num.natAbs : Int) = p.num by omega] at b1
    rw [show (q.num.natAbs : Int) = q.num by omega] at b2
    by_cases c1 : p < q
    · have := h1.1 c1
      rw [if_pos c1, if_pos (by omega)]
    · have n1 : ¬ _ := fun e => c1 (h1.2 e)
      rw [if_neg c1, if_neg (by omega)]
      by_cases c2 : p = q
      · have n2 : ¬ _ := fun e => (hpq.1 c2).2 (h2.2 e)
        rw [if_pos c2, if_pos (by omega)]
      · have c3 : q < p := by grind
        have := h2.1 c3
        rw [if_neg c2, if_neg (by omega)]
end Go.Proofs.Ytkageldgmkajbaa
namespace Go.Proofs.Ytkageldgmkajbaa
structure AI (A : Nat → Col) (k m : Nat) (M : Nat → Nat → Int) : Prop where
  e : ∀ j, j ≤ m → ∀ q, q < k → A j q = (M j q : Rat)
  s : ∀ j, j < m → ab (M j) k ≤ SC j
  r : ab (M m) k ≤ 300
def XC (m j : Nat) : Nat := if j = m then 300 else SC j
theorem XC_pos (m j : Nat) : 1 ≤ XC m j := by unfold XC; split; omega; exact SC_pos j
theorem XC_le (m j : Nat) : XC m j ≤ 300 := by unfold XC SC; split; omega; split <;> omega
theorem AI.x {A : Nat → Col} {k m : Nat} {M : Nat → Nat → Int} (h : AI A k m M) {j : Nat} (hj : j ≤ m) : ab (M j) k ≤ XC m j := by
  unfold XC
  split
  · rename_i e; rw [e]; exact h.r
  · exact h.s j (by omega)
section
variable {A : Nat → Col} {k m : Nat} {w : Nat → Rat} {M : Nat → Nat → Int} {t : Tb}
theorem Vd.ent (h : Vd A k m w t) (a : AI A k m M) : ∃ D : Int, D ≠ 0 ∧ D.natAbs ≤ 157464 ∧ ∀ i, i < k → ∀ j, j ≤ m → ∃ z : Int, t.T i j = (z : Rat) / (D : Rat) ∧ z.natAbs ≤ XC m j * 157464 := by
  have hp := pr_SC_le h.inj
  obtain ⟨D, hD, hDb⟩ := det_int (k := k) (c := fun l => A (t.b l)) (M := fun l => M (t.b l)) fun j hj q hq => a.e _ (Nat.le_of_lt (h.bl j hj)) q hq
  have hD0 : D ≠ 0 := fun e => h.dn (by rw [hD, e]; rfl)
  refine ⟨D, hD0, Nat.le_trans hDb (Nat.le_trans (pr_le fun j hj => a.s _ (h.bl j hj)) hp), fun i hi j hj => ?_⟩
  obtain ⟨z, hz, hzb⟩ := det_int (k := k) (c := cset (fun l => A (t.b l)) i (A j)) (M := fun l => if l = i then M j else M (t.b l)) fun l hl q hq => by
    unfold cset
    split
    · exact a.e _ hj q hq
    · exact a.e _ (Nat.le_of_lt (h.bl l hl)) q hq
  rw [cramer (t := fun l => t.T l j) hi fun q hq => h.inv j hj q hq, hD] at hz
  refine ⟨z, ?_, ?_⟩
  · have : (D : Rat) ≠ 0 := fun e => hD0 (by exact_mod_cast e)
    have hz : t.T i j * (D : Rat) = (z : Rat) := hz
    grind
  · refine Nat.le_trans hzb (Nat.le_trans (pr_le (g := fun l => if l = i then XC m j else SC (t.b l)) fun l hl => ?_) (Nat.le_trans (pr_rep (fun l _ => SC_pos _) (XC_pos m j)) (Nat.mul_le_mul_left _ hp)))
    try dsimp only
    split
    · exact a.x hj
    · exact a.s _ (h.bl l hl)
theorem Vd.gent (h : Vd A k m w t) (a : AI A k m M) (hk : k ≤ 6) {W : Nat → Int} (hw : ∀ j, w j = (W j : Rat)) (hW : ∀ j, (W j).natAbs ≤ 9) : ∃ D : Int, D ≠ 0 ∧ D.natAbs ≤ 157464 ∧ ∀ n, n ≤ k → ∀ j, j ≤ m → ∃ z : Int, w j - sm (fun l => w (t.b l) * t.T l j) n = (z : Rat) / (D : Rat) ∧ z.natAbs ≤ (9 + n * (9 * XC m j)) * 157464 := by
  obtain ⟨D, hD0, hDb, hT⟩ := h.ent a
  have hDr : (D : Rat) ≠ 0 := fun e => hD0 (by exact_mod_cast e)
  refine ⟨D, hD0, hDb, fun n => ?_⟩
  induction n with
  | zero =>
    intro _ j hj
    refine ⟨W j * D, ?_, ?_⟩
    · show w j - 0 = _
      rw [hw j, Rat.intCast_mul]; grind
    · rw [Int.natAbs_mul, Nat.zero_mul, Nat.add_zero]
      exact Nat.mul_le_mul (hW j) hDb
  | succ n ih =>
    intro hn j hj
    obtain ⟨z, e, b⟩ := ih (by omega) j hj
    obtain ⟨y, e2, b2⟩ := hT n (by omega) j hj
    refine ⟨z - W (t.b n) * y, ?_, ?_⟩
    · show w j - (sm (fun l => w (t.b l) * t.T l j) n + w (t.b n) * t.T n j) = _
      rw [Rat.intCast_sub, Rat.intCast_mul, e2, hw (t.b n)]
      grind
    · have b3 : (W (t.b n) * y).natAbs ≤ 9 * (XC m j * 157464) := by rw [Int.natAbs_mul]; exact Nat.mul_le_mul (hW _) b2
      have b4 := Int.natAbs_sub_le z (W (t.b n) * y)
      have b5 : (9 + (n + 1) * (9 * XC m j)) * 157464 = (9 + n * (9 * XC m j)) * 157464 + 9 * (XC m j * 157464) := by
        rw [Nat.add_mul n 1, Nat.one_mul, ← Nat.add_assoc, Nat.add_mul _ (9 * XC m j), Nat.mul_assoc 9]
      omega
end
end Go.Proofs.Ytkageldgmkajbaa
namespace Go.Proofs.Ytkageldgmkajbaa
open Go.RowKit
theorem mul_bd {p q : Rat} : (p * q).num.natAbs ≤ p.num.natAbs * q.num.natAbs ∧ (p * q).den ≤ p.den * q.den := by
  have hd : ((p.den * q.den : Nat) : Int) ≠ 0 := by
    have := Nat.mul_ne_zero p.den_nz q.den_nz
    omega
  have h := rat_parts (q := p * q) (z := p.num * q.num) (d := ((p.den * q.den : Nat) : Int)) hd (by
    have e1 := rat_num p
    have e2 := rat_num q
    have d1 := den_pos p
    have d2 := den_pos q
    have c1 : ((((p.den * q.den : Nat) : Int) : Int) : Rat) = ((p.den : Nat) : Rat) * ((q.den : Nat) : Rat) := by
      have : ((((p.den * q.den : Nat) : Int) : Int) : Rat) = (((p.den * q.den : Nat)) : Rat) := rfl
      rw [this, Rat.natCast_mul]
    rw [c1, Rat.intCast_mul, ← e1, ← e2]
    generalize ((p.den : Nat) : Rat) = x at *
    generalize ((q.den : Nat) : Rat) = y at *
    have hx : x ≠ 0 := by grind
    have hy : y ≠ 0 := by grind
    grind)
  rw [Int.natAbs_mul, Int.natAbs_natCast] at h
  exact h
def Lm (q : Rat) (N : Nat) : Prop := q.num.natAbs ≤ N ∧ q.den ≤ 157464
theorem Lm.fit {q : Rat} {N : Nat} (h : Lm q N) (hN : N ≤ 1152921504606846976) : Fit q := ⟨Nat.le_trans h.1 hN, Nat.le_trans h.2 (by decide)⟩
theorem Lm.mul {p q : Rat} {a b : Nat} (h1 : Lm p a) (h2 : Lm q b) (hab : a * b ≤ 1152921504606846976) : Fit (p * q) :=
  ⟨Nat.le_trans mul_bd.1 (Nat.le_trans (Nat.mul_le_mul h1.1 h2.1) hab), Nat.le_trans mul_bd.2 (Nat.le_trans (Nat.mul_le_mul h1.2 h2.2) (by decide))⟩
theorem Lm.mono {q : Rat} {a b : Nat} (h : Lm q a) (hab : a ≤ b) : Lm q b := ⟨Nat.le_trans h.1 hab, h.2⟩
theorem lm_of {q : Rat} {z D : Int} {N : Nat} (hD : D ≠ 0) (hb : D.natAbs ≤ 157464) (h : q = (z : Rat) / (D : Rat)) (hz : z.natAbs ≤ N) : Lm q N := by
  have := rat_parts hD h
  exact ⟨Nat.le_trans this.1 hz, Nat.le_trans this.2 hb⟩
section
variable {A : Nat → Col} {k m : Nat} {w : Nat → Rat} {M : Nat → Nat → Int} {u : Tb} {W : Nat → Int}
theorem XC_lt {m j : Nat} (h : j < m) : XC m j ≤ 54 := by unfold XC SC; rw [if_neg (by omega)]; split <;> omega
theorem Vd.lmT (h : Vd A k m w u) (a : AI A k m M) {i j : Nat} (hi : i < k) (hj : j ≤ m) : Lm (u.T i j) 47239200 := by
  obtain ⟨D, h0, hb, hT⟩ := h.ent a
  obtain ⟨z, e, hz⟩ := hT i hi j hj
  exact lm_of h0 hb e (Nat.le_trans hz (Nat.mul_le_mul_right _ (XC_le m j)))
theorem Vd.lmP (h : Vd A k m w u) (a : AI A k m M) (hk : k ≤ 6) (hw : ∀ j, w j = (W j : Rat)) (hW : ∀ j, (W j).natAbs ≤ 9) {n j : Nat} (hn : n ≤ k) (hj : j ≤ m) : Lm (w j - sm (fun l => w (u.b l) * u.T l j) n) 2552333976 ∧ (j < m → Lm (w j - sm (fun l => w (u.b l) * u.T l j) n) 460582200) := by
  obtain ⟨D, h0, hb, hT⟩ := h.gent a hk hw hW
  obtain ⟨z, e, hz⟩ := hT n hn j hj
  refine ⟨lm_of h0 hb e (Nat.le_trans hz ?_), fun hjm => lm_of h0 hb e (Nat.le_trans hz ?_)⟩
  · have h1 := XC_le m j
    have h2 : n * (9 * XC m j) ≤ 6 * (9 * 300) := Nat.mul_le_mul (by omega) (by omega)
    omega
  · have h1 := XC_lt hjm
    have h2 : n * (9 * XC m j) ≤ 6 * (9 * 54) := Nat.mul_le_mul (by omega) (by omega)
    omega
theorem Vd.lmG (h : Vd A k m w u) (a : AI A k m M) (hk : k ≤ 6) (hw : ∀ j, w j = (W j : Rat)) (hW : ∀ j, (W j).natAbs ≤ 9) {j : Nat} (hj : j ≤ m) : Lm (u.g j) 2552333976 ∧ (j < m → Lm (u.g j) 460582200) := by
  have := h.lmP a hk hw hW (Nat.le_refl k) hj
  rw [← h.gl j hj] at this
  exact this
end
structure Rel (t : TS) (k m : Nat) (u : Tb) : Prop where
  ok : TOK t k m
  T : ∀ i, i < k → ∀ j, j ≤ m → gf (gr t.L i) j = fr (u.T i j)
  g : ∀ j, j ≤ m → gf t.g j = fr (u.g j)
  b : ∀ i, i < k → gi t.b i = (u.b i : Int)
theorem pvN_len {P : List (List Frc)} {row col : Nat} : ∀ z, (pvN P row col z).length = P.length
  | 0 => rfl
  | z + 1 => by
    by_cases h : z = row
    · rw [pvN_y h]; exact pvN_len z
    · rw [pvN_n h, List.length_set]; exact pvN_len z
theorem pvN_at {P : List (List Frc)} {row col : Nat} (hr : row < P.length) : ∀ z, z ≤ P.length → ∀ i, gr (pvN P row col z) i = if i < z ∧ i ≠ row then clr (gr P i) (gr P row) col else gr P i
  | 0, _, i => by rw [if_neg (fun h => absurd h.1 (Nat.not_lt_zero _))]; rfl
  | z + 1, hz, i => by
    have ih := pvN_at (col := col) hr z (by omega)
    by_cases h : z = row
    · rw [pvN_y h, ih i]
      by_cases c : i < z ∧ i ≠ row
      · rw [if_pos c, if_pos ⟨by omega, c.2⟩]
      · rw [if_neg c, if_neg (by omega)]
    · rw [pvN_n h, gr_set (by rw [pvN_len]; omega)]
      by_cases e : i = z
      · rw [if_pos e, if_pos ⟨by omega, by omega⟩, ih z, ih row, if_neg (by omega), if_neg (by omega), e]
      · rw [if_neg e, ih i]
        by_cases c : i < z ∧ i ≠ row
        · rw [if_pos c, if_pos ⟨by omega, c.2⟩]
        · rw [if_neg c, if_neg (by omega)]
theorem Rel.piv {A : Nat → Col} {k m : Nat} {w : Nat → Rat} {M : Nat → Nat → Int} {u : Tb} {W : Nat → Int} {t : TS} (h : Rel t k m u) (hv : Vd A k m w u) (a : AI A k m M) (hk : k ≤ 6) (hw : ∀ j, w j = (W j : Rat)) (hW : ∀ j, (W j).natAbs ≤ 9) {r c : Nat} (hr : r < k) (hc : c < m) (hp : u.T r c ≠ 0) :
    Rel ⟨pvM t.L r c, t.b.set r (c : Int), pvG t.L t.g r c⟩ k m (pvt u r c) := by
  have hv2 := hv.piv hr hc hp
  have hL := h.ok.T.hn
  have hlr := h.ok.T.hm r hr
  -- the row of the pivot
  have hR : ∀ j, j ≤ m → gf (gr (pv1 t.L r c) r) j = fr (u.T r j / u.T r c) := fun j hj => by
    have e1 : gr (pv1 t.L r c) r = dvl (gr t.L r) (gf (gr t.L r) c) := by unfold pv1; rw [gr_set (by omega), if_pos rfl]
    have e2 : gf (dvl (gr t.L r) (gf (gr t.L r) c)) j = divF (gf (gr t.L r) j) (gf (gr t.L r) c) := by
      unfold dvl; rw [gf_upN (Nat.le_refl _), if_pos (by omega)]; rfl
    rw [e1, e2, h.T r hr j hj, h.T r hr c (by omega)]
    refine divF_fr hp ?_
    have := (hv2.lmT a hr hj).fit (by decide)
    have e3 : (pvt u r c).T r j = u.T r j / u.T r c := if_pos rfl
    rw [e3] at this; exact this
  have hO : ∀ i, i ≠ r → gr (pv1 t.L r c) i = gr t.L i := fun i hi => by unfold pv1; rw [gr_set (by omega), if_neg hi]
  have hPl : (pv1 t.L r c).length = k := by unfold pv1; rw [List.length_set]; exact hL
  have hM : ∀ i, i < k → gr (pvM t.L r c) i = if i ≠ r then clr (gr t.L i) (gr (pv1 t.L r c) r) c else gr (pv1 t.L r c) r := fun i hi => by
    unfold pvM
    rw [pvN_at (by omega) _ (by omega) i]
    by_cases e : i = r
    · rw [if_neg (by omega), if_neg (by omega), e]
    · rw [if_pos ⟨by omega, e⟩, if_pos e, hO i e]
  have hLq : ∀ j, j ≤ m → Lm (u.T r j / u.T r c) 47239200 := fun j hj => by
    have := hv2.lmT a hr hj
    have e3 : (pvt u r c).T r j = u.T r j / u.T r c := if_pos rfl
    rw [e3] at this; exact this
  refine ⟨h.ok.piv hr, fun i hi j hj => ?_, fun j hj => ?_, fun i hi => ?_⟩
  · show gf (gr (pvM t.L r c) i) j = fr (if i = r then _ else _)
    rw [hM i hi]
    by_cases e : i = r
    · rw [if_neg (by omega), if_pos e]; exact hR j hj
    · rw [if_pos e, if_neg e, gf_clr (by rw [h.ok.T.hm i hi]; omega)]
      unfold clH
      rw [h.T i hi j hj, h.T i hi c (by omega), hR j hj, mulF_fr ((hv.lmT a hi (by omega)).mul (hLq j hj) (by decide))]
      refine subF_fr ?_
      have := (hv2.lmT a hi hj).fit (by decide)
      have e3 : (pvt u r c).T i j = u.T i j - u.T i c * (u.T r j / u.T r c) := if_neg e
      rw [e3] at this; exact this
  · show gf (pvG t.L t.g r c) j = fr (u.g j - u.g c * (u.T r j / u.T r c))
    unfold pvG
    rw [hM r hr, if_neg (by omega), gf_clr (by rw [h.ok.g]; omega)]
    unfold clH
    rw [h.g j hj, h.g c (by omega), hR j hj, mulF_fr (((hv.lmG a hk hw hW (j := c) (by omega)).2 hc).mul (hLq j hj) (by decide))]
    refine subF_fr ?_
    exact (hv2.lmG a hk hw hW hj).1.fit (by decide)
  · show gi (t.b.set r (c : Int)) i = ((updB u.b r c i : Nat) : Int)
    rw [gi_set (by rw [h.ok.b]; exact hr)]
    unfold updB
    split
    · rfl
    · exact h.b i hi
end Go.Proofs.Ytkageldgmkajbaa
namespace Go.Proofs.Ytkageldgmkajbaa
open Go.RowKit
theorem div_bd {p q : Rat} (hq : q ≠ 0) : (p / q).num.natAbs ≤ p.num.natAbs * q.den ∧ (p / q).den ≤ p.den * q.num.natAbs := by
  have hn := natAbs_ne hq
  have hd : ((p.den : Int) * q.num) ≠ 0 := by
    intro e
    rcases Int.mul_eq_zero.1 e with e | e
    · exact p.den_nz (by omega)
    · exact hn (by omega)
  have h := rat_parts (q := p / q) (z := p.num * (q.den : Int)) (d := (p.den : Int) * q.num) hd (by
    have e1 := rat_num p
    have e2 := rat_num q
    have d1 := den_pos p
    have d2 := den_pos q
    have c1 : (((p.den : Int) * q.num : Int) : Rat) = ((p.den : Nat) : Rat) * (q.num : Rat) := by rw [Rat.intCast_mul]; rfl
    have c2 : ((p.num * (q.den : Int) : Int) : Rat) = (p.num : Rat) * ((q.den : Nat) : Rat) := by rw [Rat.intCast_mul]; rfl
    rw [c1, c2, ← e1, ← e2]
    generalize ((p.den : Nat) : Rat) = x at *
    generalize ((q.den : Nat) : Rat) = y at *
    have hx : x ≠ 0 := by grind
    have hy : y ≠ 0 := by grind
    grind)
  rw [Int.natAbs_mul, Int.natAbs_mul, Int.natAbs_natCast, Int.natAbs_natCast] at h
  exact h
theorem Lm.div {p q : Rat} (h1 : Lm p 47239200) (h2 : Lm q 47239200) (hq : q ≠ 0) : Fit (p / q) :=
  ⟨Nat.le_trans (div_bd hq).1 (Nat.le_trans (Nat.mul_le_mul h1.1 h2.2) (by decide)), Nat.le_trans (div_bd hq).2 (Nat.le_trans (Nat.mul_le_mul h1.2 h2.1) (by decide))⟩
theorem colN_no {g : List Frc} : ∀ {n : Nat}, colN g n < 0 → ∀ j, j < n → ¬ (gf g j).num < 0
  | 0, _, j, hj => absurd hj (Nat.not_lt_zero _)
  | n + 1, h, j, hj => by
    by_cases c : colN g n < 0
    · by_cases d : (gf g n).num < 0
      · rw [colN_s1 c d] at h; omega
      · by_cases e : j = n
        · rw [e]; exact d
        · exact colN_no c j (by omega)
    · have := colN_st c 1
      rw [this] at h; exact absurd h c
theorem colN_yes {g : List Frc} : ∀ {n : Nat}, ¬ colN g n < 0 → ∃ c, c < n ∧ colN g n = (c : Int) ∧ (gf g c).num < 0 ∧ ∀ j, j < c → ¬ (gf g j).num < 0
  | 0, h => absurd (by show (-1 : Int) < 0; decide) h
  | n + 1, h => by
    by_cases c : colN g n < 0
    · by_cases d : (gf g n).num < 0
      · exact ⟨n, by omega, colN_s1 c d, d, fun j hj => colN_no c j hj⟩
      · rw [colN_s2 c d] at h; exact absurd c h
    · obtain ⟨x, h1, h2, h3, h4⟩ := colN_yes c
      exact ⟨x, by omega, (colN_st c 1).trans h2, h3, h4⟩
theorem fr_neg {q : Rat} : (fr q).num < 0 ↔ q < 0 := num_neg
section
variable {A : Nat → Col} {k m n : Nat} {w : Nat → Rat} {M : Nat → Nat → Int} {u : Tb} {W : Nat → Int} {t : TS}
def RowIs (u : Tb) (c m z : Nat) (x : Int × Frc) : Prop :=
  (x.1 = -1 ∧ ∀ i, i < z → u.T i c ≤ 0) ∨ ∃ r, r < z ∧ x.1 = (r : Int) ∧ 0 < u.T r c ∧ x.2 = fr (u.T r m / u.T r c) ∧ ∀ i, i < z → 0 < u.T i c → u.T r m / u.T r c < u.T i m / u.T i c ∨ (u.T r m / u.T r c = u.T i m / u.T i c ∧ u.b r ≤ u.b i)
theorem row_is (h : Rel t k m u) (hv : Vd A k m w u) (a : AI A k m M) {c : Nat} (hc : c < m) : ∀ z, z ≤ k → RowIs u c m z (rowN t.L t.b c m z)
  | 0, _ => .inl ⟨rfl, fun i hi => absurd hi (Nat.not_lt_zero _)⟩
  | z + 1, hz => by
    have ih := row_is h hv a hc z (by omega)
    obtain ⟨⟨R, B⟩, e⟩ : ∃ X, rowN t.L t.b c m z = X := ⟨_, rfl⟩
    rw [e] at ih
    have eT := h.T z (by omega) c (by omega)
    have eM := h.T z (by omega) m (Nat.le_refl _)
    by_cases c1 : (gf (gr t.L z) c).num ≤ 0
    · rw [rw_1 e c1]
      have c2 : u.T z c ≤ 0 := by
        rw [eT] at c1
        have : ¬ 0 < u.T z c := fun hh => by have := num_pos.2 hh; exact absurd this (by show ¬ 0 < (u.T z c).num; have : (fr (u.T z c)).num = (u.T z c).num := rfl; omega)
        grind
      rcases ih with ⟨h1, h2⟩ | ⟨r, h1, h2, h3, h4, h5⟩
      · refine .inl ⟨h1, fun i hi => ?_⟩
        by_cases e2 : i = z
        · rw [e2]; exact c2
        · exact h2 i (by omega)
      · refine .inr ⟨r, by omega, h2, h3, h4, fun i hi hp => ?_⟩
        by_cases e2 : i = z
        · rw [e2] at hp; grind
        · exact h5 i (by omega) hp
    · have c2 : 0 < u.T z c := by
        rw [eT] at c1
        exact num_pos.1 (by have : (fr (u.T z c)).num = (u.T z c).num := rfl; omega)
      have eq : divF (gf (gr t.L z) m) (gf (gr t.L z) c) = fr (u.T z m / u.T z c) := by
        rw [eT, eM]
        exact divF_fr (by grind) ((hv.lmT a (by omega) (Nat.le_refl _)).div (hv.lmT a (by omega) (by omega)) (by grind))
      by_cases c3 : 0 ≤ R ∧ (0 < cmpF (divF (gf (gr t.L z) m) (gf (gr t.L z) c)) B ∨ cmpF (divF (gf (gr t.L z) m) (gf (gr t.L z) c)) B = 0 ∧ gi t.b R.toNat < gi t.b z)
      · rw [rw_2 e c1 c3]
        rcases ih with ⟨h1, h2⟩ | ⟨r, h1, h2, h3, h4, h5⟩
        · have h1 : R = -1 := h1
          omega
        · have h2 : R = (r : Int) := h2
          have h4 : B = fr (u.T r m / u.T r c) := h4
          refine .inr ⟨r, by omega, h2, h3, h4, fun i hi hp => ?_⟩
          by_cases e2 : i = z
          · rw [e2]
            have c4 := c3.2
            rw [eq, h4, cmpF_fr, h2, Int.toNat_natCast, h.b r (by omega), h.b z (by omega)] at c4
            by_cases d1 : u.T z m / u.T z c < u.T r m / u.T r c
            · rw [if_pos d1] at c4; omega
            · rw [if_neg d1] at c4
              by_cases d2 : u.T z m / u.T z c = u.T r m / u.T r c
              · rw [if_pos d2] at c4
                exact .inr ⟨d2.symm, by omega⟩
              · left; grind
          · exact h5 i (by omega) hp
      · rw [rw_3 e c1 c3, eq]
        refine .inr ⟨z, by omega, rfl, c2, rfl, fun i hi hp => ?_⟩
        by_cases e2 : i = z
        · rw [e2]; exact .inr ⟨rfl, Nat.le_refl _⟩
        · rcases ih with ⟨h1, h2⟩ | ⟨r, h1, h2, h3, h4, h5⟩
          · have := h2 i (by omega)
            grind
          · have h2 : R = (r : Int) := h2
            have h4 : B = fr (u.T r m / u.T r c) := h4
            have h6 := h5 i (by omega) hp
            have c4 : ¬ (0 < cmpF (divF (gf (gr t.L z) m) (gf (gr t.L z) c)) B ∨ cmpF (divF (gf (gr t.L z) m) (gf (gr t.L z) c)) B = 0 ∧ gi t.b R.toNat < gi t.b z) := fun hh => c3 ⟨by omega, hh⟩
            rw [eq, h4, cmpF_fr, h2, Int.toNat_natCast, h.b r (by omega), h.b z (by omega)] at c4
            by_cases d1 : u.T z m / u.T z c < u.T r m / u.T r c
            · left
              rcases h6 with h6 | h6 <;> grind
            · rw [if_neg d1] at c4
              by_cases d2 : u.T z m / u.T z c = u.T r m / u.T r c
              · rw [if_pos d2] at c4
                have d3 : u.b z ≤ u.b r := by omega
                rcases h6 with h6 | h6
                · left; grind
                · right; exact ⟨by grind, by omega⟩
              · rw [if_neg d2] at c4; omega
theorem step_rel (h : Rel t k m u) (hv : Vd A k m w u) (a : AI A k m M) (hk : k ≤ 6) (hw : ∀ j, w j = (W j : Rat)) (hW : ∀ j, (W j).natAbs ≤ 9) (hn : n ≤ m) (hg : goesT n t) :
    Stp k m n u (pvt u (rSel n t).toNat (cSel n t).toNat) (rSel n t).toNat (cSel n t).toNat ∧ Rel (nxt n t) k m (pvt u (rSel n t).toNat (cSel n t).toNat) := by
  obtain ⟨c, h1, h2, h3, h4⟩ := colN_yes hg.1
  have hr := row_is h hv a (c := c) (by omega) k (Nat.le_refl _)
  have er : rSel n t = (rowN t.L t.b c m k).1 := by
    unfold rSel cSel
    rw [h2, Int.toNat_natCast, h.ok.g, h.ok.T.hn, show m + 1 - 1 = m by omega]
  have ec : cSel n t = (c : Int) := h2
  have hg2 := hg.2
  rw [er] at hg2
  rcases hr with ⟨h5, _⟩ | ⟨r, h5, h6, h7, _, h8⟩
  · rw [h5] at hg2; exact absurd (by decide) hg2
  have er2 : rSel n t = (r : Int) := er.trans h6
  unfold nxt
  rw [er2, ec, Int.toNat_natCast, Int.toNat_natCast]
  refine ⟨⟨h1, ?_, fun j hj => ?_, h5, h7, h8, rfl⟩, h.piv hv a hk hw hW h5 (by omega) (by grind)⟩
  · rw [h.g c (by omega)] at h3; exact fr_neg.1 h3
  · have := h4 j hj
    rw [h.g j (by omega)] at this
    have : ¬ u.g j < 0 := fun e => this (fr_neg.2 e)
    grind
def itU (n : Nat) (t : TS) (u : Tb) : Nat → Tb
  | 0 => u
  | s + 1 => pvt (itU n t u s) (rSel n (itT n t s)).toNat (cSel n (itT n t s)).toNat
theorem run_rel (h : Rel t k m u) (hv : Vd A k m w u) (hp : Nn k m u) (a : AI A k m M) (hk : k ≤ 6) (hw : ∀ j, w j = (W j : Rat)) (hW : ∀ j, (W j).natAbs ≤ 9) (hn : n ≤ m) : ∀ s, (∀ i, i < s → goesT n (itT n t i)) →
    Rn A k m n w (itU n t u) (fun i => (rSel n (itT n t i)).toNat) (fun i => (cSel n (itT n t i)).toNat) s ∧ Rel (itT n t s) k m (itU n t u s)
  | 0, _ => ⟨⟨hn, hv, hp, fun i hi => absurd hi (Nat.not_lt_zero _)⟩, h⟩
  | s + 1, hs => by
    obtain ⟨h1, h2⟩ := run_rel h hv hp a hk hw hW hn s fun i hi => hs i (by omega)
    obtain ⟨h3, h4⟩ := step_rel h2 (h1.vd (Nat.le_refl _)).1 a hk hw hW hn (hs s (by omega))
    refine ⟨⟨hn, hv, hp, fun i hi => ?_⟩, h4⟩
    by_cases e : i = s
    · rw [e]; exact h3
    · exact h1.st i (by omega)
theorem run_end (h : Rel t k m u) (hv : Vd A k m w u) (hp : Nn k m u) (a : AI A k m M) (hk : k ≤ 6) (hm : m ≤ 16) (hw : ∀ j, w j = (W j : Rat)) (hW : ∀ j, (W j).natAbs ≤ 9) (hn : n ≤ m) (s : Nat) (hs : ∀ i, i < s → goesT n (itT n t i)) : s < 16777216 :=
  (run_rel h hv hp a hk hw hW hn s hs).1.len hk hm
end
end Go.Proofs.Ytkageldgmkajbaa
namespace Go.Proofs.Ytkageldgmkajbaa
open Go.RowKit
def reg (u : Tb) (k : Nat) (w : Nat → Rat) : Tb := ⟨u.T, u.b, fun j => w j - sm (fun l => w (u.b l) * u.T l j) k⟩
section
variable {A : Nat → Col} {k m n : Nat} {w : Nat → Rat} {M : Nat → Nat → Int} {u : Tb} {W : Nat → Int} {v : TS}
theorem Vd.reg (h : Vd A k m w u) (w2 : Nat → Rat) : Vd A k m w2 (reg u k w2) := ⟨h.bl, h.inj, h.dn, h.inv, fun j hj => rfl⟩
theorem lm_int {z : Int} (h : z.natAbs ≤ 9) : Lm (z : Rat) 9 := ⟨h, by show 1 ≤ 157464; decide⟩
theorem cg_rel (h : Rel v k m u) (hv : Vd A k m w u) (a : AI A k m M) (hk : k ≤ 6) (hW : ∀ j, (W j).natAbs ≤ 9) {G : List Frc} (hGl : G.length = m + 1) (hGw : WkL G) (hG : ∀ j, j ≤ m → gf G j = ⟨W j, 1⟩) :
    ∀ i, i ≤ k → ∀ j, j ≤ m → gf (cgN v.L v.b G i) j = fr ((W j : Rat) - sm (fun l => (W (u.b l) : Rat) * u.T l j) i)
  | 0, _, j, hj => by
    show gf G j = fr ((W j : Rat) - 0)
    rw [hG j hj, show (W j : Rat) - 0 = (W j : Rat) by grind]; rfl
  | i + 1, hi, j, hj => by
    have ih := cg_rel h hv a hk hW hGl hGw hG i (by omega)
    have hb := h.b i (by omega)
    have hbl := hv.bl i (by omega)
    rw [cgN_s, hb, Int.toNat_natCast, gf_clr (by rw [(cgN_ok hGw i).1]; omega)]
    unfold clH
    have z : sm (fun l => (W (u.b l) : Rat) * u.T l (u.b i)) i = 0 := sm_zero fun l hl => by
      rw [hv.unit (l := i) (by omega) l (by omega), if_neg (by omega)]; grind
    rw [ih j hj, ih (u.b i) (by omega), z, h.T i (by omega) j hj, show (W (u.b i) : Rat) - 0 = (W (u.b i) : Rat) by grind]
    rw [mulF_fr ((lm_int (hW _)).mul (hv.lmT a (by omega) hj) (by decide))]
    have e : (W j : Rat) - sm (fun l => (W (u.b l) : Rat) * u.T l j) i - (W (u.b i) : Rat) * u.T i j = (W j : Rat) - sm (fun l => (W (u.b l) : Rat) * u.T l j) (i + 1) := by
      show _ = (W j : Rat) - (sm (fun l => (W (u.b l) : Rat) * u.T l j) i + (W (u.b i) : Rat) * u.T i j)
      grind
    rw [subF_fr (by
      rw [e]
      exact (((hv.reg fun j => (W j : Rat)).lmP a hk (fun _ => rfl) hW (n := i + 1) hi hj).1).fit (by decide)), e]
theorem ph_rel (h : Rel v k m u) (hv : Vd A k m w u) (a : AI A k m M) (hk : k ≤ 6) (hW : ∀ j, (W j).natAbs ≤ 9) {G : List Frc} (hGl : G.length = m + 1) (hGw : WkL G) (hG : ∀ j, j ≤ m → gf G j = ⟨W j, 1⟩) :
    Rel ⟨v.L, v.b, cgN v.L v.b G k⟩ k m (reg u k fun j => (W j : Rat)) :=
  ⟨⟨h.ok.T, h.ok.b, by show (cgN _ _ _ _).length = _; rw [(cgN_ok hGw k).1]; exact hGl, (cgN_ok hGw k).2⟩, h.T, fun j hj => cg_rel h hv a hk hW hGl hGw hG k (Nat.le_refl _) j hj, h.b⟩
def BA (u : Tb) (k n : Nat) (w : Nat → Rat) : Prop := ∀ i, i < k → u.b i < n ∨ w (u.b i) = 1
theorem BA.piv {r c : Nat} (h : BA u k n w) (hc : c < n) : BA (pvt u r c) k n w := fun i hi => by
  show updB u.b r c i < n ∨ w (updB u.b r c i) = 1
  unfold updB
  split
  · exact .inl hc
  · exact h i hi
theorem zero_div' (y : Rat) : (0 : Rat) / y = 0 := by rw [Rat.div_def]; grind
theorem Nn.piv0 {r c : Nat} (h : Nn k m u) (hz : u.T r m = 0) : Nn k m (pvt u r c) ∧ (pvt u r c).g m = u.g m := by
  refine ⟨fun i hi => ?_, ?_⟩
  · show 0 ≤ if i = r then u.T r m / u.T r c else u.T i m - u.T i c * (u.T r m / u.T r c)
    rw [hz, zero_div']
    have := h i hi
    split <;> grind
  · show u.g m - u.g c * (u.T r m / u.T r c) = u.g m
    rw [hz, zero_div']; grind
theorem art0 (hv : Vd A k m w u) (hp : Nn k m u) (hb : BA u k n w) (hw0 : ∀ j, 0 ≤ w j) (hwm : w m = 0) (hg : u.g m = 0) {i : Nat} (hi : i < k) (hn : ¬ u.b i < n) : u.T i m = 0 := by
  have h1 := hv.gl m (Nat.le_refl m)
  rw [hg, hwm] at h1
  have h2 : sm (fun l => w (u.b l) * u.T l m) k = 0 := by grind
  have h3 := hp i hi
  refine Classical.byContradiction fun hne => ?_
  have h4 : 0 < u.T i m := by grind
  have h5 : w (u.b i) = 1 := (hb i hi).resolve_left hn
  have h6 : 0 ≤ sm (fun l => (if l = i then 0 else w (u.b l) * u.T l m)) k := sm_nn fun l hl => by
    split
    · exact Rat.le_refl
    · exact Rat.mul_nonneg (hw0 _) (hp l hl)
  have h7 := sm_split (f := fun l => w (u.b l) * u.T l m) (g := fun l => if l = i then 0 else w (u.b l) * u.T l m) hi (fun l _ hne => if_neg hne)
  rw [if_pos rfl, h2, h5] at h7
  grind
theorem fr_zero {q : Rat} : (fr q).num = 0 ↔ q = 0 := num_zero
theorem drv_rel (a : AI A k m M) (hk : k ≤ 6) (hw : ∀ j, w j = (W j : Rat)) (hW : ∀ j, (W j).natAbs ≤ 9) (hn : n ≤ m) (hw0 : ∀ j, 0 ≤ w j) (hwm : w m = 0) {t0 : TS} {u0 : Tb} (h0 : Rel t0 k m u0) (hv0 : Vd A k m w u0) (hp0 : Nn k m u0) (hb0 : BA u0 k n w) (hg0 : u0.g m = 0) {i : Nat} {t : TS} (hd : Drv n t0 i t) (hi : i ≤ k) :
    ∃ u, Rel t k m u ∧ Vd A k m w u ∧ Nn k m u ∧ BA u k n w ∧ u.g m = 0 ∧ ∀ q, q < i → ¬ u.b q < n → ∀ c, c < n → u.T q c = 0 := by
  induction hd with
  | nil => exact ⟨u0, h0, hv0, hp0, hb0, hg0, fun q hq => absurd hq (Nat.not_lt_zero _)⟩
  | @low i t _ hlow ih =>
    obtain ⟨u, h1, h2, h3, h4, h5, h6⟩ := ih (by omega)
    refine ⟨u, h1, h2, h3, h4, h5, fun q hq hnb => ?_⟩
    by_cases e : q = i
    · rw [e] at hnb
      rw [h1.b i (by omega)] at hlow
      omega
    · exact h6 q (by omega) hnb
  | @non i t _ hlow hz ih =>
    obtain ⟨u, h1, h2, h3, h4, h5, h6⟩ := ih (by omega)
    refine ⟨u, h1, h2, h3, h4, h5, fun q hq hnb c hc => ?_⟩
    by_cases e : q = i
    · rw [e]
      have := hz c hc
      rw [h1.T i (by omega) c (by omega)] at this
      exact fr_zero.1 this
    · exact h6 q (by omega) hnb c hc
  | @piv i c t _ hlow hc _ hne ih =>
    obtain ⟨u, h1, h2, h3, h4, h5, h6⟩ := ih (by omega)
    have hi : i < k := by omega
    have hnb : ¬ u.b i < n := by rw [h1.b i hi] at hlow; omega
    have hz := art0 h2 h3 h4 hw0 hwm h5 hi hnb
    have hpc : u.T i c ≠ 0 := by
      rw [h1.T i hi c (by omega)] at hne
      exact fun e => hne (fr_zero.2 e)
    obtain ⟨h7, h8⟩ := h3.piv0 (c := c) hz
    refine ⟨pvt u i c, h1.piv h2 a hk hw hW hi (by omega) hpc, h2.piv hi (by omega) hpc, h7, h4.piv hc, by rw [h8]; exact h5, fun q hq hnq c2 hc2 => ?_⟩
    have hnq : ¬ updB u.b i c q < n := hnq
    unfold updB at hnq
    by_cases e : q = i
    · rw [if_pos e] at hnq; omega
    · rw [if_neg e] at hnq
      have hq0 := h6 q (by omega) hnq
      show (if q = i then _ else _) = _
      rw [if_neg e, hq0 c2 hc2, hq0 c hc]; grind
end
end Go.Proofs.Ytkageldgmkajbaa
namespace Go.Proofs.Ytkageldgmkajbaa
open Go.RowKit
theorem gf_zrs {n j : Nat} (h : j < n) : gf (zrs n) j = ⟨0, 1⟩ := by
  unfold zrs gf
  show (List.replicate n (⟨0, 1⟩ : Frc)).getD j (dflt .frac) = _
  rw [List.getD_eq_getElem?_getD, List.getElem?_replicate, if_pos h]; rfl
theorem gf_lenZ {n K j : Nat} (h : j ≤ n + K) : gf (lenZ n K) j = ⟨0, 1⟩ := by
  unfold lenZ; exact gf_zrs (by omega)
def cfN (sg : Int) (ts : List Term) : Nat → Nat → Int
  | 0, _ => 0
  | z + 1, j => if j = (gm ts z).of_.toNat then sg * (gm ts z).co else cfN sg ts z j
theorem trN_at {sg : Int} {ts : List Term} {n K : Nat} {j : Nat} (hj : j ≤ n + K) : ∀ z, (∀ q, q < z → (gm ts q).of_.toNat ≤ n + K) → gf (trN sg ts (lenZ n K) z) j = ⟨cfN sg ts z j, 1⟩
  | 0, _ => gf_lenZ hj
  | z + 1, h => by
    rw [trN_s, gf_set (by rw [trN_len, lenZ_len]; have := h z (by omega); omega), trN_at hj z fun q hq => h q (by omega)]
    have e : cfN sg ts (z + 1) j = if j = (gm ts z).of_.toNat then sg * (gm ts z).co else cfN sg ts z j := rfl
    rw [e]
    split <;> rfl
theorem cfN_hi {sg : Int} {ts : List Term} {j : Nat} : ∀ z, (∀ q, q < z → (gm ts q).of_.toNat ≠ j) → cfN sg ts z j = 0
  | 0, _ => rfl
  | z + 1, h => by
    unfold cfN
    rw [if_neg (Ne.symm (h z (by omega)))]
    exact cfN_hi z fun q hq => h q (by omega)
theorem cfN_bd {sg : Int} {ts : List Term} {j : Nat} (hs : sg = 1 ∨ sg = -1) : ∀ z, (∀ q, q < z → -9 ≤ (gm ts q).co ∧ (gm ts q).co ≤ 9) → (cfN sg ts z j).natAbs ≤ 9
  | 0, _ => Nat.zero_le _
  | z + 1, h => by
    unfold cfN
    split
    · have := h z (by omega)
      rcases hs with rfl | rfl <;> omega
    · exact cfN_bd hs z fun q hq => h q (by omega)
theorem cfN_sum {sg : Int} {ts : List Term} {C : Nat} {x : Nat → Rat} : ∀ z, (∀ q, q < z → 0 ≤ (gm ts q).of_ ∧ (gm ts q).of_ < (C : Int)) → (∀ p q, p < q → q < z → (gm ts p).of_ < (gm ts q).of_) →
    sm (fun j => x j * (cfN sg ts z j : Rat)) C = sm (fun q => (sg : Rat) * (((gm ts q).co : Rat) * x (gm ts q).of_.toNat)) z
  | 0, _, _ => by
    show _ = (0 : Rat)
    exact sm_zero fun j _ => by show x j * ((0 : Int) : Rat) = 0; have : ((0 : Int) : Rat) = 0 := rfl
                                rw [this]; grind
  | z + 1, h, ho => by
    have ih := cfN_sum (sg := sg) (x := x) z (fun q hq => h q (by omega)) fun p q h1 h2 => ho p q h1 (by omega)
    have hz := h z (by omega)
    have h0 : cfN sg ts z (gm ts z).of_.toNat = 0 := cfN_hi z fun q hq => by
      have := ho q z hq (by omega)
      have := h q (by omega)
      omega
    have e := sm_split (f := fun j => x j * (cfN sg ts z j : Rat)) (g := fun j => x j * (cfN sg ts (z + 1) j : Rat)) (n := C) (k := (gm ts z).of_.toNat) (by omega) fun i _ hne => by
      show x i * ((if i = _ then _ else _ : Int) : Rat) = _
      rw [if_neg hne]
    rw [e, ih, h0]
    show _ = sm _ z + _
    have e2 : cfN sg ts (z + 1) (gm ts z).of_.toNat = sg * (gm ts z).co := if_pos rfl
    rw [e2, Rat.intCast_mul]
    have : ((0 : Int) : Rat) = 0 := rfl
    rw [this]; grind
def rw0 (rows : List Row) (C n K q : Nat) : List Frc := if (gw rows q).mo < 0 then rwQ C n K q (gw rows q) else rwP 1 C n K q (gw rows q)
def bs0 (rows : List Row) (C n q : Nat) : Nat := if (gw rows q).mo < 0 then n + q else C + q
def sg0 (rows : List Row) (q : Nat) : Int := if (gw rows q).mo < 0 then -1 else 1
theorem bld_row {rows : List Row} {C n K : Nat} (hr : RwsOK rows C K) : ∀ i, i ≤ K → ∀ q, q < i → gr (bld rows C n K i).L q = rw0 rows C n K q ∧ gi (bld rows C n K i).b q = (bs0 rows C n q : Int)
  | 0, _, q, hq => absurd hq (Nat.not_lt_zero _)
  | i + 1, hi, q, hq => by
    have ih := bld_row (n := n) hr i (by omega)
    have hB := bld_ok (n := n) hr i (by omega)
    have hL := hB.T.hn
    have hb := hB.b
    by_cases c : (gw rows i).mo < 0
    · rw [bld_y c]
      show gr (_ ++ [_]) q = _ ∧ gi (_ ++ [_]) q = _
      rw [gr_app, gi_app (by omega), hL, hb]
      by_cases e : q < i
      · rw [if_pos e, if_pos e]; exact ih q e
      · have e : q = i := by omega
        subst e
        rw [if_neg (by omega), if_pos rfl, if_neg (by omega)]
        exact ⟨by unfold rw0; rw [if_pos c], by unfold bs0; rw [if_pos c]; omega⟩
    · rw [bld_n c]
      show gr (_ ++ [_]) q = _ ∧ gi (_ ++ [_]) q = _
      rw [gr_app, gi_app (by omega), hL, hb]
      by_cases e : q < i
      · rw [if_pos e, if_pos e]; exact ih q e
      · have e : q = i := by omega
        subst e
        rw [if_neg (by omega), if_pos rfl, if_neg (by omega)]
        exact ⟨by unfold rw0; rw [if_neg c], by unfold bs0; rw [if_neg c]; omega⟩
def M0 (rows : List Row) (C n K j q : Nat) : Int :=
  if j = n + K then sg0 rows q * (gw rows q).mo
  else if j < C then cfN (sg0 rows q) (gw rows q).te (gw rows q).te.length j
  else if j = C + q then sg0 rows q
  else if j = n + q ∧ (gw rows q).mo < 0 then 1 else 0
theorem rw0_at {rows : List Row} {C n K q : Nat} (hr : RwsOK rows C K) (hn : n = C + K) (hq : q < K) {j : Nat} (hj : j ≤ n + K) : gf (rw0 rows C n K q) j = ⟨M0 rows C n K j q, 1⟩ := by
  have h1 := (hr.2 q hq).2.2
  have ht : ∀ z, z < (gw rows q).te.length → (gm (gw rows q).te z).of_.toNat ≤ n + K := fun z hz => by have := h1 z hz; omega
  have hP : ∀ sg : Int, gf (rwP sg C n K q (gw rows q)) j = ⟨if j = n + K then sg * (gw rows q).mo else if j = C + q then sg else cfN sg (gw rows q).te (gw rows q).te.length j, 1⟩ := fun sg => by
    unfold rwP
    rw [gf_set (by rw [List.length_set, trN_len, lenZ_len]; omega), gf_set (by rw [trN_len, lenZ_len]; omega), trN_at hj _ ht]
    rw [show ((n : Int) + (K : Int)).toNat = n + K by omega, show ((C : Int) + (q : Int)).toNat = C + q by omega]
    split
    · rfl
    · split <;> rfl
  have hh : ∀ sg : Int, C ≤ j → cfN sg (gw rows q).te (gw rows q).te.length j = 0 := fun sg hc => cfN_hi _ fun z hz => by have := h1 z hz; omega
  unfold rw0 M0 sg0
  by_cases c : (gw rows q).mo < 0
  · rw [if_pos c, if_pos c]
    unfold rwQ
    rw [gf_set (by rw [(rwP_ok (n := n) hr hq (sg := -1) (.inr rfl)).1]; omega), hP]
    rw [show ((n : Int) + (q : Int)).toNat = n + q by omega]
    by_cases e : j = n + q
    · rw [if_pos e, if_neg (by omega), if_neg (by omega), if_neg (by omega), if_pos ⟨e, c⟩]
    · rw [if_neg e]
      by_cases e1 : j = n + K
      · rw [if_pos e1, if_pos e1]
      · rw [if_neg e1, if_neg e1]
        by_cases e2 : j < C
        · rw [if_pos e2, if_neg (by omega)]
        · rw [if_neg e2]
          by_cases e3 : j = C + q
          · rw [if_pos e3, if_pos e3]
          · rw [if_neg e3, if_neg e3, if_neg (fun h => e h.1), hh _ (by omega)]
  · rw [if_neg c, if_neg c, hP]
    by_cases e1 : j = n + K
    · rw [if_pos e1, if_pos e1]
    · rw [if_neg e1, if_neg e1]
      by_cases e2 : j < C
      · rw [if_pos e2, if_neg (by omega)]
      · rw [if_neg e2]
        by_cases e3 : j = C + q
        · rw [if_pos e3, if_pos e3]
        · rw [if_neg e3, if_neg e3, if_neg (fun h => c h.2), hh _ (by omega)]
end Go.Proofs.Ytkageldgmkajbaa
namespace Go.Proofs.Ytkageldgmkajbaa
open Go.RowKit
section
variable {A : Nat → Col} {k m n : Nat} {w : Nat → Rat} {M : Nat → Nat → Int} {u : Tb} {W : Nat → Int} {t : TS}
theorem stop_rel (h : Rel t k m u) (hv : Vd A k m w u) (a : AI A k m M) (hn : n ≤ m) (hg : ¬ goesT n t) :
    (cSel n t < 0 ∧ ∀ j, j < n → 0 ≤ u.g j) ∨ (¬ cSel n t < 0 ∧ ∃ c, c < n ∧ u.g c < 0 ∧ ∀ i, i < k → u.T i c ≤ 0) := by
  by_cases hc : cSel n t < 0
  · refine .inl ⟨hc, fun j hj => ?_⟩
    have := colN_no hc j hj
    rw [h.g j (by omega)] at this
    have : ¬ u.g j < 0 := fun e => this (fr_neg.2 e)
    grind
  · refine .inr ⟨hc, ?_⟩
    obtain ⟨c, h1, h2, h3, _⟩ := colN_yes hc
    have hr := row_is h hv a (c := c) (by omega) k (Nat.le_refl _)
    have er : rSel n t = (rowN t.L t.b c m k).1 := by
      unfold rSel cSel
      rw [h2, Int.toNat_natCast, h.ok.g, h.ok.T.hn, show m + 1 - 1 = m by omega]
    refine ⟨c, h1, by rw [h.g c (by omega)] at h3; exact fr_neg.1 h3, ?_⟩
    rcases hr with ⟨_, h6⟩ | ⟨r, h5, h6, _⟩
    · exact h6
    · refine absurd ⟨hc, ?_⟩ hg
      rw [er, h6]; omega
theorem ph1_bd (hv : Vd A k m w u) (hn : n ≤ m) (hw0 : ∀ j, 0 ≤ w j) (hwn : ∀ j, j < n → w j = 0) : ¬ ∃ c, c < n ∧ u.g c < 0 ∧ ∀ i, i < k → u.T i c ≤ 0 := by
  intro ⟨c, hc, h1, h2⟩
  have h3 := hv.gl c (by omega)
  rw [hwn c hc] at h3
  have h4 : 0 ≤ sm (fun l => - (w (u.b l) * u.T l c)) k := sm_nn fun l hl => by
    have := Rat.mul_nonneg (hw0 (u.b l)) (show 0 ≤ - u.T l c by have := h2 l hl; grind)
    grind
  have h5 : sm (fun l => - (w (u.b l) * u.T l c)) k = - sm (fun l => w (u.b l) * u.T l c) k := by
    have := sm_mul (f := fun l => w (u.b l) * u.T l c) (c := -1) k
    rw [sm_congr (g := fun l => -1 * (w (u.b l) * u.T l c)) fun l _ => by grind, this]; grind
  grind
theorem sol_low (hv : Vd A k m w u) (hn : n ≤ m) (hwm : w m = 0) {x : Nat → Rat} (hx : Sol A k m x) (hx0 : ∀ j, j < n → 0 ≤ x j) (hxn : ∀ j, n ≤ j → j < m → x j = 0) (hg : ∀ j, j < n → 0 ≤ u.g j) : 0 ≤ sm (fun j => x j * w j) m + u.g m := by
  rw [← hv.val hwm hx]
  refine sm_nn fun j hj => ?_
  by_cases e : j < n
  · exact Rat.mul_nonneg (hx0 j e) (hg j e)
  · rw [hxn j (by omega) hj]; grind
theorem ph1_zero (hv : Vd A k m w u) (hp : Nn k m u) (hn : n ≤ m) (hw0 : ∀ j, 0 ≤ w j) (hwn : ∀ j, j < n → w j = 0) (hwm : w m = 0) {x : Nat → Rat} (hx : Sol A k m x) (hx0 : ∀ j, j < n → 0 ≤ x j) (hxn : ∀ j, n ≤ j → j < m → x j = 0) (hg : ∀ j, j < n → 0 ≤ u.g j) : u.g m = 0 := by
  have h1 := sol_low hv hn hwm hx hx0 hxn hg
  have h2 : sm (fun j => x j * w j) m = 0 := sm_zero fun j hj => by
    by_cases e : j < n
    · rw [hwn j e]; grind
    · rw [hxn j (by omega) hj]; grind
  have h3 := hv.gl m (Nat.le_refl m)
  have h4 : 0 ≤ sm (fun l => w (u.b l) * u.T l m) k := sm_nn fun l hl => Rat.mul_nonneg (hw0 _) (hp l hl)
  rw [hwm] at h3
  grind
def ZR (u : Tb) (k n : Nat) : Prop := ∀ q, q < k → ¬ u.b q < n → ∀ c, c < n → u.T q c = 0
theorem ZR.stp {v : Tb} {r c : Nat} (h : ZR u k n) (s : Stp k m n u v r c) : ZR v k n := by
  intro q hq hb j hj
  rw [s.e] at hb ⊢
  have hb : ¬ updB u.b r c q < n := hb
  unfold updB at hb
  have hc := s.c0
  have hr1 := s.r1
  have e : q ≠ r := fun e => by rw [if_pos e] at hb; exact hb hc
  rw [if_neg e] at hb
  show (if q = r then _ else _) = _
  rw [if_neg e, h q hq hb j hj, h q hq hb c hc]; grind
theorem ZR.run {f : Nat → Tb} {R C : Nat → Nat} {s : Nat} (hr : Rn A k m n w f R C s) (h : ZR (f 0) k n) : ∀ i, i ≤ s → ZR (f i) k n
  | 0, _ => h
  | i + 1, hi => (ZR.run hr h i (by omega)).stp (hr.st i (by omega))
theorem ph2_bd (hv : Vd A k m w u) (hz : ZR u k n) (hn : n ≤ m) {C : Nat} (hC : C ≤ n)
    (H1 : ∀ j, j < C → ∃ q, q < k ∧ (∀ i, i < n → 0 ≤ A i q) ∧ 0 < A j q)
    (H2 : ∀ c, C ≤ c → c < n → ∃ q, q < k ∧ A c q ≠ 0 ∧ ∀ j, C ≤ j → j < n → j ≠ c → A j q = 0) : ¬ ∃ c, c < n ∧ u.g c < 0 ∧ ∀ i, i < k → u.T i c ≤ 0 := by
  intro ⟨c, hc, h1, h2⟩
  have hnb : ∀ l, l < k → u.b l ≠ c := fun l hl e => by
    have := hv.g0 hl
    rw [e] at this
    grind
  -- rows of boxes
  have key : ∀ j, j < C → c ≠ j ∧ ∀ l, l < k → u.b l = j → u.T l c = 0 := by
    intro j hj
    obtain ⟨q, hq, h3, h4⟩ := H1 j hj
    have h5 := hv.inv c (by omega) q hq
    have h6 : ∀ l, l < k → 0 ≤ - u.T l c * A (u.b l) q := fun l hl => by
      by_cases e : u.b l < n
      · exact Rat.mul_nonneg (by have := h2 l hl; grind) (h3 _ e)
      · rw [hz l hl e c hc]; grind
    have h7 : sm (fun l => - u.T l c * A (u.b l) q) k = - A c q := by
      have := sm_mul (f := fun l => u.T l c * A (u.b l) q) (c := -1) k
      rw [sm_congr (g := fun l => -1 * (u.T l c * A (u.b l) q)) fun l _ => by grind, this, ← h5]; grind
    have h8 := h3 c hc
    have h9 := sm_nn h6
    have h10 : A c q = 0 := by grind
    refine ⟨fun e => by rw [e] at h10; grind, fun l hl e => ?_⟩
    have h11 := h6 l hl
    have h12 : 0 ≤ sm (fun i => if i = l then 0 else - u.T i c * A (u.b i) q) k := sm_nn fun i hi => by
      split
      · exact Rat.le_refl
      · exact h6 i hi
    have h13 := sm_split (f := fun i => - u.T i c * A (u.b i) q) (g := fun i => if i = l then 0 else - u.T i c * A (u.b i) q) hl (fun i _ hne => if_neg hne)
    rw [if_pos rfl, h7, h10] at h13
    have h14 : - u.T l c * A (u.b l) q = 0 := by grind
    rw [e] at h14
    rcases Rat.mul_eq_zero.1 h14 with h15 | h15
    · grind
    · rw [h15] at h4; grind
  by_cases hcC : c < C
  · exact (key c hcC).1 rfl
  · obtain ⟨q, hq, h3, h4⟩ := H2 c (by omega) hc
    refine h3 ?_
    rw [hv.inv c (by omega) q hq]
    refine sm_zero fun l hl => ?_
    by_cases e1 : u.b l < C
    · rw [(key _ e1).2 l hl rfl]; grind
    · by_cases e2 : u.b l < n
      · rw [h4 _ (by omega) e2 (hnb l hl)]; grind
      · rw [hz l hl e2 c hc]; grind
end
end Go.Proofs.Ytkageldgmkajbaa
namespace Go.Proofs.Ytkageldgmkajbaa
open Go.RowKit
theorem gN_at {n K : Nat} {row g : List Frc} {j : Nat} : ∀ c, c ≤ g.length → gf (gN n K row g c) j = if j < c ∧ (j < n ∨ j = n + K) then subF (gf g j) (gf row j) else gf g j
  | 0, _ => by rw [if_neg (fun h => absurd h.1 (Nat.not_lt_zero _))]; rfl
  | c + 1, hc => by
    have ih := gN_at (n := n) (K := K) (row := row) (g := g) (j := j) c (by omega)
    have hl : ∀ c, (gN n K row g c).length = g.length := fun c => by
      induction c with
      | zero => rfl
      | succ c ih2 =>
        by_cases h : c < n ∨ c = n + K
        · rw [gN_y h, List.length_set]; exact ih2
        · rw [gN_n h]; exact ih2
    by_cases h : c < n ∨ c = n + K
    · rw [gN_y h, gf_set (by rw [hl]; omega)]
      by_cases e : j = c
      · subst e
        rw [if_pos rfl, ih, if_neg (by omega), if_pos ⟨by omega, h⟩]
      · rw [if_neg e, ih]
        by_cases d : j < c ∧ (j < n ∨ j = n + K)
        · rw [if_pos d, if_pos ⟨by omega, d.2⟩]
        · rw [if_neg d, if_neg (fun h => d ⟨by omega, h.2⟩)]
    · rw [gN_n h, ih]
      by_cases d : j < c ∧ (j < n ∨ j = n + K)
      · rw [if_pos d, if_pos ⟨by omega, d.2⟩]
      · rw [if_neg d, if_neg (fun h2 => d ⟨by
          have := h2.1
          have : j ≠ c := fun e => h (e ▸ h2.2)
          omega, h2.2⟩)]
theorem subF_int {a b : Int} (h : (a - b).natAbs ≤ 1000000) : subF ⟨a, 1⟩ ⟨b, 1⟩ = ⟨a - b, 1⟩ := by
  have e : (a : Rat) - (b : Rat) = ((a - b : Int) : Rat) := (Rat.intCast_sub a b).symm
  have := subF_fr (p := (a : Rat)) (q := (b : Rat)) (by
    rw [e]
    exact ⟨Nat.le_trans h (by decide), by show 1 ≤ 1152921504606846976; decide⟩)
  rw [e] at this
  exact this
def gs0 (rows : List Row) (C n K : Nat) : Nat → Nat → Int
  | 0, _ => 0
  | i + 1, j => if (gw rows i).mo < 0 ∧ (j < n ∨ j = n + K) then gs0 rows C n K i j - M0 rows C n K j i else gs0 rows C n K i j
theorem M0_bd {rows : List Row} {C n K q : Nat} (hr : RwsOK rows C K) (hq : q < K) (j : Nat) : (M0 rows C n K j q).natAbs ≤ 50 := by
  have h := hr.2 q hq
  have hs : sg0 rows q = 1 ∨ sg0 rows q = -1 := by unfold sg0; split <;> omega
  have hc := cfN_bd (ts := (gw rows q).te) (j := j) hs (gw rows q).te.length fun z hz => (h.2.2 z hz).2.2
  unfold M0
  split
  · rcases hs with e | e <;> rw [e] <;> omega
  · split
    · omega
    · split
      · rcases hs with e | e <;> rw [e] <;> decide
      · split <;> decide
theorem gs0_bd {rows : List Row} {C n K : Nat} (hr : RwsOK rows C K) (j : Nat) : ∀ i, i ≤ K → (gs0 rows C n K i j).natAbs ≤ 50 * i
  | 0, _ => Nat.zero_le _
  | i + 1, hi => by
    have ih := gs0_bd (n := n) hr j i (by omega)
    have hM := M0_bd (n := n) hr (show i < K by omega) j
    have e : gs0 rows C n K (i + 1) j = if (gw rows i).mo < 0 ∧ (j < n ∨ j = n + K) then gs0 rows C n K i j - M0 rows C n K j i else gs0 rows C n K i j := rfl
    rw [e]
    split <;> omega
theorem bld_goal {rows : List Row} {C n K : Nat} (hr : RwsOK rows C K) (hn : n = C + K) (hK : K ≤ 6) {j : Nat} (hj : j ≤ n + K) : ∀ i, i ≤ K → gf (bld rows C n K i).g j = ⟨gs0 rows C n K i j, 1⟩
  | 0, _ => gf_lenZ hj
  | i + 1, hi => by
    have ih := bld_goal hr hn hK hj i (by omega)
    have hB := bld_ok (n := n) hr i (by omega)
    have hM := M0_bd (n := n) hr (show i < K by omega) j
    have hG := gs0_bd (n := n) hr j i (by omega)
    have e : gs0 rows C n K (i + 1) j = if (gw rows i).mo < 0 ∧ (j < n ∨ j = n + K) then gs0 rows C n K i j - M0 rows C n K j i else gs0 rows C n K i j := rfl
    by_cases c : (gw rows i).mo < 0
    · rw [bld_y c, e]
      show gf (gN n K (rwQ C n K i (gw rows i)) (bld rows C n K i).g (bld rows C n K i).g.length) j = _
      rw [gN_at _ (Nat.le_refl _), hB.g, ih]
      by_cases d : j < n ∨ j = n + K
      · rw [if_pos ⟨by omega, d⟩, if_pos ⟨c, d⟩]
        have hR := rw0_at hr hn (show i < K by omega) hj
        unfold rw0 at hR
        rw [if_pos c] at hR
        rw [hR]
        exact subF_int (by omega)
      · rw [if_neg (fun h => d h.2), if_neg (fun h => d h.2)]
    · rw [bld_n c, e, if_neg (fun h => c h.1)]
      exact ih
end Go.Proofs.Ytkageldgmkajbaa
