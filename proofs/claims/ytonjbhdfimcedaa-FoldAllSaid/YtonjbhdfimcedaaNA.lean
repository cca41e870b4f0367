/- Operators: the program and the document. -/
import Derived.Test.YtonjbhdfimcedaaP1
import Derived.Test.YtonjbhdfimcedaaWordPure
/- N1 -/
namespace Go.Proofs.Ytonjbhdfimcedaa
set_option linter.unusedVariables false
set_option linter.unusedSimpArgs false
open Go.RowKit
section
variable {x : Cx} {Q : Exit → St → Prop} {obs : List Prop} {K : List Kf} {all l : List Oper} {s : St}
theorem g_outOps (h : Good x Q (.ops obs all l K s)) : Good x Q (.out obs (.ops all l) K s) := h
/-- A conversion of numbers wraps. -/
theorem e_convW (hL : LayOk x.P x.L) {a : Operand} {t t' : TypeId} {k k' : IntKind} {n : Int} {ts : TI} {zs : List SV} {by_ : Nat} {code : Option Ty} (ha : s.get a = some (.int k' n)) (hs : find x.L t = some ts) (hd : find x.L t' = some ⟨zs, .int k, by_, code⟩) : EvTo x s (.convert t t' a) (.int k (k.wrap n)) := by
  refine ⟨fun _ V ac w he _ _ _ _ _ _ => ?_⟩
  obtain ⟨ds, h4, _⟩ := (hL.at hs).desc
  obtain ⟨dd, h5, h6⟩ := (hL.at hd).desc
  have := td_int h6
  subst this
  simp only [execOp, he.get ha]
  refine fin_v ?_
  simp only [convert, Sem.run_bind, r_underlying h4, r_underlying h5, Result.andThen_ok, den]
  cases ds <;> rfl
end
theorem wr_conv (n : Int) : IntKind.i64.wrap (IntKind.i32.wrap (IntKind.u32.wrap n)) = wr n := by
  unfold wr; simp [IntKind.wrap, IntKind.bits, IntKind.signed]; omega
theorem wr_conv2 (n : Int) : IntKind.i64.wrap (IntKind.i32.wrap (IntKind.u32.wrap (IntKind.u64.wrap n))) = wr n := by
  unfold wr; simp [IntKind.wrap, IntKind.bits, IntKind.signed]; omega
theorem c_wrap (n : Int) : Trip Try.prog 116 [.int .i64 n] ⟨[], [], 0⟩ (Z := Unit) (fun _ => True) (fun _ => .int .i64 (wr n)) (fun _ => ⟨[], [], 0⟩) := by
  refine trip_by (rs := [_]) 1 lay_ok Try.func116 rfl (by kernel_rfl) Try.ntmps116 Try.results116 rfl rfl ?_
  repeat' (first | (((with_reducible refine g_id ?_); (conv => arg 3; whnf)); first | (refine g_outOps (g_ev lay_ok 0 ?_ (e_convW lay_ok rfl rfl rfl) rfl rfl rfl ?_)) | (with_reducible refine g_out lay_ok 1 ?_ ?_) | (with_reducible refine g_fin ?_ ?_)) | (with_reducible exact o_nil) | ((with_reducible refine o_id ?_); (conv => arg 1; whnf); first | (with_reducible exact o_nil)))
  all_goals (((with_reducible refine e_id ?_); (conv => whnf)); refine ⟨(), trivial, ?_⟩; ((with_reducible refine s_id ?_); (conv => arg 1; whnf); (with_reducible refine s_some ?_); repeat' (first | ((with_reducible refine o_id ?_); (conv => arg 1; whnf); first | (with_reducible exact o_nil) | (with_reducible refine o_cons ?_ ?_)) | (exact (wr_conv n).symm))))
theorem c_truth (b : Bool) : Trip Try.prog 135 [.bool b] ⟨[], [], 0⟩ (Z := Unit) (fun _ => True) (fun _ => .int .i64 (truth b)) (fun _ => ⟨[], [], 0⟩) := by
  cases b
  · refine trip_by (rs := [_]) 400 lay_ok Try.func135 rfl (by kernel_rfl) Try.ntmps135 Try.results135 rfl rfl ?_
    repeat' (first | (((with_reducible refine g_id ?_); (conv => arg 3; whnf)); first | (with_reducible refine g_cond lay_ok 400 ?_ ?_ ?_) | (with_reducible refine g_fin ?_ ?_)) | ((with_reducible refine o_id ?_); (conv => arg 1; whnf); first | (with_reducible exact o_nil)) | (intro h; ((try simp only [Int.toNat_natCast] at h); repeat (first | replace h := of_decide_eq_true h)); (try (first | contradiction))))
    all_goals (((with_reducible refine e_id ?_); (conv => whnf)); refine ⟨(), trivial, ?_⟩; ((with_reducible refine s_id ?_); (conv => arg 1; whnf); (with_reducible refine s_some ?_); repeat' (first | ((with_reducible refine o_id ?_); (conv => arg 1; whnf); first | (with_reducible exact o_nil) | (with_reducible refine o_cons ?_ ?_)) | rfl)))
  · refine trip_by (rs := [_]) 400 lay_ok Try.func135 rfl (by kernel_rfl) Try.ntmps135 Try.results135 rfl rfl ?_
    repeat' (first | (((with_reducible refine g_id ?_); (conv => arg 3; whnf)); first | (with_reducible refine g_cond lay_ok 400 ?_ ?_ ?_) | (with_reducible refine g_fin ?_ ?_)) | ((with_reducible refine o_id ?_); (conv => arg 1; whnf); first | (with_reducible exact o_nil)) | (intro h; ((try simp only [Int.toNat_natCast] at h); repeat (first | replace h := of_decide_eq_true h)); (try (first | contradiction))))
    all_goals (((with_reducible refine e_id ?_); (conv => whnf)); refine ⟨(), trivial, ?_⟩; ((with_reducible refine s_id ?_); (conv => arg 1; whnf); (with_reducible refine s_some ?_); repeat' (first | ((with_reducible refine o_id ?_); (conv => arg 1; whnf); first | (with_reducible exact o_nil) | (with_reducible refine o_cons ?_ ?_)) | rfl)))
theorem c_knownW (n : Int) : Trip Try.prog 114 [.int .i64 n] ⟨[], [], 0⟩ (Z := Unit) (fun _ => True) (fun _ => .bool (decide (1 ≤ n) && decide (n ≤ 14))) (fun _ => ⟨[], [], 0⟩) := by
  refine trip_by (rs := [_]) 400 lay_ok Try.func114 rfl (by kernel_rfl) Try.ntmps114 Try.results114 rfl rfl ?_
  repeat' (first | (((with_reducible refine g_id ?_); (conv => arg 3; whnf)); first | (with_reducible refine g_split lay_ok 400 ?_ ?_ ?_) | (with_reducible refine g_fin ?_ ?_)) | ((with_reducible refine o_id ?_); (conv => arg 1; whnf); first | (with_reducible exact o_nil)) | (intro h; ((try simp only [Int.toNat_natCast] at h); repeat (first | replace h := of_decide_eq_true h | replace h := of_decide_eq_false h)); (try (first | contradiction))))
  all_goals (((with_reducible refine e_id ?_); (conv => whnf)); refine ⟨(), trivial, ?_⟩; ((with_reducible refine s_id ?_); (conv => arg 1; whnf); (with_reducible refine s_some ?_); repeat' (first | ((with_reducible refine o_id ?_); (conv => arg 1; whnf); first | (with_reducible exact o_nil) | (with_reducible refine o_cons ?_ ?_)) | (simp; omega))))
theorem r_wrap (n : Int) : Trip Try.prog 93 [.int .i64 n] ⟨[], [], 0⟩ (Z := Unit) (fun _ => True) (fun _ => .int .i64 (wr n)) (fun _ => ⟨[], [], 0⟩) := by
  refine trip_by (rs := [_]) 1 lay_ok Try.func93 rfl (by kernel_rfl) Try.ntmps93 Try.results93 rfl rfl ?_
  repeat' (first | (((with_reducible refine g_id ?_); (conv => arg 3; whnf)); first | (refine g_outOps (g_ev lay_ok 0 ?_ (e_convW lay_ok rfl rfl rfl) rfl rfl rfl ?_)) | (with_reducible refine g_out lay_ok 1 ?_ ?_) | (with_reducible refine g_fin ?_ ?_)) | (with_reducible exact o_nil) | ((with_reducible refine o_id ?_); (conv => arg 1; whnf); first | (with_reducible exact o_nil)))
  all_goals (((with_reducible refine e_id ?_); (conv => whnf)); refine ⟨(), trivial, ?_⟩; ((with_reducible refine s_id ?_); (conv => arg 1; whnf); (with_reducible refine s_some ?_); repeat' (first | ((with_reducible refine o_id ?_); (conv => arg 1; whnf); first | (with_reducible exact o_nil) | (with_reducible refine o_cons ?_ ?_)) | (exact (wr_conv2 n).symm))))
theorem r_truth (b : Bool) : Trip Try.prog 94 [.bool b] ⟨[], [], 0⟩ (Z := Unit) (fun _ => True) (fun _ => .int .i64 (truth b)) (fun _ => ⟨[], [], 0⟩) := by
  cases b
  · refine trip_by (rs := [_]) 400 lay_ok Try.func94 rfl (by kernel_rfl) Try.ntmps94 Try.results94 rfl rfl ?_
    repeat' (first | (((with_reducible refine g_id ?_); (conv => arg 3; whnf)); first | (with_reducible refine g_cond lay_ok 400 ?_ ?_ ?_) | (with_reducible refine g_fin ?_ ?_)) | ((with_reducible refine o_id ?_); (conv => arg 1; whnf); first | (with_reducible exact o_nil)) | (intro h; ((try simp only [Int.toNat_natCast] at h); repeat (first | replace h := of_decide_eq_true h)); (try (first | contradiction))))
    all_goals (((with_reducible refine e_id ?_); (conv => whnf)); refine ⟨(), trivial, ?_⟩; ((with_reducible refine s_id ?_); (conv => arg 1; whnf); (with_reducible refine s_some ?_); repeat' (first | ((with_reducible refine o_id ?_); (conv => arg 1; whnf); first | (with_reducible exact o_nil) | (with_reducible refine o_cons ?_ ?_)) | rfl)))
  · refine trip_by (rs := [_]) 400 lay_ok Try.func94 rfl (by kernel_rfl) Try.ntmps94 Try.results94 rfl rfl ?_
    repeat' (first | (((with_reducible refine g_id ?_); (conv => arg 3; whnf)); first | (with_reducible refine g_cond lay_ok 400 ?_ ?_ ?_) | (with_reducible refine g_fin ?_ ?_)) | ((with_reducible refine o_id ?_); (conv => arg 1; whnf); first | (with_reducible exact o_nil)) | (intro h; ((try simp only [Int.toNat_natCast] at h); repeat (first | replace h := of_decide_eq_true h)); (try (first | contradiction))))
    all_goals (((with_reducible refine e_id ?_); (conv => whnf)); refine ⟨(), trivial, ?_⟩; ((with_reducible refine s_id ?_); (conv => arg 1; whnf); (with_reducible refine s_some ?_); repeat' (first | ((with_reducible refine o_id ?_); (conv => arg 1; whnf); first | (with_reducible exact o_nil) | (with_reducible refine o_cons ?_ ?_)) | rfl)))
theorem r_knownW (n : Int) : Trip Try.prog 118 [.int .i64 n] ⟨[], [], 0⟩ (Z := Unit) (fun _ => True) (fun _ => .bool (decide (1 ≤ n) && decide (n ≤ 14))) (fun _ => ⟨[], [], 0⟩) := by
  refine trip_by (rs := [_]) 400 lay_ok Try.func118 rfl (by kernel_rfl) Try.ntmps118 Try.results118 rfl rfl ?_
  repeat' (first | (((with_reducible refine g_id ?_); (conv => arg 3; whnf)); first | (with_reducible refine g_split lay_ok 400 ?_ ?_ ?_) | (with_reducible refine g_fin ?_ ?_)) | ((with_reducible refine o_id ?_); (conv => arg 1; whnf); first | (with_reducible exact o_nil)) | (intro h; ((try simp only [Int.toNat_natCast] at h); repeat (first | replace h := of_decide_eq_true h | replace h := of_decide_eq_false h)); (try (first | contradiction))))
  all_goals (((with_reducible refine e_id ?_); (conv => whnf)); refine ⟨(), trivial, ?_⟩; ((with_reducible refine s_id ?_); (conv => arg 1; whnf); (with_reducible refine s_some ?_); repeat' (first | ((with_reducible refine o_id ?_); (conv => arg 1; whnf); first | (with_reducible exact o_nil) | (with_reducible refine o_cons ?_ ?_)) | (simp; omega))))
end Go.Proofs.Ytonjbhdfimcedaa

/- N2 -/
namespace Go.Proofs.Ytonjbhdfimcedaa
set_option linter.unusedVariables false
set_option linter.unusedSimpArgs false
open Go.RowKit
/-- An operator over words, before the result is made a word. -/
def opI (op x y : Int) : Int :=
  if op = 1 then x + y else if op = 2 then x - y else if op = 3 then x * y
  else if op = 4 then (if y = 0 then 0 else x.tdiv y) else if op = 5 then (if y = 0 then 0 else x.tmod y)
  else if op = 6 then bitI .and .i64 x y else if op = 7 then bitI .or .i64 x y else if op = 8 then bitI .xor .i64 x y
  else if op = 9 then x * 2 ^ (bitI .and .i64 y 31).toNat else if op = 10 then x.fdiv (2 ^ (bitI .and .i64 y 31).toNat)
  else if op = 11 then truth (decide (x < y)) else if op = 12 then truth (decide (x ≤ y)) else if op = 13 then truth (decide (x = y)) else truth (!decide (x = y))
theorem and31I (y : Int) : bitI .and .i64 y 31 = y % 32 := and31 y
theorem mul_bd {x y : Int} (h0 : -2147483648 ≤ x) (h1 : x ≤ 2147483647) (h2 : -2147483648 ≤ y) (h3 : y ≤ 2147483647) : -4611686018427387904 ≤ x * y ∧ x * y ≤ 4611686018427387904 := by
  have a1 : x.natAbs ≤ 2147483648 := by omega
  have a2 : y.natAbs ≤ 2147483648 := by omega
  have a3 : (x * y).natAbs ≤ 2147483648 * 2147483648 := by rw [Int.natAbs_mul]; exact Nat.mul_le_mul a1 a2
  omega
theorem shl_bd {x y : Int} (h0 : -2147483648 ≤ x) (h1 : x ≤ 2147483647) : -4611686018427387904 ≤ x * 2 ^ (bitI .and .i64 y 31).toNat ∧ x * 2 ^ (bitI .and .i64 y 31).toNat ≤ 4611686018427387904 := by
  have e : (bitI .and .i64 y 31).toNat ≤ 31 := by rw [and31I]; omega
  have p : (2 : Int) ^ (bitI .and .i64 y 31).toNat = ((2 ^ (bitI .and .i64 y 31).toNat : Nat) : Int) := by norm_cast
  have q : 2 ^ (bitI .and .i64 y 31).toNat ≤ 2 ^ 31 := Nat.pow_le_pow_right (by decide) e
  rw [p]
  have a1 : x.natAbs ≤ 2147483648 := by omega
  have a3 : (x * ((2 ^ (bitI .and .i64 y 31).toNat : Nat) : Int)).natAbs ≤ 2147483648 * 2147483648 := by
    rw [Int.natAbs_mul, Int.natAbs_natCast]; exact Nat.mul_le_mul a1 (Nat.le_trans q (by decide))
  omega
theorem tdiv_bd2 {x y : Int} (h0 : -2147483648 ≤ x) (h1 : x ≤ 2147483647) : -2147483648 ≤ x.tdiv y ∧ x.tdiv y ≤ 2147483648 := by
  have a1 : (x.tdiv y).natAbs ≤ 2147483648 := by rw [Int.natAbs_tdiv]; exact Nat.le_trans (Nat.div_le_self _ _) (by omega)
  omega
theorem and31_bd (y : Int) : 0 ≤ bitI .and .i64 y 31 ∧ bitI .and .i64 y 31 ≤ 64 := by rw [and31I]; omega
theorem c_o1 (x y : Int) (h0 : -2147483648 ≤ x) (h1 : x ≤ 2147483647) (h2 : -2147483648 ≤ y) (h3 : y ≤ 2147483647) : Trip Try.prog 124 [.int .i64 x, .int .i64 y] ⟨[], [], 0⟩ (Z := Unit) (fun _ => True) (fun _ => .int .i64 (opI 1 x y)) (fun _ => ⟨[], [], 0⟩) := by
  obtain ⟨m1, m2⟩ := mul_bd h0 h1 h2 h3
  obtain ⟨s1, s2⟩ := shl_bd (y := y) h0 h1
  obtain ⟨t1, t2⟩ := tdiv_bd2 (y := y) h0 h1
  obtain ⟨a1, a2⟩ := and31_bd y
  have E : opI 1 x y = opI 1 x y := rfl
  conv at E => rhs; unfold opI
  simp only [if_pos, if_neg, Int.reduceEq, ↓reduceIte] at E
  rw [E]
  refine trip_by (rs := [_]) 400 lay_ok Try.func124 rfl (by kernel_rfl) Try.ntmps124 Try.results124 rfl rfl ?_
  repeat' (first | (((with_reducible refine g_id ?_); (conv => arg 3; whnf)); first | (with_reducible refine g_fin ?_ ?_)) | ((with_reducible refine o_id ?_); (conv => arg 1; whnf); first | (with_reducible exact o_nil) | (with_reducible refine o_cons ?_ ?_)) | omega)
  all_goals (((with_reducible refine e_id ?_); (conv => whnf)); refine ⟨(), trivial, ?_⟩; ((with_reducible refine s_id ?_); (conv => arg 1; whnf); (with_reducible refine s_some ?_); repeat' (first | ((with_reducible refine o_id ?_); (conv => arg 1; whnf); first | (with_reducible exact o_nil) | (with_reducible refine o_cons ?_ ?_)) | rfl)))
theorem c_o2 (x y : Int) (h0 : -2147483648 ≤ x) (h1 : x ≤ 2147483647) (h2 : -2147483648 ≤ y) (h3 : y ≤ 2147483647) : Trip Try.prog 125 [.int .i64 x, .int .i64 y] ⟨[], [], 0⟩ (Z := Unit) (fun _ => True) (fun _ => .int .i64 (opI 2 x y)) (fun _ => ⟨[], [], 0⟩) := by
  obtain ⟨m1, m2⟩ := mul_bd h0 h1 h2 h3
  obtain ⟨s1, s2⟩ := shl_bd (y := y) h0 h1
  obtain ⟨t1, t2⟩ := tdiv_bd2 (y := y) h0 h1
  obtain ⟨a1, a2⟩ := and31_bd y
  have E : opI 2 x y = opI 2 x y := rfl
  conv at E => rhs; unfold opI
  simp only [if_pos, if_neg, Int.reduceEq, ↓reduceIte] at E
  rw [E]
  refine trip_by (rs := [_]) 400 lay_ok Try.func125 rfl (by kernel_rfl) Try.ntmps125 Try.results125 rfl rfl ?_
  repeat' (first | (((with_reducible refine g_id ?_); (conv => arg 3; whnf)); first | (with_reducible refine g_fin ?_ ?_)) | ((with_reducible refine o_id ?_); (conv => arg 1; whnf); first | (with_reducible exact o_nil) | (with_reducible refine o_cons ?_ ?_)) | omega)
  all_goals (((with_reducible refine e_id ?_); (conv => whnf)); refine ⟨(), trivial, ?_⟩; ((with_reducible refine s_id ?_); (conv => arg 1; whnf); (with_reducible refine s_some ?_); repeat' (first | ((with_reducible refine o_id ?_); (conv => arg 1; whnf); first | (with_reducible exact o_nil) | (with_reducible refine o_cons ?_ ?_)) | rfl)))
theorem c_o3 (x y : Int) (h0 : -2147483648 ≤ x) (h1 : x ≤ 2147483647) (h2 : -2147483648 ≤ y) (h3 : y ≤ 2147483647) : Trip Try.prog 126 [.int .i64 x, .int .i64 y] ⟨[], [], 0⟩ (Z := Unit) (fun _ => True) (fun _ => .int .i64 (opI 3 x y)) (fun _ => ⟨[], [], 0⟩) := by
  obtain ⟨m1, m2⟩ := mul_bd h0 h1 h2 h3
  obtain ⟨s1, s2⟩ := shl_bd (y := y) h0 h1
  obtain ⟨t1, t2⟩ := tdiv_bd2 (y := y) h0 h1
  obtain ⟨a1, a2⟩ := and31_bd y
  have E : opI 3 x y = opI 3 x y := rfl
  conv at E => rhs; unfold opI
  simp only [if_pos, if_neg, Int.reduceEq, ↓reduceIte] at E
  rw [E]
  refine trip_by (rs := [_]) 400 lay_ok Try.func126 rfl (by kernel_rfl) Try.ntmps126 Try.results126 rfl rfl ?_
  repeat' (first | (((with_reducible refine g_id ?_); (conv => arg 3; whnf)); first | (with_reducible refine g_fin ?_ ?_)) | ((with_reducible refine o_id ?_); (conv => arg 1; whnf); first | (with_reducible exact o_nil) | (with_reducible refine o_cons ?_ ?_)) | omega)
  all_goals (((with_reducible refine e_id ?_); (conv => whnf)); refine ⟨(), trivial, ?_⟩; ((with_reducible refine s_id ?_); (conv => arg 1; whnf); (with_reducible refine s_some ?_); repeat' (first | ((with_reducible refine o_id ?_); (conv => arg 1; whnf); first | (with_reducible exact o_nil) | (with_reducible refine o_cons ?_ ?_)) | rfl)))
theorem c_o4 (x y : Int) (h0 : -2147483648 ≤ x) (h1 : x ≤ 2147483647) (h2 : -2147483648 ≤ y) (h3 : y ≤ 2147483647) : Trip Try.prog 127 [.int .i64 x, .int .i64 y] ⟨[], [], 0⟩ (Z := Unit) (fun _ => True) (fun _ => .int .i64 (opI 4 x y)) (fun _ => ⟨[], [], 0⟩) := by
  obtain ⟨m1, m2⟩ := mul_bd h0 h1 h2 h3
  obtain ⟨s1, s2⟩ := shl_bd (y := y) h0 h1
  obtain ⟨t1, t2⟩ := tdiv_bd2 (y := y) h0 h1
  obtain ⟨a1, a2⟩ := and31_bd y
  have E : opI 4 x y = opI 4 x y := rfl
  conv at E => rhs; unfold opI
  simp only [if_pos, if_neg, Int.reduceEq, ↓reduceIte] at E
  rw [E]
  refine trip_by (rs := [_]) 400 lay_ok Try.func127 rfl (by kernel_rfl) Try.ntmps127 Try.results127 rfl rfl ?_
  repeat' (first | (((with_reducible refine g_id ?_); (conv => arg 3; whnf)); first | (with_reducible refine g_cond lay_ok 400 ?_ ?_ ?_) | (with_reducible refine g_fin ?_ ?_)) | ((with_reducible refine o_id ?_); (conv => arg 1; whnf); first | (with_reducible exact o_nil) | (with_reducible refine o_cons ?_ ?_)) | (intro h; ((try simp only [Int.toNat_natCast] at h); repeat (first | replace h := of_decide_eq_true h | replace h := of_decide_eq_false h)); (try (first | contradiction))) | omega)
  all_goals (((with_reducible refine e_id ?_); (conv => whnf)); refine ⟨(), trivial, ?_⟩; ((with_reducible refine s_id ?_); (conv => arg 1; whnf); (with_reducible refine s_some ?_); repeat' (first | ((with_reducible refine o_id ?_); (conv => arg 1; whnf); first | (with_reducible exact o_nil) | (with_reducible refine o_cons ?_ ?_)) | omega)))
theorem c_o5 (x y : Int) (h0 : -2147483648 ≤ x) (h1 : x ≤ 2147483647) (h2 : -2147483648 ≤ y) (h3 : y ≤ 2147483647) : Trip Try.prog 128 [.int .i64 x, .int .i64 y] ⟨[], [], 0⟩ (Z := Unit) (fun _ => True) (fun _ => .int .i64 (opI 5 x y)) (fun _ => ⟨[], [], 0⟩) := by
  obtain ⟨m1, m2⟩ := mul_bd h0 h1 h2 h3
  obtain ⟨s1, s2⟩ := shl_bd (y := y) h0 h1
  obtain ⟨t1, t2⟩ := tdiv_bd2 (y := y) h0 h1
  obtain ⟨a1, a2⟩ := and31_bd y
  have E : opI 5 x y = opI 5 x y := rfl
  conv at E => rhs; unfold opI
  simp only [if_pos, if_neg, Int.reduceEq, ↓reduceIte] at E
  rw [E]
  refine trip_by (rs := [_]) 400 lay_ok Try.func128 rfl (by kernel_rfl) Try.ntmps128 Try.results128 rfl rfl ?_
  repeat' (first | (((with_reducible refine g_id ?_); (conv => arg 3; whnf)); first | (with_reducible refine g_cond lay_ok 400 ?_ ?_ ?_) | (with_reducible refine g_fin ?_ ?_)) | ((with_reducible refine o_id ?_); (conv => arg 1; whnf); first | (with_reducible exact o_nil) | (with_reducible refine o_cons ?_ ?_)) | (intro h; ((try simp only [Int.toNat_natCast] at h); repeat (first | replace h := of_decide_eq_true h | replace h := of_decide_eq_false h)); (try (first | contradiction))))
  all_goals (((with_reducible refine e_id ?_); (conv => whnf)); refine ⟨(), trivial, ?_⟩; ((with_reducible refine s_id ?_); (conv => arg 1; whnf); (with_reducible refine s_some ?_); repeat' (first | ((with_reducible refine o_id ?_); (conv => arg 1; whnf); first | (with_reducible exact o_nil) | (with_reducible refine o_cons ?_ ?_)) | omega)))
theorem c_o6 (x y : Int) (h0 : -2147483648 ≤ x) (h1 : x ≤ 2147483647) (h2 : -2147483648 ≤ y) (h3 : y ≤ 2147483647) : Trip Try.prog 129 [.int .i64 x, .int .i64 y] ⟨[], [], 0⟩ (Z := Unit) (fun _ => True) (fun _ => .int .i64 (opI 6 x y)) (fun _ => ⟨[], [], 0⟩) := by
  obtain ⟨m1, m2⟩ := mul_bd h0 h1 h2 h3
  obtain ⟨s1, s2⟩ := shl_bd (y := y) h0 h1
  obtain ⟨t1, t2⟩ := tdiv_bd2 (y := y) h0 h1
  obtain ⟨a1, a2⟩ := and31_bd y
  have E : opI 6 x y = opI 6 x y := rfl
  conv at E => rhs; unfold opI
  simp only [if_pos, if_neg, Int.reduceEq, ↓reduceIte] at E
  rw [E]
  refine trip_by (rs := [_]) 400 lay_ok Try.func129 rfl (by kernel_rfl) Try.ntmps129 Try.results129 rfl rfl ?_
  repeat' (first | (((with_reducible refine g_id ?_); (conv => arg 3; whnf)); first | (with_reducible refine g_fin ?_ ?_)) | ((with_reducible refine o_id ?_); (conv => arg 1; whnf); first | (with_reducible exact o_nil)))
  all_goals (((with_reducible refine e_id ?_); (conv => whnf)); refine ⟨(), trivial, ?_⟩; ((with_reducible refine s_id ?_); (conv => arg 1; whnf); (with_reducible refine s_some ?_); repeat' (first | ((with_reducible refine o_id ?_); (conv => arg 1; whnf); first | (with_reducible exact o_nil) | (with_reducible refine o_cons ?_ ?_)) | rfl)))
theorem c_o7 (x y : Int) (h0 : -2147483648 ≤ x) (h1 : x ≤ 2147483647) (h2 : -2147483648 ≤ y) (h3 : y ≤ 2147483647) : Trip Try.prog 130 [.int .i64 x, .int .i64 y] ⟨[], [], 0⟩ (Z := Unit) (fun _ => True) (fun _ => .int .i64 (opI 7 x y)) (fun _ => ⟨[], [], 0⟩) := by
  obtain ⟨m1, m2⟩ := mul_bd h0 h1 h2 h3
  obtain ⟨s1, s2⟩ := shl_bd (y := y) h0 h1
  obtain ⟨t1, t2⟩ := tdiv_bd2 (y := y) h0 h1
  obtain ⟨a1, a2⟩ := and31_bd y
  have E : opI 7 x y = opI 7 x y := rfl
  conv at E => rhs; unfold opI
  simp only [if_pos, if_neg, Int.reduceEq, ↓reduceIte] at E
  rw [E]
  refine trip_by (rs := [_]) 400 lay_ok Try.func130 rfl (by kernel_rfl) Try.ntmps130 Try.results130 rfl rfl ?_
  repeat' (first | (((with_reducible refine g_id ?_); (conv => arg 3; whnf)); first | (with_reducible refine g_fin ?_ ?_)) | ((with_reducible refine o_id ?_); (conv => arg 1; whnf); first | (with_reducible exact o_nil)))
  all_goals (((with_reducible refine e_id ?_); (conv => whnf)); refine ⟨(), trivial, ?_⟩; ((with_reducible refine s_id ?_); (conv => arg 1; whnf); (with_reducible refine s_some ?_); repeat' (first | ((with_reducible refine o_id ?_); (conv => arg 1; whnf); first | (with_reducible exact o_nil) | (with_reducible refine o_cons ?_ ?_)) | rfl)))
theorem c_o8 (x y : Int) (h0 : -2147483648 ≤ x) (h1 : x ≤ 2147483647) (h2 : -2147483648 ≤ y) (h3 : y ≤ 2147483647) : Trip Try.prog 131 [.int .i64 x, .int .i64 y] ⟨[], [], 0⟩ (Z := Unit) (fun _ => True) (fun _ => .int .i64 (opI 8 x y)) (fun _ => ⟨[], [], 0⟩) := by
  obtain ⟨m1, m2⟩ := mul_bd h0 h1 h2 h3
  obtain ⟨s1, s2⟩ := shl_bd (y := y) h0 h1
  obtain ⟨t1, t2⟩ := tdiv_bd2 (y := y) h0 h1
  obtain ⟨a1, a2⟩ := and31_bd y
  have E : opI 8 x y = opI 8 x y := rfl
  conv at E => rhs; unfold opI
  simp only [if_pos, if_neg, Int.reduceEq, ↓reduceIte] at E
  rw [E]
  refine trip_by (rs := [_]) 400 lay_ok Try.func131 rfl (by kernel_rfl) Try.ntmps131 Try.results131 rfl rfl ?_
  repeat' (first | (((with_reducible refine g_id ?_); (conv => arg 3; whnf)); first | (with_reducible refine g_fin ?_ ?_)) | ((with_reducible refine o_id ?_); (conv => arg 1; whnf); first | (with_reducible exact o_nil)))
  all_goals (((with_reducible refine e_id ?_); (conv => whnf)); refine ⟨(), trivial, ?_⟩; ((with_reducible refine s_id ?_); (conv => arg 1; whnf); (with_reducible refine s_some ?_); repeat' (first | ((with_reducible refine o_id ?_); (conv => arg 1; whnf); first | (with_reducible exact o_nil) | (with_reducible refine o_cons ?_ ?_)) | rfl)))
theorem c_o9 (x y : Int) (h0 : -2147483648 ≤ x) (h1 : x ≤ 2147483647) (h2 : -2147483648 ≤ y) (h3 : y ≤ 2147483647) : Trip Try.prog 132 [.int .i64 x, .int .i64 y] ⟨[], [], 0⟩ (Z := Unit) (fun _ => True) (fun _ => .int .i64 (opI 9 x y)) (fun _ => ⟨[], [], 0⟩) := by
  obtain ⟨m1, m2⟩ := mul_bd h0 h1 h2 h3
  obtain ⟨s1, s2⟩ := shl_bd (y := y) h0 h1
  obtain ⟨t1, t2⟩ := tdiv_bd2 (y := y) h0 h1
  obtain ⟨a1, a2⟩ := and31_bd y
  have E : opI 9 x y = opI 9 x y := rfl
  conv at E => rhs; unfold opI
  simp only [if_pos, if_neg, Int.reduceEq, ↓reduceIte] at E
  rw [E]
  refine trip_by (rs := [_]) 400 lay_ok Try.func132 rfl (by kernel_rfl) Try.ntmps132 Try.results132 rfl rfl ?_
  repeat' (first | (((with_reducible refine g_id ?_); (conv => arg 3; whnf)); first | (with_reducible refine g_fin ?_ ?_)) | ((with_reducible refine o_id ?_); (conv => arg 1; whnf); first | (with_reducible exact o_nil) | (with_reducible refine o_cons ?_ ?_)) | omega | assumption)
  all_goals (((with_reducible refine e_id ?_); (conv => whnf)); refine ⟨(), trivial, ?_⟩; ((with_reducible refine s_id ?_); (conv => arg 1; whnf); (with_reducible refine s_some ?_); repeat' (first | ((with_reducible refine o_id ?_); (conv => arg 1; whnf); first | (with_reducible exact o_nil) | (with_reducible refine o_cons ?_ ?_)) | rfl)))
theorem c_o10 (x y : Int) (h0 : -2147483648 ≤ x) (h1 : x ≤ 2147483647) (h2 : -2147483648 ≤ y) (h3 : y ≤ 2147483647) : Trip Try.prog 133 [.int .i64 x, .int .i64 y] ⟨[], [], 0⟩ (Z := Unit) (fun _ => True) (fun _ => .int .i64 (opI 10 x y)) (fun _ => ⟨[], [], 0⟩) := by
  obtain ⟨m1, m2⟩ := mul_bd h0 h1 h2 h3
  obtain ⟨s1, s2⟩ := shl_bd (y := y) h0 h1
  obtain ⟨t1, t2⟩ := tdiv_bd2 (y := y) h0 h1
  obtain ⟨a1, a2⟩ := and31_bd y
  have E : opI 10 x y = opI 10 x y := rfl
  conv at E => rhs; unfold opI
  simp only [if_pos, if_neg, Int.reduceEq, ↓reduceIte] at E
  rw [E]
  refine trip_by (rs := [_]) 400 lay_ok Try.func133 rfl (by kernel_rfl) Try.ntmps133 Try.results133 rfl rfl ?_
  repeat' (first | (((with_reducible refine g_id ?_); (conv => arg 3; whnf)); first | (with_reducible refine g_fin ?_ ?_)) | ((with_reducible refine o_id ?_); (conv => arg 1; whnf); first | (with_reducible exact o_nil) | (with_reducible refine o_cons ?_ ?_)) | omega | assumption)
  all_goals (((with_reducible refine e_id ?_); (conv => whnf)); refine ⟨(), trivial, ?_⟩; ((with_reducible refine s_id ?_); (conv => arg 1; whnf); (with_reducible refine s_some ?_); repeat' (first | ((with_reducible refine o_id ?_); (conv => arg 1; whnf); first | (with_reducible exact o_nil) | (with_reducible refine o_cons ?_ ?_)) | rfl)))
theorem c_o11 (x y : Int) (h0 : -2147483648 ≤ x) (h1 : x ≤ 2147483647) (h2 : -2147483648 ≤ y) (h3 : y ≤ 2147483647) : Trip Try.prog 134 [.int .i64 x, .int .i64 y] ⟨[], [], 0⟩ (Z := Unit) (fun _ => True) (fun _ => .int .i64 (opI 11 x y)) (fun _ => ⟨[], [], 0⟩) := by
  obtain ⟨m1, m2⟩ := mul_bd h0 h1 h2 h3
  obtain ⟨s1, s2⟩ := shl_bd (y := y) h0 h1
  obtain ⟨t1, t2⟩ := tdiv_bd2 (y := y) h0 h1
  obtain ⟨a1, a2⟩ := and31_bd y
  have E : opI 11 x y = opI 11 x y := rfl
  conv at E => rhs; unfold opI
  simp only [if_pos, if_neg, Int.reduceEq, ↓reduceIte] at E
  rw [E]
  refine trip_by (rs := [_]) 400 lay_ok Try.func134 rfl (by kernel_rfl) Try.ntmps134 Try.results134 rfl rfl ?_
  repeat' (first | (((with_reducible refine g_id ?_); (conv => arg 3; whnf)); first | (with_reducible refine g_fin ?_ ?_) | (refine g_call lay_ok 400 ?_ ?_ ?_ (c_truth ?_) rfl)) | ((with_reducible refine o_id ?_); (conv => arg 1; whnf); first | (with_reducible exact o_nil) | (with_reducible refine o_cons ?_ ?_)) | (intro h; ((try simp only [Int.toNat_natCast] at h); repeat (first | replace h := of_decide_eq_true h)); (try (first | contradiction))) | rfl)
  all_goals (((with_reducible refine e_id ?_); (conv => whnf)); refine ⟨(), trivial, ?_⟩; ((with_reducible refine s_id ?_); (conv => arg 1; whnf); (with_reducible refine s_some ?_); repeat' (first | ((with_reducible refine o_id ?_); (conv => arg 1; whnf); first | (with_reducible exact o_nil) | (with_reducible refine o_cons ?_ ?_)) | rfl)))
theorem c_o12 (x y : Int) (h0 : -2147483648 ≤ x) (h1 : x ≤ 2147483647) (h2 : -2147483648 ≤ y) (h3 : y ≤ 2147483647) : Trip Try.prog 136 [.int .i64 x, .int .i64 y] ⟨[], [], 0⟩ (Z := Unit) (fun _ => True) (fun _ => .int .i64 (opI 12 x y)) (fun _ => ⟨[], [], 0⟩) := by
  obtain ⟨m1, m2⟩ := mul_bd h0 h1 h2 h3
  obtain ⟨s1, s2⟩ := shl_bd (y := y) h0 h1
  obtain ⟨t1, t2⟩ := tdiv_bd2 (y := y) h0 h1
  obtain ⟨a1, a2⟩ := and31_bd y
  have E : opI 12 x y = opI 12 x y := rfl
  conv at E => rhs; unfold opI
  simp only [if_pos, if_neg, Int.reduceEq, ↓reduceIte] at E
  rw [E]
  refine trip_by (rs := [_]) 400 lay_ok Try.func136 rfl (by kernel_rfl) Try.ntmps136 Try.results136 rfl rfl ?_
  repeat' (first | (((with_reducible refine g_id ?_); (conv => arg 3; whnf)); first | (with_reducible refine g_fin ?_ ?_) | (refine g_call lay_ok 400 ?_ ?_ ?_ (c_truth ?_) rfl)) | ((with_reducible refine o_id ?_); (conv => arg 1; whnf); first | (with_reducible exact o_nil) | (with_reducible refine o_cons ?_ ?_)) | (intro h; ((try simp only [Int.toNat_natCast] at h); repeat (first | replace h := of_decide_eq_true h)); (try (first | contradiction))) | rfl)
  all_goals (((with_reducible refine e_id ?_); (conv => whnf)); refine ⟨(), trivial, ?_⟩; ((with_reducible refine s_id ?_); (conv => arg 1; whnf); (with_reducible refine s_some ?_); repeat' (first | ((with_reducible refine o_id ?_); (conv => arg 1; whnf); first | (with_reducible exact o_nil) | (with_reducible refine o_cons ?_ ?_)) | rfl)))
theorem c_o13 (x y : Int) (h0 : -2147483648 ≤ x) (h1 : x ≤ 2147483647) (h2 : -2147483648 ≤ y) (h3 : y ≤ 2147483647) : Trip Try.prog 137 [.int .i64 x, .int .i64 y] ⟨[], [], 0⟩ (Z := Unit) (fun _ => True) (fun _ => .int .i64 (opI 13 x y)) (fun _ => ⟨[], [], 0⟩) := by
  obtain ⟨m1, m2⟩ := mul_bd h0 h1 h2 h3
  obtain ⟨s1, s2⟩ := shl_bd (y := y) h0 h1
  obtain ⟨t1, t2⟩ := tdiv_bd2 (y := y) h0 h1
  obtain ⟨a1, a2⟩ := and31_bd y
  have E : opI 13 x y = opI 13 x y := rfl
  conv at E => rhs; unfold opI
  simp only [if_pos, if_neg, Int.reduceEq, ↓reduceIte] at E
  rw [E]
  refine trip_by (rs := [_]) 400 lay_ok Try.func137 rfl (by kernel_rfl) Try.ntmps137 Try.results137 rfl rfl ?_
  repeat' (first | (((with_reducible refine g_id ?_); (conv => arg 3; whnf)); first | (with_reducible refine g_fin ?_ ?_) | (refine g_call lay_ok 400 ?_ ?_ ?_ (c_truth ?_) rfl)) | ((with_reducible refine o_id ?_); (conv => arg 1; whnf); first | (with_reducible exact o_nil) | (with_reducible refine o_cons ?_ ?_)) | (intro h; ((try simp only [Int.toNat_natCast] at h); repeat (first | replace h := of_decide_eq_true h)); (try (first | contradiction))) | rfl)
  all_goals (((with_reducible refine e_id ?_); (conv => whnf)); refine ⟨(), trivial, ?_⟩; ((with_reducible refine s_id ?_); (conv => arg 1; whnf); (with_reducible refine s_some ?_); repeat' (first | ((with_reducible refine o_id ?_); (conv => arg 1; whnf); first | (with_reducible exact o_nil) | (with_reducible refine o_cons ?_ ?_)) | rfl)))
theorem c_o14 (x y : Int) (h0 : -2147483648 ≤ x) (h1 : x ≤ 2147483647) (h2 : -2147483648 ≤ y) (h3 : y ≤ 2147483647) : Trip Try.prog 138 [.int .i64 x, .int .i64 y] ⟨[], [], 0⟩ (Z := Unit) (fun _ => True) (fun _ => .int .i64 (opI 14 x y)) (fun _ => ⟨[], [], 0⟩) := by
  obtain ⟨m1, m2⟩ := mul_bd h0 h1 h2 h3
  obtain ⟨s1, s2⟩ := shl_bd (y := y) h0 h1
  obtain ⟨t1, t2⟩ := tdiv_bd2 (y := y) h0 h1
  obtain ⟨a1, a2⟩ := and31_bd y
  have E : opI 14 x y = opI 14 x y := rfl
  conv at E => rhs; unfold opI
  simp only [if_pos, if_neg, Int.reduceEq, ↓reduceIte] at E
  rw [E]
  refine trip_by (rs := [_]) 400 lay_ok Try.func138 rfl (by kernel_rfl) Try.ntmps138 Try.results138 rfl rfl ?_
  repeat' (first | (((with_reducible refine g_id ?_); (conv => arg 3; whnf)); first | (with_reducible refine g_fin ?_ ?_) | (refine g_call lay_ok 400 ?_ ?_ ?_ (c_truth ?_) rfl)) | ((with_reducible refine o_id ?_); (conv => arg 1; whnf); first | (with_reducible exact o_nil) | (with_reducible refine o_cons ?_ ?_)) | (intro h; ((try simp only [Int.toNat_natCast] at h); repeat (first | replace h := of_decide_eq_true h)); (try (first | contradiction))) | rfl)
  all_goals (((with_reducible refine e_id ?_); (conv => whnf)); refine ⟨(), trivial, ?_⟩; ((with_reducible refine s_id ?_); (conv => arg 1; whnf); (with_reducible refine s_some ?_); repeat' (first | ((with_reducible refine o_id ?_); (conv => arg 1; whnf); first | (with_reducible exact o_nil) | (with_reducible refine o_cons ?_ ?_)) | rfl)))
end Go.Proofs.Ytonjbhdfimcedaa

/- N3 -/
namespace Go.Proofs.Ytonjbhdfimcedaa
set_option linter.unusedVariables false
set_option linter.unusedSimpArgs false
open Go.RowKit
def doI (op a b : Int) : Int := if 1 ≤ op ∧ op ≤ 14 then wr (opI op (wr a) (wr b)) else 0
theorem doI_in {op a b : Int} (h0 : 1 ≤ op) (h1 : op ≤ 14) : doI op a b = wr (opI op (wr a) (wr b)) := if_pos ⟨h0, h1⟩
set_option maxHeartbeats 4000000 in
theorem r_do (op a b : Int) (h0 : 1 ≤ op) (h1 : op ≤ 14) : Trip Try.prog 66 [.int .i64 op, .int .i64 a, .int .i64 b] ⟨[], [], 0⟩ (Z := Unit) (fun _ => True) (fun _ => .tup [.int .i64 (doI op a b), .int .i64 0]) (fun _ => ⟨[], [], 0⟩) := by
  rw [doI_in h0 h1]
  have w1 := wr_lo a
  have w2 := wr_hi a
  have w3 := wr_lo b
  have w4 := wr_hi b
  obtain ⟨m1, m2⟩ := mul_bd w1 w2 w3 w4
  obtain ⟨s1, s2⟩ := shl_bd (y := wr b) w1 w2
  obtain ⟨t1, t2⟩ := tdiv_bd2 (y := wr b) w1 w2
  obtain ⟨a1, a2⟩ := and31_bd (wr b)
  have hop : op = 1 ∨ op = 2 ∨ op = 3 ∨ op = 4 ∨ op = 5 ∨ op = 6 ∨ op = 7 ∨ op = 8 ∨ op = 9 ∨ op = 10 ∨ op = 11 ∨ op = 12 ∨ op = 13 ∨ op = 14 := by omega
  rcases hop with rfl | rfl | rfl | rfl | rfl | rfl | rfl | rfl | rfl | rfl | rfl | rfl | rfl | rfl
  all_goals (refine trip_by (rs := [_, _]) 400 lay_ok Try.func66 rfl (by kernel_rfl) Try.ntmps66 Try.results66 rfl rfl ?_; (repeat' (first | (((with_reducible refine g_id ?_); (conv => arg 3; whnf)); first | (with_reducible refine g_cond lay_ok 400 ?_ ?_ ?_) | (with_reducible refine g_fin ?_ ?_) | (refine g_call lay_ok 400 ?_ ?_ ?_ (r_wrap ?_) rfl) | (refine g_call lay_ok 400 ?_ ?_ ?_ (r_truth ?_) rfl)) | ((with_reducible refine o_id ?_); (conv => arg 1; whnf); first | (with_reducible exact o_nil) | (with_reducible refine o_cons ?_ ?_)) | (intro h; ((try simp only [Int.toNat_natCast] at h); repeat (first | replace h := of_decide_eq_true h | replace h := of_decide_eq_false h | replace h := not_t h | replace h := not_f h)); (try (first | contradiction))) | rfl | omega | assumption)); all_goals (((with_reducible refine e_id ?_); (conv => whnf)); refine ⟨(), trivial, ?_⟩; ((with_reducible refine s_id ?_); (conv => arg 1; whnf); (with_reducible refine s_some ?_); repeat' (first | ((with_reducible refine o_id ?_); (conv => arg 1; whnf); first | (with_reducible exact o_nil) | (with_reducible refine o_cons ?_ ?_)) | rfl | (unfold opI; simp [*]; done)))))
theorem c_ops  : Trip Try.prog 117 [] ⟨[], [], 0⟩ (Z := Unit) (fun _ => True) (fun _ => .agg [.clo 124 [], .clo 125 [], .clo 126 [], .clo 127 [], .clo 128 [], .clo 129 [], .clo 130 [], .clo 131 [], .clo 132 [], .clo 133 [], .clo 134 [], .clo 136 [], .clo 137 [], .clo 138 []]) (fun _ => ⟨[], [], 0⟩) := by
  refine trip_by (rs := [_]) 400 lay_ok Try.func117 rfl (by kernel_rfl) Try.ntmps117 Try.results117 rfl rfl ?_
  repeat' (first | (((with_reducible refine g_id ?_); (conv => arg 3; whnf)); first | (with_reducible refine g_fin ?_ ?_)) | ((with_reducible refine o_id ?_); (conv => arg 1; whnf); first | (with_reducible exact o_nil)))
  all_goals (((with_reducible refine e_id ?_); (conv => whnf)); refine ⟨(), trivial, ?_⟩; ((with_reducible refine s_id ?_); (conv => arg 1; whnf); (with_reducible refine s_some ?_); repeat' (first | ((with_reducible refine o_id ?_); (conv => arg 1; whnf); first | (with_reducible exact o_nil)))))
set_option maxHeartbeats 8000000 in
theorem c_do (op a b : Int) (h0 : 1 ≤ op) (h1 : op ≤ 14) : Trip Try.prog 91 [.int .i64 op, .int .i64 a, .int .i64 b] ⟨[], [], 0⟩ (Z := Unit) (fun _ => True) (fun _ => .tup [.int .i64 (doI op a b), .int .i64 0]) (fun _ => ⟨[], [], 0⟩) := by
  rw [doI_in h0 h1]
  have w1 := wr_lo a
  have w2 := wr_hi a
  have w3 := wr_lo b
  have w4 := wr_hi b
  obtain ⟨m1, m2⟩ := mul_bd w1 w2 w3 w4
  obtain ⟨s1, s2⟩ := shl_bd (y := wr b) w1 w2
  obtain ⟨t1, t2⟩ := tdiv_bd2 (y := wr b) w1 w2
  obtain ⟨a1, a2⟩ := and31_bd (wr b)
  have hop : op = 1 ∨ op = 2 ∨ op = 3 ∨ op = 4 ∨ op = 5 ∨ op = 6 ∨ op = 7 ∨ op = 8 ∨ op = 9 ∨ op = 10 ∨ op = 11 ∨ op = 12 ∨ op = 13 ∨ op = 14 := by omega
  rcases hop with rfl | rfl | rfl | rfl | rfl | rfl | rfl | rfl | rfl | rfl | rfl | rfl | rfl | rfl
  all_goals (refine trip_by (rs := [_, _]) 400 lay_ok Try.func91 rfl (by kernel_rfl) Try.ntmps91 Try.results91 rfl rfl ?_; (repeat' (first | (((with_reducible refine g_id ?_); (conv => arg 3; whnf)); first | (with_reducible refine g_cond lay_ok 400 ?_ ?_ ?_) | (with_reducible refine g_fin ?_ ?_) | (refine g_call lay_ok 400 ?_ ?_ ?_ (c_knownW ?_) rfl) | (refine g_draw lay_ok mixed_ok 400 12 [0, 1, 2, 3, 4, 5, 6, 7, 8, 9, 10, 11] rfl (by kernel_rfl) ?_ ?_)) | (((with_reducible refine d_id ?_); (conv => arg 5; whnf)); first | (with_reducible refine d_fin ?_ ?_) | (refine d_call lay_ok 400 ?_ ?_ ?_ (c_ops) rfl rfl) | (refine d_call lay_ok 400 ?_ ?_ ?_ (c_wrap ?_) rfl rfl) | (refine d_call lay_ok 400 ?_ ?_ ?_ (c_o1 ?_ ?_ ?_ ?_ ?_ ?_) rfl rfl) | (refine d_call lay_ok 400 ?_ ?_ ?_ (c_o2 ?_ ?_ ?_ ?_ ?_ ?_) rfl rfl) | (refine d_call lay_ok 400 ?_ ?_ ?_ (c_o3 ?_ ?_ ?_ ?_ ?_ ?_) rfl rfl) | (refine d_call lay_ok 400 ?_ ?_ ?_ (c_o4 ?_ ?_ ?_ ?_ ?_ ?_) rfl rfl) | (refine d_call lay_ok 400 ?_ ?_ ?_ (c_o5 ?_ ?_ ?_ ?_ ?_ ?_) rfl rfl) | (refine d_call lay_ok 400 ?_ ?_ ?_ (c_o6 ?_ ?_ ?_ ?_ ?_ ?_) rfl rfl) | (refine d_call lay_ok 400 ?_ ?_ ?_ (c_o7 ?_ ?_ ?_ ?_ ?_ ?_) rfl rfl) | (refine d_call lay_ok 400 ?_ ?_ ?_ (c_o8 ?_ ?_ ?_ ?_ ?_ ?_) rfl rfl) | (refine d_call lay_ok 400 ?_ ?_ ?_ (c_o9 ?_ ?_ ?_ ?_ ?_ ?_) rfl rfl) | (refine d_call lay_ok 400 ?_ ?_ ?_ (c_o10 ?_ ?_ ?_ ?_ ?_ ?_) rfl rfl) | (refine d_call lay_ok 400 ?_ ?_ ?_ (c_o11 ?_ ?_ ?_ ?_ ?_ ?_) rfl rfl) | (refine d_call lay_ok 400 ?_ ?_ ?_ (c_o12 ?_ ?_ ?_ ?_ ?_ ?_) rfl rfl) | (refine d_call lay_ok 400 ?_ ?_ ?_ (c_o13 ?_ ?_ ?_ ?_ ?_ ?_) rfl rfl) | (refine d_call lay_ok 400 ?_ ?_ ?_ (c_o14 ?_ ?_ ?_ ?_ ?_ ?_) rfl rfl)) | (with_reducible exact o_nil) | ((with_reducible refine o_id ?_); (conv => arg 1; whnf); first | (with_reducible exact o_nil) | (with_reducible refine o_cons ?_ ?_)) | (intro h; ((try simp only [Int.toNat_natCast] at h); repeat (first | replace h := not_t h | replace h := not_f h)); (try (first | contradiction))) | rfl | omega)); all_goals (((with_reducible refine e_id ?_); (conv => whnf)); refine ⟨(), trivial, ?_⟩; ((with_reducible refine s_id ?_); (conv => arg 1; whnf); (with_reducible refine s_some ?_); repeat' (first | ((with_reducible refine o_id ?_); (conv => arg 1; whnf); first | (with_reducible exact o_nil) | (with_reducible refine o_cons ?_ ?_)) | rfl))))
end Go.Proofs.Ytonjbhdfimcedaa

/- N4 -/
namespace Go.Proofs.Ytonjbhdfimcedaa
set_option linter.unusedVariables false
set_option linter.unusedSimpArgs false
open Go.RowKit
/-- What stands for a variable. -/
def useF (of : List Int) (v : Nat) : Int := if (0 : Int) ≤ gt (c := .int) of v then gt (c := .int) of v else (v : Int)
theorem useF_y {of : List Int} {v : Nat} (h : (0 : Int) ≤ gt (c := .int) of v) : useF of v = gt (c := .int) of v := if_pos h
theorem useF_n {of : List Int} {v : Nat} (h : ¬ (0 : Int) ≤ gt (c := .int) of v) : useF of v = (v : Int) := if_neg h
theorem mp_y {L : List Int} {a b : Int} {z : Nat} (h : z < L.length) (hb : (gt (c := .int) (mapTo (c := .int) (rpl a b) L z) z : Int) = b) : (mapTo (c := .int) (rpl a b) L z).set z a = mapTo (c := .int) (rpl a b) L (z + 1) := by
  rw [gt_mapTo (c := .int) h] at hb
  have e := mapTo_set (c := .int) (f := rpl a b) h
  have e1 : rpl a b (gt (c := .int) L z) = a := if_pos hb
  rw [e1] at e; exact e
theorem mp_n {L : List Int} {a b : Int} {z : Nat} (h : z < L.length) (hb : ¬ (gt (c := .int) (mapTo (c := .int) (rpl a b) L z) z : Int) = b) : mapTo (c := .int) (rpl a b) L z = mapTo (c := .int) (rpl a b) L (z + 1) := by
  rw [gt_mapTo (c := .int) h] at hb
  have e := mapTo_set (c := .int) (f := rpl a b) h
  have e1 : rpl a b (gt (c := .int) L z) = gt (c := .int) L z := if_neg hb
  rw [e1, ← gt_mapTo (c := .int) (f := rpl a b) h, set_gt (c := .int) (by rw [mapTo_len (c := .int)]; exact h)] at e
  exact e
/-- What is forgotten of others with a variable. -/
def fgtF (of : List Int) (v : Nat) : List Int := (of.set v (-1)).map (rpl (-1) (v : Int))
theorem fgtF_full {of : List Int} {v : Nat} : mapTo (c := .int) (rpl (-1) (v : Int)) (of.set v (-1)) (of.set v (-1)).length = fgtF of v := mapTo_full (c := .int)
set_option maxHeartbeats 1000000 in
theorem r_use (kn : List Bool) (wd of : List Int) (v : Nat) (hk : v < kn.length) (hv : v < of.length) (hl : of.length ≤ 1048576) : Trip Try.prog 84 [.ptr 0 0, .int .i64 (v : Int)] ⟨[], [(0, .cells [.sl ⟨1, []⟩, .sl ⟨2, []⟩, .sl ⟨3, []⟩]), (1, .list .own .bool kn), (2, .list .own .int wd), (3, .list .own .int of)], 4⟩ (Z := Unit) (fun _ => True) (fun _ => .int .i64 (useF of v)) (fun _ => ⟨[], [(0, .cells [.sl ⟨1, []⟩, .sl ⟨2, []⟩, .sl ⟨3, []⟩]), (1, .list .own .bool kn), (2, .list .own .int wd), (3, .list .own .int of)], 4⟩) := by
  refine trip_by (rs := [_]) 400 lay_ok Try.func84 rfl (by kernel_rfl) Try.ntmps84 Try.results84 rfl rfl ?_
  repeat' (first | (((with_reducible refine g_id ?_); (conv => arg 3; whnf)); first | (with_reducible refine g_cond lay_ok 400 ?_ ?_ ?_) | (with_reducible refine g_fin ?_ ?_)) | ((with_reducible refine o_id ?_); (conv => arg 1; whnf); first | (with_reducible exact o_nil) | (with_reducible refine o_cons ?_ ?_)) | (intro h; ((try simp only [Int.toNat_natCast] at h); repeat (first | replace h := of_decide_eq_true h | replace h := of_decide_eq_false h)); (try (first | contradiction))) | omega)
  all_goals (((with_reducible refine e_id ?_); (conv => whnf)); refine ⟨(), trivial, ?_⟩; ((with_reducible refine s_id ?_); (conv => arg 1; whnf); (with_reducible refine s_some ?_); repeat' (first | ((with_reducible refine o_id ?_); (conv => arg 1; whnf); first | (with_reducible exact o_nil) | (with_reducible refine o_cons ?_ ?_)) | rfl | (exact useF_y (by assumption)) | (exact useF_n (by assumption)))))
set_option maxHeartbeats 1000000 in
theorem r_forget (kn : List Bool) (wd of : List Int) (v : Nat) (hk : v < kn.length) (hv : v < of.length) (hl : of.length ≤ 1048576) : Trip Try.prog 110 [.ptr 0 0, .int .i64 (v : Int)] ⟨[], [(0, .cells [.sl ⟨1, []⟩, .sl ⟨2, []⟩, .sl ⟨3, []⟩]), (1, .list .own .bool kn), (2, .list .own .int wd), (3, .list .own .int of)], 4⟩ (Z := Unit) (fun _ => True) (fun _ => .tup []) (fun _ => ⟨[], [(0, .cells [.sl ⟨1, []⟩, .sl ⟨2, []⟩, .sl ⟨3, []⟩]), (1, .list .own .bool (kn.set v false)), (2, .list .own .int wd), (3, .list .own .int (fgtF of v))], 4⟩) := by
  refine trip_by (rs := []) 400 lay_ok Try.func110 rfl (by kernel_rfl) Try.ntmps110 Try.results110 rfl rfl ?_
  repeat' (first | (((with_reducible refine g_id ?_); (conv => arg 3; whnf)); first | (with_reducible refine g_fin ?_ ?_) | (refine g_flow 0 lay_ok mixed_ok 400 10240 [0, 1, 3, 7, 0, 0, 32, 96, 224, 0, 511, 1535, 4095, 8191] (.q 0 (.q 1 (.q 2 (.q 3 (.q 4 (.q 5 (.q 6 (.q 7 (.q 8 (.q 9 (.q 10 (.e 11 [9] (.q 12 (.e 13 [] (.fin) .stop)) .stop)))))))))))) (by kernel_rfl) ?_ ?_)) | (((with_reducible refine w_id ?_); (conv => arg 4; whnf)); first | (with_reducible refine w_fin ?_ ?_) | (with_reducible refine w_tt ?_) | (with_reducible refine w_eff lay_ok 400 ?_ rfl rfl ?_ ?_)) | (with_reducible refine q_flow ?_ ?_) | ((with_reducible refine h_id ?_); (conv => arg 1; whnf); (with_reducible refine s_some ?_)) | (with_reducible exact o_nil) | ((with_reducible refine o_id ?_); (conv => arg 1; whnf); first | (with_reducible exact o_nil) | (with_reducible refine o_cons ?_ ?_)) | rfl | omega | (rw [← fgtF_full, List.length_set]))
  refine g_loop lay_ok 400 (Z := Nat) (fun z => z ≤ of.length) (fun z => ⟨[(0, .ptr 0 0), (1, .int .i64 (v : Int)), (4, .int .i64 (z : Int))], [(0, .cells [.sl ⟨1, []⟩, .sl ⟨2, []⟩, .sl ⟨3, []⟩]), (1, .list .own .bool (kn.set v false)), (2, .list .own .int wd), (3, .list .own .int (mapTo (c := .int) (rpl (-1) (v : Int)) (of.set v (-1)) z))], 4⟩) (fun z => of.length - z) ?_ ⟨0, Nat.zero_le _, ?_⟩ (fun z hz => ?_)
  · repeat' (first | ((with_reducible refine o_id ?_); (conv => arg 1; whnf); first | (with_reducible exact o_nil)))
  · ((with_reducible refine s_id ?_); (conv => arg 1; whnf); (with_reducible refine s_some ?_); repeat' (first | ((with_reducible refine o_id ?_); (conv => arg 1; whnf); first | (with_reducible exact o_nil) | (with_reducible refine o_cons ?_ ?_)) | rfl))
  by_cases hlt : z < of.length
  · repeat' (first | (((with_reducible refine g_id ?_); (conv => arg 3; whnf)); first | (with_reducible refine g_cond lay_ok 400 ?_ ?_ ?_) | (with_reducible refine g_fin ?_ ?_)) | ((with_reducible refine o_id ?_); (conv => arg 1; whnf); first | (with_reducible exact o_nil) | (with_reducible refine o_cons ?_ ?_)) | (intro h; ((try simp only [Int.toNat_natCast] at h); repeat (first | replace h := of_decide_eq_true h | replace h := of_decide_eq_false h)); (try (first | (simp only [mapTo_len (c := .int), List.length_set] at h; exfalso; omega)))) | omega)
    all_goals (refine q_round ⟨z + 1, by omega, by omega, ?_⟩; ((with_reducible refine s_id ?_); (conv => arg 1; whnf); (with_reducible refine s_some ?_); repeat' (first | ((with_reducible refine o_id ?_); (conv => arg 1; whnf); first | (with_reducible exact o_nil) | (with_reducible refine o_cons ?_ ?_)) | rfl | (exact (mp_y (by rw [List.length_set]; omega) (by assumption)).symm) | (exact (mp_n (by rw [List.length_set]; omega) (by assumption)).symm))))
  · have e : z = of.length := by omega
    subst e
    repeat' (first | (((with_reducible refine g_id ?_); (conv => arg 3; whnf)); first | (with_reducible refine g_cond lay_ok 400 ?_ ?_ ?_) | (with_reducible refine g_fin ?_ ?_)) | (with_reducible refine q_leave lay_ok 400 ?_) | (with_reducible exact o_nil) | ((with_reducible refine o_id ?_); (conv => arg 1; whnf); first | (with_reducible exact o_nil)) | (intro h; ((try simp only [Int.toNat_natCast] at h); repeat (first | replace h := of_decide_eq_true h | replace h := of_decide_eq_false h)); (try (first | (simp only [mapTo_len (c := .int), List.length_set] at h; exfalso; omega)))))
    all_goals (((with_reducible refine e_id ?_); (conv => whnf)); refine ⟨(), trivial, ?_⟩; ((with_reducible refine s_id ?_); (conv => arg 1; whnf); (with_reducible refine s_some ?_); repeat' (first | ((with_reducible refine o_id ?_); (conv => arg 1; whnf); first | (with_reducible exact o_nil) | (with_reducible refine o_cons ?_ ?_)) | rfl)))
theorem r_useI (kn : List Bool) (wd of : List Int) (v : Int) (h0 : 0 ≤ v) (hk : v < (kn.length : Int)) (hv : v < (of.length : Int)) (hl : of.length ≤ 1048576) : Trip Try.prog 84 [.ptr 0 0, .int .i64 v] ⟨[], [(0, .cells [.sl ⟨1, []⟩, .sl ⟨2, []⟩, .sl ⟨3, []⟩]), (1, .list .own .bool kn), (2, .list .own .int wd), (3, .list .own .int of)], 4⟩ (Z := Unit) (fun _ => True) (fun _ => .int .i64 (useF of v.toNat)) (fun _ => ⟨[], [(0, .cells [.sl ⟨1, []⟩, .sl ⟨2, []⟩, .sl ⟨3, []⟩]), (1, .list .own .bool kn), (2, .list .own .int wd), (3, .list .own .int of)], 4⟩) := by
  obtain ⟨k, rfl⟩ := Int.eq_ofNat_of_zero_le h0
  exact r_use kn wd of k (by omega) (by omega) hl
theorem r_forgetI (kn : List Bool) (wd of : List Int) (v : Int) (h0 : 0 ≤ v) (hk : v < (kn.length : Int)) (hv : v < (of.length : Int)) (hl : of.length ≤ 1048576) : Trip Try.prog 110 [.ptr 0 0, .int .i64 v] ⟨[], [(0, .cells [.sl ⟨1, []⟩, .sl ⟨2, []⟩, .sl ⟨3, []⟩]), (1, .list .own .bool kn), (2, .list .own .int wd), (3, .list .own .int of)], 4⟩ (Z := Unit) (fun _ => True) (fun _ => .tup []) (fun _ => ⟨[], [(0, .cells [.sl ⟨1, []⟩, .sl ⟨2, []⟩, .sl ⟨3, []⟩]), (1, .list .own .bool (kn.set v.toNat false)), (2, .list .own .int wd), (3, .list .own .int (fgtF of v.toNat))], 4⟩) := by
  obtain ⟨k, rfl⟩ := Int.eq_ofNat_of_zero_le h0
  exact r_forget kn wd of k (by omega) (by omega) hl
end Go.Proofs.Ytonjbhdfimcedaa

/- N5 -/
namespace Go.Proofs.Ytonjbhdfimcedaa
set_option linter.unusedVariables false
set_option linter.unusedSimpArgs false
open Go.RowKit
abbrev FS := List Bool × List Int × List Int
/-- The operands replaced. -/
def useO (of : List Int) (o : Op_) : Op_ := if o.kind = 2 ∨ o.kind = 4 then ⟨o.kind, o.dst, useF of o.a.toNat, o.b, o.imm⟩ else if o.kind = 3 ∨ o.kind = 5 then ⟨o.kind, o.dst, useF of o.a.toNat, useF of o.b.toNat, o.imm⟩ else o
/-- What is known becomes a constant. -/
def cstO (kn : List Bool) (wd : List Int) (o : Op_) : Op_ :=
  if o.kind = 2 ∧ gt (c := .bool) kn o.a.toNat = true then ⟨1, o.dst, 0, 0, gt (c := .int) wd o.a.toNat⟩
  else if o.kind = 3 ∧ gt (c := .bool) kn o.a.toNat = true ∧ gt (c := .bool) kn o.b.toNat = true then ⟨1, o.dst, 0, 0, doI o.imm (gt (c := .int) wd o.a.toNat) (gt (c := .int) wd o.b.toNat)⟩ else o
/-- What is known behind an operation. -/
def updO (o : Op_) (s : FS) : FS :=
  if o.kind = 1 then ((s.1.set o.dst.toNat false).set o.dst.toNat true, s.2.1.set o.dst.toNat o.imm, fgtF s.2.2 o.dst.toNat)
  else if o.kind = 2 then (s.1.set o.dst.toNat false, s.2.1, if o.a = o.dst then fgtF s.2.2 o.dst.toNat else (fgtF s.2.2 o.dst.toNat).set o.dst.toNat o.a)
  else if o.kind = 3 ∨ o.kind = 4 then (s.1.set o.dst.toNat false, s.2.1, fgtF s.2.2 o.dst.toNat) else s
/-- An operation folded, and what is known behind it. -/
def fldO (o : Op_) (s : FS) : Op_ × FS := (cstO s.1 s.2.1 (useO s.2.2 o), updO (cstO s.1 s.2.1 (useO s.2.2 o)) s)
theorem useF_bd {of : List Int} {n v : Int} (h0 : 0 ≤ v) (hv : v < n) (hof : ∀ x ∈ of, x < n) (hl : v < (of.length : Int)) : 0 ≤ useF of v.toNat ∧ useF of v.toNat < n := by
  unfold useF
  split
  · rename_i h; exact ⟨h, hof _ (mem_gt (c := .int) (by omega))⟩
  · omega
theorem fgtF_len {of : List Int} {v : Nat} : (fgtF of v).length = of.length := by unfold fgtF; rw [List.length_map, List.length_set]
attribute [local irreducible] useF fgtF doI gt
set_option maxHeartbeats 4000000 in
theorem r_fold (kn : List Bool) (wd of : List Int) (o : Op_) (hw : wd.length = kn.length) (hf : of.length = kn.length) (hl : kn.length ≤ 1048576) (hof : ∀ x ∈ of, x < (kn.length : Int)) (hd : o.kind = 1 ∨ o.kind = 2 ∨ o.kind = 3 ∨ o.kind = 4 → 0 ≤ o.dst ∧ o.dst < (kn.length : Int)) (ha : o.kind = 2 ∨ o.kind = 3 ∨ o.kind = 4 ∨ o.kind = 5 → 0 ≤ o.a ∧ o.a < (kn.length : Int)) (hb : o.kind = 3 ∨ o.kind = 5 → 0 ≤ o.b ∧ o.b < (kn.length : Int)) (hi : o.kind = 3 → 1 ≤ o.imm ∧ o.imm ≤ 14) : Trip Try.prog 83 [.ptr 0 0, .agg [.int .i64 o.kind, .int .i64 o.dst, .int .i64 o.a, .int .i64 o.b, .int .i64 o.imm]] ⟨[], [(0, .cells [.sl ⟨1, []⟩, .sl ⟨2, []⟩, .sl ⟨3, []⟩]), (1, .list .own .bool kn), (2, .list .own .int wd), (3, .list .own .int of)], 4⟩ (Z := Op_ × FS) (fun z => fldO o (kn, wd, of) = z) (fun z => .agg [.int .i64 z.1.kind, .int .i64 z.1.dst, .int .i64 z.1.a, .int .i64 z.1.b, .int .i64 z.1.imm]) (fun z => ⟨[], [(0, .cells [.sl ⟨1, []⟩, .sl ⟨2, []⟩, .sl ⟨3, []⟩]), (1, .list .own .bool z.2.1), (2, .list .own .int z.2.2.1), (3, .list .own .int z.2.2.2)], 4⟩) := by
  obtain ⟨kd, dst, a, b, imm⟩ := o
  dsimp only at hd ha hb hi
  dsimp only
  have ua := fun (q : 0 ≤ a ∧ a < (kn.length : Int)) => useF_bd q.1 q.2 hof (by omega)
  have ub := fun (q : 0 ≤ b ∧ b < (kn.length : Int)) => useF_bd q.1 q.2 hof (by omega)
  refine trip_by (rs := [_]) 400 lay_ok Try.func83 rfl (by kernel_rfl) Try.ntmps83 Try.results83 rfl rfl ?_
  repeat' (first | (((with_reducible refine g_id ?_); (conv => arg 3; whnf)); first | (with_reducible refine g_cond lay_ok 400 ?_ ?_ ?_) | (with_reducible refine g_fin ?_ ?_) | (refine g_call lay_ok 400 ?_ ?_ ?_ (r_useI ?_ ?_ ?_ ?_ ?_ ?_ ?_ ?_) rfl) | (refine g_call lay_ok 400 ?_ ?_ ?_ (r_forgetI ?_ ?_ ?_ ?_ ?_ ?_ ?_ ?_) rfl) | (refine g_call lay_ok 400 ?_ ?_ ?_ (r_do ?_ ?_ ?_ ?_ ?_) rfl) | (refine g_flow 7 lay_ok mixed_ok 400 2696 [0, 0, 2, 7, 0, 0, 32, 127, 111, 511, 1023, 2047] (.q 0 (.q 1 (.q 2 (.q 4 (.q 5 (.q 6 (.e 3 [4, 5, 6] (.q 8 (.e 7 [8] (.e 9 [] (.q 10 (.e 11 [] (.fin) .stop)) .stop) .stop)) .stop))))))) (by kernel_rfl) ?_ ?_) | (refine g_flow 8 lay_ok mixed_ok 400 0 [0, 1, 3, 7, 15, 31, 63, 127, 15, 271, 1023, 2047, 4095] (.q 0 (.q 1 (.q 2 (.q 3 (.q 4 (.q 5 (.q 6 (.q 7 (.q 8 (.q 9 (.q 10 (.q 11 (.q 12 .fin))))))))))))) (by kernel_rfl) ?_ ?_) | (refine g_flow 9 lay_ok mixed_ok 400 2048 [0, 1, 0, 4, 12, 28, 0, 64, 252, 508, 1023, 2047] (.q 0 (.q 1 (.q 2 (.q 3 (.q 4 (.q 5 (.q 6 (.q 7 (.q 8 (.q 9 (.q 10 (.e 11 [] (.fin) .stop)))))))))))) (by kernel_rfl) ?_ ?_) | (refine g_flow 10 lay_ok mixed_ok 400 0 [0, 1, 3, 7, 15, 31, 63, 127, 15, 271, 1023, 2047, 4095, 8191, 16383, 32767, 65535, 131071, 16383, 278527, 1048575, 2097151, 4194303] (.q 0 (.q 1 (.q 2 (.q 3 (.q 4 (.q 5 (.q 6 (.q 7 (.q 8 (.q 9 (.q 10 (.q 11 (.q 12 (.q 13 (.q 14 (.q 15 (.q 16 (.q 17 (.q 18 (.q 19 (.q 20 (.q 21 (.q 22 .fin))))))))))))))))))))))) (by kernel_rfl) ?_ ?_) | (refine g_flow 11 lay_ok mixed_ok 400 262144 [0, 1, 0, 4, 12, 28, 0, 64, 252, 508, 0, 1024, 3072, 7168, 0, 16384, 64512, 130048, 262143, 524287, 1048575, 1048575, 2097151, 8388607] (.q 0 (.q 1 (.q 2 (.q 3 (.q 4 (.q 5 (.q 6 (.q 7 (.q 8 (.q 9 (.q 10 (.q 11 (.q 12 (.q 13 (.q 14 (.q 15 (.q 16 (.q 17 (.e 18 [] (.q 19 (.q 20 (.q 21 (.q 22 (.q 23 .fin))))) .stop))))))))))))))))))) (by kernel_rfl) ?_ ?_) | (refine g_flow 16 lay_ok mixed_ok 400 163840 [0, 1, 3, 7, 0, 16, 0, 64, 192, 448, 0, 1024, 0, 4096, 1023, 17407, 65535, 131071] (.q 0 (.q 1 (.q 2 (.q 3 (.q 4 (.q 5 (.q 6 (.q 7 (.q 8 (.q 9 (.q 10 (.q 11 (.q 12 (.q 13 (.q 14 (.e 15 [10, 11, 12, 13] (.q 16 (.e 17 [] (.fin) .stop)) .stop)))))))))))))))) (by kernel_rfl) ?_ ?_) | (refine g_flow 20 lay_ok mixed_ok 400 512 [0, 1, 3, 7, 0, 16, 0, 64, 255, 511] (.q 0 (.q 1 (.q 2 (.q 3 (.q 4 (.q 5 (.q 6 (.q 7 (.q 8 (.e 9 [] (.fin) .stop)))))))))) (by kernel_rfl) ?_ ?_)) | (((with_reducible refine w_id ?_); (conv => arg 4; whnf)); first | (with_reducible refine w_fin ?_ ?_) | (with_reducible refine w_split lay_ok 400 ?_ ?_ ?_) | (with_reducible refine w_tt ?_) | (with_reducible refine w_eff lay_ok 400 ?_ rfl rfl ?_ ?_)) | (with_reducible refine q_flow ?_ ?_) | ((with_reducible refine h_id ?_); (conv => arg 1; whnf); (with_reducible refine s_some ?_)) | (with_reducible exact o_nil) | ((with_reducible refine o_id ?_); (conv => arg 1; whnf); first | (with_reducible exact o_nil) | (with_reducible refine o_cons ?_ ?_)) | (intro h; ((try simp only [Int.toNat_natCast] at h); repeat (first | replace h := of_decide_eq_true h | replace h := of_decide_eq_false h | replace h := not_t h | replace h := not_f h)); (try (first | contradiction | (exfalso; omega)))) | rfl | omega | (simp only [fgtF_len, List.length_set, Int.toNat_natCast]; omega))
  all_goals (((with_reducible refine e_id ?_); (conv => whnf)); refine' ⟨(⟨_, _, _, _, _⟩, _, _, _), ?_, ?_⟩; rotate_right 1; (focus (((with_reducible refine s_id ?_); (conv => arg 1; whnf); (with_reducible refine s_some ?_); repeat' (first | ((with_reducible refine o_id ?_); (conv => arg 1; whnf); first | (with_reducible exact o_nil) | (with_reducible refine o_cons ?_ ?_)) | rfl)))); all_goals first | (simp [fldO, useO, cstO, updO, *]; done) | (subst h; simp [fldO, useO, cstO, updO, *]; done))
end Go.Proofs.Ytonjbhdfimcedaa

/- N6 -/
namespace Go.Proofs.Ytonjbhdfimcedaa
set_option linter.unusedVariables false
set_option linter.unusedSimpArgs false
open Go.RowKit
/-- The first z of n places without a copy. -/
def negL (n z : Nat) : List Int := List.replicate z (-1 : Int) ++ List.replicate (n - z) (0 : Int)
theorem negL_zero {n : Nat} : negL n 0 = List.replicate n (dflt .int) := rfl
theorem negL_len {n z : Nat} (h : z ≤ n) : (negL n z).length = n := by unfold negL; rw [List.length_append, List.length_replicate, List.length_replicate]; omega
theorem negL_set {n z : Nat} (h : z < n) : (negL n z).set z (-1) = negL n (z + 1) := by
  unfold negL
  have e : n - z = (n - (z + 1)) + 1 := by omega
  rw [List.set_append_right _ _ (by rw [List.length_replicate]; exact Nat.le_refl _), List.length_replicate, Nat.sub_self, e, List.replicate_succ, List.set_cons_zero, List.replicate_succ', List.append_assoc]
  rfl
theorem negL_full {n : Nat} : negL n n = List.replicate n (-1) := by unfold negL; rw [Nat.sub_self, List.replicate_zero, List.append_nil]
/-- An operation over n variables is right. -/
def OpOK (n : Nat) (o : Op_) : Prop := (o.kind = 1 ∨ o.kind = 2 ∨ o.kind = 3 ∨ o.kind = 4 → 0 ≤ o.dst ∧ o.dst < (n : Int)) ∧ (o.kind = 2 ∨ o.kind = 3 ∨ o.kind = 4 ∨ o.kind = 5 → 0 ≤ o.a ∧ o.a < (n : Int)) ∧ (o.kind = 3 ∨ o.kind = 5 → 0 ≤ o.b ∧ o.b < (n : Int)) ∧ (o.kind = 3 → 1 ≤ o.imm ∧ o.imm ≤ 14)
def InvF (n : Nat) (s : FS) : Prop := s.1.length = n ∧ s.2.1.length = n ∧ s.2.2.length = n ∧ ∀ x ∈ s.2.2, x < (n : Int)
theorem inv_fgt {n : Nat} {of : List Int} {v : Nat} (h : ∀ x ∈ of, x < (n : Int)) : ∀ x ∈ fgtF of v, x < (n : Int) := by
  intro x hx
  obtain ⟨y, hy, rfl⟩ := List.mem_map.1 (show x ∈ (of.set v (-1)).map (rpl (-1) (v : Int)) from hx)
  have h1 : (y : Int) < n := (List.mem_or_eq_of_mem_set hy).elim (h y) (fun e => by rw [e]; exact (by omega : (-1 : Int) < (n : Int)))
  show (if (y : Int) = v then (-1 : Int) else y) < n
  split <;> omega
theorem useO_kind {of : List Int} {o : Op_} : (useO of o).kind = o.kind := by unfold useO; split; rfl; split <;> rfl
theorem useO_dst {of : List Int} {o : Op_} : (useO of o).dst = o.dst := by unfold useO; split; rfl; split <;> rfl
theorem cstO_dst {kn : List Bool} {wd : List Int} {o : Op_} : (cstO kn wd o).dst = o.dst := by unfold cstO; split; rfl; split <;> rfl
theorem cstO_2 {kn : List Bool} {wd : List Int} {o : Op_} (h : (cstO kn wd o).kind = 2) : o.kind = 2 ∧ cstO kn wd o = o := by
  unfold cstO at h ⊢
  split
  · rename_i q; rw [if_pos q] at h; exact absurd h (by decide : ¬ (1 : Int) = 2)
  · rename_i q; rw [if_neg q] at h
    split
    · rename_i r; rw [if_pos r] at h; exact absurd h (by decide : ¬ (1 : Int) = 2)
    · rename_i r; rw [if_neg r] at h; exact ⟨h, rfl⟩
theorem fldO_inv {n : Nat} {s : FS} {o : Op_} (hs : InvF n s) (ho : OpOK n o) : InvF n (fldO o s).2 := by
  obtain ⟨kn, wd, of⟩ := s
  obtain ⟨h1, h2, h3, h4⟩ := hs
  obtain ⟨g1, g2, g3, g4⟩ := ho
  dsimp only at h1 h2 h3 h4
  have hf : ∀ v, ∀ x ∈ fgtF of v, x < (n : Int) := fun v => inv_fgt h4
  show InvF n (updO (cstO kn wd (useO of o)) (kn, wd, of))
  unfold updO InvF
  split
  · exact ⟨by simp [h1], by simp [h2], by rw [fgtF_len]; exact h3, hf _⟩
  · split
    · rename_i q
      obtain ⟨q1, q2⟩ := cstO_2 q
      rw [useO_kind] at q1
      refine ⟨by simp [h1], h2, ?_, ?_⟩
      · dsimp only; split
        · rw [fgtF_len]; exact h3
        · rw [List.length_set, fgtF_len]; exact h3
      · dsimp only; split
        · exact hf _
        · intro x hx
          rcases List.mem_or_eq_of_mem_set hx with hx | rfl
          · exact hf _ x hx
          · have ga := g2 (.inl q1)
            rw [q2]
            have e : (useO of o).a = useF of o.a.toNat := by unfold useO; rw [if_pos (.inl q1)]
            rw [e]
            exact (useF_bd ga.1 ga.2 h4 (by omega)).2
    · split
      · exact ⟨by simp [h1], h2, by rw [fgtF_len]; exact h3, hf _⟩
      · exact ⟨h1, h2, h3, h4⟩
/-- Operations folded one after the other. -/
def fldL : List Op_ → FS → List Op_ × FS
  | [], s => ([], s)
  | o :: l, s => ((fldO o s).1 :: (fldL l (fldO o s).2).1, (fldL l (fldO o s).2).2)
theorem fldL_len' : ∀ (l : List Op_) (s : FS), (fldL l s).1.length = l.length
  | [], s => rfl
  | x :: l, s => by show (fldL l (fldO x s).2).1.length + 1 = l.length + 1; rw [fldL_len' l]
theorem row_len {L : List Blk} {i z : Nat} {fs : FS} (hi : i < L.length) : (gt (c := .block) (L.set i ⟨(fldL ((gt (c := .block) L i).ops.take z) fs).1 ++ (gt (c := .block) L i).ops.drop z, (gt (c := .block) L i).cond, (gt (c := .block) L i).next⟩) i).ops.length = (gt (c := .block) L i).ops.length := by
  rw [gt_set (c := .block) hi]
  show ((fldL ((gt (c := .block) L i).ops.take z) fs).1 ++ (gt (c := .block) L i).ops.drop z).length = _
  rw [List.length_append, fldL_len', List.length_take, List.length_drop]; omega
theorem row_at {L : List Blk} {i z : Nat} {fs : FS} (hi : i < L.length) (hz : z < (gt (c := .block) L i).ops.length) : gt (c := .op) (gt (c := .block) (L.set i ⟨(fldL ((gt (c := .block) L i).ops.take z) fs).1 ++ (gt (c := .block) L i).ops.drop z, (gt (c := .block) L i).cond, (gt (c := .block) L i).next⟩) i).ops z = gt (c := .op) (gt (c := .block) L i).ops z := by
  rw [gt_set (c := .block) hi]
  show gt (c := .op) ((fldL ((gt (c := .block) L i).ops.take z) fs).1 ++ (gt (c := .block) L i).ops.drop z) z = _
  have hl : (fldL ((gt (c := .block) L i).ops.take z) fs).1.length = z := by rw [fldL_len', List.length_take]; omega
  refine gt_eq (c := .op) ?_
  rw [List.getElem?_append_right (by omega), hl, Nat.sub_self, List.getElem?_drop, Nat.add_zero]
  exact gt_at (c := .op) hz
theorem fldL_snoc : ∀ (l : List Op_) (o : Op_) (s : FS), fldL (l ++ [o]) s = ((fldL l s).1 ++ [(fldO o (fldL l s).2).1], (fldO o (fldL l s).2).2)
  | [], o, s => rfl
  | x :: l, o, s => by
    have h := fldL_snoc l o (fldO x s).2
    show ((fldO x s).1 :: (fldL (l ++ [o]) (fldO x s).2).1, (fldL (l ++ [o]) (fldO x s).2).2) = _
    rw [h]; rfl
def fs0 (n : Nat) : FS := (List.replicate n false, List.replicate n 0, List.replicate n (-1))
theorem fs0_inv {n : Nat} : InvF n (fs0 n) := ⟨List.length_replicate, List.length_replicate, List.length_replicate, fun x hx => by rw [List.eq_of_mem_replicate hx]; omega⟩
theorem fldL_inv {n : Nat} : ∀ (l : List Op_) (s : FS), InvF n s → (∀ o ∈ l, OpOK n o) → InvF n (fldL l s).2
  | [], s, hs, _ => hs
  | x :: l, s, hs, ho => fldL_inv l (fldO x s).2 (fldO_inv hs (ho x List.mem_cons_self)) fun y hy => ho y (List.mem_cons_of_mem x hy)
theorem step_fs {l : List Op_} {fs : FS} {z : Nat} {x : Op_} {r : Op_ × FS} (hz : z < l.length) (hx : x = gt (c := .op) l z) (e : fldO x ((fldL (l.take z) fs).2.1, (fldL (l.take z) fs).2.2.1, (fldL (l.take z) fs).2.2.2) = r) : fldL (l.take (z + 1)) fs = ((fldL (l.take z) fs).1 ++ [r.1], r.2) := by
  rw [take_snoc (c := .op) hz, fldL_snoc, ← hx]
  have : fldO x (fldL (l.take z) fs).2 = r := e
  rw [this]
theorem step_row {L : List Blk} {i z : Nat} {fs : FS} {r : Op_ × FS} (hi : i < L.length) (hz : z < (gt (c := .block) L i).ops.length) (e : fldL ((gt (c := .block) L i).ops.take (z + 1)) fs = ((fldL ((gt (c := .block) L i).ops.take z) fs).1 ++ [r.1], r.2)) :
    ((fldL ((gt (c := .block) L i).ops.take z) fs).1 ++ (gt (c := .block) L i).ops.drop z).set z r.1 = (fldL ((gt (c := .block) L i).ops.take (z + 1)) fs).1 ++ (gt (c := .block) L i).ops.drop (z + 1) := by
  have hl : (fldL ((gt (c := .block) L i).ops.take z) fs).1.length = z := by rw [fldL_len', List.length_take]; omega
  rw [e, List.set_append_right _ _ (by omega), hl, Nat.sub_self, List.drop_eq_getElem_cons hz, List.set_cons_zero, List.append_assoc]
  rfl
theorem fldL_len : ∀ (l : List Op_) (s : FS), (fldL l s).1.length = l.length
  | [], s => rfl
  | x :: l, s => by show (fldL l (fldO x s).2).1.length + 1 = l.length + 1; rw [fldL_len l]
end Go.Proofs.Ytonjbhdfimcedaa
