/- What is declared rightly: the program. -/
import Derived.Test.YtonjbhdfimcedaaMG
namespace Go.Proofs.Ytonjbhdfimcedaa
set_option linter.unusedVariables false
set_option linter.unusedSimpArgs false
open Go.RowKit
def sizB (n : Int) : Bool := decide (n = 1 ∨ n = 2 ∨ n = 4 ∨ n = 8 ∨ n = 16)
def badA (a : Arr) : Bool := !(sizB a.size)
def inpB (x : Inp) : Bool := decide (-2147483648 ≤ x.lo ∧ x.lo ≤ 2147483647 ∧ -2147483648 ≤ x.hi ∧ x.hi ≤ 2147483647 ∧ x.lo ≤ x.hi)
def decB (g : Grf) : Bool := decide (0 ≤ g.vars ∧ 0 ≤ g.keep ∧ g.keep ≤ g.vars ∧ (g.inp.length : Int) ≤ g.keep ∧ 0 ≤ g.shared ∧ g.shared ≤ (g.arrs.length : Int)) && (allN (fun k => inpB (gt (c := .input) g.inp k)) g.inp.length && !(g.arrs.any badA))
theorem dec_f1 {g : Grf} (h : ¬ (0 ≤ g.vars ∧ 0 ≤ g.keep ∧ g.keep ≤ g.vars ∧ (g.inp.length : Int) ≤ g.keep ∧ 0 ≤ g.shared ∧ g.shared ≤ (g.arrs.length : Int))) : decB g = false := by
  unfold decB; rw [decide_eq_false h]; rfl
theorem dec_f2 {g : Grf} {k : Nat} (hk : k < g.inp.length) (h : inpB (gt (c := .input) g.inp k) = false) : decB g = false := by
  unfold decB; rw [allN_no hk h, Bool.false_and, Bool.and_false]
theorem dec_is {g : Grf} (h : 0 ≤ g.vars ∧ 0 ≤ g.keep ∧ g.keep ≤ g.vars ∧ (g.inp.length : Int) ≤ g.keep ∧ 0 ≤ g.shared ∧ g.shared ≤ (g.arrs.length : Int)) (h2 : allN (fun k => inpB (gt (c := .input) g.inp k)) g.inp.length = true) : decB g = !(g.arrs.any badA) := by
  unfold decB; rw [decide_eq_true h, h2]; rfl
theorem pow_is {n : Int} (hc : 1 ≤ n ∧ n ≤ 16) : decide (bitI .and .i64 n (n - 1) = 0) = sizB n := by
  have hd : n = 1 ∨ n = 2 ∨ n = 3 ∨ n = 4 ∨ n = 5 ∨ n = 6 ∨ n = 7 ∨ n = 8 ∨ n = 9 ∨ n = 10 ∨ n = 11 ∨ n = 12 ∨ n = 13 ∨ n = 14 ∨ n = 15 ∨ n = 16 := by omega
  rcases hd with rfl | rfl | rfl | rfl | rfl | rfl | rfl | rfl | rfl | rfl | rfl | rfl | rfl | rfl | rfl | rfl <;> rfl
set_option maxHeartbeats 1000000 in
theorem c_power (n : Int) : Trip Try.prog 90 [.int .i64 n] ⟨[], [], 0⟩ (Z := Unit) (fun _ => True) (fun _ => .bool (sizB n)) (fun _ => ⟨[], [], 0⟩) := by
  by_cases hc : 1 ≤ n ∧ n ≤ 16
  · refine trip_by (rs := [_]) 400 lay_ok Try.func90 rfl (by kernel_rfl) Try.ntmps90 Try.results90 rfl rfl ?_
    repeat' (first | (((with_reducible refine g_id ?_); (conv => arg 3; whnf)); first | (with_reducible refine g_split lay_ok 400 ?_ ?_ ?_) | (with_reducible refine g_fin ?_ ?_) | (refine g_call lay_ok 400 ?_ ?_ ?_ (c_between ?_ ?_ ?_) rfl)) | ((with_reducible refine o_id ?_); (conv => arg 1; whnf); first | (with_reducible exact o_nil) | (with_reducible refine o_cons ?_ ?_)) | (intro h; ((try simp only [Int.toNat_natCast] at h); repeat (first | replace h := of_decide_eq_true h | replace h := of_decide_eq_false h)); (try (first | contradiction))) | rfl | omega)
    all_goals (((with_reducible refine e_id ?_); (conv => whnf)); refine ⟨(), trivial, ?_⟩; ((with_reducible refine s_id ?_); (conv => arg 1; whnf); (with_reducible refine s_some ?_); repeat' (first | ((with_reducible refine o_id ?_); (conv => arg 1; whnf); first | (with_reducible exact o_nil) | (with_reducible refine o_cons ?_ ?_)) | (exact (pow_is hc).symm))))
  · have e : sizB n = false := by unfold sizB; exact decide_eq_false (by omega)
    refine trip_by (rs := [_]) 400 lay_ok Try.func90 rfl (by kernel_rfl) Try.ntmps90 Try.results90 rfl rfl ?_
    repeat' (first | (((with_reducible refine g_id ?_); (conv => arg 3; whnf)); first | (with_reducible refine g_split lay_ok 400 ?_ ?_ ?_) | (with_reducible refine g_fin ?_ ?_) | (refine g_call lay_ok 400 ?_ ?_ ?_ (c_between ?_ ?_ ?_) rfl)) | ((with_reducible refine o_id ?_); (conv => arg 1; whnf); first | (with_reducible exact o_nil) | (with_reducible refine o_cons ?_ ?_)) | (intro h; ((try simp only [Int.toNat_natCast] at h); repeat (first | replace h := of_decide_eq_true h | replace h := of_decide_eq_false h)); (try (first | contradiction))) | rfl)
    all_goals (((with_reducible refine e_id ?_); (conv => whnf)); refine ⟨(), trivial, ?_⟩; ((with_reducible refine s_id ?_); (conv => arg 1; whnf); (with_reducible refine s_some ?_); repeat' (first | ((with_reducible refine o_id ?_); (conv => arg 1; whnf); first | (with_reducible exact o_nil) | (with_reducible refine o_cons ?_ ?_)) | omega)))
set_option maxHeartbeats 1000000 in
theorem r_size (n : Int) : Trip Try.prog 62 [.int .i64 n] ⟨[], [], 0⟩ (Z := Unit) (fun _ => True) (fun _ => .bool (sizB n)) (fun _ => ⟨[], [], 0⟩) := by
  refine trip_by (rs := [_]) 400 lay_ok Try.func62 rfl (by kernel_rfl) Try.ntmps62 Try.results62 rfl rfl ?_
  repeat' (first | (((with_reducible refine g_id ?_); (conv => arg 3; whnf)); first | (with_reducible refine g_split lay_ok 400 ?_ ?_ ?_) | (with_reducible refine g_fin ?_ ?_)) | ((with_reducible refine o_id ?_); (conv => arg 1; whnf); first | (with_reducible exact o_nil)) | (intro h; ((try simp only [Int.toNat_natCast] at h); repeat (first | replace h := of_decide_eq_true h | replace h := of_decide_eq_false h)); (try (first | contradiction))))
  all_goals (((with_reducible refine e_id ?_); (conv => whnf)); refine ⟨(), trivial, ?_⟩; ((with_reducible refine s_id ?_); (conv => arg 1; whnf); (with_reducible refine s_some ?_); repeat' (first | ((with_reducible refine o_id ?_); (conv => arg 1; whnf); first | (with_reducible exact o_nil) | (with_reducible refine o_cons ?_ ?_)) | (unfold sizB; exact decide_eq_true (by omega)) | (unfold sizB; exact decide_eq_decide.2 (by omega)))))
attribute [local irreducible] sizB
theorem c_decl1 (a : Arr) : Trip Try.prog 89 [.agg [.str a.name, .int .i64 a.size]] ⟨[], [], 0⟩ (Z := Unit) (fun _ => True) (fun _ => .bool (badA a)) (fun _ => ⟨[], [], 0⟩) := by
  refine trip_by (rs := [_]) 400 lay_ok Try.func89 rfl (by kernel_rfl) Try.ntmps89 Try.results89 rfl rfl ?_
  repeat' (first | (((with_reducible refine g_id ?_); (conv => arg 3; whnf)); first | (with_reducible refine g_fin ?_ ?_) | (refine g_call lay_ok 400 ?_ ?_ ?_ (c_power ?_) rfl)) | ((with_reducible refine o_id ?_); (conv => arg 1; whnf); first | (with_reducible exact o_nil) | (with_reducible refine o_cons ?_ ?_)) | (intro h; ((try simp only [Int.toNat_natCast] at h); repeat (first | replace h := of_decide_eq_true h)); (try (first | contradiction))) | rfl)
  all_goals (((with_reducible refine e_id ?_); (conv => whnf)); refine ⟨(), trivial, ?_⟩; ((with_reducible refine s_id ?_); (conv => arg 1; whnf); (with_reducible refine s_some ?_); repeat' (first | ((with_reducible refine o_id ?_); (conv => arg 1; whnf); first | (with_reducible exact o_nil) | (with_reducible refine o_cons ?_ ?_)) | rfl)))
attribute [local irreducible] badA
set_option maxHeartbeats 1000000 in
theorem i_decl1 (xs : List Arr) (hl : xs.length ≤ 9223372036854775807) : Trip Try.prog 115 [.sl ⟨0, []⟩, .clo 89 []] ⟨[], [(0, .list .tmp .array xs)], 1⟩ (Z := Int) (fun z => decide ((0 : Int) ≤ z) = xs.any badA) (fun z => .int .i64 z) (fun _ => ⟨[], [(0, .list .tmp .array xs)], 1⟩) := by
  refine trip_by (rs := [_]) 400 lay_ok Try.func115 rfl (by kernel_rfl) Try.ntmps115 Try.results115 rfl rfl ?_
  repeat' (first | (((with_reducible refine g_id ?_); (conv => arg 3; whnf)); first | (with_reducible refine g_split lay_ok 400 ?_ ?_ ?_)))
  refine g_loop lay_ok 400 (Z := Nat) (fun i => i ≤ xs.length ∧ ∀ k, k < i → badA (gt (c := .array) xs k) = false) (fun i => ⟨[(0, .sl ⟨0, []⟩), (1, .clo 89 []), (6, .sl ⟨0, []⟩), (7, .int .i64 (xs.length : Int)), (8, .int .i64 (i : Int))], [(0, .list .tmp .array xs)], 1⟩) (fun i => xs.length - i) ?_ ⟨0, ⟨Nat.zero_le _, fun k hk => by omega⟩, ?_⟩ (fun i hi => ?_)
  · repeat' (first | ((with_reducible refine o_id ?_); (conv => arg 1; whnf); first | (with_reducible exact o_nil)))
  · ((with_reducible refine s_id ?_); (conv => arg 1; whnf); (with_reducible refine s_some ?_); repeat' (first | ((with_reducible refine o_id ?_); (conv => arg 1; whnf); first | (with_reducible exact o_nil) | (with_reducible refine o_cons ?_ ?_)) | rfl))
  obtain ⟨hi, hn⟩ := hi
  repeat' (first | (((with_reducible refine g_id ?_); (conv => arg 3; whnf)); first | (with_reducible refine g_cond lay_ok 400 ?_ ?_ ?_) | (with_reducible refine g_fin ?_ ?_) | (refine g_call lay_ok 400 ?_ ?_ ?_ (c_decl1 ?_) rfl)) | (with_reducible refine q_leave lay_ok 400 ?_) | (with_reducible refine q_ret lay_ok 400 ?_) | (with_reducible exact o_nil) | ((with_reducible refine o_id ?_); (conv => arg 1; whnf); first | (with_reducible exact o_nil) | (with_reducible refine o_cons ?_ ?_)) | (intro h; ((try simp only [Int.toNat_natCast] at h); repeat (first | replace h := of_decide_eq_true h | replace h := of_decide_eq_false h)); (try (first | contradiction))) | rfl | omega)
  all_goals first | (refine q_round ⟨i + 1, ⟨by omega, gt_next (c := .array) hn (by assumption)⟩, by omega, ?_⟩; ((with_reducible refine s_id ?_); (conv => arg 1; whnf); (with_reducible refine s_some ?_); repeat' (first | ((with_reducible refine o_id ?_); (conv => arg 1; whnf); first | (with_reducible exact o_nil) | (with_reducible refine o_cons ?_ ?_)) | rfl))) | (((with_reducible refine e_id ?_); (conv => whnf)); refine ⟨(i : Int), found_gt (c := .array) (by omega) (by assumption), ?_⟩; ((with_reducible refine s_id ?_); (conv => arg 1; whnf); (with_reducible refine s_some ?_); repeat' (first | ((with_reducible refine o_id ?_); (conv => arg 1; whnf); first | (with_reducible exact o_nil) | (with_reducible refine o_cons ?_ ?_)) | rfl))) | (((with_reducible refine e_id ?_); (conv => whnf)); refine ⟨-1, none_gt (c := .array) hn (by omega), ?_⟩; ((with_reducible refine s_id ?_); (conv => arg 1; whnf); (with_reducible refine s_some ?_); repeat' (first | ((with_reducible refine o_id ?_); (conv => arg 1; whnf); first | (with_reducible exact o_nil) | (with_reducible refine o_cons ?_ ?_)) | rfl)))
set_option maxHeartbeats 1000000 in
theorem k_decl1 (xs : List Arr) (hl : xs.length ≤ 9223372036854775807) : Trip Try.prog 88 [.sl ⟨0, []⟩, .clo 89 []] ⟨[], [(0, .list .tmp .array xs)], 1⟩ (Z := Unit) (fun _ => True) (fun _ => .bool (xs.any badA)) (fun _ => ⟨[], [(0, .list .tmp .array xs)], 1⟩) := by
  refine trip_by (rs := [_]) 400 lay_ok Try.func88 rfl (by kernel_rfl) Try.ntmps88 Try.results88 rfl rfl ?_
  repeat' (first | (((with_reducible refine g_id ?_); (conv => arg 3; whnf)); first | (with_reducible refine g_fin ?_ ?_) | (refine g_call lay_ok 400 ?_ ?_ ?_ (i_decl1 ?_ ?_) rfl)) | ((with_reducible refine o_id ?_); (conv => arg 1; whnf); first | (with_reducible exact o_nil) | (with_reducible refine o_cons ?_ ?_)) | (intro h; ((try simp only [Int.toNat_natCast] at h); repeat (first | replace h := of_decide_eq_true h)); (try (first | contradiction))) | rfl | omega)
  all_goals ((((with_reducible refine e_id ?_); (conv => whnf)); refine ⟨(), trivial, ?_⟩; ((with_reducible refine s_id ?_); (conv => arg 1; whnf); (with_reducible refine s_some ?_); repeat' (first | ((with_reducible refine o_id ?_); (conv => arg 1; whnf); first | (with_reducible exact o_nil) | (with_reducible refine o_cons ?_ ?_)) | rfl))); exact h.symm)
end Go.Proofs.Ytonjbhdfimcedaa
