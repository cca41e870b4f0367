/- The example of chapter 33. -/
import Derived.Test.YtkageldgmkajbaaJH
namespace Go.Proofs.Ytkageldgmkajbaa
set_option linter.unusedVariables false
set_option linter.unusedSimpArgs false
open Go.RowKit
def exM : Mdl := ⟨2, [⟨[⟨0, 2⟩, ⟨1, 2⟩], 3⟩], [⟨0, 1⟩, ⟨1, 1⟩], 0⟩
theorem ex_gd : Gd exM := ⟨by decide, by kernel_rfl, by decide, by decide, by kernel_rfl⟩
theorem ex_sol : solM exM [3, 3] = (1, [0, 1], 0) := by kernel_rfl
attribute [local irreducible] solM
theorem c_solve_ex  : Trip Try.prog 13 [.agg [.int .i64 2, .sl ⟨0, []⟩, .sl ⟨1, []⟩, .int .i64 0], .sl ⟨2, []⟩] ⟨[], [(0, .list .tmp .row [⟨[⟨0, 2⟩, ⟨1, 2⟩], 3⟩]), (1, .list .tmp .term [⟨0, 1⟩, ⟨1, 1⟩]), (2, .list .tmp .int [3, 3])], 3⟩ (Z := Unit) (fun _ => True) (fun _ => .tup [.int .i64 1, .sl ⟨3, []⟩, .int .i64 0]) (fun _ => ⟨[], [(0, .list .tmp .row [⟨[⟨0, 2⟩, ⟨1, 2⟩], 3⟩]), (1, .list .tmp .term [⟨0, 1⟩, ⟨1, 1⟩]), (2, .list .tmp .int [3, 3]), (3, .list .own .int [0, 1])], 4⟩) := by
  have h := c_solve exM [3, 3] ex_gd (by decide) (by decide)
  rw [ex_sol] at h
  exact h
theorem c_awake33  : Trip Try.prog 6 [] ⟨[], [], 0⟩ (Z := Unit) (fun _ => True) (fun _ => .bool true) (fun _ => ⟨[], [], 0⟩) := by
  refine trip_by (rs := [_]) 13 lay_ok Try.func6 rfl (by kernel_rfl) Try.ntmps6 Try.results6 rfl rfl ?_
  ((with_reducible refine g_id ?_); (conv => arg 3; whnf))
  refine g_ownS lay_ok 2 10 .term ?_ rfl ?_ ?_
  · repeat' (first | (with_reducible exact o_nil) | (with_reducible refine o_cons ?_ ?_) | ((with_reducible refine o_id ?_); (conv => arg 1; whnf); first | (with_reducible exact o_nil) | (with_reducible refine o_cons ?_ ?_)) | rfl | omega | assumption | (simp only [List.length_append, List.length_cons, List.length_nil]; omega) | (simp only [Int.toNat_natCast]; omega))
  · repeat' (first | (with_reducible exact o_nil) | (with_reducible refine o_cons ?_ ?_) | ((with_reducible refine o_id ?_); (conv => arg 1; whnf); first | (with_reducible exact o_nil) | (with_reducible refine o_cons ?_ ?_)) | rfl | omega | assumption | (simp only [List.length_append, List.length_cons, List.length_nil]; omega) | (simp only [Int.toNat_natCast]; omega))
  ((with_reducible refine g_id ?_); (conv => arg 3; whnf))
  refine g_ownS lay_ok 400 12 .row ?_ rfl ?_ ?_
  · repeat' (first | (with_reducible exact o_nil) | (with_reducible refine o_cons ?_ ?_) | ((with_reducible refine o_id ?_); (conv => arg 1; whnf); first | (with_reducible exact o_nil) | (with_reducible refine o_cons ?_ ?_)) | rfl | omega | assumption | (simp only [List.length_append, List.length_cons, List.length_nil]; omega) | (simp only [Int.toNat_natCast]; omega))
  · repeat' (first | (with_reducible exact o_nil) | (with_reducible refine o_cons ?_ ?_) | ((with_reducible refine o_id ?_); (conv => arg 1; whnf); first | (with_reducible exact o_nil) | (with_reducible refine o_cons ?_ ?_)) | rfl | omega | assumption | (simp only [List.length_append, List.length_cons, List.length_nil]; omega) | (simp only [Int.toNat_natCast]; omega))
  repeat' (first | (((with_reducible refine g_id ?_); (conv => arg 3; whnf)); first | (with_reducible refine g_split lay_ok 400 ?_ ?_ ?_) | (with_reducible refine g_cond lay_ok 400 ?_ ?_ ?_) | (with_reducible refine g_out lay_ok 400 ?_ ?_) | (with_reducible refine g_fin ?_ ?_) | (refine g_call lay_ok 400 ?_ ?_ ?_ (c_solve_ex) rfl)) | (with_reducible refine q_leave lay_ok 400 ?_) | (with_reducible refine q_ret lay_ok 400 ?_) | (with_reducible exact o_nil) | (with_reducible refine o_cons ?_ ?_) | ((with_reducible refine o_id ?_); (conv => arg 1; whnf); first | (with_reducible exact o_nil) | (with_reducible refine o_cons ?_ ?_)) | (intro h; ((try simp only [Int.toNat_natCast] at h); repeat (first | replace h := of_decide_eq_true h | replace h := of_decide_eq_false h | replace h := not_t h | replace h := not_f h | replace h := eq_of_beq h)); (try (first | contradiction | (exfalso; omega) | exact Bool.noConfusion (h.symm.trans (by assumption) : true = false) | exact Bool.noConfusion (h.symm.trans (by assumption) : false = true) | exact absurd rfl h | exact absurd (by assumption) h | exact absurd h (by assumption) | (simp only [Int.toNat_natCast] at h; exfalso; omega)))) | rfl | omega | assumption | (simp only [List.length_append, List.length_cons, List.length_nil]; omega) | (simp only [Int.toNat_natCast]; omega))
  all_goals (((with_reducible refine e_id ?_); (conv => whnf)); refine ⟨(), trivial, ?_⟩; ((with_reducible refine s_id ?_); (conv => arg 1; whnf); (with_reducible refine s_some ?_); repeat' (first | (with_reducible exact o_nil) | (with_reducible refine o_cons ?_ ?_) | ((with_reducible refine o_id ?_); (conv => arg 1; whnf); first | (with_reducible exact o_nil) | (with_reducible refine o_cons ?_ ?_)) | rfl | omega | assumption | (simp only [List.length_append, List.length_cons, List.length_nil]; omega))))
end Go.Proofs.Ytkageldgmkajbaa
