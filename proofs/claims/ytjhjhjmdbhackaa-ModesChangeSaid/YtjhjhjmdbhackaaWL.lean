/- The example of chapter 41. -/
import Derived.Test.YtjhjhjmdbhackaaWK
namespace Go.Proofs.Ytjhjhjmdbhackaa
set_option linter.unusedVariables false
set_option linter.unusedSimpArgs false
open Go.RowKit
def exJ : List Job := [⟨5, 5, 0, 2, 2, [], 0⟩, ⟨20, 20, 0, 1, 3, [], 0⟩]
def x0 : Par := ⟨0, 0, 0, 0, 0, 0, 0, 0⟩
def exA : List Answer := [⟨0, 2⟩, ⟨0, 5⟩]
theorem ex_small : Small exJ := ⟨by decide, fun j hj => by simp only [exJ, List.mem_cons, List.not_mem_nil, or_false] at hj; rcases hj with rfl | rfl <;> decide⟩
theorem ex_all : allJ exJ x0 = (exA, 0) := by kernel_rfl
theorem ex_check : checkJ exJ x0 exA = 0 := by kernel_rfl
theorem c_all_ex : Trip Try.prog 38 [.sl ⟨0, []⟩, .agg [.int .i64 0, .int .i64 0, .int .i64 0, .int .i64 0, .int .i64 0, .int .i64 0], .int .i64 0, .int .i64 0] ⟨[], [(0, .list .tmp .job [⟨5, 5, 0, 2, 2, [], 0⟩, ⟨20, 20, 0, 1, 3, [], 0⟩])], 1⟩ (Z := Unit) (fun _ => True) (fun _ => .tup [.sl ⟨1, []⟩, .int .i64 0]) (fun _ => ⟨[], [(0, .list .tmp .job [⟨5, 5, 0, 2, 2, [], 0⟩, ⟨20, 20, 0, 1, 3, [], 0⟩]), (1, .list .own .answer [⟨0, 2⟩, ⟨0, 5⟩])], 2⟩) := by
  have h := c_all exJ x0 ex_small
  rw [ex_all] at h
  exact h
theorem c_check_ex : Trip Try.prog 36 [.sl ⟨0, []⟩, .agg [.int .i64 0, .int .i64 0, .int .i64 0, .int .i64 0, .int .i64 0, .int .i64 0], .int .i64 0, .int .i64 0, .sl ⟨1, []⟩] ⟨[], [(0, .list .tmp .job [⟨5, 5, 0, 2, 2, [], 0⟩, ⟨20, 20, 0, 1, 3, [], 0⟩]), (1, .list .tmp .answer [⟨0, 2⟩, ⟨0, 5⟩])], 2⟩ (Z := Unit) (fun _ => True) (fun _ => .int .i64 0) (fun _ => ⟨[], [(0, .list .tmp .job [⟨5, 5, 0, 2, 2, [], 0⟩, ⟨20, 20, 0, 1, 3, [], 0⟩]), (1, .list .tmp .answer [⟨0, 2⟩, ⟨0, 5⟩])], 2⟩) := by
  have h := c_check exJ x0 exA ex_small (by decide)
  rw [ex_check] at h
  exact h
set_option maxHeartbeats 2000000 in
theorem c_awake41  : Trip Try.prog 34 [] ⟨[], [], 0⟩ (Z := Unit) (fun _ => True) (fun _ => .bool true) (fun _ => ⟨[], [], 0⟩) := by
  refine trip_by (rs := [_]) 400 lay_ok Try.func34 rfl (by kernel_rfl) Try.ntmps34 Try.results34 rfl rfl ?_
  repeat' (first | (((with_reducible refine g_id ?_); (conv => arg 3; whnf)); first | (with_reducible refine g_split lay_ok 400 ?_ ?_ ?_) | (with_reducible refine g_cond lay_ok 400 ?_ ?_ ?_) | (with_reducible refine g_out lay_ok 400 ?_ ?_) | (with_reducible refine g_fin ?_ ?_) | (refine g_call lay_ok 400 ?_ ?_ ?_ (c_all_ex) rfl) | (refine g_call lay_ok 400 ?_ ?_ ?_ (c_check_ex) rfl)) | (with_reducible refine q_leave lay_ok 400 ?_) | (with_reducible refine q_ret lay_ok 400 ?_) | (with_reducible exact o_nil) | (with_reducible refine o_cons ?_ ?_) | ((with_reducible refine o_id ?_); (conv => arg 1; whnf); first | (with_reducible exact o_nil) | (with_reducible refine o_cons ?_ ?_)) | (intro h; ((try simp only [Int.toNat_natCast] at h); repeat (first | replace h := of_decide_eq_true h | replace h := of_decide_eq_false h | replace h := not_t h | replace h := not_f h | replace h := eq_of_beq h)); (try (first | contradiction | (exfalso; omega) | exact Bool.noConfusion (h.symm.trans (by assumption) : true = false) | exact Bool.noConfusion (h.symm.trans (by assumption) : false = true) | exact absurd rfl h | exact absurd (by assumption) h | exact absurd h (by assumption)))) | rfl | omega | assumption | (simp only [List.length_append, List.length_cons, List.length_nil]; omega))
  all_goals (((with_reducible refine e_id ?_); (conv => whnf)); refine ⟨(), trivial, ?_⟩; ((with_reducible refine s_id ?_); (conv => arg 1; whnf); (with_reducible refine s_some ?_); repeat' (first | (with_reducible exact o_nil) | (with_reducible refine o_cons ?_ ?_) | ((with_reducible refine o_id ?_); (conv => arg 1; whnf); first | (with_reducible exact o_nil) | (with_reducible refine o_cons ?_ ?_)) | rfl | omega | assumption | (simp only [List.length_append, List.length_cons, List.length_nil]; omega))))
end Go.Proofs.Ytjhjhjmdbhackaa
