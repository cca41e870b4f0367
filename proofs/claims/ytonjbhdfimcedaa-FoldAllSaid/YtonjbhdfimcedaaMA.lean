/- Small tests. -/
import Derived.Test.YtonjbhdfimcedaaMP
import Derived.Test.YtonjbhdfimcedaaVL
import Derived.Test.YtonjbhdfimcedaaVM
import Derived.Test.YtonjbhdfimcedaaVQ
import Derived.Test.YtonjbhdfimcedaaVN
namespace Go.Proofs.Ytonjbhdfimcedaa
set_option linter.unusedVariables false
set_option linter.unusedSimpArgs false
open Go.RowKit
theorem c_between (n l h : Int) : Trip Try.prog 86 [.int .i64 n, .int .i64 l, .int .i64 h] ⟨[], [], 0⟩ (Z := Unit) (fun _ => True) (fun _ => .bool (decide (l ≤ n ∧ n ≤ h))) (fun _ => ⟨[], [], 0⟩) := by
  refine trip_by (rs := [_]) 400 lay_ok Try.func86 rfl (by kernel_rfl) Try.ntmps86 Try.results86 rfl rfl ?_
  repeat' (first | (((with_reducible refine g_id ?_); (conv => arg 3; whnf)); first | (with_reducible refine g_split lay_ok 400 ?_ ?_ ?_) | (with_reducible refine g_fin ?_ ?_)) | ((with_reducible refine o_id ?_); (conv => arg 1; whnf); first | (with_reducible exact o_nil)) | (intro h; ((try simp only [Int.toNat_natCast] at h); repeat (first | replace h := of_decide_eq_true h | replace h := of_decide_eq_false h)); (try (first | contradiction))))
  all_goals (((with_reducible refine e_id ?_); (conv => whnf)); refine ⟨(), trivial, ?_⟩; ((with_reducible refine s_id ?_); (conv => arg 1; whnf); (with_reducible refine s_some ?_); repeat' (first | ((with_reducible refine o_id ?_); (conv => arg 1; whnf); first | (with_reducible exact o_nil) | (with_reducible refine o_cons ?_ ?_)))))
  all_goals grind
theorem r_in (n h : Int) : Trip Try.prog 64 [.int .i64 n, .int .i64 h] ⟨[], [], 0⟩ (Z := Unit) (fun _ => True) (fun _ => .bool (decide (0 ≤ n ∧ n < h))) (fun _ => ⟨[], [], 0⟩) := by
  refine trip_by (rs := [_]) 400 lay_ok Try.func64 rfl (by kernel_rfl) Try.ntmps64 Try.results64 rfl rfl ?_
  repeat' (first | (((with_reducible refine g_id ?_); (conv => arg 3; whnf)); first | (with_reducible refine g_split lay_ok 400 ?_ ?_ ?_) | (with_reducible refine g_fin ?_ ?_)) | ((with_reducible refine o_id ?_); (conv => arg 1; whnf); first | (with_reducible exact o_nil)) | (intro h; ((try simp only [Int.toNat_natCast] at h); repeat (first | replace h := of_decide_eq_true h | replace h := of_decide_eq_false h)); (try (first | contradiction))))
  all_goals (((with_reducible refine e_id ?_); (conv => whnf)); refine ⟨(), trivial, ?_⟩; ((with_reducible refine s_id ?_); (conv => arg 1; whnf); (with_reducible refine s_some ?_); repeat' (first | ((with_reducible refine o_id ?_); (conv => arg 1; whnf); first | (with_reducible exact o_nil) | (with_reducible refine o_cons ?_ ?_)))))
  all_goals grind
theorem c_isW (n : Int) : Trip Try.prog 87 [.int .i64 n] ⟨[], [], 0⟩ (Z := Unit) (fun _ => True) (fun _ => .bool (decide (-2147483648 ≤ n ∧ n ≤ 2147483647))) (fun _ => ⟨[], [], 0⟩) := by
  refine trip_by (rs := [_]) 400 lay_ok Try.func87 rfl (by kernel_rfl) Try.ntmps87 Try.results87 rfl rfl ?_
  repeat' (first | (((with_reducible refine g_id ?_); (conv => arg 3; whnf)); first | (with_reducible refine g_split lay_ok 400 ?_ ?_ ?_) | (with_reducible refine g_fin ?_ ?_)) | ((with_reducible refine o_id ?_); (conv => arg 1; whnf); first | (with_reducible exact o_nil)) | (intro h; ((try simp only [Int.toNat_natCast] at h); repeat (first | replace h := of_decide_eq_true h | replace h := of_decide_eq_false h)); (try (first | contradiction))))
  all_goals (((with_reducible refine e_id ?_); (conv => whnf)); refine ⟨(), trivial, ?_⟩; ((with_reducible refine s_id ?_); (conv => arg 1; whnf); (with_reducible refine s_some ?_); repeat' (first | ((with_reducible refine o_id ?_); (conv => arg 1; whnf); first | (with_reducible exact o_nil) | (with_reducible refine o_cons ?_ ?_)))))
  all_goals grind
theorem r_isW (n : Int) : Trip Try.prog 33 [.int .i64 n] ⟨[], [], 0⟩ (Z := Unit) (fun _ => True) (fun _ => .bool (decide (-2147483648 ≤ n ∧ n ≤ 2147483647))) (fun _ => ⟨[], [], 0⟩) := by
  refine trip_by (rs := [_]) 400 lay_ok Try.func33 rfl (by kernel_rfl) Try.ntmps33 Try.results33 rfl rfl ?_
  repeat' (first | (((with_reducible refine g_id ?_); (conv => arg 3; whnf)); first | (with_reducible refine g_split lay_ok 400 ?_ ?_ ?_) | (with_reducible refine g_fin ?_ ?_)) | ((with_reducible refine o_id ?_); (conv => arg 1; whnf); first | (with_reducible exact o_nil)) | (intro h; ((try simp only [Int.toNat_natCast] at h); repeat (first | replace h := of_decide_eq_true h | replace h := of_decide_eq_false h)); (try (first | contradiction))))
  all_goals (((with_reducible refine e_id ?_); (conv => whnf)); refine ⟨(), trivial, ?_⟩; ((with_reducible refine s_id ?_); (conv => arg 1; whnf); (with_reducible refine s_some ?_); repeat' (first | ((with_reducible refine o_id ?_); (conv => arg 1; whnf); first | (with_reducible exact o_nil) | (with_reducible refine o_cons ?_ ?_)))))
  all_goals grind
theorem c_knownO (n : Int) : Trip Try.prog 114 [.int .i64 n] ⟨[], [], 0⟩ (Z := Unit) (fun _ => True) (fun _ => .bool (decide (1 ≤ n ∧ n ≤ 14))) (fun _ => ⟨[], [], 0⟩) := by
  refine trip_by (rs := [_]) 400 lay_ok Try.func114 rfl (by kernel_rfl) Try.ntmps114 Try.results114 rfl rfl ?_
  repeat' (first | (((with_reducible refine g_id ?_); (conv => arg 3; whnf)); first | (with_reducible refine g_split lay_ok 400 ?_ ?_ ?_) | (with_reducible refine g_fin ?_ ?_)) | ((with_reducible refine o_id ?_); (conv => arg 1; whnf); first | (with_reducible exact o_nil)) | (intro h; ((try simp only [Int.toNat_natCast] at h); repeat (first | replace h := of_decide_eq_true h | replace h := of_decide_eq_false h)); (try (first | contradiction))))
  all_goals (((with_reducible refine e_id ?_); (conv => whnf)); refine ⟨(), trivial, ?_⟩; ((with_reducible refine s_id ?_); (conv => arg 1; whnf); (with_reducible refine s_some ?_); repeat' (first | ((with_reducible refine o_id ?_); (conv => arg 1; whnf); first | (with_reducible exact o_nil) | (with_reducible refine o_cons ?_ ?_)))))
  all_goals grind
theorem r_knownO (n : Int) : Trip Try.prog 118 [.int .i64 n] ⟨[], [], 0⟩ (Z := Unit) (fun _ => True) (fun _ => .bool (decide (1 ≤ n ∧ n ≤ 14))) (fun _ => ⟨[], [], 0⟩) := by
  refine trip_by (rs := [_]) 400 lay_ok Try.func118 rfl (by kernel_rfl) Try.ntmps118 Try.results118 rfl rfl ?_
  repeat' (first | (((with_reducible refine g_id ?_); (conv => arg 3; whnf)); first | (with_reducible refine g_split lay_ok 400 ?_ ?_ ?_) | (with_reducible refine g_fin ?_ ?_)) | ((with_reducible refine o_id ?_); (conv => arg 1; whnf); first | (with_reducible exact o_nil)) | (intro h; ((try simp only [Int.toNat_natCast] at h); repeat (first | replace h := of_decide_eq_true h | replace h := of_decide_eq_false h)); (try (first | contradiction))))
  all_goals (((with_reducible refine e_id ?_); (conv => whnf)); refine ⟨(), trivial, ?_⟩; ((with_reducible refine s_id ?_); (conv => arg 1; whnf); (with_reducible refine s_some ?_); repeat' (first | ((with_reducible refine o_id ?_); (conv => arg 1; whnf); first | (with_reducible exact o_nil) | (with_reducible refine o_cons ?_ ?_)))))
  all_goals grind
end Go.Proofs.Ytonjbhdfimcedaa
