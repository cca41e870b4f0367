/- Operations that are right: the program, second part. -/
import Derived.Test.YtonjbhdfimcedaaMB
namespace Go.Proofs.Ytonjbhdfimcedaa
set_option linter.unusedVariables false
set_option linter.unusedSimpArgs false
open Go.RowKit
theorem sl_1 {hi a : Int} : (!([a].any (slN hi))) = decide (0 ≤ a ∧ a ≤ hi) := by
  simp only [List.any_cons, List.any_nil, Bool.or_false, slN, Bool.not_not]
theorem sl_2 {hi a b : Int} : (!([a, b].any (slN hi))) = decide ((0 ≤ a ∧ a ≤ hi) ∧ 0 ≤ b ∧ b ≤ hi) := by
  simp only [List.any_cons, List.any_nil, Bool.or_false, slN, Bool.not_or, Bool.not_not, Bool.decide_and]
theorem sl_3 {hi a b c : Int} : (!([a, b, c].any (slN hi))) = decide ((0 ≤ a ∧ a ≤ hi) ∧ (0 ≤ b ∧ b ≤ hi) ∧ 0 ≤ c ∧ c ≤ hi) := by
  simp only [List.any_cons, List.any_nil, Bool.or_false, slN, Bool.not_or, Bool.not_not, Bool.decide_and]
attribute [local irreducible] slN
set_option maxHeartbeats 4000000 in
theorem c_oper (g : Grf) (o : Op_) (ha : g.arrs.length ≤ 9223372036854775807) : Trip Try.prog 85 [.agg [.sl ⟨0, []⟩, .int .i64 g.vars, .int .i64 g.keep, .sl ⟨1, []⟩, .int .i64 g.shared, .sl ⟨2, []⟩, .sl ⟨3, []⟩, .sl ⟨4, []⟩], .agg [.int .i64 o.kind, .int .i64 o.dst, .int .i64 o.a, .int .i64 o.b, .int .i64 o.imm]] ⟨[], [(0, .list .tmp .input g.inp), (1, .list .tmp .array g.arrs), (2, .list .tmp .block g.blks), (3, .list .tmp .ints g.pts), (4, .list .tmp .head g.hds)], 5⟩ (Z := Unit) (fun _ => True) (fun _ => .bool (opB (hiG g.vars) g.arrs.length o)) (fun _ => ⟨[], [(0, .list .tmp .input g.inp), (1, .list .tmp .array g.arrs), (2, .list .tmp .block g.blks), (3, .list .tmp .ints g.pts), (4, .list .tmp .head g.hds)], 5⟩) := by
  refine trip_by (rs := [_]) 400 lay_ok Try.func85 rfl (by kernel_rfl) Try.ntmps85 Try.results85 rfl rfl ?_
  repeat' (first | (((with_reducible refine g_id ?_); (conv => arg 3; whnf)); first | (with_reducible refine g_split lay_ok 400 ?_ ?_ ?_) | (with_reducible refine g_cond lay_ok 400 ?_ ?_ ?_) | (with_reducible refine g_fin ?_ ?_) | (refine g_call lay_ok 400 ?_ ?_ ?_ (c_op1 ?_ ?_ ?_) rfl) | (refine g_call lay_ok 400 ?_ ?_ ?_ (c_isW ?_) rfl) | (refine g_call lay_ok 400 ?_ ?_ ?_ (c_knownO ?_) rfl) | (refine g_call lay_ok 400 ?_ ?_ ?_ (c_between ?_ ?_ ?_) rfl)) | (with_reducible exact o_nil) | ((with_reducible refine o_id ?_); (conv => arg 1; whnf); first | (with_reducible exact o_nil) | (with_reducible refine o_cons ?_ ?_)) | (intro h; ((try simp only [Int.toNat_natCast, sl_1, sl_2, sl_3] at h); repeat (first | replace h := of_decide_eq_true h | replace h := of_decide_eq_false h)); (try (first | contradiction))) | rfl | omega | (simp only [List.length_append, List.length_cons, List.length_nil]; omega))
  all_goals (((with_reducible refine e_id ?_); (conv => whnf)); refine ⟨(), trivial, ?_⟩; ((with_reducible refine s_id ?_); (conv => arg 1; whnf); (with_reducible refine s_some ?_); repeat' (first | ((with_reducible refine o_id ?_); (conv => arg 1; whnf); first | (with_reducible exact o_nil) | (with_reducible refine o_cons ?_ ?_)) | rfl | (unfold opB; exact decide_eq_false (by omega)) | (unfold opB; exact decide_eq_decide.2 (by omega)))))
end Go.Proofs.Ytonjbhdfimcedaa
