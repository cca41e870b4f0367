/- The example of merging; any graph. -/
import Derived.Test.YtonjbhdfimcedaaM2
namespace Go.Proofs.Ytonjbhdfimcedaa
set_option linter.unusedVariables false
set_option linter.unusedSimpArgs false
open Go.RowKit
def g3 : Grf := ⟨[], 0, 0, [], 0, [⟨[], 0, [1]⟩, ⟨[], 0, [2]⟩, ⟨[], 0, []⟩], [], []⟩
theorem g3_chk : chkG g3 = 0 := by kernel_rfl
theorem g3_rows : rowsL (mrgG g3).2 = [[0], [0], [0]] := by kernel_rfl
theorem g3_len : (mrgG g3).1.blks.length = 1 := by kernel_rfl
theorem g3_bnd : Bnd g3 := ⟨by decide, by decide, by decide, by decide, by decide, by decide, by decide, by decide, by decide⟩
attribute [local irreducible] mrgG rowsL chkG opsN
set_option maxHeartbeats 4000000 in
set_option maxRecDepth 4000 in
theorem c_awake16  : Trip Try.prog 23 [] ⟨[], [], 0⟩ (Z := Unit) (fun _ => True) (fun _ => .tf true) (fun _ => ⟨[], [], 0⟩) := by
  refine trip_by (rs := [_]) 400 lay_ok Try.func23 rfl (by kernel_rfl) Try.ntmps23 Try.results23 rfl rfl ?_
  ((with_reducible refine g_id ?_); (conv => arg 3; whnf))
  refine g_ownC lay_ok 400 2 2 .int ?_ rfl ?_ ?_
  · repeat' (first | ((with_reducible refine o_id ?_); (conv => arg 1; whnf); first | (with_reducible exact o_nil)))
  · repeat' (first | ((with_reducible refine o_id ?_); (conv => arg 1; whnf); first | (with_reducible exact o_nil)))
  ((with_reducible refine g_id ?_); (conv => arg 3; whnf))
  refine g_ownC lay_ok 400 2 5 .int ?_ rfl ?_ ?_
  · repeat' (first | (with_reducible exact o_nil))
  · repeat' (first | ((with_reducible refine o_id ?_); (conv => arg 1; whnf); first | (with_reducible exact o_nil)))
  ((with_reducible refine g_id ?_); (conv => arg 3; whnf))
  refine g_wk lay_ok 400 (t := ⟨[(0, .tf false), (11, .agg [.val (.slice none 0 0), .int .i64 0, .int .i64 0, .val (.slice none 0 0), .int .i64 0, .sl ⟨0, []⟩, .val (.slice none 0 0), .val (.slice none 0 0)])], [(0, .list .own .block g3.blks)], 1⟩) ?_ ?_ ?_
  · repeat' (first | (with_reducible exact o_nil))
  · ((with_reducible refine s_id ?_); (conv => arg 1; whnf); (with_reducible refine s_some ?_); repeat' (first | ((with_reducible refine o_id ?_); (conv => arg 1; whnf); first | (with_reducible exact o_nil) | (with_reducible refine o_cons ?_ ?_)) | rfl))
  ((with_reducible refine g_id ?_); (conv => arg 3; whnf))
  refine g_wk lay_ok 400 (t := ⟨[(0, .tf false), (11, .agg [.val (.slice none 0 0), .int .i64 0, .int .i64 0, .val (.slice none 0 0), .int .i64 0, .sl ⟨0, []⟩, .val (.slice none 0 0), .val (.slice none 0 0)])], [(0, .list .fz .block g3.blks)], 1⟩) ?_ ?_ ?_
  · repeat' (first | (with_reducible exact o_nil))
  · ((with_reducible refine s_id ?_); (conv => arg 1; whnf); (with_reducible refine s_some ?_); repeat' (first | ((with_reducible refine o_id ?_); (conv => arg 1; whnf); first | (with_reducible exact o_nil) | (with_reducible refine o_cons ?_ ?_)) | rfl))
  repeat' (first | (((with_reducible refine g_id ?_); (conv => arg 3; whnf)); first | (with_reducible refine g_split lay_ok 400 ?_ ?_ ?_) | (with_reducible refine g_fin ?_ ?_) | (refine g_call lay_ok 400 ?_ ?_ ?_ (c_mergeO g3 ?_ ?_) rfl)) | (with_reducible exact o_nil) | ((with_reducible refine o_id ?_); (conv => arg 1; whnf); first | (with_reducible exact o_nil) | (with_reducible refine o_cons ?_ ?_)) | (intro h; ((try simp only [Int.toNat_natCast] at h); repeat (first | replace h := of_decide_eq_true h | replace h := of_decide_eq_false h)); (try (first | contradiction | (rw [g3_rows] at h; exact absurd h (by decide)) | (rw [g3_len] at h; exact absurd h (by decide))))) | rfl | omega | (exact g3_bnd) | (exact g3_chk))
  all_goals (((with_reducible refine e_id ?_); (conv => whnf)); refine ⟨(), trivial, ?_⟩; ((with_reducible refine s_id ?_); (conv => arg 1; whnf); (with_reducible refine s_some ?_); repeat' (first | ((with_reducible refine o_id ?_); (conv => arg 1; whnf); first | (with_reducible exact o_nil) | (with_reducible refine o_cons ?_ ?_)) | (rw [g3_rows]; rfl))))
set_option maxHeartbeats 4000000 in
theorem l_mergeRaw (g : Grf) (hB : Bnd g) : Trip Try.prog 7 [.agg [.sl ⟨0, []⟩, .int .i64 g.vars, .int .i64 g.keep, .sl ⟨1, []⟩, .int .i64 g.shared, .sl ⟨2, []⟩, .sl ⟨3, []⟩, .sl ⟨4, []⟩]] ⟨[], [(0, .list .fz .input g.inp), (1, .list .fz .array g.arrs), (2, .list .fz .block g.blks), (3, .list .fz .ints g.pts), (4, .list .fz .head g.hds)], 5⟩ (Z := Unit) (fun _ => True) (fun _ => .bool true) (fun _ => ⟨[], [(0, .list .fz .input g.inp), (1, .list .fz .array g.arrs), (2, .list .fz .block g.blks), (3, .list .fz .ints g.pts), (4, .list .fz .head g.hds)], 5⟩) := by
  refine trip_by (rs := [_]) 400 lay_ok Try.func7 rfl (by kernel_rfl) Try.ntmps7 Try.results7 rfl rfl ?_
  repeat' (first | (((with_reducible refine g_id ?_); (conv => arg 3; whnf)); first | (with_reducible refine g_split lay_ok 400 ?_ ?_ ?_) | (with_reducible refine g_fin ?_ ?_) | (refine g_call lay_ok 400 ?_ ?_ ?_ (c_light ?_ ?_) rfl) | (refine g_call lay_ok 400 ?_ ?_ ?_ (c_agree ?_ ?_) rfl) | (refine g_call lay_ok 400 ?_ ?_ ?_ (c_awake16) rfl)) | ((with_reducible refine o_id ?_); (conv => arg 1; whnf); first | (with_reducible exact o_nil) | (with_reducible refine o_cons ?_ ?_)) | (intro h; ((try simp only [Int.toNat_natCast] at h); repeat (first | replace h := not_t h | replace h := not_f h)); (try (first | contradiction))) | rfl | omega)
  all_goals (((with_reducible refine e_id ?_); (conv => whnf)); refine ⟨(), trivial, ?_⟩; ((with_reducible refine s_id ?_); (conv => arg 1; whnf); (with_reducible refine s_some ?_); repeat' (first | ((with_reducible refine o_id ?_); (conv => arg 1; whnf); first | (with_reducible exact o_nil) | (with_reducible refine o_cons ?_ ?_)) | rfl)))
end Go.Proofs.Ytonjbhdfimcedaa
