/- What the law of merging asks of graphs. -/
import Derived.Test.YtonjbhdfimcedaaM1
import Derived.Test.YtonjbhdfimcedaaVS
namespace Go.Proofs.Ytonjbhdfimcedaa
set_option linter.unusedVariables false
set_option linter.unusedSimpArgs false
open Go.RowKit
theorem mrg_wf : ∀ {f : Nat} {g : Grf} {a : Nat} {m : List Int}, Wf g → Wf (mrgF f g a m).1
  | 0, g, a, m, w => w
  | f + 1, g, a, m, w => by
    by_cases ha : a < g.blks.length
    · cases ht : tkB g (befG g.blks) a with
      | true => rw [mrg_join ha ht]; exact mrg_wf (jn_wf w (tk_of w ha ht))
      | false => rw [mrg_next ha ht]; exact mrg_wf w
    · rw [mrg_end ha]; exact w
theorem mrg_len : ∀ {f : Nat} {g : Grf} {a : Nat} {m : List Int}, (mrgF f g a m).2.length = m.length
  | 0, g, a, m => rfl
  | f + 1, g, a, m => by
    by_cases ha : a < g.blks.length
    · cases ht : tkB g (befG g.blks) a with
      | true => rw [mrg_join ha ht, mrg_len, List.length_map]
      | false => rw [mrg_next ha ht, mrg_len]
    · rw [mrg_end ha]
theorem mrgG_bnd {g : Grf} (w : Wf g) : Bnd (mrgG g).1 := (mrg_wf w).bnd
theorem mrgG_rows {g : Grf} (w : Wf g) : (rowsL (mrgG g).2).length ≤ 1048576 ∧ ∀ x ∈ rowsL (mrgG g).2, x.length ≤ 1048576 := by
  refine ⟨?_, fun x hx => ?_⟩
  · rw [rowsL_len]; unfold mrgG; rw [mrg_len, idL_len]; have := w.b; omega
  · unfold rowsL at hx
    obtain ⟨y, _, rfl⟩ := List.mem_map.1 hx
    exact (by decide : 1 ≤ 1048576)
def g00 : Grf := ⟨[], 0, 0, [], 0, [], [], []⟩
theorem g00_bnd : Bnd g00 := ⟨by decide, by decide, by decide, by decide, by decide, by decide, (fun b hb => by cases hb), (fun b hb => by cases hb), (fun b hb => by cases hb)⟩
attribute [local irreducible] mrgG rowsL chkG opsN
set_option maxHeartbeats 4000000 in
set_option maxRecDepth 4000 in
theorem c_agree (g : Grf) (hB : Bnd g) : Trip Try.prog 22 [.agg [.sl ⟨0, []⟩, .int .i64 g.vars, .int .i64 g.keep, .sl ⟨1, []⟩, .int .i64 g.shared, .sl ⟨2, []⟩, .sl ⟨3, []⟩, .sl ⟨4, []⟩]] ⟨[], [(0, .list .fz .input g.inp), (1, .list .fz .array g.arrs), (2, .list .fz .block g.blks), (3, .list .fz .ints g.pts), (4, .list .fz .head g.hds)], 5⟩ (Z := Unit) (fun _ => True) (fun _ => .tf true) (fun _ => ⟨[], [(0, .list .fz .input g.inp), (1, .list .fz .array g.arrs), (2, .list .fz .block g.blks), (3, .list .fz .ints g.pts), (4, .list .fz .head g.hds)], 5⟩) := by
  by_cases he : chkG g = 0
  · have w := chk_wf hB he
    have hR := mrgG_bnd w
    obtain ⟨hr1, hr2⟩ := mrgG_rows w
    refine trip_by (rs := [_]) 400 lay_ok Try.func22 rfl (by kernel_rfl) Try.ntmps22 Try.results22 rfl rfl ?_
    repeat' (first | (((with_reducible refine g_id ?_); (conv => arg 3; whnf)); first | (with_reducible refine g_split lay_ok 400 ?_ ?_ ?_) | (with_reducible refine g_fin ?_ ?_) | (refine g_call lay_ok 400 ?_ ?_ ?_ (c_mergeO ?_ ?_ ?_) rfl) | (refine g_call lay_ok 400 ?_ ?_ ?_ (r_mergeO ?_ ?_ ?_) rfl) | (refine g_call lay_ok 400 ?_ ?_ ?_ (r_same (mrgG g).1 ?_) rfl) | (refine g_call lay_ok 400 ?_ ?_ ?_ (r_sameL ?_ ?_ ?_) rfl)) | ((with_reducible refine o_id ?_); (conv => arg 1; whnf); first | (with_reducible exact o_nil) | (with_reducible refine o_cons ?_ ?_)) | (intro h; ((try simp only [Int.toNat_natCast] at h); repeat (first | replace h := of_decide_eq_true h | replace h := of_decide_eq_false h)); (try (first | contradiction))) | rfl | omega | (exact hr2 _ (by assumption)))
    all_goals (((with_reducible refine e_id ?_); (conv => whnf)); refine ⟨(), trivial, ?_⟩; ((with_reducible refine s_id ?_); (conv => arg 1; whnf); (with_reducible refine s_some ?_); repeat' (first | ((with_reducible refine o_id ?_); (conv => arg 1; whnf); first | (with_reducible exact o_nil) | (with_reducible refine o_cons ?_ ?_)) | rfl)))
  · refine trip_by (rs := [_]) 400 lay_ok Try.func22 rfl (by kernel_rfl) Try.ntmps22 Try.results22 rfl rfl ?_
    repeat' (first | (((with_reducible refine g_id ?_); (conv => arg 3; whnf)); first | (with_reducible refine g_split lay_ok 400 ?_ ?_ ?_) | (with_reducible refine g_fin ?_ ?_) | (refine g_call lay_ok 400 ?_ ?_ ?_ (c_mergeE ?_ ?_ ?_) rfl) | (refine g_call lay_ok 400 ?_ ?_ ?_ (r_mergeE ?_ ?_ ?_) rfl) | (refine g_call lay_ok 400 ?_ ?_ ?_ (r_same g00 ?_) rfl) | (refine g_call lay_ok 400 ?_ ?_ ?_ (r_sameL [] ?_ ?_) rfl)) | ((with_reducible refine o_id ?_); (conv => arg 1; whnf); first | (with_reducible exact o_nil) | (with_reducible refine o_cons ?_ ?_)) | (intro h; ((try simp only [Int.toNat_natCast] at h); repeat (first | replace h := of_decide_eq_true h | replace h := of_decide_eq_false h)); (try (first | contradiction))) | rfl | omega | (simp only [List.length_append, List.length_cons, List.length_nil]; omega) | (exact g00_bnd))
    all_goals (((with_reducible refine e_id ?_); (conv => whnf)); refine ⟨(), trivial, ?_⟩; ((with_reducible refine s_id ?_); (conv => arg 1; whnf); (with_reducible refine s_some ?_); repeat' (first | ((with_reducible refine o_id ?_); (conv => arg 1; whnf); first | (with_reducible exact o_nil) | (with_reducible refine o_cons ?_ ?_)) | rfl)))
set_option maxHeartbeats 4000000 in
theorem c_light (g : Grf) (hB : Bnd g) : Trip Try.prog 21 [.agg [.sl ⟨0, []⟩, .int .i64 g.vars, .int .i64 g.keep, .sl ⟨1, []⟩, .int .i64 g.shared, .sl ⟨2, []⟩, .sl ⟨3, []⟩, .sl ⟨4, []⟩]] ⟨[], [(0, .list .tmp .input g.inp), (1, .list .tmp .array g.arrs), (2, .list .tmp .block g.blks), (3, .list .tmp .ints g.pts), (4, .list .tmp .head g.hds)], 5⟩ (Z := Bool) (fun _ => True) (fun z => .bool z) (fun _ => ⟨[], [(0, .list .tmp .input g.inp), (1, .list .tmp .array g.arrs), (2, .list .tmp .block g.blks), (3, .list .tmp .ints g.pts), (4, .list .tmp .head g.hds)], 5⟩) := by
  obtain ⟨h1, h2, h3, h4, h5, h6, h7, h8, h9⟩ := hB
  refine trip_by (rs := [_]) 400 lay_ok Try.func21 rfl (by kernel_rfl) Try.ntmps21 Try.results21 rfl rfl ?_
  repeat' (first | (((with_reducible refine g_id ?_); (conv => arg 3; whnf)); first | (with_reducible refine g_split lay_ok 400 ?_ ?_ ?_)))
  refine g_loop lay_ok 400 (Z := (Nat × Int)) (fun z => z.1 ≤ g.blks.length ∧ 0 ≤ z.2 ∧ z.2 ≤ 3145728 + (z.1 : Int) * 2097154) (fun z => ⟨[(1, .ptr 5 0), (3, .int .i64 z.2), (4, .int .i64 (z.1 : Int))], [(0, .list .tmp .input g.inp), (1, .list .tmp .array g.arrs), (2, .list .tmp .block g.blks), (3, .list .tmp .ints g.pts), (4, .list .tmp .head g.hds), (5, .cells [.sl ⟨0, []⟩, .int .i64 g.vars, .int .i64 g.keep, .sl ⟨1, []⟩, .int .i64 g.shared, .sl ⟨2, []⟩, .sl ⟨3, []⟩, .sl ⟨4, []⟩])], 6⟩) (fun z => g.blks.length - z.1) ?_ ⟨(0, (g.inp.length : Int) + g.arrs.length + g.hds.length), ⟨Nat.zero_le _, by dsimp only; omega, by dsimp only; omega⟩, ?_⟩ (fun z hz => ?_)
  · repeat' (first | ((with_reducible refine o_id ?_); (conv => arg 1; whnf); first | (with_reducible exact o_nil) | (with_reducible refine o_cons ?_ ?_)) | omega)
  · ((with_reducible refine s_id ?_); (conv => arg 1; whnf); (with_reducible refine s_some ?_); repeat' (first | ((with_reducible refine o_id ?_); (conv => arg 1; whnf); first | (with_reducible exact o_nil) | (with_reducible refine o_cons ?_ ?_)) | rfl))
  obtain ⟨i, n⟩ := z
  obtain ⟨hz1, hz2, hz3⟩ := hz
  dsimp only at hz1 hz2 hz3 ⊢
  by_cases hlt : i < g.blks.length
  · have ho := h7 _ (mem_gt (c := .block) hlt)
    have hn := h8 _ (mem_gt (c := .block) hlt)
    repeat' (first | (((with_reducible refine g_id ?_); (conv => arg 3; whnf)); first | (with_reducible refine g_cond lay_ok 400 ?_ ?_ ?_) | (with_reducible refine g_fin ?_ ?_) | (refine g_flow 5 lay_ok mixed_ok 400 262144 [0, 1, 0, 4, 0, 28, 60, 124, 252, 511, 0, 1024, 0, 7168, 15360, 31744, 64512, 131071, 262143] (.q 0 (.q 1 (.q 2 (.q 3 (.q 4 (.q 5 (.q 6 (.q 7 (.q 8 (.q 9 (.q 10 (.q 11 (.q 12 (.q 13 (.q 14 (.q 15 (.q 16 (.q 17 (.e 18 [] (.fin) .stop))))))))))))))))))) (by kernel_rfl) ?_ ?_)) | (((with_reducible refine w_id ?_); (conv => arg 4; whnf)); first | (with_reducible refine w_fin ?_ ?_) | (with_reducible refine w_tt ?_) | (with_reducible refine w_eff lay_ok 400 ?_ rfl rfl ?_ ?_)) | (with_reducible refine q_flow ?_ ?_) | ((with_reducible refine h_id ?_); (conv => arg 1; whnf); (with_reducible refine s_some ?_)) | (with_reducible exact o_nil) | ((with_reducible refine o_id ?_); (conv => arg 1; whnf); first | (with_reducible exact o_nil) | (with_reducible refine o_cons ?_ ?_)) | (intro h; ((try simp only [Int.toNat_natCast] at h); repeat (first | replace h := of_decide_eq_true h | replace h := of_decide_eq_false h)); (try (first | (exfalso; omega)))) | omega | (simp only [Int.toNat_natCast]; omega))
    all_goals (refine q_round ⟨(i + 1, n + 2 + (gt (c := .block) g.blks i).ops.length + (gt (c := .block) g.blks i).next.length), ⟨hlt, by dsimp only; omega, by dsimp only; omega⟩, by dsimp only; omega, ?_⟩; ((with_reducible refine s_id ?_); (conv => arg 1; whnf); (with_reducible refine s_some ?_); repeat' (first | ((with_reducible refine o_id ?_); (conv => arg 1; whnf); first | (with_reducible exact o_nil) | (with_reducible refine o_cons ?_ ?_)) | rfl)))
  · have e : i = g.blks.length := by omega
    subst e
    repeat' (first | (((with_reducible refine g_id ?_); (conv => arg 3; whnf)); first | (with_reducible refine g_cond lay_ok 400 ?_ ?_ ?_) | (with_reducible refine g_fin ?_ ?_)) | (with_reducible refine q_leave lay_ok 400 ?_) | (with_reducible exact o_nil) | ((with_reducible refine o_id ?_); (conv => arg 1; whnf); first | (with_reducible exact o_nil)) | (intro h; ((try simp only [Int.toNat_natCast] at h); repeat (first | replace h := of_decide_eq_true h | replace h := of_decide_eq_false h)); (try (first | (exfalso; omega)))))
    refine g_loop lay_ok 400 (Z := (Nat × Int)) (fun z => z.1 ≤ g.pts.length ∧ 0 ≤ z.2 ∧ z.2 ≤ 4398049656832 + (z.1 : Int) * 1048577) (fun z => ⟨[(1, .ptr 5 0), (3, .int .i64 z.2), (5, .int .i64 (z.1 : Int))], [(0, .list .tmp .input g.inp), (1, .list .tmp .array g.arrs), (2, .list .tmp .block g.blks), (3, .list .tmp .ints g.pts), (4, .list .tmp .head g.hds), (5, .cells [.sl ⟨0, []⟩, .int .i64 g.vars, .int .i64 g.keep, .sl ⟨1, []⟩, .int .i64 g.shared, .sl ⟨2, []⟩, .sl ⟨3, []⟩, .sl ⟨4, []⟩])], 6⟩) (fun z => g.pts.length - z.1) ?_ ⟨(0, n), ⟨Nat.zero_le _, by dsimp only; omega, by dsimp only; omega⟩, ?_⟩ (fun z hz => ?_)
    · repeat' (first | ((with_reducible refine o_id ?_); (conv => arg 1; whnf); first | (with_reducible exact o_nil)))
    · ((with_reducible refine s_id ?_); (conv => arg 1; whnf); (with_reducible refine s_some ?_); repeat' (first | ((with_reducible refine o_id ?_); (conv => arg 1; whnf); first | (with_reducible exact o_nil) | (with_reducible refine o_cons ?_ ?_)) | rfl))
    obtain ⟨i, n'⟩ := z
    obtain ⟨hy1, hy2, hy3⟩ := hz
    dsimp only at hy1 hy2 hy3 ⊢
    by_cases hlt : i < g.pts.length
    · have hn := h9 _ (mem_gt (c := .ints) hlt)
      repeat' (first | (((with_reducible refine g_id ?_); (conv => arg 3; whnf)); first | (with_reducible refine g_cond lay_ok 400 ?_ ?_ ?_) | (with_reducible refine g_fin ?_ ?_)) | ((with_reducible refine o_id ?_); (conv => arg 1; whnf); first | (with_reducible exact o_nil) | (with_reducible refine o_cons ?_ ?_)) | (intro h; ((try simp only [Int.toNat_natCast] at h); repeat (first | replace h := of_decide_eq_true h | replace h := of_decide_eq_false h)); (try (first | (exfalso; omega)))) | omega | (simp only [Int.toNat_natCast]; omega))
      all_goals (refine q_round ⟨(i + 1, n' + 1 + (gt (c := .ints) g.pts i : List Int).length), ⟨hlt, by dsimp only; omega, by dsimp only; omega⟩, by dsimp only; omega, ?_⟩; ((with_reducible refine s_id ?_); (conv => arg 1; whnf); (with_reducible refine s_some ?_); repeat' (first | ((with_reducible refine o_id ?_); (conv => arg 1; whnf); first | (with_reducible exact o_nil) | (with_reducible refine o_cons ?_ ?_)) | rfl)))
    · have e : i = g.pts.length := by omega
      subst e
      repeat' (first | (((with_reducible refine g_id ?_); (conv => arg 3; whnf)); first | (with_reducible refine g_cond lay_ok 400 ?_ ?_ ?_) | (with_reducible refine g_fin ?_ ?_)) | (with_reducible refine q_leave lay_ok 400 ?_) | (with_reducible exact o_nil) | ((with_reducible refine o_id ?_); (conv => arg 1; whnf); first | (with_reducible exact o_nil)) | (intro h; ((try simp only [Int.toNat_natCast] at h); repeat (first | replace h := of_decide_eq_true h | replace h := of_decide_eq_false h)); (try (first | (exfalso; omega)))))
      all_goals (((with_reducible refine e_id ?_); (conv => whnf)); refine ⟨decide (n' ≤ 1500), trivial, ?_⟩; ((with_reducible refine s_id ?_); (conv => arg 1; whnf); (with_reducible refine s_some ?_); repeat' (first | ((with_reducible refine o_id ?_); (conv => arg 1; whnf); first | (with_reducible exact o_nil) | (with_reducible refine o_cons ?_ ?_)) | rfl)))
end Go.Proofs.Ytonjbhdfimcedaa
