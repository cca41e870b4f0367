/- Graphs that are right: the program. -/
import Derived.Test.YtonjbhdfimcedaaMJ
namespace Go.Proofs.Ytonjbhdfimcedaa
set_option linter.unusedVariables false
set_option linter.unusedSimpArgs false
open Go.RowKit
/-- How large a graph is at most that is looked at. -/
structure Bnd (g : Grf) : Prop where
  i : g.inp.length ≤ 1048576
  a : g.arrs.length ≤ 1048576
  b : g.blks.length ≤ 1048576
  p : g.pts.length ≤ 1048576
  h : g.hds.length ≤ 1048576
  s : opsN g.blks g.blks.length ≤ 1048576
  o : ∀ b ∈ g.blks, b.ops.length ≤ 1048576
  n : ∀ b ∈ g.blks, b.next.length ≤ 1048576
  q : ∀ l ∈ g.pts, l.length ≤ 1048576
/-- How many of the first n blocks are ends. -/
def endsN (l : List Blk) (n : Nat) : Int := sumN (fun i => if (gt (c := .block) l i).next.length = 0 then 1 else 0) n
theorem endsN_zero {l : List Blk} : endsN l 0 = 0 := rfl
theorem endsN_y {l : List Blk} {n : Nat} (h : (gt (c := .block) l n).next.length = 0) : endsN l (n + 1) = endsN l n + 1 := by
  show endsN l n + (if (gt (c := .block) l n).next.length = 0 then 1 else 0) = _
  rw [if_pos h]
theorem endsN_n {l : List Blk} {n : Nat} (h : ¬ (gt (c := .block) l n).next.length = 0) : endsN l (n + 1) = endsN l n := by
  show endsN l n + (if (gt (c := .block) l n).next.length = 0 then 1 else 0) = _
  rw [if_neg h, Int.add_zero]
theorem endsN_bd {l : List Blk} : ∀ n, 0 ≤ endsN l n ∧ endsN l n ≤ (n : Int)
  | 0 => ⟨Int.le_refl _, Int.le_refl _⟩
  | n + 1 => by
    have := endsN_bd (l := l) n
    by_cases h : (gt (c := .block) l n).next.length = 0
    · rw [endsN_y h]; omega
    · rw [endsN_n h]; omega
def limG (g : Grf) : Prop := 64 < (g.blks.length : Int) ∨ 600 < opsN g.blks g.blks.length ∨ 64 < g.vars ∨ 8 < (g.arrs.length : Int) ∨ 39 < (g.pts.length : Int)
instance (g : Grf) : Decidable (limG g) := by unfold limG; infer_instance
def okG (g : Grf) : Bool := allN (fun k => blkB (g.vars - 1) g.arrs.length g.blks.length (gt (c := .block) g.blks k)) g.blks.length && (decide (endsN g.blks g.blks.length = 1) && (decB g && namB g.blks.length g.pts g.hds))
/-- The first error of a graph. -/
def chkG (g : Grf) : Int := if limG g then 4 else if okG g = true then 0 else 10
theorem chk_lim {g : Grf} (h : limG g) : chkG g = 4 := if_pos h
theorem chk_no {g : Grf} (h : ¬ limG g) (h2 : okG g = false) : chkG g = 10 := by unfold chkG; rw [if_neg h, h2]; rfl
theorem chk_yes {g : Grf} (h : ¬ limG g) (h2 : okG g = true) : chkG g = 0 := by unfold chkG; rw [if_neg h, h2]; rfl
theorem dec_vars {g : Grf} (h : g.vars < 0) : decB g = false := dec_f1 (by omega)
theorem ok_dec {g : Grf} (h : decB g = false) : okG g = false := by unfold okG; rw [h, Bool.false_and, Bool.and_false, Bool.and_false]
theorem ok_nam {g : Grf} (h : namB g.blks.length g.pts g.hds = false) : okG g = false := by unfold okG; rw [h, Bool.and_false, Bool.and_false, Bool.and_false]
theorem ok_ends {g : Grf} (h : ¬ endsN g.blks g.blks.length = 1) : okG g = false := by unfold okG; rw [decide_eq_false h, Bool.false_and, Bool.and_false]
theorem ok_blk {g : Grf} {k : Nat} (hl : ¬ limG g) (hk : k < g.blks.length) (h : blkB (hiG g.vars) g.arrs.length g.blks.length (gt (c := .block) g.blks k) = false) : okG g = false := by
  by_cases hv : 0 ≤ g.vars
  · rw [hiG_is hv (by unfold limG at hl; omega)] at h
    unfold okG
    rw [allN_no hk h]; rfl
  · exact ok_dec (dec_vars (by omega))
theorem ok_all {g : Grf} (hl : ¬ limG g) (h1 : allN (fun k => blkB (hiG g.vars) g.arrs.length g.blks.length (gt (c := .block) g.blks k)) g.blks.length = true) (h2 : endsN g.blks g.blks.length = 1) (h3 : decB g = true) (h4 : namB g.blks.length g.pts g.hds = true) : okG g = true := by
  have hv : 0 ≤ g.vars := by
    by_cases hv : 0 ≤ g.vars
    · exact hv
    · rw [dec_vars (by omega)] at h3; cases h3
  rw [hiG_is hv (by unfold limG at hl; omega)] at h1
  unfold okG
  rw [h1, h2, h3, h4]; rfl
attribute [local irreducible] sizB badA opsN endsN namB decB blkB okG chkG hiG
set_option maxHeartbeats 4000000 in
theorem c_check (g : Grf) (hB : Bnd g) : Trip Try.prog 26 [.agg [.sl ⟨0, []⟩, .int .i64 g.vars, .int .i64 g.keep, .sl ⟨1, []⟩, .int .i64 g.shared, .sl ⟨2, []⟩, .sl ⟨3, []⟩, .sl ⟨4, []⟩]] ⟨[], [(0, .list .tmp .input g.inp), (1, .list .tmp .array g.arrs), (2, .list .tmp .block g.blks), (3, .list .tmp .ints g.pts), (4, .list .tmp .head g.hds)], 5⟩ (Z := Unit) (fun _ => True) (fun _ => .int .i64 (chkG g)) (fun _ => ⟨[], [(0, .list .tmp .input g.inp), (1, .list .tmp .array g.arrs), (2, .list .tmp .block g.blks), (3, .list .tmp .ints g.pts), (4, .list .tmp .head g.hds)], 5⟩) := by
  obtain ⟨h1, h2, h3, h4, h5, h6, h7, h8, h9⟩ := hB
  by_cases hl : limG g
  · have hl2 := hl
    unfold limG at hl2
    refine trip_by (rs := [_]) 400 lay_ok Try.func26 rfl (by kernel_rfl) Try.ntmps26 Try.results26 rfl rfl ?_
    repeat' (first | (((with_reducible refine g_id ?_); (conv => arg 3; whnf)); first | (with_reducible refine g_split lay_ok 400 ?_ ?_ ?_) | (with_reducible refine g_cond lay_ok 400 ?_ ?_ ?_) | (with_reducible refine g_fin ?_ ?_) | (refine g_call lay_ok 400 ?_ ?_ ?_ (c_opsN ?_ ?_ ?_) rfl)) | ((with_reducible refine o_id ?_); (conv => arg 1; whnf); first | (with_reducible exact o_nil) | (with_reducible refine o_cons ?_ ?_)) | (intro h; ((try simp only [Int.toNat_natCast] at h); repeat (first | replace h := of_decide_eq_true h | replace h := of_decide_eq_false h)); (try (first | (exfalso; omega)))) | rfl | omega)
    all_goals (((with_reducible refine e_id ?_); (conv => whnf)); refine ⟨(), trivial, ?_⟩; ((with_reducible refine s_id ?_); (conv => arg 1; whnf); (with_reducible refine s_some ?_); repeat' (first | ((with_reducible refine o_id ?_); (conv => arg 1; whnf); first | (with_reducible exact o_nil) | (with_reducible refine o_cons ?_ ?_)) | rfl | (exact (chk_lim (by unfold limG; omega))))))
  · have hl2 := hl
    unfold limG at hl2
    refine trip_by (rs := [_]) 400 lay_ok Try.func26 rfl (by kernel_rfl) Try.ntmps26 Try.results26 rfl rfl ?_
    repeat' (first | (((with_reducible refine g_id ?_); (conv => arg 3; whnf)); first | (with_reducible refine g_split lay_ok 400 ?_ ?_ ?_) | (with_reducible refine g_cond lay_ok 400 ?_ ?_ ?_) | (refine g_call lay_ok 400 ?_ ?_ ?_ (c_opsN ?_ ?_ ?_) rfl)) | ((with_reducible refine o_id ?_); (conv => arg 1; whnf); first | (with_reducible exact o_nil) | (with_reducible refine o_cons ?_ ?_)) | (intro h; ((try simp only [Int.toNat_natCast] at h); repeat (first | replace h := of_decide_eq_true h | replace h := of_decide_eq_false h)); (try (first | (exfalso; omega)))) | rfl | omega)
    refine g_loop lay_ok 400 (Z := Nat) (fun z => z ≤ g.blks.length ∧ allN (fun k => blkB (hiG g.vars) g.arrs.length g.blks.length (gt (c := .block) g.blks k)) z = true) (fun z => ⟨[(1, .ptr 5 0), (3, .int .i64 (endsN g.blks z)), (33, .sl ⟨2, []⟩), (34, .int .i64 (g.blks.length : Int)), (35, .int .i64 (z : Int))], [(0, .list .tmp .input g.inp), (1, .list .tmp .array g.arrs), (2, .list .tmp .block g.blks), (3, .list .tmp .ints g.pts), (4, .list .tmp .head g.hds), (5, .cells [.sl ⟨0, []⟩, .int .i64 g.vars, .int .i64 g.keep, .sl ⟨1, []⟩, .int .i64 g.shared, .sl ⟨2, []⟩, .sl ⟨3, []⟩, .sl ⟨4, []⟩])], 6⟩) (fun z => g.blks.length - z) ?_ ⟨0, ⟨Nat.zero_le _, allN_zero⟩, ?_⟩ (fun z hz => ?_)
    · repeat' (first | ((with_reducible refine o_id ?_); (conv => arg 1; whnf); first | (with_reducible exact o_nil)))
    · ((with_reducible refine s_id ?_); (conv => arg 1; whnf); (with_reducible refine s_some ?_); repeat' (first | ((with_reducible refine o_id ?_); (conv => arg 1; whnf); first | (with_reducible exact o_nil) | (with_reducible refine o_cons ?_ ?_)) | rfl | (rw [endsN_zero])))
    obtain ⟨hz, hf⟩ := hz
    have he := endsN_bd (l := g.blks) z
    by_cases hlt : z < g.blks.length
    · have ho := h7 _ (mem_gt (c := .block) hlt)
      have hn := h8 _ (mem_gt (c := .block) hlt)
      repeat' (first | (((with_reducible refine g_id ?_); (conv => arg 3; whnf)); first | (with_reducible refine g_cond lay_ok 400 ?_ ?_ ?_) | (with_reducible refine g_fin ?_ ?_) | (refine g_call lay_ok 400 ?_ ?_ ?_ (c_block ?_ ?_ ?_ ?_ ?_ ?_) rfl)) | (with_reducible refine q_ret lay_ok 400 ?_) | (with_reducible exact o_nil) | ((with_reducible refine o_id ?_); (conv => arg 1; whnf); first | (with_reducible exact o_nil) | (with_reducible refine o_cons ?_ ?_)) | (intro h; ((try simp only [Int.toNat_natCast] at h); repeat (first | replace h := of_decide_eq_true h | replace h := of_decide_eq_false h | replace h := not_t h | replace h := not_f h)); (try (first | (exfalso; omega)))) | rfl | omega | (simp only [Int.toNat_natCast]; omega))
      all_goals first | (refine q_round ⟨z + 1, ⟨by omega, allN_yes hf (by assumption)⟩, by omega, ?_⟩; ((with_reducible refine s_id ?_); (conv => arg 1; whnf); (with_reducible refine s_some ?_); repeat' (first | ((with_reducible refine o_id ?_); (conv => arg 1; whnf); first | (with_reducible exact o_nil) | (with_reducible refine o_cons ?_ ?_)) | rfl | (rw [endsN_y (by omega)]) | (rw [endsN_n (by omega)])))) | ((((with_reducible refine e_id ?_); (conv => whnf)); refine ⟨(), trivial, ?_⟩; ((with_reducible refine s_id ?_); (conv => arg 1; whnf); (with_reducible refine s_some ?_); repeat' (first | ((with_reducible refine o_id ?_); (conv => arg 1; whnf); first | (with_reducible exact o_nil) | (with_reducible refine o_cons ?_ ?_)) | rfl | (exact (chk_no hl (ok_blk hl hlt (by assumption))))))))
    · have e : z = g.blks.length := by omega
      subst e
      repeat' (first | (((with_reducible refine g_id ?_); (conv => arg 3; whnf)); first | (with_reducible refine g_split lay_ok 400 ?_ ?_ ?_) | (with_reducible refine g_cond lay_ok 400 ?_ ?_ ?_) | (with_reducible refine g_fin ?_ ?_) | (refine g_call lay_ok 400 ?_ ?_ ?_ (c_declared ?_ ?_ ?_) rfl) | (refine g_call lay_ok 400 ?_ ?_ ?_ (c_named ?_ ?_ ?_ ?_ ?_) rfl)) | (with_reducible refine q_leave lay_ok 400 ?_) | (with_reducible exact o_nil) | ((with_reducible refine o_id ?_); (conv => arg 1; whnf); first | (with_reducible exact o_nil) | (with_reducible refine o_cons ?_ ?_)) | (intro h; ((try simp only [Int.toNat_natCast] at h); repeat (first | replace h := of_decide_eq_true h | replace h := of_decide_eq_false h | replace h := not_t h | replace h := not_f h)); (try (first | (exfalso; omega)))) | rfl | omega | (exact h9 _ (by assumption)))
      all_goals (((with_reducible refine e_id ?_); (conv => whnf)); refine ⟨(), trivial, ?_⟩; ((with_reducible refine s_id ?_); (conv => arg 1; whnf); (with_reducible refine s_some ?_); repeat' (first | ((with_reducible refine o_id ?_); (conv => arg 1; whnf); first | (with_reducible exact o_nil) | (with_reducible refine o_cons ?_ ?_)) | rfl | (exact (chk_no hl (ok_dec (by assumption)))) | (exact (chk_no hl (ok_nam (by assumption)))) | (exact (chk_no hl (ok_ends (by assumption)))) | (exact (chk_yes hl (ok_all hl hf (by assumption) (by assumption) (by assumption)))))))
end Go.Proofs.Ytonjbhdfimcedaa
