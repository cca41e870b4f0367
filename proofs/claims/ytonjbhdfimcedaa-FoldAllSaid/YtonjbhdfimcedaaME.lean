/- Blocks that are right: the program. -/
import Derived.Test.YtonjbhdfimcedaaMD
namespace Go.Proofs.Ytonjbhdfimcedaa
set_option linter.unusedVariables false
set_option linter.unusedSimpArgs false
open Go.RowKit
/-- Operation k of a block is right. -/
def opkB (hi na : Int) (l : List Op_) (k : Nat) : Bool := opB hi na (gt (c := .op) l k) && !(decide ((gt (c := .op) l k).kind = 6) && decide (0 < k)) && !(decide ((gt (c := .op) l k).kind = 7) && decide (k + 1 < l.length))
/-- A block is right: variables up to hi, na arrays, n blocks. -/
def blkB (hi na n : Int) (b : Blk) : Bool := allN (opkB hi na b.ops) b.ops.length && allN (fun k => decide (1 ≤ @id Int (gt (c := .int) b.next k) ∧ @id Int (gt (c := .int) b.next k) < n)) b.next.length &&
  (decide (b.next.length < 2 ∧ b.cond = 0) || decide (b.next.length = 2 ∧ @id Int (gt (c := .int) b.next 0) ≠ gt (c := .int) b.next 1 ∧ 0 ≤ b.cond ∧ b.cond ≤ hi))
theorem opk_t {hi na : Int} {l : List Op_} {k : Nat} (h1 : opB hi na (gt (c := .op) l k) = true) (h2 : (gt (c := .op) l k).kind = 6 → k = 0) (h3 : (gt (c := .op) l k).kind = 7 → l.length ≤ k + 1) : opkB hi na l k = true := by
  unfold opkB
  rw [h1, Bool.true_and, Bool.and_eq_true, Bool.not_eq_true', Bool.not_eq_true', Bool.and_eq_false_iff, Bool.and_eq_false_iff]
  refine ⟨?_, ?_⟩
  · by_cases q : (gt (c := .op) l k).kind = 6
    · right; rw [h2 q]; rfl
    · left; exact decide_eq_false q
  · by_cases q : (gt (c := .op) l k).kind = 7
    · right; have := h3 q; exact decide_eq_false (by omega)
    · left; exact decide_eq_false q
theorem opk_f {hi na : Int} {l : List Op_} {k : Nat} (h : opB hi na (gt (c := .op) l k) = true → ((gt (c := .op) l k).kind = 6 ∧ 0 < k) ∨ ((gt (c := .op) l k).kind = 7 ∧ k + 1 < l.length)) : opkB hi na l k = false := by
  unfold opkB
  cases hb : opB hi na (gt (c := .op) l k) with
  | false => rfl
  | true =>
    rcases h hb with ⟨h1, h2⟩ | ⟨h1, h2⟩
    · rw [decide_eq_true h1, decide_eq_true h2]; rfl
    · rw [decide_eq_true h1, decide_eq_true h2, Bool.and_self, Bool.not_true, Bool.and_false]
theorem blk_f1 {hi na n : Int} {b : Blk} {i : Nat} (hi' : i < b.ops.length) (h : opkB hi na b.ops i = false) : blkB hi na n b = false := by
  unfold blkB
  rw [allN_no hi' h]; rfl
theorem blk_f2 {hi na n : Int} {b : Blk} {i : Nat} (hi' : i < b.next.length) (h : ¬ (1 ≤ @id Int (gt (c := .int) b.next i) ∧ @id Int (gt (c := .int) b.next i) < n)) : blkB hi na n b = false := by
  unfold blkB
  rw [allN_no hi' (decide_eq_false h), Bool.and_false]; rfl
theorem blk_is {hi na n : Int} {b : Blk} (h1 : allN (opkB hi na b.ops) b.ops.length = true) (h2 : allN (fun k => decide (1 ≤ @id Int (gt (c := .int) b.next k) ∧ @id Int (gt (c := .int) b.next k) < n)) b.next.length = true) :
    blkB hi na n b = (decide (b.next.length < 2 ∧ b.cond = 0) || decide (b.next.length = 2 ∧ @id Int (gt (c := .int) b.next 0) ≠ gt (c := .int) b.next 1 ∧ 0 ≤ b.cond ∧ b.cond ≤ hi)) := by
  unfold blkB
  rw [h1, h2]; rfl
theorem blk_t {a b : Prop} [Decidable a] [Decidable b] (h : a ∨ b) : (decide a || decide b) = true := by
  rcases h with h | h
  · rw [decide_eq_true h]; rfl
  · rw [decide_eq_true h, Bool.or_true]
theorem or_dec {a b c : Prop} [Decidable a] [Decidable b] [Decidable c] (h : a ∨ b ↔ c) : (decide a || decide b) = decide c := by
  rw [← Bool.decide_or]; exact decide_eq_decide.2 h
theorem blk_n {a b : Prop} [Decidable a] [Decidable b] (h : ¬ a) (h2 : ¬ b) : (decide a || decide b) = false := by rw [decide_eq_false h, decide_eq_false h2]; rfl
theorem hiG_eq (v : Int) : hiG v = IntKind.i64.wrap (v - 1) := rfl
attribute [local irreducible] opB slN hiG
set_option maxHeartbeats 4000000 in
theorem c_block (g : Grf) (b : Blk) (ha : g.arrs.length ≤ 9223372036854775807) (hb : g.blks.length ≤ 9223372036854775807) (ho : b.ops.length ≤ 9223372036854775807) (hn : b.next.length ≤ 9223372036854775807) : Trip Try.prog 47 [.agg [.sl ⟨0, []⟩, .int .i64 g.vars, .int .i64 g.keep, .sl ⟨1, []⟩, .int .i64 g.shared, .sl ⟨2, []⟩, .sl ⟨3, []⟩, .sl ⟨4, []⟩], .agg [.sl ⟨5, []⟩, .int .i64 b.cond, .sl ⟨6, []⟩]] ⟨[], [(0, .list .tmp .input g.inp), (1, .list .tmp .array g.arrs), (2, .list .tmp .block g.blks), (3, .list .tmp .ints g.pts), (4, .list .tmp .head g.hds), (5, .list .tmp .op b.ops), (6, .list .tmp .int b.next)], 7⟩ (Z := Unit) (fun _ => True) (fun _ => .bool (blkB (hiG g.vars) g.arrs.length g.blks.length b)) (fun _ => ⟨[], [(0, .list .tmp .input g.inp), (1, .list .tmp .array g.arrs), (2, .list .tmp .block g.blks), (3, .list .tmp .ints g.pts), (4, .list .tmp .head g.hds), (5, .list .tmp .op b.ops), (6, .list .tmp .int b.next)], 7⟩) := by
  refine trip_by (rs := [_]) 400 lay_ok Try.func47 rfl (by kernel_rfl) Try.ntmps47 Try.results47 rfl rfl ?_
  repeat' (first | (((with_reducible refine g_id ?_); (conv => arg 3; whnf)); first | (with_reducible refine g_split lay_ok 400 ?_ ?_ ?_)))
  refine g_loop lay_ok 400 (Z := Nat) (fun z => z ≤ b.ops.length ∧ allN (opkB (hiG g.vars) g.arrs.length b.ops) z = true) (fun z => ⟨[(2, .ptr 7 0), (3, .ptr 8 0), (10, .sl ⟨5, []⟩), (11, .int .i64 (b.ops.length : Int)), (12, .int .i64 (z : Int))], [(0, .list .tmp .input g.inp), (1, .list .tmp .array g.arrs), (2, .list .tmp .block g.blks), (3, .list .tmp .ints g.pts), (4, .list .tmp .head g.hds), (5, .list .tmp .op b.ops), (6, .list .tmp .int b.next), (7, .cells [.sl ⟨0, []⟩, .int .i64 g.vars, .int .i64 g.keep, .sl ⟨1, []⟩, .int .i64 g.shared, .sl ⟨2, []⟩, .sl ⟨3, []⟩, .sl ⟨4, []⟩]), (8, .cells [.sl ⟨5, []⟩, .int .i64 b.cond, .sl ⟨6, []⟩])], 9⟩) (fun z => b.ops.length - z) ?_ ⟨0, ⟨Nat.zero_le _, allN_zero⟩, ?_⟩ (fun z hz => ?_)
  · repeat' (first | ((with_reducible refine o_id ?_); (conv => arg 1; whnf); first | (with_reducible exact o_nil)))
  · ((with_reducible refine s_id ?_); (conv => arg 1; whnf); (with_reducible refine s_some ?_); repeat' (first | ((with_reducible refine o_id ?_); (conv => arg 1; whnf); first | (with_reducible exact o_nil) | (with_reducible refine o_cons ?_ ?_)) | rfl))
  obtain ⟨hz, hf⟩ := hz
  by_cases hlt : z < b.ops.length
  · repeat' (first | (((with_reducible refine g_id ?_); (conv => arg 3; whnf)); first | (with_reducible refine g_split lay_ok 400 ?_ ?_ ?_) | (with_reducible refine g_cond lay_ok 400 ?_ ?_ ?_) | (with_reducible refine g_fin ?_ ?_) | (refine g_call lay_ok 400 ?_ ?_ ?_ (c_oper ?_ ?_ ?_) rfl)) | (with_reducible refine q_ret lay_ok 400 ?_) | (with_reducible exact o_nil) | ((with_reducible refine o_id ?_); (conv => arg 1; whnf); first | (with_reducible exact o_nil) | (with_reducible refine o_cons ?_ ?_)) | (intro h; ((try simp only [Int.toNat_natCast] at h); repeat (first | replace h := of_decide_eq_true h | replace h := of_decide_eq_false h | replace h := not_t h | replace h := not_f h)); (try (first | (exfalso; omega)))) | rfl | omega)
    all_goals first | (refine q_round ⟨z + 1, ⟨by omega, allN_yes hf (opk_t (by assumption) (by omega) (by omega))⟩, by omega, ?_⟩; ((with_reducible refine s_id ?_); (conv => arg 1; whnf); (with_reducible refine s_some ?_); repeat' (first | ((with_reducible refine o_id ?_); (conv => arg 1; whnf); first | (with_reducible exact o_nil) | (with_reducible refine o_cons ?_ ?_)) | rfl))) | ((((with_reducible refine e_id ?_); (conv => whnf)); refine ⟨(), trivial, ?_⟩; ((with_reducible refine s_id ?_); (conv => arg 1; whnf); (with_reducible refine s_some ?_); repeat' (first | ((with_reducible refine o_id ?_); (conv => arg 1; whnf); first | (with_reducible exact o_nil) | (with_reducible refine o_cons ?_ ?_)) | rfl | (exact blk_f1 hlt (opk_f (by intro q; first | omega | (exact Bool.noConfusion (q.symm.trans (by assumption) : true = false)))))))))
  · have e : z = b.ops.length := by omega
    subst e
    repeat' (first | (((with_reducible refine g_id ?_); (conv => arg 3; whnf)); first | (with_reducible refine g_cond lay_ok 400 ?_ ?_ ?_) | (with_reducible refine g_fin ?_ ?_)) | (with_reducible refine q_leave lay_ok 400 ?_) | (with_reducible exact o_nil) | ((with_reducible refine o_id ?_); (conv => arg 1; whnf); first | (with_reducible exact o_nil)) | (intro h; ((try simp only [Int.toNat_natCast] at h); repeat (first | replace h := of_decide_eq_true h | replace h := of_decide_eq_false h)); (try (first | (exfalso; omega)))))
    refine g_loop lay_ok 400 (Z := Nat) (fun z => z ≤ b.next.length ∧ allN (fun k => decide (1 ≤ @id Int (gt (c := .int) b.next k) ∧ @id Int (gt (c := .int) b.next k) < g.blks.length)) z = true) (fun z => ⟨[(2, .ptr 7 0), (3, .ptr 8 0), (45, .sl ⟨6, []⟩), (46, .int .i64 (b.next.length : Int)), (47, .int .i64 (z : Int))], [(0, .list .tmp .input g.inp), (1, .list .tmp .array g.arrs), (2, .list .tmp .block g.blks), (3, .list .tmp .ints g.pts), (4, .list .tmp .head g.hds), (5, .list .tmp .op b.ops), (6, .list .tmp .int b.next), (7, .cells [.sl ⟨0, []⟩, .int .i64 g.vars, .int .i64 g.keep, .sl ⟨1, []⟩, .int .i64 g.shared, .sl ⟨2, []⟩, .sl ⟨3, []⟩, .sl ⟨4, []⟩]), (8, .cells [.sl ⟨5, []⟩, .int .i64 b.cond, .sl ⟨6, []⟩])], 9⟩) (fun z => b.next.length - z) ?_ ⟨0, ⟨Nat.zero_le _, allN_zero⟩, ?_⟩ (fun z hz => ?_)
    · repeat' (first | ((with_reducible refine o_id ?_); (conv => arg 1; whnf); first | (with_reducible exact o_nil)))
    · ((with_reducible refine s_id ?_); (conv => arg 1; whnf); (with_reducible refine s_some ?_); repeat' (first | ((with_reducible refine o_id ?_); (conv => arg 1; whnf); first | (with_reducible exact o_nil) | (with_reducible refine o_cons ?_ ?_)) | rfl))
    obtain ⟨hz2, hf2⟩ := hz
    by_cases hlt : z < b.next.length
    · repeat' (first | (((with_reducible refine g_id ?_); (conv => arg 3; whnf)); first | (with_reducible refine g_cond lay_ok 400 ?_ ?_ ?_) | (with_reducible refine g_fin ?_ ?_) | (refine g_call lay_ok 400 ?_ ?_ ?_ (c_between ?_ ?_ ?_) rfl)) | (with_reducible refine q_ret lay_ok 400 ?_) | (with_reducible exact o_nil) | ((with_reducible refine o_id ?_); (conv => arg 1; whnf); first | (with_reducible exact o_nil) | (with_reducible refine o_cons ?_ ?_)) | (intro h; ((try simp only [Int.toNat_natCast] at h); repeat (first | replace h := of_decide_eq_true h | replace h := of_decide_eq_false h | replace h := not_t h | replace h := not_f h)); (try (first | (exfalso; omega)))) | rfl | omega)
      all_goals first | (refine q_round ⟨z + 1, ⟨by omega, allN_yes hf2 (decide_eq_true (by (try simp only [Int.toNat_natCast] at *); unfold id; omega))⟩, by omega, ?_⟩; ((with_reducible refine s_id ?_); (conv => arg 1; whnf); (with_reducible refine s_some ?_); repeat' (first | ((with_reducible refine o_id ?_); (conv => arg 1; whnf); first | (with_reducible exact o_nil) | (with_reducible refine o_cons ?_ ?_)) | rfl))) | ((((with_reducible refine e_id ?_); (conv => whnf)); refine ⟨(), trivial, ?_⟩; ((with_reducible refine s_id ?_); (conv => arg 1; whnf); (with_reducible refine s_some ?_); repeat' (first | ((with_reducible refine o_id ?_); (conv => arg 1; whnf); first | (with_reducible exact o_nil) | (with_reducible refine o_cons ?_ ?_)) | rfl | (exact blk_f2 hlt (by (try simp only [Int.toNat_natCast] at *); unfold id; omega))))))
    · have e : z = b.next.length := by omega
      subst e
      rw [blk_is hf hf2]
      have eh : IntKind.i64.wrap (g.vars - 1) = hiG g.vars := (hiG_eq _).symm
      repeat' (first | (((with_reducible refine g_id ?_); (conv => arg 3; whnf)); first | (with_reducible refine g_split lay_ok 400 ?_ ?_ ?_) | (with_reducible refine g_cond lay_ok 400 ?_ ?_ ?_) | (with_reducible refine g_out lay_ok 400 ?_ ?_) | (with_reducible refine g_fin ?_ ?_) | (refine g_call lay_ok 400 ?_ ?_ ?_ (c_between ?_ ?_ ?_) rfl) | (refine g_flow 14 lay_ok mixed_ok 1 32768 [0, 1, 3, 7, 0, 16, 48, 112, 255, 511, 1023, 2047, 1023, 5119, 13311, 32767, 65535, 131071] (.q 0 (.q 1 (.q 2 (.q 3 (.q 4 (.q 5 (.q 6 (.q 7 (.q 8 (.q 9 (.q 10 (.q 11 (.q 12 (.q 13 (.q 14 (.e 15 [] (.q 16 (.q 17 .fin)) .stop)))))))))))))))) (by kernel_rfl) ?_ ?_)) | (((with_reducible refine w_id ?_); (conv => arg 4; whnf)); first | (refine w_ev lay_ok 1 ?_ rfl (e_subW rfl rfl) rfl rfl rfl ?_) | (with_reducible refine w_fin ?_ ?_) | (with_reducible refine w_split lay_ok 1 ?_ ?_ ?_) | (with_reducible refine w_tt ?_) | (with_reducible refine w_eff lay_ok 1 ?_ rfl rfl ?_ ?_) | (with_reducible refine w_out lay_ok 1 ?_ ?_)) | (with_reducible refine q_flow ?_ ?_) | ((with_reducible refine h_id ?_); (conv => arg 1; whnf); (with_reducible refine s_some ?_)) | (with_reducible refine q_leave lay_ok 400 ?_) | (with_reducible exact o_nil) | ((with_reducible refine o_id ?_); (conv => arg 1; whnf); first | (with_reducible exact o_nil) | (with_reducible refine o_cons ?_ ?_)) | (intro h; ((try simp only [Int.toNat_natCast] at h); repeat (first | replace h := of_decide_eq_true h | replace h := of_decide_eq_false h | replace h := not_t h | replace h := not_f h)); (try (first | (exfalso; omega)))) | rfl | omega)
      all_goals (((with_reducible refine e_id ?_); (conv => whnf)); refine ⟨(), trivial, ?_⟩; ((with_reducible refine s_id ?_); (conv => arg 1; whnf); (with_reducible refine s_some ?_); repeat' (first | ((with_reducible refine o_id ?_); (conv => arg 1; whnf); first | (with_reducible exact o_nil) | (with_reducible refine o_cons ?_ ?_)) | rfl | (exact blk_n (by omega) (fun q => q.2.1 h)) | (exact blk_n (by omega) (fun q => by have := q.1; omega)) | (exact or_dec ⟨fun q => by rcases q with q | q; exact q.2; (have := q.1; omega), fun q => .inl ⟨by omega, q⟩⟩) | (rw [eh]; exact or_dec ⟨fun q => by rcases q with q | q; (have := q.1; omega); exact q.2.2, fun q => .inr ⟨by omega, by assumption, q⟩⟩))))
end Go.Proofs.Ytonjbhdfimcedaa
