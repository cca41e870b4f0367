/- Parts of the proof. No condition. -/
import Derived.Test.YtonjbhdfimcedaaQ4
import Derived.Lib.AppendZeros
import Derived.ScopeJumps
set_option linter.unusedVariables false
set_option linter.unusedSimpArgs false
set_option linter.unusedSectionVars false
namespace Go.Proofs.Ytonjbhdfimcedaa
open Go.RowKit
def sizB (n : Int) : Bool := decide (n = 1 ∨ n = 2 ∨ n = 4 ∨ n = 8 ∨ n = 16)
def badA (a : Arr) : Bool := !(sizB a.size)
def inpB (x : Inp) : Bool := decide (-2147483648 ≤ x.lo ∧ x.lo ≤ 2147483647 ∧ -2147483648 ≤ x.hi ∧ x.hi ≤ 2147483647 ∧ x.lo ≤ x.hi)
def decB (g : Grf) : Bool := decide (0 ≤ g.vars ∧ 0 ≤ g.keep ∧ g.keep ≤ g.vars ∧ (g.inp.length : Int) ≤ g.keep ∧ 0 ≤ g.shared ∧ g.shared ≤ (g.arrs.length : Int)) && (allN (fun k => inpB (gt (c := .input) g.inp k)) g.inp.length && !(g.arrs.any badA))
theorem dec_f1 {g : Grf} (h : ¬ (0 ≤ g.vars ∧ 0 ≤ g.keep ∧ g.keep ≤ g.vars ∧ (g.inp.length : Int) ≤ g.keep ∧ 0 ≤ g.shared ∧ g.shared ≤ (g.arrs.length : Int))) : decB g = false := by
  unfold decB; rw [decide_eq_false h]; rfl
theorem dec_f2 {g : Grf} {k : Nat} (hk : k < g.inp.length) (h : inpB (gt (c := .input) g.inp k) = false) : decB g = false := by
  unfold decB; rw [allN_no hk h, Bool.false_and, Bool.and_false]
theorem dec_is {g : Grf} (h : 0 ≤ g.vars ∧ 0 ≤ g.keep ∧ g.keep ≤ g.vars ∧ (g.inp.length : Int) ≤ g.keep ∧ 0 ≤ g.shared ∧ g.shared ≤ (g.arrs.length : Int)) (h2 : allN (fun k => inpB (gt (c := .input) g.inp k)) g.inp.length = true) : decB g = !(g.arrs.any badA) := by
  unfold decB; rw [decide_eq_true h, h2]; rfl
theorem pow_is {n : Int} (hc : 1 ≤ n ∧ n ≤ 16) : decide (bitI .and .i64 n (n - 1) = 0) = sizB n := by
  have hd : n = 1 ∨ n = 2 ∨ n = 3 ∨ n = 4 ∨ n = 5 ∨ n = 6 ∨ n = 7 ∨ n = 8 ∨ n = 9 ∨ n = 10 ∨ n = 11 ∨ n = 12 ∨ n = 13 ∨ n = 14 ∨ n = 15 ∨ n = 16 := by omega
  rcases hd with rfl | rfl | rfl | rfl | rfl | rfl | rfl | rfl | rfl | rfl | rfl | rfl | rfl | rfl | rfl | rfl <;> rfl
set_option maxHeartbeats 1000000 in
theorem c_power (n : Int) : Trip Try.prog 90 [.int .i64 n] ⟨[], [], 0⟩ (Z := Unit) (fun _ => True) (fun _ => .bool (sizB n)) (fun _ => ⟨[], [], 0⟩) := by
  by_cases hc : 1 ≤ n ∧ n ≤ 16
  · refine trip_by (rs := [_]) 400 lay_ok Try.func90 rfl (by kernel_rfl) Try.ntmps90 Try.results90 rfl rfl ?_
    repeat' (first | (((with_reducible refine g_id ?_); (conv => arg 3; whnf)); first | (with_reducible refine g_split lay_ok 400 ?_ ?_ ?_) | (with_reducible refine g_fin ?_ ?_) | (refine g_call lay_ok 400 ?_ ?_ ?_ (c_between ?_ ?_ ?_) rfl)) | ((with_reducible refine o_id ?_); (conv => arg 1; whnf); first | (with_reducible exact o_nil) | (with_reducible refine o_cons ?_ ?_)) | (intro h; ((try simp only [Int.toNat_natCast] at h); repeat (first | replace h := of_decide_eq_true h | replace h := of_decide_eq_false h)); (try (first | contradiction))) | rfl | omega)
    all_goals (((with_reducible refine e_id ?_); (conv => whnf)); refine ⟨(), trivial, ?_⟩; ((with_reducible refine s_id ?_); (conv => arg 1; whnf); (with_reducible refine s_some ?_); repeat' (first | ((with_reducible refine o_id ?_); (conv => arg 1; whnf); first | (with_reducible exact o_nil) | (with_reducible refine o_cons ?_ ?_)) | (exact (pow_is hc).symm))))
  · have e : sizB n = false := by unfold sizB; exact decide_eq_false (by omega)
    refine trip_by (rs := [_]) 400 lay_ok Try.func90 rfl (by kernel_rfl) Try.ntmps90 Try.results90 rfl rfl ?_
    repeat' (first | (((with_reducible refine g_id ?_); (conv => arg 3; whnf)); first | (with_reducible refine g_split lay_ok 400 ?_ ?_ ?_) | (with_reducible refine g_fin ?_ ?_) | (refine g_call lay_ok 400 ?_ ?_ ?_ (c_between ?_ ?_ ?_) rfl)) | ((with_reducible refine o_id ?_); (conv => arg 1; whnf); first | (with_reducible exact o_nil) | (with_reducible refine o_cons ?_ ?_)) | (intro h; ((try simp only [Int.toNat_natCast] at h); repeat (first | replace h := of_decide_eq_true h | replace h := of_decide_eq_false h)); (try (first | contradiction))) | rfl)
    all_goals (((with_reducible refine e_id ?_); (conv => whnf)); refine ⟨(), trivial, ?_⟩; ((with_reducible refine s_id ?_); (conv => arg 1; whnf); (with_reducible refine s_some ?_); repeat' (first | ((with_reducible refine o_id ?_); (conv => arg 1; whnf); first | (with_reducible exact o_nil) | (with_reducible refine o_cons ?_ ?_)) | omega)))
set_option maxHeartbeats 1000000 in
theorem r_size (n : Int) : Trip Try.prog 62 [.int .i64 n] ⟨[], [], 0⟩ (Z := Unit) (fun _ => True) (fun _ => .bool (sizB n)) (fun _ => ⟨[], [], 0⟩) := by
  refine trip_by (rs := [_]) 400 lay_ok Try.func62 rfl (by kernel_rfl) Try.ntmps62 Try.results62 rfl rfl ?_
  repeat' (first | (((with_reducible refine g_id ?_); (conv => arg 3; whnf)); first | (with_reducible refine g_split lay_ok 400 ?_ ?_ ?_) | (with_reducible refine g_fin ?_ ?_)) | ((with_reducible refine o_id ?_); (conv => arg 1; whnf); first | (with_reducible exact o_nil)) | (intro h; ((try simp only [Int.toNat_natCast] at h); repeat (first | replace h := of_decide_eq_true h | replace h := of_decide_eq_false h)); (try (first | contradiction))))
  all_goals (((with_reducible refine e_id ?_); (conv => whnf)); refine ⟨(), trivial, ?_⟩; ((with_reducible refine s_id ?_); (conv => arg 1; whnf); (with_reducible refine s_some ?_); repeat' (first | ((with_reducible refine o_id ?_); (conv => arg 1; whnf); first | (with_reducible exact o_nil) | (with_reducible refine o_cons ?_ ?_)) | (unfold sizB; exact decide_eq_true (by omega)) | (unfold sizB; exact decide_eq_decide.2 (by omega)))))
attribute [local irreducible] sizB
theorem c_decl1 (a : Arr) : Trip Try.prog 89 [.agg [.str a.name, .int .i64 a.size]] ⟨[], [], 0⟩ (Z := Unit) (fun _ => True) (fun _ => .bool (badA a)) (fun _ => ⟨[], [], 0⟩) := by
  refine trip_by (rs := [_]) 400 lay_ok Try.func89 rfl (by kernel_rfl) Try.ntmps89 Try.results89 rfl rfl ?_
  repeat' (first | (((with_reducible refine g_id ?_); (conv => arg 3; whnf)); first | (with_reducible refine g_fin ?_ ?_) | (refine g_call lay_ok 400 ?_ ?_ ?_ (c_power ?_) rfl)) | ((with_reducible refine o_id ?_); (conv => arg 1; whnf); first | (with_reducible exact o_nil) | (with_reducible refine o_cons ?_ ?_)) | (intro h; ((try simp only [Int.toNat_natCast] at h); repeat (first | replace h := of_decide_eq_true h)); (try (first | contradiction))) | rfl)
  all_goals (((with_reducible refine e_id ?_); (conv => whnf)); refine ⟨(), trivial, ?_⟩; ((with_reducible refine s_id ?_); (conv => arg 1; whnf); (with_reducible refine s_some ?_); repeat' (first | ((with_reducible refine o_id ?_); (conv => arg 1; whnf); first | (with_reducible exact o_nil) | (with_reducible refine o_cons ?_ ?_)) | rfl)))
attribute [local irreducible] badA
set_option maxHeartbeats 1000000 in
theorem i_decl1 (xs : List Arr) (hl : xs.length ≤ 9223372036854775807) : Trip Try.prog 115 [.sl ⟨0, []⟩, .clo 89 []] ⟨[], [(0, .list .tmp .array xs)], 1⟩ (Z := Int) (fun z => decide ((0 : Int) ≤ z) = xs.any badA) (fun z => .int .i64 z) (fun _ => ⟨[], [(0, .list .tmp .array xs)], 1⟩) := by
  refine trip_by (rs := [_]) 400 lay_ok Try.func115 rfl (by kernel_rfl) Try.ntmps115 Try.results115 rfl rfl ?_
  repeat' (first | (((with_reducible refine g_id ?_); (conv => arg 3; whnf)); first | (with_reducible refine g_split lay_ok 400 ?_ ?_ ?_)))
  refine g_loop lay_ok 400 (Z := Nat) (fun i => i ≤ xs.length ∧ ∀ k, k < i → badA (gt (c := .array) xs k) = false) (fun i => ⟨[(0, .sl ⟨0, []⟩), (1, .clo 89 []), (6, .sl ⟨0, []⟩), (7, .int .i64 (xs.length : Int)), (8, .int .i64 (i : Int))], [(0, .list .tmp .array xs)], 1⟩) (fun i => xs.length - i) ?_ ⟨0, ⟨Nat.zero_le _, fun k hk => by omega⟩, ?_⟩ (fun i hi => ?_)
  · repeat' (first | ((with_reducible refine o_id ?_); (conv => arg 1; whnf); first | (with_reducible exact o_nil)))
  · ((with_reducible refine s_id ?_); (conv => arg 1; whnf); (with_reducible refine s_some ?_); repeat' (first | ((with_reducible refine o_id ?_); (conv => arg 1; whnf); first | (with_reducible exact o_nil) | (with_reducible refine o_cons ?_ ?_)) | rfl))
  obtain ⟨hi, hn⟩ := hi
  repeat' (first | (((with_reducible refine g_id ?_); (conv => arg 3; whnf)); first | (with_reducible refine g_cond lay_ok 400 ?_ ?_ ?_) | (with_reducible refine g_fin ?_ ?_) | (refine g_call lay_ok 400 ?_ ?_ ?_ (c_decl1 ?_) rfl)) | (with_reducible refine q_leave lay_ok 400 ?_) | (with_reducible refine q_ret lay_ok 400 ?_) | (with_reducible exact o_nil) | ((with_reducible refine o_id ?_); (conv => arg 1; whnf); first | (with_reducible exact o_nil) | (with_reducible refine o_cons ?_ ?_)) | (intro h; ((try simp only [Int.toNat_natCast] at h); repeat (first | replace h := of_decide_eq_true h | replace h := of_decide_eq_false h)); (try (first | contradiction))) | rfl | omega)
  all_goals first | (refine q_round ⟨i + 1, ⟨by omega, gt_next (c := .array) hn (by assumption)⟩, by omega, ?_⟩; ((with_reducible refine s_id ?_); (conv => arg 1; whnf); (with_reducible refine s_some ?_); repeat' (first | ((with_reducible refine o_id ?_); (conv => arg 1; whnf); first | (with_reducible exact o_nil) | (with_reducible refine o_cons ?_ ?_)) | rfl))) | (((with_reducible refine e_id ?_); (conv => whnf)); refine ⟨(i : Int), found_gt (c := .array) (by omega) (by assumption), ?_⟩; ((with_reducible refine s_id ?_); (conv => arg 1; whnf); (with_reducible refine s_some ?_); repeat' (first | ((with_reducible refine o_id ?_); (conv => arg 1; whnf); first | (with_reducible exact o_nil) | (with_reducible refine o_cons ?_ ?_)) | rfl))) | (((with_reducible refine e_id ?_); (conv => whnf)); refine ⟨-1, none_gt (c := .array) hn (by omega), ?_⟩; ((with_reducible refine s_id ?_); (conv => arg 1; whnf); (with_reducible refine s_some ?_); repeat' (first | ((with_reducible refine o_id ?_); (conv => arg 1; whnf); first | (with_reducible exact o_nil) | (with_reducible refine o_cons ?_ ?_)) | rfl)))
set_option maxHeartbeats 1000000 in
theorem k_decl1 (xs : List Arr) (hl : xs.length ≤ 9223372036854775807) : Trip Try.prog 88 [.sl ⟨0, []⟩, .clo 89 []] ⟨[], [(0, .list .tmp .array xs)], 1⟩ (Z := Unit) (fun _ => True) (fun _ => .bool (xs.any badA)) (fun _ => ⟨[], [(0, .list .tmp .array xs)], 1⟩) := by
  refine trip_by (rs := [_]) 400 lay_ok Try.func88 rfl (by kernel_rfl) Try.ntmps88 Try.results88 rfl rfl ?_
  repeat' (first | (((with_reducible refine g_id ?_); (conv => arg 3; whnf)); first | (with_reducible refine g_fin ?_ ?_) | (refine g_call lay_ok 400 ?_ ?_ ?_ (i_decl1 ?_ ?_) rfl)) | ((with_reducible refine o_id ?_); (conv => arg 1; whnf); first | (with_reducible exact o_nil) | (with_reducible refine o_cons ?_ ?_)) | (intro h; ((try simp only [Int.toNat_natCast] at h); repeat (first | replace h := of_decide_eq_true h)); (try (first | contradiction))) | rfl | omega)
  all_goals ((((with_reducible refine e_id ?_); (conv => whnf)); refine ⟨(), trivial, ?_⟩; ((with_reducible refine s_id ?_); (conv => arg 1; whnf); (with_reducible refine s_some ?_); repeat' (first | ((with_reducible refine o_id ?_); (conv => arg 1; whnf); first | (with_reducible exact o_nil) | (with_reducible refine o_cons ?_ ?_)) | rfl))); exact h.symm)
end Go.Proofs.Ytonjbhdfimcedaa
namespace Go.Proofs.Ytonjbhdfimcedaa
open Go.RowKit
attribute [local irreducible] sizB badA
set_option maxHeartbeats 4000000 in
theorem c_declared (g : Grf) (ha : g.arrs.length ≤ 1048576) (hp : g.inp.length ≤ 1048576) : Trip Try.prog 48 [.agg [.sl ⟨0, []⟩, .int .i64 g.vars, .int .i64 g.keep, .sl ⟨1, []⟩, .int .i64 g.shared, .sl ⟨2, []⟩, .sl ⟨3, []⟩, .sl ⟨4, []⟩]] ⟨[], [(0, .list .tmp .input g.inp), (1, .list .tmp .array g.arrs), (2, .list .tmp .block g.blks), (3, .list .tmp .ints g.pts), (4, .list .tmp .head g.hds)], 5⟩ (Z := Unit) (fun _ => True) (fun _ => .bool (decB g)) (fun _ => ⟨[], [(0, .list .tmp .input g.inp), (1, .list .tmp .array g.arrs), (2, .list .tmp .block g.blks), (3, .list .tmp .ints g.pts), (4, .list .tmp .head g.hds)], 5⟩) := by
  by_cases hc : 0 ≤ g.vars ∧ 0 ≤ g.keep ∧ g.keep ≤ g.vars ∧ (g.inp.length : Int) ≤ g.keep ∧ 0 ≤ g.shared ∧ g.shared ≤ (g.arrs.length : Int)
  · refine trip_by (rs := [_]) 400 lay_ok Try.func48 rfl (by kernel_rfl) Try.ntmps48 Try.results48 rfl rfl ?_
    repeat' (first | (((with_reducible refine g_id ?_); (conv => arg 3; whnf)); first | (with_reducible refine g_split lay_ok 400 ?_ ?_ ?_) | (with_reducible refine g_cond lay_ok 400 ?_ ?_ ?_) | (refine g_call lay_ok 400 ?_ ?_ ?_ (c_between ?_ ?_ ?_) rfl)) | ((with_reducible refine o_id ?_); (conv => arg 1; whnf); first | (with_reducible exact o_nil) | (with_reducible refine o_cons ?_ ?_)) | (intro h; ((try simp only [Int.toNat_natCast] at h); repeat (first | replace h := of_decide_eq_true h | replace h := of_decide_eq_false h | replace h := not_t h | replace h := not_f h)); (try (first | (exfalso; omega)))) | rfl)
    refine g_loop lay_ok 400 (Z := Nat) (fun z => z ≤ g.inp.length ∧ allN (fun k => inpB (gt (c := .input) g.inp k)) z = true) (fun z => ⟨[(1, .ptr 5 0), (34, .sl ⟨0, []⟩), (35, .int .i64 (g.inp.length : Int)), (36, .int .i64 (z : Int))], [(0, .list .tmp .input g.inp), (1, .list .tmp .array g.arrs), (2, .list .tmp .block g.blks), (3, .list .tmp .ints g.pts), (4, .list .tmp .head g.hds), (5, .cells [.sl ⟨0, []⟩, .int .i64 g.vars, .int .i64 g.keep, .sl ⟨1, []⟩, .int .i64 g.shared, .sl ⟨2, []⟩, .sl ⟨3, []⟩, .sl ⟨4, []⟩])], 6⟩) (fun z => g.inp.length - z) ?_ ⟨0, ⟨Nat.zero_le _, allN_zero⟩, ?_⟩ (fun z hz => ?_)
    · repeat' (first | ((with_reducible refine o_id ?_); (conv => arg 1; whnf); first | (with_reducible exact o_nil)))
    · ((with_reducible refine s_id ?_); (conv => arg 1; whnf); (with_reducible refine s_some ?_); repeat' (first | ((with_reducible refine o_id ?_); (conv => arg 1; whnf); first | (with_reducible exact o_nil) | (with_reducible refine o_cons ?_ ?_)) | rfl))
    obtain ⟨hz, hf⟩ := hz
    by_cases hlt : z < g.inp.length
    · repeat' (first | (((with_reducible refine g_id ?_); (conv => arg 3; whnf)); first | (with_reducible refine g_split lay_ok 400 ?_ ?_ ?_) | (with_reducible refine g_cond lay_ok 400 ?_ ?_ ?_) | (with_reducible refine g_fin ?_ ?_) | (refine g_call lay_ok 400 ?_ ?_ ?_ (c_isW ?_) rfl)) | (with_reducible refine q_ret lay_ok 400 ?_) | (with_reducible exact o_nil) | ((with_reducible refine o_id ?_); (conv => arg 1; whnf); first | (with_reducible exact o_nil) | (with_reducible refine o_cons ?_ ?_)) | (intro h; ((try simp only [Int.toNat_natCast] at h); repeat (first | replace h := of_decide_eq_true h | replace h := of_decide_eq_false h | replace h := not_t h | replace h := not_f h)); (try (first | (exfalso; omega)))) | rfl | omega)
      all_goals first | (refine q_round ⟨z + 1, ⟨by omega, allN_yes hf (by unfold inpB; exact decide_eq_true (by omega))⟩, by omega, ?_⟩; ((with_reducible refine s_id ?_); (conv => arg 1; whnf); (with_reducible refine s_some ?_); repeat' (first | ((with_reducible refine o_id ?_); (conv => arg 1; whnf); first | (with_reducible exact o_nil) | (with_reducible refine o_cons ?_ ?_)) | rfl))) | ((((with_reducible refine e_id ?_); (conv => whnf)); refine ⟨(), trivial, ?_⟩; ((with_reducible refine s_id ?_); (conv => arg 1; whnf); (with_reducible refine s_some ?_); repeat' (first | ((with_reducible refine o_id ?_); (conv => arg 1; whnf); first | (with_reducible exact o_nil) | (with_reducible refine o_cons ?_ ?_)) | rfl | (exact dec_f2 hlt (by unfold inpB; exact decide_eq_false (by omega)))))))
    · have e : z = g.inp.length := by omega
      subst e
      repeat' (first | (((with_reducible refine g_id ?_); (conv => arg 3; whnf)); first | (with_reducible refine g_cond lay_ok 400 ?_ ?_ ?_) | (with_reducible refine g_fin ?_ ?_) | (refine g_call lay_ok 400 ?_ ?_ ?_ (k_decl1 ?_ ?_) rfl)) | (with_reducible refine q_leave lay_ok 400 ?_) | (with_reducible exact o_nil) | ((with_reducible refine o_id ?_); (conv => arg 1; whnf); first | (with_reducible exact o_nil) | (with_reducible refine o_cons ?_ ?_)) | (intro h; ((try simp only [Int.toNat_natCast] at h); repeat (first | replace h := of_decide_eq_true h | replace h := of_decide_eq_false h)); (try (first | (exfalso; omega)))) | rfl | omega)
      all_goals (((with_reducible refine e_id ?_); (conv => whnf)); refine ⟨(), trivial, ?_⟩; ((with_reducible refine s_id ?_); (conv => arg 1; whnf); (with_reducible refine s_some ?_); repeat' (first | ((with_reducible refine o_id ?_); (conv => arg 1; whnf); first | (with_reducible exact o_nil) | (with_reducible refine o_cons ?_ ?_)) | rfl | (exact dec_is hc hf))))
  · have e := dec_f1 hc
    refine trip_by (rs := [_]) 400 lay_ok Try.func48 rfl (by kernel_rfl) Try.ntmps48 Try.results48 rfl rfl ?_
    repeat' (first | (((with_reducible refine g_id ?_); (conv => arg 3; whnf)); first | (with_reducible refine g_split lay_ok 400 ?_ ?_ ?_) | (with_reducible refine g_cond lay_ok 400 ?_ ?_ ?_) | (with_reducible refine g_fin ?_ ?_) | (refine g_call lay_ok 400 ?_ ?_ ?_ (c_between ?_ ?_ ?_) rfl)) | ((with_reducible refine o_id ?_); (conv => arg 1; whnf); first | (with_reducible exact o_nil) | (with_reducible refine o_cons ?_ ?_)) | (intro h; ((try simp only [Int.toNat_natCast] at h); repeat (first | replace h := of_decide_eq_true h | replace h := of_decide_eq_false h | replace h := not_t h | replace h := not_f h)); (try (first | (exfalso; omega)))) | rfl)
    all_goals (((with_reducible refine e_id ?_); (conv => whnf)); refine ⟨(), trivial, ?_⟩; ((with_reducible refine s_id ?_); (conv => arg 1; whnf); (with_reducible refine s_some ?_); repeat' (first | ((with_reducible refine o_id ?_); (conv => arg 1; whnf); first | (with_reducible exact o_nil) | (with_reducible refine o_cons ?_ ?_)) | rfl | omega)))
end Go.Proofs.Ytonjbhdfimcedaa
namespace Go.Proofs.Ytonjbhdfimcedaa
open Go.RowKit
def opsN (l : List Blk) (n : Nat) : Int := sumN (fun i => ((gt (c := .block) l i).ops.length : Int)) n
theorem opsN_zero {l : List Blk} : opsN l 0 = 0 := rfl
theorem opsN_succ {l : List Blk} {n : Nat} : opsN l (n + 1) = opsN l n + ((gt (c := .block) l n).ops.length : Int) := rfl
theorem opsN_nn {l : List Blk} : ∀ n, 0 ≤ opsN l n
  | 0 => Int.le_refl _
  | n + 1 => by rw [opsN_succ]; have := opsN_nn (l := l) n; omega
theorem opsN_le {l : List Blk} {a b : Nat} (h : a ≤ b) : opsN l a ≤ opsN l b := by
  induction h with
  | refl => exact Int.le_refl _
  | step _ ih => rw [opsN_succ]; omega
attribute [local irreducible] opsN
set_option maxHeartbeats 2000000 in
theorem c_opsN (g : Grf) (hb : g.blks.length ≤ 1048576) (hs : opsN g.blks g.blks.length ≤ 1048576) : Trip Try.prog 46 [.agg [.sl ⟨0, []⟩, .int .i64 g.vars, .int .i64 g.keep, .sl ⟨1, []⟩, .int .i64 g.shared, .sl ⟨2, []⟩, .sl ⟨3, []⟩, .sl ⟨4, []⟩]] ⟨[], [(0, .list .tmp .input g.inp), (1, .list .tmp .array g.arrs), (2, .list .tmp .block g.blks), (3, .list .tmp .ints g.pts), (4, .list .tmp .head g.hds)], 5⟩ (Z := Unit) (fun _ => True) (fun _ => .int .i64 (opsN g.blks g.blks.length)) (fun _ => ⟨[], [(0, .list .tmp .input g.inp), (1, .list .tmp .array g.arrs), (2, .list .tmp .block g.blks), (3, .list .tmp .ints g.pts), (4, .list .tmp .head g.hds)], 5⟩) := by
  refine trip_by (rs := [_]) 400 lay_ok Try.func46 rfl (by kernel_rfl) Try.ntmps46 Try.results46 rfl rfl ?_
  repeat' (first | (simp only [opsN_succ]))
  refine g_loop lay_ok 400 (Z := Nat) (fun z => z ≤ g.blks.length) (fun z => ⟨[(1, .ptr 5 0), (3, .int .i64 (opsN g.blks z)), (7, .sl ⟨2, []⟩), (8, .int .i64 (g.blks.length : Int)), (9, .int .i64 (z : Int))], [(0, .list .tmp .input g.inp), (1, .list .tmp .array g.arrs), (2, .list .tmp .block g.blks), (3, .list .tmp .ints g.pts), (4, .list .tmp .head g.hds), (5, .cells [.sl ⟨0, []⟩, .int .i64 g.vars, .int .i64 g.keep, .sl ⟨1, []⟩, .int .i64 g.shared, .sl ⟨2, []⟩, .sl ⟨3, []⟩, .sl ⟨4, []⟩])], 6⟩) (fun z => g.blks.length - z) ?_ ⟨0, Nat.zero_le _, ?_⟩ (fun z hz => ?_)
  · repeat' (first | ((with_reducible refine o_id ?_); (conv => arg 1; whnf); first | (with_reducible exact o_nil)))
  · ((with_reducible refine s_id ?_); (conv => arg 1; whnf); (with_reducible refine s_some ?_); repeat' (first | ((with_reducible refine o_id ?_); (conv => arg 1; whnf); first | (with_reducible exact o_nil) | (with_reducible refine o_cons ?_ ?_)) | rfl | (rw [opsN_zero])))
  have n1 := opsN_nn (l := g.blks) z
  by_cases hlt : z < g.blks.length
  · have n2 := opsN_le (l := g.blks) (show z + 1 ≤ g.blks.length by omega)
    have n3 := opsN_nn (l := g.blks) (z + 1)
    have n4 := opsN_succ (l := g.blks) (n := z)
    repeat' (first | (((with_reducible refine g_id ?_); (conv => arg 3; whnf)); first | (with_reducible refine g_cond lay_ok 400 ?_ ?_ ?_) | (with_reducible refine g_fin ?_ ?_)) | ((with_reducible refine o_id ?_); (conv => arg 1; whnf); first | (with_reducible exact o_nil) | (with_reducible refine o_cons ?_ ?_)) | (intro h; ((try simp only [Int.toNat_natCast] at h); repeat (first | replace h := of_decide_eq_true h | replace h := of_decide_eq_false h)); (try (first | (exfalso; omega)))) | omega | (simp only [Int.toNat_natCast]; omega) | (simp only [opsN_succ]))
    all_goals (refine q_round ⟨z + 1, by omega, by omega, ?_⟩; ((with_reducible refine s_id ?_); (conv => arg 1; whnf); (with_reducible refine s_some ?_); repeat' (first | ((with_reducible refine o_id ?_); (conv => arg 1; whnf); first | (with_reducible exact o_nil) | (with_reducible refine o_cons ?_ ?_)) | rfl | assumption)))
  · have e : z = g.blks.length := by omega
    subst e
    repeat' (first | (((with_reducible refine g_id ?_); (conv => arg 3; whnf)); first | (with_reducible refine g_cond lay_ok 400 ?_ ?_ ?_) | (with_reducible refine g_fin ?_ ?_)) | (with_reducible refine q_leave lay_ok 400 ?_) | (with_reducible exact o_nil) | ((with_reducible refine o_id ?_); (conv => arg 1; whnf); first | (with_reducible exact o_nil)) | (intro h; ((try simp only [Int.toNat_natCast] at h); repeat (first | replace h := of_decide_eq_true h | replace h := of_decide_eq_false h)); (try (first | (exfalso; omega)))))
    all_goals (((with_reducible refine e_id ?_); (conv => whnf)); refine ⟨(), trivial, ?_⟩; ((with_reducible refine s_id ?_); (conv => arg 1; whnf); (with_reducible refine s_some ?_); repeat' (first | ((with_reducible refine o_id ?_); (conv => arg 1; whnf); first | (with_reducible exact o_nil) | (with_reducible refine o_cons ?_ ?_)) | rfl)))
set_option maxHeartbeats 2000000 in
theorem r_opsN (g : Grf) (hb : g.blks.length ≤ 1048576) (hs : opsN g.blks g.blks.length ≤ 1048576) : Trip Try.prog 61 [.agg [.sl ⟨0, []⟩, .int .i64 g.vars, .int .i64 g.keep, .sl ⟨1, []⟩, .int .i64 g.shared, .sl ⟨2, []⟩, .sl ⟨3, []⟩, .sl ⟨4, []⟩]] ⟨[], [(0, .list .tmp .input g.inp), (1, .list .tmp .array g.arrs), (2, .list .tmp .block g.blks), (3, .list .tmp .ints g.pts), (4, .list .tmp .head g.hds)], 5⟩ (Z := Unit) (fun _ => True) (fun _ => .int .i64 (opsN g.blks g.blks.length)) (fun _ => ⟨[], [(0, .list .tmp .input g.inp), (1, .list .tmp .array g.arrs), (2, .list .tmp .block g.blks), (3, .list .tmp .ints g.pts), (4, .list .tmp .head g.hds)], 5⟩) := by
  refine trip_by (rs := [_]) 400 lay_ok Try.func61 rfl (by kernel_rfl) Try.ntmps61 Try.results61 rfl rfl ?_
  repeat' (first | (simp only [opsN_succ]))
  refine g_loop lay_ok 400 (Z := Nat) (fun z => z ≤ g.blks.length) (fun z => ⟨[(1, .ptr 5 0), (3, .int .i64 (opsN g.blks z)), (4, .int .i64 (z : Int))], [(0, .list .tmp .input g.inp), (1, .list .tmp .array g.arrs), (2, .list .tmp .block g.blks), (3, .list .tmp .ints g.pts), (4, .list .tmp .head g.hds), (5, .cells [.sl ⟨0, []⟩, .int .i64 g.vars, .int .i64 g.keep, .sl ⟨1, []⟩, .int .i64 g.shared, .sl ⟨2, []⟩, .sl ⟨3, []⟩, .sl ⟨4, []⟩])], 6⟩) (fun z => g.blks.length - z) ?_ ⟨0, Nat.zero_le _, ?_⟩ (fun z hz => ?_)
  · repeat' (first | ((with_reducible refine o_id ?_); (conv => arg 1; whnf); first | (with_reducible exact o_nil)))
  · ((with_reducible refine s_id ?_); (conv => arg 1; whnf); (with_reducible refine s_some ?_); repeat' (first | ((with_reducible refine o_id ?_); (conv => arg 1; whnf); first | (with_reducible exact o_nil) | (with_reducible refine o_cons ?_ ?_)) | rfl | (rw [opsN_zero])))
  have n1 := opsN_nn (l := g.blks) z
  by_cases hlt : z < g.blks.length
  · have n2 := opsN_le (l := g.blks) (show z + 1 ≤ g.blks.length by omega)
    have n3 := opsN_nn (l := g.blks) (z + 1)
    have n4 := opsN_succ (l := g.blks) (n := z)
    repeat' (first | (((with_reducible refine g_id ?_); (conv => arg 3; whnf)); first | (with_reducible refine g_cond lay_ok 400 ?_ ?_ ?_) | (with_reducible refine g_fin ?_ ?_)) | ((with_reducible refine o_id ?_); (conv => arg 1; whnf); first | (with_reducible exact o_nil) | (with_reducible refine o_cons ?_ ?_)) | (intro h; ((try simp only [Int.toNat_natCast] at h); repeat (first | replace h := of_decide_eq_true h | replace h := of_decide_eq_false h)); (try (first | (exfalso; omega)))) | omega | (simp only [Int.toNat_natCast]; omega) | (simp only [opsN_succ]))
    all_goals (refine q_round ⟨z + 1, by omega, by omega, ?_⟩; ((with_reducible refine s_id ?_); (conv => arg 1; whnf); (with_reducible refine s_some ?_); repeat' (first | ((with_reducible refine o_id ?_); (conv => arg 1; whnf); first | (with_reducible exact o_nil) | (with_reducible refine o_cons ?_ ?_)) | rfl | assumption)))
  · have e : z = g.blks.length := by omega
    subst e
    repeat' (first | (((with_reducible refine g_id ?_); (conv => arg 3; whnf)); first | (with_reducible refine g_cond lay_ok 400 ?_ ?_ ?_) | (with_reducible refine g_fin ?_ ?_)) | (with_reducible refine q_leave lay_ok 400 ?_) | (with_reducible exact o_nil) | ((with_reducible refine o_id ?_); (conv => arg 1; whnf); first | (with_reducible exact o_nil)) | (intro h; ((try simp only [Int.toNat_natCast] at h); repeat (first | replace h := of_decide_eq_true h | replace h := of_decide_eq_false h)); (try (first | (exfalso; omega)))) | (simp only [opsN_succ]))
    all_goals (((with_reducible refine e_id ?_); (conv => whnf)); refine ⟨(), trivial, ?_⟩; ((with_reducible refine s_id ?_); (conv => arg 1; whnf); (with_reducible refine s_some ?_); repeat' (first | ((with_reducible refine o_id ?_); (conv => arg 1; whnf); first | (with_reducible exact o_nil) | (with_reducible refine o_cons ?_ ?_)) | rfl)))
end Go.Proofs.Ytonjbhdfimcedaa
namespace Go.Proofs.Ytonjbhdfimcedaa
open Go.RowKit
structure Bnd (g : Grf) : Prop where
  i : g.inp.length ≤ 1048576
  a : g.arrs.length ≤ 1048576
  b : g.blks.length ≤ 1048576
  p : g.pts.length ≤ 1048576
  h : g.hds.length ≤ 1048576
  s : opsN g.blks g.blks.length ≤ 1048576
  o : ∀ b ∈ g.blks, b.ops.length ≤ 1048576
  n : ∀ b ∈ g.blks, b.next.length ≤ 1048576
  q : ∀ l ∈ g.pts, l.length ≤ 1048576
def endsN (l : List Blk) (n : Nat) : Int := sumN (fun i => if (gt (c := .block) l i).next.length = 0 then 1 else 0) n
theorem endsN_zero {l : List Blk} : endsN l 0 = 0 := rfl
theorem endsN_y {l : List Blk} {n : Nat} (h : (gt (c := .block) l n).next.length = 0) : endsN l (n + 1) = endsN l n + 1 := by
  show endsN l n + (if (gt (c := .block) l n).next.length = 0 then 1 else 0) = _
  rw [if_pos h]
theorem endsN_n {l : List Blk} {n : Nat} (h : ¬ (gt (c := .block) l n).next.length = 0) : endsN l (n + 1) = endsN l n := by
  show endsN l n + (if (gt (c := .block) l n).next.length = 0 then 1 else 0) = _
  rw [if_neg h, Int.add_zero]
theorem endsN_bd {l : List Blk} : ∀ n, 0 ≤ endsN l n ∧ endsN l n ≤ (n : Int)
  | 0 => ⟨Int.le_refl _, Int.le_refl _⟩
  | n + 1 => by
    have := endsN_bd (l := l) n
    by_cases h : (gt (c := .block) l n).next.length = 0
    · rw [endsN_y h]; omega
    · rw [endsN_n h]; omega
def limG (g : Grf) : Prop := 64 < (g.blks.length : Int) ∨ 600 < opsN g.blks g.blks.length ∨ 64 < g.vars ∨ 8 < (g.arrs.length : Int) ∨ 39 < (g.pts.length : Int)
instance (g : Grf) : Decidable (limG g) := by unfold limG; infer_instance
def okG (g : Grf) : Bool := allN (fun k => blkB (g.vars - 1) g.arrs.length g.blks.length (gt (c := .block) g.blks k)) g.blks.length && (decide (endsN g.blks g.blks.length = 1) && (decB g && namB g.blks.length g.pts g.hds))
def chkG (g : Grf) : Int := if limG g then 4 else if okG g = true then 0 else 10
theorem chk_lim {g : Grf} (h : limG g) : chkG g = 4 := if_pos h
theorem chk_no {g : Grf} (h : ¬ limG g) (h2 : okG g = false) : chkG g = 10 := by unfold chkG; rw [if_neg h, h2]; rfl
theorem chk_yes {g : Grf} (h : ¬ limG g) (h2 : okG g = true) : chkG g = 0 := by unfold chkG; rw [if_neg h, h2]; rfl
theorem dec_vars {g : Grf} (h : g.vars < 0) : decB g = false := dec_f1 (by omega)
theorem ok_dec {g : Grf} (h : decB g = false) : okG g = false := by unfold okG; rw [h, Bool.false_and, Bool.and_false, Bool.and_false]
theorem ok_nam {g : Grf} (h : namB g.blks.length g.pts g.hds = false) : okG g = false := by unfold okG; rw [h, Bool.and_false, Bool.and_false, Bool.and_false]
theorem ok_ends {g : Grf} (h : ¬ endsN g.blks g.blks.length = 1) : okG g = false := by unfold okG; rw [decide_eq_false h, Bool.false_and, Bool.and_false]
theorem ok_blk {g : Grf} {k : Nat} (hl : ¬ limG g) (hk : k < g.blks.length) (h : blkB (hiG g.vars) g.arrs.length g.blks.length (gt (c := .block) g.blks k) = false) : okG g = false := by
  by_cases hv : 0 ≤ g.vars
  · rw [hiG_is hv (by unfold limG at hl; omega)] at h
    unfold okG
    rw [allN_no hk h]; rfl
  · exact ok_dec (dec_vars (by omega))
theorem ok_all {g : Grf} (hl : ¬ limG g) (h1 : allN (fun k => blkB (hiG g.vars) g.arrs.length g.blks.length (gt (c := .block) g.blks k)) g.blks.length = true) (h2 : endsN g.blks g.blks.length = 1) (h3 : decB g = true) (h4 : namB g.blks.length g.pts g.hds = true) : okG g = true := by
  have hv : 0 ≤ g.vars := by
    by_cases hv : 0 ≤ g.vars
    · exact hv
    · rw [dec_vars (by omega)] at h3; cases h3
  rw [hiG_is hv (by unfold limG at hl; omega)] at h1
  unfold okG
  rw [h1, h2, h3, h4]; rfl
attribute [local irreducible] sizB badA opsN endsN namB decB blkB okG chkG hiG
set_option maxHeartbeats 4000000 in
theorem c_check (g : Grf) (hB : Bnd g) : Trip Try.prog 26 [.agg [.sl ⟨0, []⟩, .int .i64 g.vars, .int .i64 g.keep, .sl ⟨1, []⟩, .int .i64 g.shared, .sl ⟨2, []⟩, .sl ⟨3, []⟩, .sl ⟨4, []⟩]] ⟨[], [(0, .list .tmp .input g.inp), (1, .list .tmp .array g.arrs), (2, .list .tmp .block g.blks), (3, .list .tmp .ints g.pts), (4, .list .tmp .head g.hds)], 5⟩ (Z := Unit) (fun _ => True) (fun _ => .int .i64 (chkG g)) (fun _ => ⟨[], [(0, .list .tmp .input g.inp), (1, .list .tmp .array g.arrs), (2, .list .tmp .block g.blks), (3, .list .tmp .ints g.pts), (4, .list .tmp .head g.hds)], 5⟩) := by
  obtain ⟨h1, h2, h3, h4, h5, h6, h7, h8, h9⟩ := hB
  by_cases hl : limG g
  · have hl2 := hl
    unfold limG at hl2
    refine trip_by (rs := [_]) 400 lay_ok Try.func26 rfl (by kernel_rfl) Try.ntmps26 Try.results26 rfl rfl ?_
    repeat' (first | (((with_reducible refine g_id ?_); (conv => arg 3; whnf)); first | (with_reducible refine g_split lay_ok 400 ?_ ?_ ?_) | (with_reducible refine g_cond lay_ok 400 ?_ ?_ ?_) | (with_reducible refine g_fin ?_ ?_) | (refine g_call lay_ok 400 ?_ ?_ ?_ (c_opsN ?_ ?_ ?_) rfl)) | ((with_reducible refine o_id ?_); (conv => arg 1; whnf); first | (with_reducible exact o_nil) | (with_reducible refine o_cons ?_ ?_)) | (intro h; ((try simp only [Int.toNat_natCast] at h); repeat (first | replace h := of_decide_eq_true h | replace h := of_decide_eq_false h)); (try (first | (exfalso; omega)))) | rfl | omega)
    all_goals (((with_reducible refine e_id ?_); (conv => whnf)); refine ⟨(), trivial, ?_⟩; ((with_reducible refine s_id ?_); (conv => arg 1; whnf); (with_reducible refine s_some ?_); repeat' (first | ((with_reducible refine o_id ?_); (conv => arg 1; whnf); first | (with_reducible exact o_nil) | (with_reducible refine o_cons ?_ ?_)) | rfl | (exact (chk_lim (by unfold limG; omega))))))
  · have hl2 := hl
    unfold limG at hl2
    refine trip_by (rs := [_]) 400 lay_ok Try.func26 rfl (by kernel_rfl) Try.ntmps26 Try.results26 rfl rfl ?_
    repeat' (first | (((with_reducible refine g_id ?_); (conv => arg 3; whnf)); first | (with_reducible refine g_split lay_ok 400 ?_ ?_ ?_) | (with_reducible refine g_cond lay_ok 400 ?_ ?_ ?_) | (refine g_call lay_ok 400 ?_ ?_ ?_ (c_opsN ?_ ?_ ?_) rfl)) | ((with_reducible refine o_id ?_); (conv => arg 1; whnf); first | (with_reducible exact o_nil) | (with_reducible refine o_cons ?_ ?_)) | (intro h; ((try simp only [Int.toNat_natCast] at h); repeat (first | replace h := of_decide_eq_true h | replace h := of_decide_eq_false h)); (try (first | (exfalso; omega)))) | rfl | omega)
    refine g_loop lay_ok 400 (Z := Nat) (fun z => z ≤ g.blks.length ∧ allN (fun k => blkB (hiG g.vars) g.arrs.length g.blks.length (gt (c := .block) g.blks k)) z = true) (fun z => ⟨[(1, .ptr 5 0), (3, .int .i64 (endsN g.blks z)), (33, .sl ⟨2, []⟩), (34, .int .i64 (g.blks.length : Int)), (35, .int .i64 (z : Int))], [(0, .list .tmp .input g.inp), (1, .list .tmp .array g.arrs), (2, .list .tmp .block g.blks), (3, .list .tmp .ints g.pts), (4, .list .tmp .head g.hds), (5, .cells [.sl ⟨0, []⟩, .int .i64 g.vars, .int .i64 g.keep, .sl ⟨1, []⟩, .int .i64 g.shared, .sl ⟨2, []⟩, .sl ⟨3, []⟩, .sl ⟨4, []⟩])], 6⟩) (fun z => g.blks.length - z) ?_ ⟨0, ⟨Nat.zero_le _, allN_zero⟩, ?_⟩ (fun z hz => ?_)
    · repeat' (first | ((with_reducible refine o_id ?_); (conv => arg 1; whnf); first | (with_reducible exact o_nil)))
    · ((with_reducible refine s_id ?_); (conv => arg 1; whnf); (with_reducible refine s_some ?_); repeat' (first | ((with_reducible refine o_id ?_); (conv => arg 1; whnf); first | (with_reducible exact o_nil) | (with_reducible refine o_cons ?_ ?_)) | rfl | (rw [endsN_zero])))
    obtain ⟨hz, hf⟩ := hz
    have he := endsN_bd (l := g.blks) z
    by_cases hlt : z < g.blks.length
    · have ho := h7 _ (mem_gt (c := .block) hlt)
      have hn := h8 _ (mem_gt (c := .block) hlt)
      repeat' (first | (((with_reducible refine g_id ?_); (conv => arg 3; whnf)); first | (with_reducible refine g_cond lay_ok 400 ?_ ?_ ?_) | (with_reducible refine g_fin ?_ ?_) | (refine g_call lay_ok 400 ?_ ?_ ?_ (c_block ?_ ?_ ?_ ?_ ?_ ?_) rfl)) | (with_reducible refine q_ret lay_ok 400 ?_) | (with_reducible exact o_nil) | ((with_reducible refine o_id ?_); (conv => arg 1; whnf); first | (with_reducible exact o_nil) | (with_reducible refine o_cons ?_ ?_)) | (intro h; ((try simp only [Int.toNat_natCast] at h); repeat (first | replace h := of_decide_eq_true h | replace h := of_decide_eq_false h | replace h := not_t h | replace h := not_f h)); (try (first | (exfalso; omega)))) | rfl | omega | (simp only [Int.toNat_natCast]; omega))
      all_goals first | (refine q_round ⟨z + 1, ⟨by omega, allN_yes hf (by assumption)⟩, by omega, ?_⟩; ((with_reducible refine s_id ?_); (conv => arg 1; whnf); (with_reducible refine s_some ?_); repeat' (first | ((with_reducible refine o_id ?_); (conv => arg 1; whnf); first | (with_reducible exact o_nil) | (with_reducible refine o_cons ?_ ?_)) | rfl | (rw [endsN_y (by omega)]) | (rw [endsN_n (by omega)])))) | ((((with_reducible refine e_id ?_); (conv => whnf)); refine ⟨(), trivial, ?_⟩; ((with_reducible refine s_id ?_); (conv => arg 1; whnf); (with_reducible refine s_some ?_); repeat' (first | ((with_reducible refine o_id ?_); (conv => arg 1; whnf); first | (with_reducible exact o_nil) | (with_reducible refine o_cons ?_ ?_)) | rfl | (exact (chk_no hl (ok_blk hl hlt (by assumption))))))))
    · have e : z = g.blks.length := by omega
      subst e
      repeat' (first | (((with_reducible refine g_id ?_); (conv => arg 3; whnf)); first | (with_reducible refine g_split lay_ok 400 ?_ ?_ ?_) | (with_reducible refine g_cond lay_ok 400 ?_ ?_ ?_) | (with_reducible refine g_fin ?_ ?_) | (refine g_call lay_ok 400 ?_ ?_ ?_ (c_declared ?_ ?_ ?_) rfl) | (refine g_call lay_ok 400 ?_ ?_ ?_ (c_named ?_ ?_ ?_ ?_ ?_) rfl)) | (with_reducible refine q_leave lay_ok 400 ?_) | (with_reducible exact o_nil) | ((with_reducible refine o_id ?_); (conv => arg 1; whnf); first | (with_reducible exact o_nil) | (with_reducible refine o_cons ?_ ?_)) | (intro h; ((try simp only [Int.toNat_natCast] at h); repeat (first | replace h := of_decide_eq_true h | replace h := of_decide_eq_false h | replace h := not_t h | replace h := not_f h)); (try (first | (exfalso; omega)))) | rfl | omega | (exact h9 _ (by assumption)))
      all_goals (((with_reducible refine e_id ?_); (conv => whnf)); refine ⟨(), trivial, ?_⟩; ((with_reducible refine s_id ?_); (conv => arg 1; whnf); (with_reducible refine s_some ?_); repeat' (first | ((with_reducible refine o_id ?_); (conv => arg 1; whnf); first | (with_reducible exact o_nil) | (with_reducible refine o_cons ?_ ?_)) | rfl | (exact (chk_no hl (ok_dec (by assumption)))) | (exact (chk_no hl (ok_nam (by assumption)))) | (exact (chk_no hl (ok_ends (by assumption)))) | (exact (chk_yes hl (ok_all hl hf (by assumption) (by assumption) (by assumption)))))))
end Go.Proofs.Ytonjbhdfimcedaa
namespace Go.Proofs.Ytonjbhdfimcedaa
open Go.RowKit
def eqB (n m : Int) : Bool := decide (m = n)
theorem eq_t {n m : Int} (h : m = n) : eqB n m = true := decide_eq_true h
theorem eq_f {n m : Int} (h : ¬ m = n) : eqB n m = false := decide_eq_false h
def hasB (l : List Int) (n : Int) : Bool := l.any (eqB n)
theorem met_has {l : List Int} {k : Nat} {x : Int} (h : k ≤ l.length) : hasB (l.take k) x = metB l k x := by
  apply Bool.eq_iff_iff.2
  unfold hasB metB
  rw [List.any_eq_true, List.any_eq_true]
  constructor
  · rintro ⟨m, h1, h2⟩
    obtain ⟨j, hj, e⟩ := List.mem_iff_getElem.1 h1
    rw [List.length_take] at hj
    refine ⟨j, List.mem_range.2 (by omega), ?_⟩
    rw [List.getElem_take] at e
    have e2 : gt (c := .int) l j = m := by rw [gt_eq (c := .int) (List.getElem?_eq_getElem (by omega))]; exact e
    rw [e2]; exact h2
  · rintro ⟨j, h1, h2⟩
    have hj := List.mem_range.1 h1
    refine ⟨gt (c := .int) l j, ?_, h2⟩
    rw [List.mem_iff_getElem]
    refine ⟨j, by rw [List.length_take]; omega, ?_⟩
    rw [List.getElem_take, gt_eq (c := .int) (List.getElem?_eq_getElem (by omega))]
set_option maxHeartbeats 1000000 in
theorem r_has (l : List Int) (n : Int) (hl : l.length ≤ 1048576) : Trip Try.prog 65 [.sl ⟨0, []⟩, .int .i64 n] ⟨[], [(0, .list .tmp .int l)], 1⟩ (Z := Unit) (fun _ => True) (fun _ => .bool (hasB l n)) (fun _ => ⟨[], [(0, .list .tmp .int l)], 1⟩) := by
  refine trip_by (rs := [_]) 400 lay_ok Try.func65 rfl (by kernel_rfl) Try.ntmps65 Try.results65 rfl rfl ?_
  repeat' (first | (((with_reducible refine g_id ?_); (conv => arg 3; whnf)); first | (with_reducible refine g_split lay_ok 400 ?_ ?_ ?_)))
  refine g_loop lay_ok 400 (Z := Nat) (fun i => i ≤ l.length ∧ ∀ k, k < i → (eqB n) (gt (c := .int) l k) = false) (fun i => ⟨[(0, .sl ⟨0, []⟩), (1, .int .i64 n), (5, .int .i64 (i : Int))], [(0, .list .tmp .int l)], 1⟩) (fun i => l.length - i) ?_ ⟨0, ⟨Nat.zero_le _, fun k hk => by omega⟩, ?_⟩ (fun i hi => ?_)
  · repeat' (first | ((with_reducible refine o_id ?_); (conv => arg 1; whnf); first | (with_reducible exact o_nil)))
  · ((with_reducible refine s_id ?_); (conv => arg 1; whnf); (with_reducible refine s_some ?_); repeat' (first | ((with_reducible refine o_id ?_); (conv => arg 1; whnf); first | (with_reducible exact o_nil) | (with_reducible refine o_cons ?_ ?_)) | rfl))
  obtain ⟨hi, hn⟩ := hi
  by_cases hlt : i < l.length
  · repeat' (first | (((with_reducible refine g_id ?_); (conv => arg 3; whnf)); first | (with_reducible refine g_cond lay_ok 400 ?_ ?_ ?_) | (with_reducible refine g_fin ?_ ?_)) | (with_reducible refine q_ret lay_ok 400 ?_) | (with_reducible exact o_nil) | ((with_reducible refine o_id ?_); (conv => arg 1; whnf); first | (with_reducible exact o_nil) | (with_reducible refine o_cons ?_ ?_)) | (intro h; ((try simp only [Int.toNat_natCast] at h); repeat (first | replace h := of_decide_eq_true h | replace h := of_decide_eq_false h)); (try (first | (exfalso; omega)))) | omega)
    all_goals first | (refine q_round ⟨i + 1, ⟨by omega, gt_next (c := .int) hn (eq_f h)⟩, by omega, ?_⟩; ((with_reducible refine s_id ?_); (conv => arg 1; whnf); (with_reducible refine s_some ?_); repeat' (first | ((with_reducible refine o_id ?_); (conv => arg 1; whnf); first | (with_reducible exact o_nil) | (with_reducible refine o_cons ?_ ?_)) | rfl))) | ((((with_reducible refine e_id ?_); (conv => whnf)); refine ⟨(), trivial, ?_⟩; ((with_reducible refine s_id ?_); (conv => arg 1; whnf); (with_reducible refine s_some ?_); repeat' (first | ((with_reducible refine o_id ?_); (conv => arg 1; whnf); first | (with_reducible exact o_nil) | (with_reducible refine o_cons ?_ ?_)) | rfl | (exact any_gt_t (c := .int) hlt (eq_t h))))))
  · repeat' (first | (((with_reducible refine g_id ?_); (conv => arg 3; whnf)); first | (with_reducible refine g_cond lay_ok 400 ?_ ?_ ?_) | (with_reducible refine g_fin ?_ ?_)) | (with_reducible refine q_leave lay_ok 400 ?_) | (with_reducible exact o_nil) | ((with_reducible refine o_id ?_); (conv => arg 1; whnf); first | (with_reducible exact o_nil)) | (intro h; ((try simp only [Int.toNat_natCast] at h); repeat (first | replace h := of_decide_eq_true h | replace h := of_decide_eq_false h)); (try (first | (exfalso; omega)))))
    all_goals (((with_reducible refine e_id ?_); (conv => whnf)); refine ⟨(), trivial, ?_⟩; ((with_reducible refine s_id ?_); (conv => arg 1; whnf); (with_reducible refine s_some ?_); repeat' (first | ((with_reducible refine o_id ?_); (conv => arg 1; whnf); first | (with_reducible exact o_nil) | (with_reducible refine o_cons ?_ ?_)) | rfl | (exact any_gt_f (c := .int) (n := i) hn (by omega)))))
end Go.Proofs.Ytonjbhdfimcedaa
namespace Go.Proofs.Ytonjbhdfimcedaa
open Go.RowKit
theorem dec_f3 {g : Grf} {k : Nat} (hk : k < g.arrs.length) (h : badA (gt (c := .array) g.arrs k) = true) : decB g = false := by
  unfold decB; rw [any_gt_t (c := .array) hk h, Bool.not_true, Bool.and_false, Bool.and_false]
theorem dec_y {g : Grf} (h : 0 ≤ g.vars ∧ 0 ≤ g.keep ∧ g.keep ≤ g.vars ∧ (g.inp.length : Int) ≤ g.keep ∧ 0 ≤ g.shared ∧ g.shared ≤ (g.arrs.length : Int)) (h2 : allN (fun k => inpB (gt (c := .input) g.inp k)) g.inp.length = true) (h3 : ∀ k, k < g.arrs.length → badA (gt (c := .array) g.arrs k) = false) : decB g = true := by
  rw [dec_is h h2, any_gt_f (c := .array) (n := g.arrs.length) h3 (Nat.le_refl _)]; rfl
theorem badA_t {a : Arr} (h : sizB a.size = false) : badA a = true := by unfold badA; rw [h]; rfl
theorem badA_f {a : Arr} (h : sizB a.size = true) : badA a = false := by unfold badA; rw [h]; rfl
theorem ok_blk2 {g : Grf} {k : Nat} (hk : k < g.blks.length) (h : blkB (g.vars - 1) g.arrs.length g.blks.length (gt (c := .block) g.blks k) = false) : okG g = false := by
  unfold okG; rw [allN_no hk h]; rfl
theorem ok_all2 {g : Grf} (h1 : allN (fun k => blkB (g.vars - 1) g.arrs.length g.blks.length (gt (c := .block) g.blks k)) g.blks.length = true) (h2 : endsN g.blks g.blks.length = 1) (h3 : decB g = true) (h4 : namB g.blks.length g.pts g.hds = true) : okG g = true := by
  unfold okG; rw [h1, h2, h3, h4]; rfl
theorem ok_none {g : Grf} (h : g.blks.length = 0) : okG g = false := ok_ends (by rw [h, endsN_zero]; omega)
attribute [local irreducible] sizB badA opsN endsN namB decB blkB okG chkG hiG hasB metB
set_option maxHeartbeats 4000000 in
theorem r_check1 (g : Grf) (hB : Bnd g) : Trip Try.prog 31 [.agg [.sl ⟨0, []⟩, .int .i64 g.vars, .int .i64 g.keep, .sl ⟨1, []⟩, .int .i64 g.shared, .sl ⟨2, []⟩, .sl ⟨3, []⟩, .sl ⟨4, []⟩]] ⟨[], [(0, .list .tmp .input g.inp), (1, .list .tmp .array g.arrs), (2, .list .tmp .block g.blks), (3, .list .tmp .ints g.pts), (4, .list .tmp .head g.hds)], 5⟩ (Z := Unit) (fun _ => True) (fun _ => .int .i64 (chkG g)) (fun _ => ⟨[], [(0, .list .tmp .input g.inp), (1, .list .tmp .array g.arrs), (2, .list .tmp .block g.blks), (3, .list .tmp .ints g.pts), (4, .list .tmp .head g.hds)], 5⟩) := by
  obtain ⟨h1, h2, h3, h4, h5, h6, h7, h8, h9⟩ := hB
  by_cases hl : limG g
  · have hl2 := hl
    unfold limG at hl2
    refine trip_by (rs := [_]) 400 lay_ok Try.func31 rfl (by kernel_rfl) Try.ntmps31 Try.results31 rfl rfl ?_
    repeat' (first | (((with_reducible refine g_id ?_); (conv => arg 3; whnf)); first | (with_reducible refine g_split lay_ok 400 ?_ ?_ ?_) | (with_reducible refine g_cond lay_ok 400 ?_ ?_ ?_) | (with_reducible refine g_fin ?_ ?_) | (refine g_call lay_ok 400 ?_ ?_ ?_ (r_opsN ?_ ?_ ?_) rfl)) | ((with_reducible refine o_id ?_); (conv => arg 1; whnf); first | (with_reducible exact o_nil) | (with_reducible refine o_cons ?_ ?_)) | (intro h; ((try simp only [Int.toNat_natCast] at h); repeat (first | replace h := of_decide_eq_true h | replace h := of_decide_eq_false h)); (try (first | (exfalso; omega)))) | rfl | omega)
    all_goals (((with_reducible refine e_id ?_); (conv => whnf)); refine ⟨(), trivial, ?_⟩; ((with_reducible refine s_id ?_); (conv => arg 1; whnf); (with_reducible refine s_some ?_); repeat' (first | ((with_reducible refine o_id ?_); (conv => arg 1; whnf); first | (with_reducible exact o_nil) | (with_reducible refine o_cons ?_ ?_)) | rfl | (exact chk_lim (by unfold limG; omega)))))
  · have hl2 := hl
    unfold limG at hl2
    by_cases hc : (0 ≤ g.vars ∧ 0 ≤ g.keep ∧ g.keep ≤ g.vars ∧ (g.inp.length : Int) ≤ g.keep ∧ 0 ≤ g.shared ∧ g.shared ≤ (g.arrs.length : Int)) ∧ 0 < g.blks.length
    · refine trip_by (rs := [_]) 400 lay_ok Try.func31 rfl (by kernel_rfl) Try.ntmps31 Try.results31 rfl rfl ?_
      repeat' (first | (((with_reducible refine g_id ?_); (conv => arg 3; whnf)); first | (with_reducible refine g_split lay_ok 400 ?_ ?_ ?_) | (with_reducible refine g_cond lay_ok 400 ?_ ?_ ?_) | (refine g_call lay_ok 400 ?_ ?_ ?_ (r_opsN ?_ ?_ ?_) rfl)) | ((with_reducible refine o_id ?_); (conv => arg 1; whnf); first | (with_reducible exact o_nil) | (with_reducible refine o_cons ?_ ?_)) | (intro h; ((try simp only [Int.toNat_natCast] at h); repeat (first | replace h := of_decide_eq_true h | replace h := of_decide_eq_false h)); (try (first | (exfalso; omega)))) | rfl | omega)
      refine g_loop lay_ok 400 (Z := Nat) (fun z => z ≤ g.inp.length ∧ allN (fun k => inpB (gt (c := .input) g.inp k)) z = true) (fun z => ⟨[(1, .ptr 5 0), (3, .int .i64 (z : Int))], [(0, .list .tmp .input g.inp), (1, .list .tmp .array g.arrs), (2, .list .tmp .block g.blks), (3, .list .tmp .ints g.pts), (4, .list .tmp .head g.hds), (5, .cells [.sl ⟨0, []⟩, .int .i64 g.vars, .int .i64 g.keep, .sl ⟨1, []⟩, .int .i64 g.shared, .sl ⟨2, []⟩, .sl ⟨3, []⟩, .sl ⟨4, []⟩])], 6⟩) (fun z => g.inp.length - z) ?_ ⟨0, ⟨Nat.zero_le _, allN_zero⟩, ?_⟩ (fun z hz => ?_)
      · repeat' (first | ((with_reducible refine o_id ?_); (conv => arg 1; whnf); first | (with_reducible exact o_nil)))
      · ((with_reducible refine s_id ?_); (conv => arg 1; whnf); (with_reducible refine s_some ?_); repeat' (first | ((with_reducible refine o_id ?_); (conv => arg 1; whnf); first | (with_reducible exact o_nil) | (with_reducible refine o_cons ?_ ?_)) | rfl))
      obtain ⟨hz, hf⟩ := hz
      by_cases hlt : z < g.inp.length
      · repeat' (first | (((with_reducible refine g_id ?_); (conv => arg 3; whnf)); first | (with_reducible refine g_split lay_ok 400 ?_ ?_ ?_) | (with_reducible refine g_cond lay_ok 400 ?_ ?_ ?_) | (with_reducible refine g_fin ?_ ?_) | (refine g_call lay_ok 400 ?_ ?_ ?_ (r_isW ?_) rfl)) | (with_reducible refine q_ret lay_ok 400 ?_) | (with_reducible exact o_nil) | ((with_reducible refine o_id ?_); (conv => arg 1; whnf); first | (with_reducible exact o_nil) | (with_reducible refine o_cons ?_ ?_)) | (intro h; ((try simp only [Int.toNat_natCast] at h); repeat (first | replace h := of_decide_eq_true h | replace h := of_decide_eq_false h | replace h := not_t h | replace h := not_f h)); (try (first | (exfalso; omega)))) | rfl | omega)
        all_goals first | (refine q_round ⟨z + 1, ⟨by omega, allN_yes hf (by unfold inpB; exact decide_eq_true (by omega))⟩, by omega, ?_⟩; ((with_reducible refine s_id ?_); (conv => arg 1; whnf); (with_reducible refine s_some ?_); repeat' (first | ((with_reducible refine o_id ?_); (conv => arg 1; whnf); first | (with_reducible exact o_nil) | (with_reducible refine o_cons ?_ ?_)) | rfl))) | ((((with_reducible refine e_id ?_); (conv => whnf)); refine ⟨(), trivial, ?_⟩; ((with_reducible refine s_id ?_); (conv => arg 1; whnf); (with_reducible refine s_some ?_); repeat' (first | ((with_reducible refine o_id ?_); (conv => arg 1; whnf); first | (with_reducible exact o_nil) | (with_reducible refine o_cons ?_ ?_)) | rfl | (exact chk_no hl (ok_dec (dec_f2 hlt (by unfold inpB; exact decide_eq_false (by omega)))))))))
      · have e : z = g.inp.length := by omega
        subst e
        repeat' (first | (((with_reducible refine g_id ?_); (conv => arg 3; whnf)); first | (with_reducible refine g_cond lay_ok 400 ?_ ?_ ?_) | (with_reducible refine g_fin ?_ ?_)) | (with_reducible refine q_leave lay_ok 400 ?_) | (with_reducible exact o_nil) | ((with_reducible refine o_id ?_); (conv => arg 1; whnf); first | (with_reducible exact o_nil)) | (intro h; ((try simp only [Int.toNat_natCast] at h); repeat (first | replace h := of_decide_eq_true h | replace h := of_decide_eq_false h)); (try (first | (exfalso; omega)))))
        refine g_loop lay_ok 400 (Z := Nat) (fun z => z ≤ g.arrs.length ∧ ∀ k, k < z → badA (gt (c := .array) g.arrs k) = false) (fun z => ⟨[(1, .ptr 5 0), (5, .int .i64 (z : Int))], [(0, .list .tmp .input g.inp), (1, .list .tmp .array g.arrs), (2, .list .tmp .block g.blks), (3, .list .tmp .ints g.pts), (4, .list .tmp .head g.hds), (5, .cells [.sl ⟨0, []⟩, .int .i64 g.vars, .int .i64 g.keep, .sl ⟨1, []⟩, .int .i64 g.shared, .sl ⟨2, []⟩, .sl ⟨3, []⟩, .sl ⟨4, []⟩])], 6⟩) (fun z => g.arrs.length - z) ?_ ⟨0, ⟨Nat.zero_le _, fun k hk => absurd hk (Nat.not_lt_zero _)⟩, ?_⟩ (fun z hz => ?_)
        · repeat' (first | ((with_reducible refine o_id ?_); (conv => arg 1; whnf); first | (with_reducible exact o_nil)))
        · ((with_reducible refine s_id ?_); (conv => arg 1; whnf); (with_reducible refine s_some ?_); repeat' (first | ((with_reducible refine o_id ?_); (conv => arg 1; whnf); first | (with_reducible exact o_nil) | (with_reducible refine o_cons ?_ ?_)) | rfl))
        obtain ⟨hz2, hf2⟩ := hz
        by_cases hlt : z < g.arrs.length
        · repeat' (first | (((with_reducible refine g_id ?_); (conv => arg 3; whnf)); first | (with_reducible refine g_cond lay_ok 400 ?_ ?_ ?_) | (with_reducible refine g_fin ?_ ?_) | (refine g_call lay_ok 400 ?_ ?_ ?_ (r_size ?_) rfl)) | (with_reducible refine q_ret lay_ok 400 ?_) | (with_reducible exact o_nil) | ((with_reducible refine o_id ?_); (conv => arg 1; whnf); first | (with_reducible exact o_nil) | (with_reducible refine o_cons ?_ ?_)) | (intro h; ((try simp only [Int.toNat_natCast] at h); repeat (first | replace h := of_decide_eq_true h | replace h := of_decide_eq_false h | replace h := not_t h | replace h := not_f h)); (try (first | (exfalso; omega)))) | rfl | omega)
          all_goals first | (refine q_round ⟨z + 1, ⟨by omega, gt_next (c := .array) hf2 (badA_f (by assumption))⟩, by omega, ?_⟩; ((with_reducible refine s_id ?_); (conv => arg 1; whnf); (with_reducible refine s_some ?_); repeat' (first | ((with_reducible refine o_id ?_); (conv => arg 1; whnf); first | (with_reducible exact o_nil) | (with_reducible refine o_cons ?_ ?_)) | rfl))) | ((((with_reducible refine e_id ?_); (conv => whnf)); refine ⟨(), trivial, ?_⟩; ((with_reducible refine s_id ?_); (conv => arg 1; whnf); (with_reducible refine s_some ?_); repeat' (first | ((with_reducible refine o_id ?_); (conv => arg 1; whnf); first | (with_reducible exact o_nil) | (with_reducible refine o_cons ?_ ?_)) | rfl | (exact chk_no hl (ok_dec (dec_f3 hlt (badA_t (by assumption)))))))))
        · have e : z = g.arrs.length := by omega
          subst e
          have hd := dec_y hc.1 hf hf2
          repeat' (first | (((with_reducible refine g_id ?_); (conv => arg 3; whnf)); first | (with_reducible refine g_cond lay_ok 400 ?_ ?_ ?_) | (with_reducible refine g_fin ?_ ?_)) | (with_reducible refine q_leave lay_ok 400 ?_) | (with_reducible exact o_nil) | ((with_reducible refine o_id ?_); (conv => arg 1; whnf); first | (with_reducible exact o_nil)) | (intro h; ((try simp only [Int.toNat_natCast] at h); repeat (first | replace h := of_decide_eq_true h | replace h := of_decide_eq_false h)); (try (first | (exfalso; omega)))))
          refine g_loop lay_ok 400 (Z := Nat) (fun z => z ≤ g.blks.length ∧ allN (fun k => blkB (g.vars - 1) g.arrs.length g.blks.length (gt (c := .block) g.blks k)) z = true) (fun z => ⟨[(1, .ptr 5 0), (6, .int .i64 (endsN g.blks z)), (7, .int .i64 (z : Int))], [(0, .list .tmp .input g.inp), (1, .list .tmp .array g.arrs), (2, .list .tmp .block g.blks), (3, .list .tmp .ints g.pts), (4, .list .tmp .head g.hds), (5, .cells [.sl ⟨0, []⟩, .int .i64 g.vars, .int .i64 g.keep, .sl ⟨1, []⟩, .int .i64 g.shared, .sl ⟨2, []⟩, .sl ⟨3, []⟩, .sl ⟨4, []⟩])], 6⟩) (fun z => g.blks.length - z) ?_ ⟨0, ⟨Nat.zero_le _, allN_zero⟩, ?_⟩ (fun z hz => ?_)
          · repeat' (first | ((with_reducible refine o_id ?_); (conv => arg 1; whnf); first | (with_reducible exact o_nil)))
          · ((with_reducible refine s_id ?_); (conv => arg 1; whnf); (with_reducible refine s_some ?_); repeat' (first | ((with_reducible refine o_id ?_); (conv => arg 1; whnf); first | (with_reducible exact o_nil) | (with_reducible refine o_cons ?_ ?_)) | rfl | (rw [endsN_zero])))
          obtain ⟨hz3, hf3⟩ := hz
          have he := endsN_bd (l := g.blks) z
          by_cases hlt : z < g.blks.length
          · have ho := h7 _ (mem_gt (c := .block) hlt)
            have hn := h8 _ (mem_gt (c := .block) hlt)
            repeat' (first | (((with_reducible refine g_id ?_); (conv => arg 3; whnf)); first | (with_reducible refine g_cond lay_ok 400 ?_ ?_ ?_) | (with_reducible refine g_fin ?_ ?_) | (refine g_call lay_ok 400 ?_ ?_ ?_ (r_block ?_ ?_ ?_ ?_ ?_ ?_) rfl) | (refine g_flow 20 lay_ok mixed_ok 400 64 [0, 0, 2, 0, 14, 30, 63, 127] (.q 0 (.q 1 (.q 2 (.q 3 (.q 4 (.q 5 (.e 6 [] (.q 7 .fin) .stop))))))) (by kernel_rfl) ?_ ?_)) | (((with_reducible refine w_id ?_); (conv => arg 4; whnf)); first | (with_reducible refine w_fin ?_ ?_) | (with_reducible refine w_tt ?_) | (with_reducible refine w_eff lay_ok 400 ?_ rfl rfl ?_ ?_)) | (with_reducible refine q_flow ?_ ?_) | ((with_reducible refine h_id ?_); (conv => arg 1; whnf); (with_reducible refine s_some ?_)) | (with_reducible refine q_ret lay_ok 400 ?_) | (with_reducible exact o_nil) | ((with_reducible refine o_id ?_); (conv => arg 1; whnf); first | (with_reducible exact o_nil) | (with_reducible refine o_cons ?_ ?_)) | (intro h; ((try simp only [Int.toNat_natCast] at h); repeat (first | replace h := of_decide_eq_true h | replace h := of_decide_eq_false h | replace h := not_t h | replace h := not_f h)); (try (first | (exfalso; omega)))) | rfl | omega | (simp only [Int.toNat_natCast]; omega))
            all_goals first | (refine q_round ⟨z + 1, ⟨by omega, allN_yes hf3 (by assumption)⟩, by omega, ?_⟩; ((with_reducible refine s_id ?_); (conv => arg 1; whnf); (with_reducible refine s_some ?_); repeat' (first | ((with_reducible refine o_id ?_); (conv => arg 1; whnf); first | (with_reducible exact o_nil) | (with_reducible refine o_cons ?_ ?_)) | rfl | (rw [endsN_y (by omega)]) | (rw [endsN_n (by omega)])))) | ((((with_reducible refine e_id ?_); (conv => whnf)); refine ⟨(), trivial, ?_⟩; ((with_reducible refine s_id ?_); (conv => arg 1; whnf); (with_reducible refine s_some ?_); repeat' (first | ((with_reducible refine o_id ?_); (conv => arg 1; whnf); first | (with_reducible exact o_nil) | (with_reducible refine o_cons ?_ ?_)) | rfl | (exact chk_no hl (ok_blk2 hlt (by assumption)))))))
          · have e : z = g.blks.length := by omega
            subst e
            by_cases hen : endsN g.blks g.blks.length = 1
            · repeat' (first | (((with_reducible refine g_id ?_); (conv => arg 3; whnf)); first | (with_reducible refine g_cond lay_ok 400 ?_ ?_ ?_) | (with_reducible refine g_fin ?_ ?_)) | (with_reducible refine q_leave lay_ok 400 ?_) | (with_reducible exact o_nil) | ((with_reducible refine o_id ?_); (conv => arg 1; whnf); first | (with_reducible exact o_nil)) | (intro h; ((try simp only [Int.toNat_natCast] at h); repeat (first | replace h := of_decide_eq_true h | replace h := of_decide_eq_false h | replace h := not_t h | replace h := not_f h)); (try (first | contradiction | (exfalso; omega)))))
              refine g_loop lay_ok 400 (Z := Nat) (fun z => z ≤ g.pts.length ∧ allN (fun k => ptB g.blks.length (gt (c := .ints) g.pts k)) z = true) (fun z => ⟨[(1, .ptr 5 0), (8, .int .i64 (z : Int))], [(0, .list .tmp .input g.inp), (1, .list .tmp .array g.arrs), (2, .list .tmp .block g.blks), (3, .list .tmp .ints g.pts), (4, .list .tmp .head g.hds), (5, .cells [.sl ⟨0, []⟩, .int .i64 g.vars, .int .i64 g.keep, .sl ⟨1, []⟩, .int .i64 g.shared, .sl ⟨2, []⟩, .sl ⟨3, []⟩, .sl ⟨4, []⟩])], 6⟩) (fun z => g.pts.length - z) ?_ ⟨0, ⟨Nat.zero_le _, allN_zero⟩, ?_⟩ (fun i hi => ?_)
              · repeat' (first | ((with_reducible refine o_id ?_); (conv => arg 1; whnf); first | (with_reducible exact o_nil)))
              · ((with_reducible refine s_id ?_); (conv => arg 1; whnf); (with_reducible refine s_some ?_); repeat' (first | ((with_reducible refine o_id ?_); (conv => arg 1; whnf); first | (with_reducible exact o_nil) | (with_reducible refine o_cons ?_ ?_)) | rfl))
              obtain ⟨hi, hf4⟩ := hi
              by_cases hlt : i < g.pts.length
              · have hpi := h9 _ (mem_gt (c := .ints) hlt)
                repeat' (first | (((with_reducible refine g_id ?_); (conv => arg 3; whnf)); first | (with_reducible refine g_cond lay_ok 400 ?_ ?_ ?_)) | ((with_reducible refine o_id ?_); (conv => arg 1; whnf); first | (with_reducible exact o_nil)) | (intro h; ((try simp only [Int.toNat_natCast] at h); repeat (first | replace h := of_decide_eq_true h | replace h := of_decide_eq_false h)); (try (first | (exfalso; omega)))))
                refine g_loop lay_ok 400 (Z := Nat) (fun z => z ≤ (gt (c := .ints) g.pts i : List Int).length ∧ allN (nodB g.blks.length (gt (c := .ints) g.pts i)) z = true) (fun z => ⟨[(1, .ptr 5 0), (8, .int .i64 (i : Int)), (9, .int .i64 (z : Int))], [(0, .list .tmp .input g.inp), (1, .list .tmp .array g.arrs), (2, .list .tmp .block g.blks), (3, .list .tmp .ints g.pts), (4, .list .tmp .head g.hds), (5, .cells [.sl ⟨0, []⟩, .int .i64 g.vars, .int .i64 g.keep, .sl ⟨1, []⟩, .int .i64 g.shared, .sl ⟨2, []⟩, .sl ⟨3, []⟩, .sl ⟨4, []⟩])], 6⟩) (fun z => (gt (c := .ints) g.pts i : List Int).length - z) ?_ ⟨0, ⟨Nat.zero_le _, allN_zero⟩, ?_⟩ (fun z hz => ?_)
                · repeat' (first | ((with_reducible refine o_id ?_); (conv => arg 1; whnf); first | (with_reducible exact o_nil)))
                · ((with_reducible refine s_id ?_); (conv => arg 1; whnf); (with_reducible refine s_some ?_); repeat' (first | ((with_reducible refine o_id ?_); (conv => arg 1; whnf); first | (with_reducible exact o_nil) | (with_reducible refine o_cons ?_ ?_)) | rfl))
                obtain ⟨hz5, hf5⟩ := hz
                by_cases hk : z < (gt (c := .ints) g.pts i : List Int).length
                · repeat' (first | (((with_reducible refine g_id ?_); (conv => arg 3; whnf)); first | (with_reducible refine g_cond lay_ok 400 ?_ ?_ ?_) | (with_reducible refine g_fin ?_ ?_) | (refine g_call lay_ok 400 ?_ ?_ ?_ (r_has ?_ ?_ ?_) rfl) | (refine g_call lay_ok 400 ?_ ?_ ?_ (r_in ?_ ?_) rfl) | (refine g_flow 32 lay_ok mixed_ok 400 536872960 [0, 1, 0, 7, 15, 0, 63, 127, 0, 256, 768, 2047, 4095, 8191, 16383, 32767, 16383, 131071, 262143, 16383, 1048575, 16383, 2113535, 16383, 14696447, 31473663, 16383, 132136959, 266354687, 536870911, 1073741823] (.q 0 (.q 1 (.q 2 (.q 3 (.q 4 (.q 5 (.q 6 (.q 7 (.q 8 (.q 9 (.q 10 (.e 11 [] (.q 12 (.q 13 (.q 14 (.q 15 (.q 16 (.q 17 (.q 18 (.q 19 (.q 20 (.q 21 (.q 22 (.q 23 (.q 24 (.q 25 (.q 26 (.q 27 (.q 28 (.e 29 [] (.q 30 .fin) .stop)))))))))))))))))) .stop)))))))))))) (by kernel_rfl) ?_ ?_)) | (((with_reducible refine w_id ?_); (conv => arg 4; whnf)); first | (with_reducible refine w_fin ?_ ?_) | (with_reducible refine w_split lay_ok 400 ?_ ?_ ?_) | (with_reducible refine w_tt ?_) | (with_reducible refine w_eff lay_ok 400 ?_ rfl rfl ?_ ?_)) | (with_reducible refine q_flow ?_ ?_) | ((with_reducible refine h_id ?_); (conv => arg 1; whnf); (with_reducible refine s_some ?_)) | (with_reducible refine q_ret lay_ok 400 ?_) | (with_reducible exact o_nil) | ((with_reducible refine o_id ?_); (conv => arg 1; whnf); first | (with_reducible exact o_nil) | (with_reducible refine o_cons ?_ ?_)) | (intro h; ((try simp only [Int.toNat_natCast] at h); repeat (first | replace h := of_decide_eq_true h | replace h := of_decide_eq_false h | replace h := not_t h | replace h := not_f h)); (try (first | (exfalso; omega)))) | rfl | omega | assumption | (show (z : Int) ≤ (((gt (c := .ints) g.pts i : List Int).length : Nat) : Int); omega) | (show 0 + ((z : Int).toNat - 0) ≤ (gt (c := .ints) g.pts i : List Int).length; omega) | (show (List.take ((z : Int).toNat - 0) (List.drop 0 (gt (c := .ints) g.pts i : List Int))).length ≤ 1048576; rw [List.length_take, List.length_drop]; omega))
                  all_goals first | (refine q_round ⟨z + 1, ⟨by omega, allN_yes hf5 (nod_t (by unfold id; omega) (by unfold id; omega) (by rw [← met_has (Nat.le_of_lt hk)]; exact h))⟩, by omega, ?_⟩; ((with_reducible refine s_id ?_); (conv => arg 1; whnf); (with_reducible refine s_some ?_); repeat' (first | ((with_reducible refine o_id ?_); (conv => arg 1; whnf); first | (with_reducible exact o_nil) | (with_reducible refine o_cons ?_ ?_)) | rfl))) | ((((with_reducible refine e_id ?_); (conv => whnf)); refine ⟨(), trivial, ?_⟩; ((with_reducible refine s_id ?_); (conv => arg 1; whnf); (with_reducible refine s_some ?_); repeat' (first | ((with_reducible refine o_id ?_); (conv => arg 1; whnf); first | (with_reducible exact o_nil) | (with_reducible refine o_cons ?_ ?_)) | rfl | (exact chk_no hl (ok_nam (nam_p hlt hk (nod_f1 (by unfold id; omega))))) | (exact chk_no hl (ok_nam (nam_p hlt hk (nod_f2 (by rw [← met_has (Nat.le_of_lt hk)]; exact h)))))))))
                · have e : z = (gt (c := .ints) g.pts i : List Int).length := by omega
                  repeat' (first | (((with_reducible refine g_id ?_); (conv => arg 3; whnf)); first | (with_reducible refine g_cond lay_ok 400 ?_ ?_ ?_) | (with_reducible refine g_fin ?_ ?_)) | (with_reducible refine q_leave lay_ok 400 ?_) | (with_reducible exact o_nil) | ((with_reducible refine o_id ?_); (conv => arg 1; whnf); first | (with_reducible exact o_nil) | (with_reducible refine o_cons ?_ ?_)) | (intro h; ((try simp only [Int.toNat_natCast] at h); repeat (first | replace h := of_decide_eq_true h | replace h := of_decide_eq_false h)); (try (first | (exfalso; omega)))) | omega)
                  all_goals (refine q_round ⟨i + 1, ⟨by omega, allN_yes hf4 (by unfold ptB; rw [← e]; exact hf5)⟩, by omega, ?_⟩; ((with_reducible refine s_id ?_); (conv => arg 1; whnf); (with_reducible refine s_some ?_); repeat' (first | ((with_reducible refine o_id ?_); (conv => arg 1; whnf); first | (with_reducible exact o_nil) | (with_reducible refine o_cons ?_ ?_)) | rfl)))
              · have e : i = g.pts.length := by omega
                subst e
                repeat' (first | (((with_reducible refine g_id ?_); (conv => arg 3; whnf)); first | (with_reducible refine g_cond lay_ok 400 ?_ ?_ ?_) | (with_reducible refine g_fin ?_ ?_)) | (with_reducible refine q_leave lay_ok 400 ?_) | (with_reducible exact o_nil) | ((with_reducible refine o_id ?_); (conv => arg 1; whnf); first | (with_reducible exact o_nil)) | (intro h; ((try simp only [Int.toNat_natCast] at h); repeat (first | replace h := of_decide_eq_true h | replace h := of_decide_eq_false h)); (try (first | (exfalso; omega)))))
                refine g_loop lay_ok 400 (Z := Nat) (fun z => z ≤ g.hds.length ∧ allN (hdB g.blks.length g.hds) z = true) (fun z => ⟨[(1, .ptr 5 0), (10, .int .i64 (z : Int))], [(0, .list .tmp .input g.inp), (1, .list .tmp .array g.arrs), (2, .list .tmp .block g.blks), (3, .list .tmp .ints g.pts), (4, .list .tmp .head g.hds), (5, .cells [.sl ⟨0, []⟩, .int .i64 g.vars, .int .i64 g.keep, .sl ⟨1, []⟩, .int .i64 g.shared, .sl ⟨2, []⟩, .sl ⟨3, []⟩, .sl ⟨4, []⟩])], 6⟩) (fun z => g.hds.length - z) ?_ ⟨0, ⟨Nat.zero_le _, allN_zero⟩, ?_⟩ (fun z hz => ?_)
                · repeat' (first | ((with_reducible refine o_id ?_); (conv => arg 1; whnf); first | (with_reducible exact o_nil)))
                · ((with_reducible refine s_id ?_); (conv => arg 1; whnf); (with_reducible refine s_some ?_); repeat' (first | ((with_reducible refine o_id ?_); (conv => arg 1; whnf); first | (with_reducible exact o_nil) | (with_reducible refine o_cons ?_ ?_)) | rfl))
                obtain ⟨hz6, hf6⟩ := hz
                by_cases hk : z < g.hds.length
                · have hp1 : ((z : Int) - 1).toNat = z - 1 := by omega
                  repeat' (first | (((with_reducible refine g_id ?_); (conv => arg 3; whnf)); first | (with_reducible refine g_cond lay_ok 400 ?_ ?_ ?_) | (with_reducible refine g_fin ?_ ?_) | (refine g_call lay_ok 400 ?_ ?_ ?_ (r_in ?_ ?_) rfl) | (refine g_flow 38 lay_ok mixed_ok 400 32 [0, 1, 0, 4, 12, 31, 63, 127, 255, 511, 1023, 2047, 4095, 8191, 16383, 32767, 65535, 131071, 262143, 524287, 1048575, 2097151, 4194303, 2097151, 10485759, 2097151, 35651583, 127926271, 262143999, 530579455, 1073741823, 2147483647, 4294967295] (.q 0 (.q 1 (.q 2 (.q 3 (.q 4 (.e 5 [] (.q 6 (.q 7 (.q 8 (.q 9 (.q 10 (.q 11 (.q 12 (.q 13 (.q 14 (.q 15 (.q 16 (.q 17 (.q 18 (.q 19 (.q 20 (.q 21 (.q 22 (.q 23 (.q 24 (.q 25 (.q 26 (.q 27 (.q 28 (.q 29 (.q 30 (.q 31 (.q 32 .fin))))))))))))))))))))))))))) .stop)))))) (by kernel_rfl) ?_ ?_)) | (((with_reducible refine w_id ?_); (conv => arg 4; whnf)); first | (with_reducible refine w_fin ?_ ?_) | (with_reducible refine w_split lay_ok 400 ?_ ?_ ?_) | (with_reducible refine w_tt ?_) | (with_reducible refine w_eff lay_ok 400 ?_ rfl rfl ?_ ?_)) | (with_reducible refine q_flow ?_ ?_) | ((with_reducible refine h_id ?_); (conv => arg 1; whnf); (with_reducible refine s_some ?_)) | (with_reducible refine q_ret lay_ok 400 ?_) | (with_reducible exact o_nil) | ((with_reducible refine o_id ?_); (conv => arg 1; whnf); first | (with_reducible exact o_nil) | (with_reducible refine o_cons ?_ ?_)) | (intro h; ((try simp only [Int.toNat_natCast] at h); repeat (first | replace h := of_decide_eq_true h | replace h := of_decide_eq_false h | replace h := not_t h | replace h := not_f h)); (try (first | (exfalso; omega)))) | rfl | omega)
                  all_goals (try simp only [hp1] at *)
                  all_goals first | (refine q_round ⟨z + 1, ⟨by omega, allN_yes hf6 (by unfold hdB; exact decide_eq_true (by omega))⟩, by omega, ?_⟩; ((with_reducible refine s_id ?_); (conv => arg 1; whnf); (with_reducible refine s_some ?_); repeat' (first | ((with_reducible refine o_id ?_); (conv => arg 1; whnf); first | (with_reducible exact o_nil) | (with_reducible refine o_cons ?_ ?_)) | rfl))) | ((((with_reducible refine e_id ?_); (conv => whnf)); refine ⟨(), trivial, ?_⟩; ((with_reducible refine s_id ?_); (conv => arg 1; whnf); (with_reducible refine s_some ?_); repeat' (first | ((with_reducible refine o_id ?_); (conv => arg 1; whnf); first | (with_reducible exact o_nil) | (with_reducible refine o_cons ?_ ?_)) | rfl | (exact chk_no hl (ok_nam (nam_h hk (by unfold hdB; exact decide_eq_false (by omega)))))))))
                · have e : z = g.hds.length := by omega
                  subst e
                  repeat' (first | (((with_reducible refine g_id ?_); (conv => arg 3; whnf)); first | (with_reducible refine g_cond lay_ok 400 ?_ ?_ ?_) | (with_reducible refine g_fin ?_ ?_)) | (with_reducible refine q_leave lay_ok 400 ?_) | (with_reducible exact o_nil) | ((with_reducible refine o_id ?_); (conv => arg 1; whnf); first | (with_reducible exact o_nil)) | (intro h; ((try simp only [Int.toNat_natCast] at h); repeat (first | replace h := of_decide_eq_true h | replace h := of_decide_eq_false h)); (try (first | (exfalso; omega)))))
                  all_goals (((with_reducible refine e_id ?_); (conv => whnf)); refine ⟨(), trivial, ?_⟩; ((with_reducible refine s_id ?_); (conv => arg 1; whnf); (with_reducible refine s_some ?_); repeat' (first | ((with_reducible refine o_id ?_); (conv => arg 1; whnf); first | (with_reducible exact o_nil) | (with_reducible refine o_cons ?_ ?_)) | rfl | (exact chk_yes hl (ok_all2 hf3 hen hd (nam_y hf4 hf6))))))
            · repeat' (first | (((with_reducible refine g_id ?_); (conv => arg 3; whnf)); first | (with_reducible refine g_cond lay_ok 400 ?_ ?_ ?_) | (with_reducible refine g_fin ?_ ?_)) | (with_reducible refine q_leave lay_ok 400 ?_) | (with_reducible exact o_nil) | ((with_reducible refine o_id ?_); (conv => arg 1; whnf); first | (with_reducible exact o_nil)) | (intro h; ((try simp only [Int.toNat_natCast] at h); repeat (first | replace h := of_decide_eq_true h | replace h := of_decide_eq_false h | replace h := not_t h | replace h := not_f h)); (try (first | contradiction | (exfalso; omega)))))
              all_goals (((with_reducible refine e_id ?_); (conv => whnf)); refine ⟨(), trivial, ?_⟩; ((with_reducible refine s_id ?_); (conv => arg 1; whnf); (with_reducible refine s_some ?_); repeat' (first | ((with_reducible refine o_id ?_); (conv => arg 1; whnf); first | (with_reducible exact o_nil) | (with_reducible refine o_cons ?_ ?_)) | rfl | (exact chk_no hl (ok_ends (by assumption))))))
    · refine trip_by (rs := [_]) 400 lay_ok Try.func31 rfl (by kernel_rfl) Try.ntmps31 Try.results31 rfl rfl ?_
      repeat' (first | (((with_reducible refine g_id ?_); (conv => arg 3; whnf)); first | (with_reducible refine g_split lay_ok 400 ?_ ?_ ?_) | (with_reducible refine g_cond lay_ok 400 ?_ ?_ ?_) | (with_reducible refine g_fin ?_ ?_) | (refine g_call lay_ok 400 ?_ ?_ ?_ (r_opsN ?_ ?_ ?_) rfl)) | ((with_reducible refine o_id ?_); (conv => arg 1; whnf); first | (with_reducible exact o_nil) | (with_reducible refine o_cons ?_ ?_)) | (intro h; ((try simp only [Int.toNat_natCast] at h); repeat (first | replace h := of_decide_eq_true h | replace h := of_decide_eq_false h)); (try (first | (exfalso; omega)))) | rfl | omega)
      all_goals (((with_reducible refine e_id ?_); (conv => whnf)); refine ⟨(), trivial, ?_⟩; ((with_reducible refine s_id ?_); (conv => arg 1; whnf); (with_reducible refine s_some ?_); repeat' (first | ((with_reducible refine o_id ?_); (conv => arg 1; whnf); first | (with_reducible exact o_nil) | (with_reducible refine o_cons ?_ ?_)) | rfl | (exact chk_no hl (ok_dec (dec_f1 (by omega)))) | (exact chk_no hl (ok_none (by omega))))))
end Go.Proofs.Ytonjbhdfimcedaa
namespace Go.Proofs.Ytonjbhdfimcedaa
open Go.RowKit
universe u
mutual
def svT (φ : Rid → Rid) : SV → SV
  | .sl r => .sl (φ r)
  | .el r es i f => .el (φ r) es i f
  | .vw r es i n c => .vw (φ r) es i n c
  | .clo g l => .clo g (svTL φ l)
  | .agg l => .agg (svTL φ l)
  | .tup l => .tup (svTL φ l)
  | v => v
def svTL (φ : Rid → Rid) : List SV → List SV
  | [] => []
  | x :: l => svT φ x :: svTL φ l
end
structure RidOk (V : Vl) (nb : Nat) (φ : Rid → Rid) : Prop where
  val : ∀ r, r.k < nb → V (φ r) = V r
  lt : ∀ r, r.k < nb → (φ r).k < nb
mutual
theorem svT_den {V : Vl} {nb : Nat} {φ : Rid → Rid} (h : RidOk V nb φ) : ∀ v, okV nb v = true → den V (svT φ v) = den V v
  | .int _ _, _ => rfl
  | .tf _, _ => rfl
  | .bool _, _ => rfl
  | .str _, _ => rfl
  | .ptr _ _, _ => rfl
  | .slc _ _ _ _, _ => rfl
  | .undef, _ => rfl
  | .val _, _ => rfl
  | .mp _, _ => rfl
  | .el r _ _ _, hk => by simp only [okV, Nat.blt_eq] at hk; simp only [svT, den, h.val r hk]
  | .sl r, hk => by simp only [okV, Nat.blt_eq] at hk; simp only [svT, den, h.val r hk]
  | .vw r _ _ _ _, hk => by simp only [okV, Nat.blt_eq] at hk; simp only [svT, den, h.val r hk]
  | .clo _ l, hk => by simp only [okV] at hk; simp only [svT, den, svTL_den h l hk]
  | .agg l, hk => by simp only [okV] at hk; simp only [svT, den, svTL_den h l hk]
  | .tup l, hk => by simp only [okV] at hk; simp only [svT, den, svTL_den h l hk]
theorem svTL_den {V : Vl} {nb : Nat} {φ : Rid → Rid} (h : RidOk V nb φ) : ∀ l, okL nb l = true → denL V (svTL φ l) = denL V l
  | [], _ => rfl
  | x :: l, hk => by
    unfold okL at hk
    cases hx : okV nb x with
    | false => simp [hx] at hk
    | true => simp only [hx] at hk; simp only [svTL, denL, svT_den h x hx, svTL_den h l hk]
end
mutual
theorem svT_ok {V : Vl} {nb : Nat} {φ : Rid → Rid} (h : RidOk V nb φ) : ∀ v, okV nb v = true → okV nb (svT φ v) = true
  | .int _ _, _ => rfl
  | .tf _, _ => rfl
  | .bool _, _ => rfl
  | .str _, _ => rfl
  | .ptr _ _, hk => hk
  | .slc _ _ _ _, hk => hk
  | .undef, _ => rfl
  | .val _, _ => rfl
  | .mp _, hk => hk
  | .el r _ _ _, hk => by simp only [okV, Nat.blt_eq] at hk; simp only [svT, okV, Nat.blt_eq]; exact h.lt r hk
  | .sl r, hk => by simp only [okV, Nat.blt_eq] at hk; simp only [svT, okV, Nat.blt_eq]; exact h.lt r hk
  | .vw r _ _ _ _, hk => by simp only [okV, Nat.blt_eq] at hk; simp only [svT, okV, Nat.blt_eq]; exact h.lt r hk
  | .clo _ l, hk => by simp only [okV] at hk; simp only [svT, okV]; exact svTL_ok h l hk
  | .agg l, hk => by simp only [okV] at hk; simp only [svT, okV]; exact svTL_ok h l hk
  | .tup l, hk => by simp only [okV] at hk; simp only [svT, okV]; exact svTL_ok h l hk
theorem svTL_ok {V : Vl} {nb : Nat} {φ : Rid → Rid} (h : RidOk V nb φ) : ∀ l, okL nb l = true → okL nb (svTL φ l) = true
  | [], _ => rfl
  | x :: l, hk => by
    unfold okL at hk
    cases hx : okV nb x with
    | false => simp [hx] at hk
    | true => simp only [hx] at hk; simp only [svTL, okL, svT_ok h x hx, svTL_ok h l hk]
end
def mbT (φ : Rid → Rid) : MB → MB
  | .cells c => .cells (svTL φ c)
  | .deck v => .deck (svT φ v)
  | m => m
def abT (φ : Rid → Rid) : AB → AB
  | .cells c => .cells (svTL φ c)
  | .deck v => .deck (svT φ v)
  | b => b
def envT (φ : Rid → Rid) : List (Nat × SV) → List (Nat × SV)
  | [] => []
  | (t, v) :: l => (t, svT φ v) :: envT φ l
def memT (φ : Rid → Rid) : List (Nat × MB) → List (Nat × MB)
  | [] => []
  | (t, v) :: l => (t, mbT φ v) :: memT φ l
theorem envT_find {φ : Rid → Rid} {t : Nat} : ∀ {l : List (Nat × SV)}, find (envT φ l) t = (find l t).map (svT φ)
  | [] => rfl
  | (k, v) :: l => by simp only [envT, find_cons, envT_find (l := l)]; split <;> rfl
theorem memT_find {φ : Rid → Rid} {t : Nat} : ∀ {l : List (Nat × MB)}, find (memT φ l) t = (find l t).map (mbT φ)
  | [] => rfl
  | (k, v) :: l => by simp only [memT, find_cons, memT_find (l := l)]; split <;> rfl
theorem contB_T {φ : Rid → Rid} {m : MB} {p : Path} : contB (mbT φ m) p = (contB m p).map (abT φ) := by
  cases m with
  | cells c => cases p <;> rfl
  | deck v => cases p <;> rfl
  | mp es => cases p <;> rfl
  | dead => cases p <;> rfl
  | hole b c l =>
    cases p with
    | nil => rfl
    | cons x q =>
      obtain ⟨i, j⟩ := x
      simp only [mbT, contB]
      split
      · rfl
      · cases desc c l ((i, j) :: q) <;> rfl
  | list md c l =>
    simp only [mbT, contB]
    cases desc c l p <;> rfl
theorem cont_T {φ : Rid → Rid} {m : List (Nat × MB)} {r : Rid} : cont (memT φ m) r = (cont m r).map (abT φ) := by
  unfold cont
  rw [memT_find]
  cases find m r.k with
  | none => rfl
  | some b => exact contB_T
theorem abT_kind {φ : Rid → Rid} {b : AB} : kindB (abT φ b) = kindB b := by cases b <;> rfl
theorem abT_live {φ : Rid → Rid} {L : Loc} {b : AB} : liveB L (abT φ b) = liveB L b := by cases b <;> rfl
theorem AtB.T {V : Vl} {w : World} {nb : Nat} {φ : Rid → Rid} (h : RidOk V nb φ) {r : Rid} {b : AB} (hb : okA nb b = true) (ha : AtB V w r b) : AtB V w r (abT φ b) := by
  cases b with
  | cells c =>
    obtain ⟨bb, t, h1, h2⟩ := ha
    exact ⟨bb, t, h1, by rw [svTL_den h c hb]; exact h2⟩
  | deck v =>
    obtain ⟨bb, t, p, a, n, c, h1, h2, h3⟩ := ha
    exact ⟨bb, t, p, a, n, c, h1, by rw [svT_den h v hb]; exact h2, by rw [svT_den h v hb]; exact h3⟩
  | mp es => exact ha
  | list d c l => exact ha
theorem Rep.T {x : Cx} {g : Gx} {V : Vl} {s : St} {a : Act} {w : World} (hr : Rep x g V s a w) {φ : Rid → Rid} (h : RidOk V s.nb φ) : Rep x g V ⟨envT φ s.env, memT φ s.mem, s.nb⟩ a w := by
  have back : ∀ {r : Rid} {b : AB}, cont (memT φ s.mem) r = some b → ∃ b0, cont s.mem r = some b0 ∧ b = abT φ b0 := by
    intro r b hb
    rw [cont_T] at hb
    obtain ⟨b0, h1, h2⟩ := Option.map_eq_some_iff.1 hb
    exact ⟨b0, h1, h2.symm⟩
  refine ⟨hr.defers, hr.size, fun t v hv => ?_, fun t v hv => ?_, ⟨fun k m hk => ?_, fun r b hb => ?_, fun r r' b b' hb hb' hl hl' hk he => ?_, fun r b hb hl hk => ?_⟩, hr.frame, fun b hb => hr.own b ?_, hr.pin, hr.d0⟩
  · rw [envT_find] at hv
    obtain ⟨v0, h1, rfl⟩ := Option.map_eq_some_iff.1 hv
    rw [svT_den h v0 (hr.envOk _ _ h1)]
    exact hr.env t v0 h1
  · rw [envT_find] at hv
    obtain ⟨v0, h1, rfl⟩ := Option.map_eq_some_iff.1 hv
    exact svT_ok h v0 (hr.envOk _ _ h1)
  · rw [memT_find] at hk
    obtain ⟨m0, h1, rfl⟩ := Option.map_eq_some_iff.1 hk
    obtain ⟨h2, h3⟩ := hr.ents.ok _ _ h1
    refine ⟨h2, ?_⟩
    cases m0 with
    | cells c => exact svTL_ok h c h3
    | deck v => exact svT_ok h v h3
    | mp es => rfl
    | list _ _ _ => rfl
    | hole _ _ _ => rfl
    | dead => rfl
  · obtain ⟨b0, h1, rfl⟩ := back hb
    exact (hr.ents.at_ r b0 h1).T h (hr.ents.okc h1).2
  · obtain ⟨b0, h1, rfl⟩ := back hb
    obtain ⟨b0', h1', rfl⟩ := back hb'
    rw [abT_live] at hl hl'
    rw [abT_kind] at hk
    exact hr.ents.sep r r' b0 b0' h1 h1' hl hl' hk he
  · obtain ⟨b0, h1, rfl⟩ := back hb
    rw [abT_live] at hl
    rw [abT_kind] at hk
    exact hr.ents.d0 r b0 h1 hl hk
  · obtain ⟨r, y, h1, h2, h3, h4⟩ := hb
    obtain ⟨b0, h5, rfl⟩ := back h1
    exact ⟨r, b0, h5, by rw [abT_live] at h2; exact h2, by rw [abT_kind] at h3; exact h3, h4⟩
def ckAt : List CKd → Nat → Nat → List CKd
  | _, _, 0 => []
  | [], _, _ + 1 => []
  | k :: l, 0, n + 1 => k :: ckAt l 0 n
  | _ :: l, f + 1, n + 1 => ckAt l f (n + 1)
def mvOf : Nat → List Pr → List (Nat × Nat)
  | _, [] => []
  | f, .own k :: l => (k, f) :: mvOf (f + 1) l
  | f, .no :: l => mvOf (f + 1) l
  | f, .fz _ :: l => mvOf (f + 1) l
theorem mvOf_find : ∀ {l : List Pr} {f k j : Nat}, find (mvOf f l) k = some j → f ≤ j ∧ l[j - f]? = some (.own k)
  | [], f, k, j, h => by simp [mvOf, find] at h
  | p :: l, f, k, j, h => by
    have tail : find (mvOf (f + 1) l) k = some j → f ≤ j ∧ (p :: l)[j - f]? = some (.own k) := by
      intro h
      obtain ⟨h1, h2⟩ := mvOf_find h
      refine ⟨by omega, ?_⟩
      rw [show j - f = (j - (f + 1)) + 1 by omega]
      simpa using h2
    cases p with
    | no => exact tail h
    | fz r => exact tail h
    | own k' =>
      simp only [mvOf, find_cons] at h
      split at h
      · rename_i e; cases h; subst e; exact ⟨Nat.le_refl _, by simp⟩
      · exact tail h
def ridT (k nb f n i : Nat) (mv : List (Nat × Nat)) : Rid → Rid
  | ⟨k', []⟩ => match Nat.beq k' k with
    | true => ⟨nb, []⟩
    | false => match find mv k' with
      | some d => ⟨nb, [(i, d)]⟩
      | none => ⟨k', []⟩
  | ⟨k', (a, j) :: q⟩ => match Nat.beq k' k with
    | true => match Nat.blt j f with
      | true => ⟨nb, (a, j) :: q⟩
      | false => match Nat.ble (Nat.add f n) j with
        | true => ⟨nb, (a, j) :: q⟩
        | false => ⟨k', (a, j) :: q⟩
    | false => match find mv k' with
      | some d => ⟨nb, (i, d) :: (a, j) :: q⟩
      | none => ⟨k', (a, j) :: q⟩
def pvS (k f n i : Nat) (ps : List Pr) : Pv := fun a j => if a = i ∧ f ≤ j ∧ j < f + n then (ps[j - f]?).bind Pr.rid else some ⟨k, [(a, j)]⟩
def valsS {c : Ty} (V : Vl) (pv : Pv) (zs : List (El c)) : List Value := (List.range (zs.length * wid c)).map fun q => match (tcells c (gt zs (q / wid c)))[q % wid c]? with
  | some t => denP V pv (q / wid c) (q % wid c) t
  | none => Go.undef
theorem valsS_get {c : Ty} {V : Vl} {pv : Pv} {zs : List (El c)} {a j : Nat} {x : El c} {t : TC} (hx : zs[a]? = some x) (hj : (tcells c x)[j]? = some t) : (valsS V pv zs)[a * wid c + j]? = some (denP V pv a j t) := by
  have ha : a < zs.length := (List.getElem?_eq_some_iff.1 hx).1
  have hjw : j < wid c := by have := (List.getElem?_eq_some_iff.1 hj).1; rw [tcells_len] at this; exact this
  have hlt : a * wid c + j < zs.length * wid c := by
    have : (a + 1) * wid c ≤ zs.length * wid c := Nat.mul_le_mul_right _ ha
    rw [Nat.succ_mul] at this; omega
  have e1 : (a * wid c + j) / wid c = a := by rw [Nat.mul_comm, Nat.mul_add_div (by omega), Nat.div_eq_of_lt hjw]; rfl
  have e2 : (a * wid c + j) % wid c = j := by rw [Nat.mul_comm, Nat.mul_add_mod, Nat.mod_eq_of_lt hjw]
  unfold valsS
  rw [List.getElem?_map, List.getElem?_range hlt, Option.map_some, e1, e2, gt_eq hx, hj]
theorem valsS_len {c : Ty} {V : Vl} {pv : Pv} {zs : List (El c)} : (valsS V pv zs).length = zs.length * wid c := by simp [valsS]
theorem valsS_inv {c : Ty} {V : Vl} {pv : Pv} {zs : List (El c)} {q : Nat} {u : Value} (h : (valsS V pv zs)[q]? = some u) : ∃ a x j t, q = a * wid c + j ∧ zs[a]? = some x ∧ (tcells c x)[j]? = some t ∧ u = denP V pv a j t := by
  have hq : q < (valsS V pv zs).length := (List.getElem?_eq_some_iff.1 h).1
  obtain ⟨h1, h2, h3⟩ := flat_idx valsS_len hq
  have hx := List.getElem?_eq_getElem h1
  have hj : q % wid c < (tcells c zs[q / wid c]).length := by rw [tcells_len]; exact h2
  have := valsS_get (V := V) (pv := pv) hx (List.getElem?_eq_getElem hj)
  rw [h3, h] at this
  exact ⟨_, _, _, _, h3.symm, hx, List.getElem?_eq_getElem hj, Option.some.inj this⟩
structure RowS {c : Ty} (mem : List (Nat × MB)) (V : Vl) (vs : List SV) (ts : List TC) (ps : List Pr) (b : Bool) (f : Nat) (x x' : El c) : Prop where
  len : ts.length = vs.length ∧ ps.length = vs.length ∧ f + vs.length ≤ wid c
  cell : ∀ j t, (tcells c x')[j]? = some t → (f ≤ j ∧ j < f + vs.length ∧ ∃ v p b', vs[j - f]? = some v ∧ ps[j - f]? = some p ∧ CellOk mem V v t p b' ∧ (b' = true → b = true)) ∨ (¬ (f ≤ j ∧ j < f + vs.length) ∧ (tcells c x)[j]? = some t)
theorem rowS_of {c : Ty} {mem : List (Nat × MB)} {V : Vl} {vs : List SV} {ts : List TC} {ps : List Pr} {b : Bool} {obs : List Prop} {f : Nat} {x x' : El c} {cs : List TC} {vr : List SV} (hc : cellsT mem (ckAt (cks c) f vs.length) vs = some (ts, ps, b, obs, vr)) (ho : AllP obs) (hr : vr = []) (hs : spliceT (tcells c x) f ts = some cs) (hm : mkc c cs = some x') : RowS mem V vs ts ps b f x x' := by
  obtain ⟨k1, k2, k3, k4, k5⟩ := cellsT_ok (V := V) hc ho
  obtain ⟨g1, g2, g3⟩ := spliceT_get hs
  subst hr
  simp only [List.length_nil, Nat.add_zero] at k3
  rw [tcells_len] at g1
  refine ⟨⟨by omega, by omega, by omega⟩, fun j t hj => ?_⟩
  rw [mkc_cells hm, g3] at hj
  by_cases h : f ≤ j ∧ j < f + ts.length
  · rw [if_pos h] at hj
    obtain ⟨v, p, b', q1, q2, q3, q4⟩ := k5 _ _ hj
    exact .inl ⟨h.1, by omega, v, p, b', q1, q2, q3, q4⟩
  · rw [if_neg h] at hj
    exact .inr ⟨fun hh => h ⟨hh.1, by omega⟩, hj⟩
theorem rowsP_store {c : Ty} {mem : List (Nat × MB)} {V : Vl} {vs : List SV} {ts : List TC} {ps : List Pr} {b : Bool} {f i k : Nat} {l : List (El c)} {x' : El c} {m md : Md} (hm : find mem k = some (.list m c l)) (hi : i < l.length) (R : RowS mem V vs ts ps b f (gt l i) x')
    (hn : nodupB (kills ps) = true) (hk : notIn k (kills ps) = true) (hmm : m = .own ∨ (m = .sh ∧ md = .sh)) (hb : b = true → md = .sh) : RowsP mem V md (k :: kills ps) c (l.set i x') (valsS V (pvS k f vs.length i ps) (l.set i x')) (pvS k f vs.length i ps) := by
  have hni := notIn_spec hk
  have getr : ∀ {a : Nat} {x : El c}, (l.set i x')[a]? = some x → (a = i ∧ x = x') ∨ (a ≠ i ∧ l[a]? = some x) := by
    intro a x h
    by_cases e : a = i
    · subst e; rw [List.getElem?_set_self hi] at h; exact .inl ⟨rfl, (Option.some.inj h).symm⟩
    · rw [List.getElem?_set_ne (Ne.symm e)] at h; exact .inr ⟨e, h⟩
  have pvo : ∀ {a j : Nat}, ¬ (a = i ∧ f ≤ j ∧ j < f + vs.length) → pvS k f vs.length i ps a j = some ⟨k, [(a, j)]⟩ := fun h => if_neg h
  have pvn : ∀ {a j : Nat}, (a = i ∧ f ≤ j ∧ j < f + vs.length) → pvS k f vs.length i ps a j = (ps[j - f]?).bind Pr.rid := fun h => if_pos h
  have oldc : ∀ {a : Nat} {x : El c} {j : Nat} {c1 : Ty} {l1 : List (El c1)}, l[a]? = some x → (tcells c x)[j]? = some (.sl c1 l1) → ¬ (a = i ∧ f ≤ j ∧ j < f + vs.length) →
      (pvS k f vs.length i ps a j = none ∧ l1 = []) ∨ ∃ ρ m c0 l0, pvS k f vs.length i ps a j = some ρ ∧ find mem ρ.k = some (.list m c0 l0) ∧ desc c0 l0 ρ.p = some ⟨c1, l1⟩ ∧ ((m = .own ∧ ρ.k ∈ k :: kills ps) ∨ (m = .sh ∧ (ρ.k ∈ k :: kills ps ∨ ρ.p ≠ []) ∧ md = .sh) ∨ (m = .fz ∧ md = .sh)) := by
    intro a x j c1 l1 hx hj hnot
    refine .inr ⟨⟨k, [(a, j)]⟩, m, c, l, pvo hnot, hm, by simp only [desc, hx, hj], ?_⟩
    rcases hmm with rfl | ⟨rfl, h⟩
    · exact .inl ⟨rfl, List.mem_cons_self⟩
    · exact .inr (.inl ⟨rfl, .inl List.mem_cons_self, h⟩)
  refine ⟨valsS_len, fun a x hx j t hj => valsS_get hx hj, fun a x hx j c1 l1 hj => ?_, fun a j a' j' ρ ρ' q q' c0 l0 e1 e2 e3 e4 e5 => ?_⟩
  · rcases getr hx with ⟨rfl, rfl⟩ | ⟨hne, hx'⟩
    · rcases R.cell j _ hj with ⟨h1, h2, v, p, b', q1, q2, q3, q4⟩ | ⟨h1, h2⟩
      · rw [pvn ⟨rfl, h1, h2⟩, q2, Option.bind_some]
        rcases q3.con c1 l1 rfl with ⟨rfl, rfl⟩ | ⟨ρ, m', c0, l0, g1, g2, g3, g4⟩
        · exact .inl ⟨rfl, rfl⟩
        · refine .inr ⟨ρ, m', c0, l0, g1, g2, g3, ?_⟩
          rcases g4 with ⟨rfl, rfl⟩ | ⟨rfl, rfl, hbb⟩ | ⟨rfl, rfl, hbb⟩
          · exact .inl ⟨rfl, List.mem_cons_of_mem _ (mem_kills q2)⟩
          · exact .inr (.inl ⟨rfl, .inl (List.mem_cons_of_mem _ (mem_kills q2)), hb (q4 hbb)⟩)
          · exact .inr (.inr ⟨rfl, hb (q4 hbb)⟩)
      · exact oldc (gt_at hi) h2 (fun h => h1 h.2)
    · exact oldc hx' hj (fun h => hne h.1)
  · -- two places of one list
    have cas : ∀ {a j : Nat} {ρ : Rid}, pvS k f vs.length i ps a j = some ρ → (ρ = ⟨k, [(a, j)]⟩ ∧ ¬ (a = i ∧ f ≤ j ∧ j < f + vs.length)) ∨ (a = i ∧ f ≤ j ∧ j < f + vs.length ∧ ∃ p, ps[j - f]? = some p ∧ p.rid = some ρ) := by
      intro a j ρ h
      by_cases hc : a = i ∧ f ≤ j ∧ j < f + vs.length
      · rw [pvn hc] at h
        obtain ⟨p, h1, h2⟩ := Option.bind_eq_some_iff.1 h
        exact .inr ⟨hc.1, hc.2.1, hc.2.2, p, h1, h2⟩
      · rw [pvo hc] at h; cases h; exact .inl ⟨rfl, hc⟩
    -- a new cell's list
    have newp : ∀ {j : Nat} {p : Pr} {ρ0 : Rid}, f ≤ j → j < f + vs.length → ps[j - f]? = some p → p.rid = some ρ0 → (p = .own ρ0.k ∧ ρ0.k ∈ kills ps) ∨ ∃ c0 l0, find mem ρ0.k = some (.list .fz c0 l0) := by
      intro j p ρ0 h1 h2 hp hr
      have hjw : j < (tcells c x').length := by rw [tcells_len]; have := R.len.2.2; omega
      rcases R.cell j _ (List.getElem?_eq_getElem hjw) with ⟨_, _, v, p', b', q1, q2, q3, q4⟩ | ⟨h3, _⟩
      · rw [hp] at q2
        cases q2
        cases ht : (tcells c x')[j] with
        | sl c1 l1 =>
          rw [ht] at q3
          rcases q3.con c1 l1 rfl with ⟨rfl, _⟩ | ⟨ρ1, m1, c0', l0', g1, g2, g3, g4⟩
          · cases hr
          · rw [hr] at g1
            cases g1
            rcases g4 with ⟨_, h⟩ | ⟨_, h, _⟩ | ⟨h, _⟩
            · exact .inl ⟨h, mem_kills (by rw [hp, h])⟩
            · exact .inl ⟨h, mem_kills (by rw [hp, h])⟩
            · subst h; exact .inr ⟨_, _, g2⟩
        | int k n => rw [ht] at q3; have := q3.no rfl; subst this; cases hr
        | bool b => rw [ht] at q3; have := q3.no rfl; subst this; cases hr
        | str s => rw [ht] at q3; have := q3.no rfl; subst this; cases hr
      · exact absurd ⟨h1, h2⟩ h3
    have nofz : ∀ {r : Rid}, find mem r.k = some (.list .own c0 l0) → ¬ ∃ c0 l0, find mem r.k = some (.list .fz c0 l0) := by
      rintro r h ⟨c2, l2, h2⟩
      rw [h] at h2; cases h2
    rcases cas e1 with ⟨rfl, n1⟩ | ⟨rfl, a1, a2, p, a3, a4⟩ <;> rcases cas e2 with ⟨rfl, n2⟩ | ⟨rfl, b1, b2, p', b3, b4⟩
    · simp only [List.cons_append, List.nil_append, List.cons.injEq, Prod.mk.injEq] at e5
      exact e5.1
    · exfalso
      rcases newp b1 b2 b3 b4 with ⟨_, h⟩ | h
      · rw [← e4] at h; exact hni h
      · exact nofz (r := ρ') (by rw [← e4]; exact e3) h
    · exfalso
      rcases newp a1 a2 a3 a4 with ⟨_, h⟩ | h
      · rw [e4] at h; exact hni h
      · exact nofz e3 h
    · refine ⟨rfl, ?_⟩
      rcases newp a1 a2 a3 a4 with ⟨h, _⟩ | h
      · rcases newp b1 b2 b3 b4 with ⟨h', _⟩ | h'
        · rw [← e4] at h'
          rw [h] at a3
          rw [h'] at b3
          have := nodup_kills hn a3 b3
          omega
        · exact absurd h' (nofz (by rw [← e4]; exact e3))
      · exact absurd h (nofz e3)
theorem ridT_ok {c : Ty} {mem : List (Nat × MB)} {V : Vl} {ps : List Pr} {f n i k nb : Nat} (hl : ps.length = n) (hk : k < nb) (hlt : ∀ k1 ∈ kills ps, k1 < nb) : RidOk (V.ext nb (nlF V (pvS k f n i ps) (V ⟨k, []⟩))) (nb + 1) (ridT k nb f n i (mvOf f ps)) := by
  have vn : ∀ p, V.ext nb (nlF V (pvS k f n i ps) (V ⟨k, []⟩)) ⟨nb, p⟩ = nlF V (pvS k f n i ps) (V ⟨k, []⟩) p := fun p => Vl.ext_new
  have vo : ∀ {r : Rid}, r.k ≠ nb → V.ext nb (nlF V (pvS k f n i ps) (V ⟨k, []⟩)) r = V r := fun h => if_neg h
  have mvn : ∀ {k' d : Nat}, find (mvOf f ps) k' = some d → k' ≠ nb := fun h e => by have := hlt _ (mem_kills (mvOf_find h).2); omega
  have mvk : ∀ {k' d : Nat}, find (mvOf f ps) k' = some d → k' ≠ nb → ∀ q, V.ext nb (nlF V (pvS k f n i ps) (V ⟨k, []⟩)) ⟨nb, (i, d) :: q⟩ = V.ext nb (nlF V (pvS k f n i ps) (V ⟨k, []⟩)) ⟨k', q⟩ := by
    intro k' d h hne q
    obtain ⟨h1, h2⟩ := mvOf_find h
    have hlt := (List.getElem?_eq_some_iff.1 h2).1
    rw [vn, vo (by exact hne)]
    simp only [nlF, pvL]
    unfold pvS
    rw [if_pos ⟨rfl, h1, by omega⟩, h2]
    rfl
  have key : ∀ r : Rid, r.k < nb + 1 → V.ext nb (nlF V (pvS k f n i ps) (V ⟨k, []⟩)) (ridT k nb f n i (mvOf f ps) r) = V.ext nb (nlF V (pvS k f n i ps) (V ⟨k, []⟩)) r ∧ (ridT k nb f n i (mvOf f ps) r).k < nb + 1 := by
    rintro ⟨k', p⟩ hr
    have kne : k' = k → k' ≠ nb := fun e h => by omega
    cases p with
    | nil =>
      simp only [ridT]
      split
      · rename_i e
        have e := Nat.eq_of_beq_eq_true e
        subst e
        exact ⟨by rw [vn, vo (by exact kne rfl)]; rfl, Nat.lt_succ_self _⟩
      · split
        · rename_i d hd
          exact ⟨mvk hd (mvn hd) [], Nat.lt_succ_self _⟩
        · exact ⟨rfl, hr⟩
    | cons aj q =>
      obtain ⟨a, j⟩ := aj
      have same : k' = k → ¬ (f ≤ j ∧ j < f + n) → V.ext nb (nlF V (pvS k f n i ps) (V ⟨k, []⟩)) ⟨nb, (a, j) :: q⟩ = V.ext nb (nlF V (pvS k f n i ps) (V ⟨k, []⟩)) ⟨k', (a, j) :: q⟩ := by
        intro e h
        subst e
        rw [vn, vo (by exact kne rfl)]
        simp only [nlF, pvL, pvS]
        rw [if_neg (fun hh => h hh.2)]
        rfl
      simp only [ridT]
      split
      · rename_i e
        have e := Nat.eq_of_beq_eq_true e
        split
        · rename_i h1
          rw [Nat.blt_eq] at h1
          exact ⟨same e (by omega), Nat.lt_succ_self _⟩
        · split
          · rename_i h1
            have h1 := Nat.le_of_ble_eq_true h1
            exact ⟨same e (by simp only [Nat.add_eq] at h1; omega), Nat.lt_succ_self _⟩
          · exact ⟨rfl, hr⟩
      · split
        · rename_i d hd
          exact ⟨mvk hd (mvn hd) _, Nat.lt_succ_self _⟩
        · exact ⟨rfl, hr⟩
  exact ⟨fun r hr => (key r hr).1, fun r hr => (key r hr).2⟩
structure StoreD where
  k : Nat
  i : Nat
  f : Nat
  n : Nat
  ks : List Nat
  mv : List (Nat × Nat)
  m : MB
  obs : List Prop
def mdS : Md → Bool → Option Md
  | .own, b => some (match b with | true => .sh | false => .own)
  | .sh, _ => some .sh
  | _, _ => none
def storeD (L : Lay) (s : St) (T : TypeId) (p y : Operand) : Option StoreD := match s.get p, s.get y, find L T with
  | some (.el ⟨k, []⟩ es i f), some u, some ti => match find s.mem k, cellsO u with
    | some (.list m c l), some vs => match cellsT s.mem (ckAt (cks c) f vs.length) vs, Nat.beq vs.length ti.zs.length, Nat.beq es (wid c) with
      | some (ts, ps, b, obs, []), true, true => match spliceT (tcells c (gt l i)) f ts, nodupB (kills ps), notIn k (kills ps), mdS m b with
        | some cs, true, true, some md => match mkc c cs with
          | some x => some ⟨k, i, f, vs.length, kills ps, mvOf f ps, .list md c (l.set i x), (i < l.length) :: obs⟩
          | none => none
        | _, _, _, _ => none
      | _, _, _ => none
    | _, _ => none
  | _, _, _ => none
section
variable {x : Cx} {s : St} (hL : LayOk x.P x.L)
include hL
theorem step_storeL {T : TypeId} {p y : Operand} {ty : TypeId} {pos : String} {after : Array Edge} {gd : Option (Nat × Bool)} {d : StoreD} (h : storeD x.L s T p y = some d) (ho : AllP d.obs) :
    StepTo x s ⟨none, .store T p y, ty, pos, after, gd⟩ ⟨envT (ridT d.k s.nb d.f d.n d.i d.mv) s.env, memT (ridT d.k s.nb d.f d.n d.i d.mv) ((s.nb, d.m) :: killL (d.k :: d.ks) s.mem), s.nb + 1⟩ :=
  ⟨fun g V a w Q hr => by
    unfold storeD at h
    split at h
    · rename_i k es i f u ti hp hy ht
      split at h
      · rename_i m c l vs hm hvs
        split at h
        · rename_i ts ps b obs hct h2 hes0
          split at h
          · rename_i cs1 md hsp hnd hni hmd
            split at h
            · rename_i x' hmk
              simp only [Option.some.injEq] at h
              subst h
              obtain ⟨hi, ho'⟩ := ho
              have hes : es = wid c := Nat.eq_of_beq_eq_true hes0
              have R := rowS_of (V := V) hct ho' rfl hsp hmk
              have hmm : m = .own ∨ (m = .sh ∧ md = .sh) := by
                unfold mdS at hmd
                split at hmd
                · exact .inl rfl
                · cases hmd; exact .inr ⟨rfl, rfl⟩
                · cases hmd
              have hbb : b = true → md = .sh := by
                intro e
                subst e
                unfold mdS at hmd
                split at hmd
                · simpa using hmd.symm
                · cases hmd; rfl
                · cases hmd
              have hmd' : md = .own ∨ md = .sh := by
                unfold mdS at hmd
                split at hmd
                · cases b <;> simp only [Option.some.injEq] at hmd <;> subst hmd <;> simp
                · cases hmd; exact .inr rfl
                · cases hmd
              have RP := rowsP_store (k := k) hm hi R hnd hni hmm hbb
              have hkn := (hr.ents.ok _ _ hm).1
              have hksn : ∀ k1 ∈ kills ps, k1 < s.nb := by
                intro k1 hk1
                obtain ⟨j, hj⟩ := kills_mem hk1
                have hjl : j < ps.length := (List.getElem?_eq_some_iff.1 hj).1
                have hl2 := R.len
                have hjw : f + j < (tcells c x').length := by rw [tcells_len]; omega
                rcases R.cell (f + j) _ (List.getElem?_eq_getElem hjw) with ⟨_, _, v, p', b', q1, q2, q3, q4⟩ | ⟨h3, _⟩
                · rw [Nat.add_sub_cancel_left, hj] at q2
                  cases q2
                  cases hte : (tcells c x')[f + j] with
                  | sl c1 l1 =>
                    rw [hte] at q3
                    rcases q3.con c1 l1 rfl with ⟨h, _⟩ | ⟨ρ1, m1, c0', l0', g1, g2, g3, g4⟩
                    · cases h
                    · cases g1; exact (hr.ents.ok _ _ g2).1
                  | int k n => rw [hte] at q3; have := q3.no rfl; cases this
                  | bool b => rw [hte] at q3; have := q3.no rfl; cases this
                  | str s => rw [hte] at q3; have := q3.no rfl; cases this
                · exact absurd ⟨by omega, by omega⟩ h3
              have hmdo : m.at [] = .own := by rcases hmm with rfl | ⟨rfl, _⟩ <;> rfl
              have hc : cont s.mem ⟨k, []⟩ = some (.list .own c l) := cont_iff.2 ⟨_, hm, by simp only [contB, desc, hmdo]⟩
              have hat := hr.ents.at_ _ _ hc
              obtain ⟨ad, a1, a2, _⟩ := row_cells hat hi
              obtain ⟨q1, q2, q3, q4⟩ := hat
              obtain ⟨ad', cs, tt, b1, b2, b3, b4, b5⟩ : ∃ a cs t, (V ⟨k, []⟩).a = some a ∧ a.spot = none ∧ w.heap[a.block]? = some (.cells cs t) ∧ a.off + (V ⟨k, []⟩).cap * wid c ≤ cs.size ∧ (V ⟨k, []⟩).cap ≤ maxLen := by
                rcases q3 rfl with h | h
                · omega
                · exact h
              rw [a1] at b1
              cases b1
              obtain ⟨ii, g1, g2, g3, _⟩ := (hL.at ht).info
              have hz : (denL V vs).length = ti.zero.length := by rw [denL_length, TI.zero_len]; exact Nat.eq_of_beq_eq_true h2
              have hfw := R.len.2.2
              have hfit : ad.off + (i * wid c + f) + vs.length ≤ cs.size := by
                have : (i + 1) * wid c ≤ (V ⟨k, []⟩).cap * wid c := Nat.mul_le_mul_right _ (by omega)
                rw [Nat.add_mul] at this
                omega
              let cs' := (cs.toList.take (ad.off + (i * wid c + f)) ++ denL V vs ++ cs.toList.drop (ad.off + (i * wid c + f) + (denL V vs).length)).toArray
              have hone : ∀ v ∈ denL V vs, v.oneCell' = true := by
                intro v hv
                rw [denL_eq] at hv
                obtain ⟨v0, hv0, rfl⟩ := List.mem_map.1 hv
                obtain ⟨j, hj⟩ := List.mem_iff_getElem?.1 hv0
                have hjl : j < vs.length := (List.getElem?_eq_some_iff.1 hj).1
                have hjw : f + j < (tcells c x').length := by rw [tcells_len]; omega
                rcases R.cell (f + j) _ (List.getElem?_eq_getElem hjw) with ⟨_, _, v1, p', b', y1, y2, y3, y4⟩ | ⟨h3, _⟩
                · rw [Nat.add_sub_cancel_left, hj] at y1
                  cases y1
                  exact oneC_den _ y3.one
                · exact absurd ⟨by omega, by omega⟩ h3
              have run : (Instr.storeAt T (den V (.el ⟨k, []⟩ es i f)) (den V u)).run x.P w = .ok () (w.setRow ad.block cs') := by
                simp only [Instr.storeAt, den, Loc.at, a1, Option.map_some, Instr.sureAddr, Sem.run_bind, Sem.run_pure, Result.andThen_ok, storeVar, r_sizeOf g1, cellsO_den hvs]
                rw [if_neg (by simp [hz, g2])]
                have := run_storeCells_at (P := x.P) ad.block (ad.off + (i * wid c + f)) tt (denL V vs) 0 cs w b3 (by rw [denL_length]; omega) hone
                simp only [Nat.add_zero] at this
                rw [hes]
                exact this
              unfold Oper.wp
              have : (execOp a.eval ⟨none, .store T p y, ty, pos, after, gd⟩).run x.P w = .ok .skip (w.setRow ad.block cs') := by
                simp only [execOp, hr.env.get hp, hr.env.get hy, Sem.run_bind, run, Result.andThen_ok, Sem.run_pure]
              rw [this]
              have hbl : (V ⟨k, []⟩).b = ad.block := by unfold Loc.b; rw [a1]
              have hsz : cs'.size = cs.size := by
                simp only [cs', List.size_toArray, List.length_append, List.length_take, List.length_drop, Array.length_toList, denL_length]
                omega
              have hcell : ∀ o, cs'[o]? = if ad.off + (i * wid c + f) ≤ o ∧ o < ad.off + (i * wid c + f) + vs.length then (vs[o - (ad.off + (i * wid c + f))]?).map (den V) else cs[o]? := by
                intro o
                simp only [cs', List.getElem?_toArray]
                by_cases h1 : o < ad.off + (i * wid c + f)
                · rw [if_neg (by omega), List.append_assoc, List.getElem?_append_left (by simp; omega), List.getElem?_take, if_pos h1]; simp
                · by_cases h2 : o < ad.off + (i * wid c + f) + vs.length
                  · rw [if_pos ⟨by omega, h2⟩, List.append_assoc, List.getElem?_append_right (by simp; omega), List.getElem?_append_left (by simp [denL_length]; omega), denL_get']
                    congr 2
                    simp; omega
                  · rw [if_neg (by omega), List.getElem?_append_right (by simp [denL_length]; omega), List.getElem?_drop]
                    simp only [Array.getElem?_toList]
                    congr 1
                    simp [denL_length]; omega
              have hh := setRow_heap w ad.block cs cs' tt (0, 0) b3
              have other : ∀ b, b ≠ ad.block → (w.setRow ad.block cs').heap[b]? = w.heap[b]? := fun b hb => setRow_other w ad.block b _ hb
              have hrep := hr.list (w' := w.setRow ad.block cs') (md := md) hmd' RP (fun k1 hk1 => by
                  rcases List.mem_cons.1 hk1 with rfl | h
                  · exact hkn
                  · exact hksn k1 h) (L := V ⟨k, []⟩) (by rw [List.length_set]; exact q1) (by rw [List.length_set]; exact q2)
                (.inr ⟨ad, cs', tt, a1, a2, hh, by rw [hsz]; exact b4, b5⟩)
                (fun q v hv => by
                  refine ⟨ad, a1, a2, cell_of hh ?_⟩
                  obtain ⟨aa, xx, j, t, rfl, hx, hj, rfl⟩ := valsS_inv hv
                  have hjw : j < wid c := by have := (List.getElem?_eq_some_iff.1 hj).1; rw [tcells_len] at this; exact this
                  have oldv : ∀ {x0 : El c}, l[aa]? = some x0 → (tcells c x0)[j]? = some t → ¬ (aa = i ∧ f ≤ j ∧ j < f + vs.length) → cs'[ad.off + (aa * wid c + j)]? = some (denP V (pvS k f vs.length i ps) aa j t) := by
                    intro x0 hx0 hj0 hnot
                    obtain ⟨ad2, y1, y2, y3⟩ := q4 aa x0 hx0 j t hj0
                    rw [a1] at y1
                    cases y1
                    simp only [World.cell?, b3, Option.isSome_none, Bool.false_eq_true, if_false] at y3
                    rw [hcell, if_neg, y3]
                    · congr 1
                      cases t <;> simp only [denT, denP]
                      have e0 : pvS k f vs.length i ps aa j = some ⟨k, [(aa, j)]⟩ := if_neg hnot
                      simp only [pvL, e0, Rid.ch, List.nil_append, List.append_nil]
                    · intro hin
                      apply hnot
                      have e1 : aa = i := by
                        rcases Nat.lt_trichotomy aa i with hlt | heq | hgt
                        · have : (aa + 1) * wid c ≤ i * wid c := Nat.mul_le_mul_right _ hlt
                          rw [Nat.add_mul] at this; omega
                        · exact heq
                        · have : (i + 1) * wid c ≤ aa * wid c := Nat.mul_le_mul_right _ hgt
                          rw [Nat.add_mul] at this; omega
                      subst e1
                      exact ⟨rfl, by omega, by omega⟩
                  by_cases e : aa = i
                  · subst e
                    rw [List.getElem?_set_self hi] at hx
                    cases hx
                    rcases R.cell j t hj with ⟨h1, h2, v, p', b', y1, y2, y3, y4⟩ | ⟨h1, h2⟩
                    · rw [hcell, if_pos (by omega), show ad.off + (aa * wid c + j) - (ad.off + (aa * wid c + f)) = j - f by omega, y1, Option.map_some, y3.val]
                      congr 1
                      have e2 : pvS k f vs.length aa ps aa j = p'.rid := by unfold pvS; rw [if_pos ⟨rfl, h1, h2⟩, y2]; rfl
                      cases t <;> simp only [denP, pvL, e2]
                      cases p' <;> simp [Pr.rid]
                    · exact oldv (gt_at hi) h2 (fun h => h1 h.2)
                  · rw [List.getElem?_set_ne (Ne.symm e)] at hx
                    exact oldv hx hj (fun h => e h.1))
                (some k) (fun hcap => ⟨List.mem_cons_self, _, hc, hcap, rfl, rfl⟩) (fun kb h => by cases h; exact List.mem_cons_self)
                (fun aa j ρ kb e1 e2 e3 => by
                  cases e2
                  unfold pvS at e1
                  split at e1
                  · rename_i hc3
                    exfalso
                    obtain ⟨p', z1, z2⟩ := Option.bind_eq_some_iff.1 e1
                    have hjw : j < (tcells c x').length := by rw [tcells_len]; omega
                    rcases R.cell j _ (List.getElem?_eq_getElem hjw) with ⟨_, _, v, p2, b', y1, y2, y3, y4⟩ | ⟨h3, _⟩
                    · rw [z1] at y2
                      cases y2
                      cases hte : (tcells c x')[j] with
                      | sl c1 l1 =>
                        rw [hte] at y3
                        rcases y3.con c1 l1 rfl with ⟨rfl, _⟩ | ⟨ρ1, m1, c0', l0', g1, g2, g3, g4⟩
                        · cases z2
                        · rw [z2] at g1
                          cases g1
                          rcases g4 with ⟨_, h⟩ | ⟨_, h, _⟩ | ⟨h, _⟩
                          · have := mem_kills (by rw [z1, h] : ps[j - f]? = some (.own ρ.k))
                            rw [e3] at this
                            exact notIn_spec hni this
                          · have := mem_kills (by rw [z1, h] : ps[j - f]? = some (.own ρ.k))
                            rw [e3] at this
                            exact notIn_spec hni this
                          · subst h
                            rw [e3, hm] at g2
                            cases g2
                            rcases hmm with h | ⟨h, _⟩ <;> cases h
                      | int k n => rw [hte] at y3; have := y3.no rfl; subst this; cases z2
                      | bool b => rw [hte] at y3; have := y3.no rfl; subst this; cases z2
                      | str s => rw [hte] at y3; have := y3.no rfl; subst this; cases z2
                    · exact h3 hc3.2
                  · cases e1; intro h; cases h)
                (by rw [setRow_size]; exact Nat.le_refl _) (fun b hb hne => other b (by
                  have := hne k rfl (by omega)
                  rw [hbl] at this
                  exact this)) ⟨rfl, rfl, rfl⟩
              exact ⟨_, hrep.T (ridT_ok (c := c) (mem := s.mem) (f := f) (i := i) (R.len.2.1) hkn hksn)⟩
            · cases h
          · cases h
        · cases h
      · cases h
    · cases h⟩
omit hL
end
def envTP {β : Type u} (φ : Rid → Rid) : List (Nat × SV) → (List (Nat × SV) → β) → β
  | [], f => f []
  | (t, v) :: l, f => plV (svT φ v) fun v => envTP φ l fun r => f ((t, v) :: r)
theorem envTP_eq {β : Type u} {φ : Rid → Rid} : ∀ (l : List (Nat × SV)) (f : List (Nat × SV) → β), envTP φ l f = f (envT φ l)
  | [], f => rfl
  | (t, v) :: l, f => by simp only [envTP, plV_eq, envTP_eq l, envT]
def memTP {β : Type u} (φ : Rid → Rid) : List (Nat × MB) → (List (Nat × MB) → β) → β
  | [], f => f []
  | (t, m) :: l, f => match m with
    | .cells c => plL (svTL φ c) fun c => memTP φ l fun r => f ((t, .cells c) :: r)
    | .deck v => plV (svT φ v) fun v => memTP φ l fun r => f ((t, .deck v) :: r)
    | m => memTP φ l fun r => f ((t, m) :: r)
theorem memTP_eq {β : Type u} {φ : Rid → Rid} : ∀ (l : List (Nat × MB)) (f : List (Nat × MB) → β), memTP φ l f = f (memT φ l)
  | [], f => rfl
  | (t, m) :: l, f => by cases m <;> simp only [memTP, plV_eq, plL_eq, memTP_eq l, memT, mbT]
def storeR (d : StoreD) (s : St) (f : St → Res) : Res := match d, s with
  | ⟨k, i, fc, n, ks, mv, m, _⟩, ⟨env, mem, nb⟩ => killP (k :: ks) mem fun mem1 => memTP (ridT k nb fc n i mv) ((nb, m) :: mem1) fun mem2 => envTP (ridT k nb fc n i mv) env fun env2 => nx nb fun nb' => f ⟨env2, mem2, nb'⟩
section
variable {x : Cx} {Q : Exit → St → Prop} {obs : List Prop} {K : List Kf} {all l : List Oper} {env : List (Nat × SV)} {mem : List (Nat × MB)} {nb : Nat}
theorem g_storeL (hL : LayOk x.P x.L) (fuel : Nat) {T : TypeId} {p y : Operand} {ty : TypeId} {pos : String} {after : Array Edge} {gd : Option (Nat × Bool)} {d : StoreD} (ho : AllP obs) (hg : goes all env gd = some true) (hd : storeD x.L ⟨env, mem, nb⟩ T p y = some d) (ho2 : AllP d.obs)
    (hk : Good x Q (storeR d ⟨env, mem, nb⟩ fun s' => run x fuel [] (.ops all l) K s')) : Good x Q (.ops obs all (⟨none, .store T p y, ty, pos, after, gd⟩ :: l) K ⟨env, mem, nb⟩) := by
  obtain ⟨k, i, fc, n, ks, mv, m, ob⟩ := d
  simp only [storeR, killP_eq, memTP_eq, envTP_eq, nx_eq] at hk
  exact ⟨ho, sq_step hg (step_storeL hL hd ho2) (run_ok hL hk).2⟩
end
theorem Trip.sub {P : Program} {g : Nat} {avs : List SV} {pre : St} {Z : Type} {ψ : Z → Prop} {res res' : Z → SV} {post post' : Z → St} (T : Trip P g avs pre ψ res post)
    (h : ∀ z, ψ z → SubG pre.nb ⟨[(0, res' z)], (post' z).mem, (post' z).nb⟩ ⟨[(0, res z)], (post z).mem, (post z).nb⟩) : Trip P g avs pre ψ res' post' := by
  refine ⟨T.can, fun V D0 w hE hD => (T.runs V D0 w hE hD).mono fun e w' ⟨z, V1, hz, he, hok, hnb, hag, hE1, hfr, hown⟩ => ?_⟩
  have hT := SubG_ok (x := ⟨P, [], 1, pre.nb⟩) (h z hz)
  have hr1 : Rep ⟨P, [], 1, pre.nb⟩ ⟨w, D0, Dl V pre.mem, V⟩ V1 ⟨[(0, res z)], (post z).mem, (post z).nb⟩ { tmps := #[den V1 (res z)], defers := [] } w' := by
    refine ⟨rfl, rfl, fun t v hv => ?_, fun t v hv => ?_, hE1.env, hfr, hown, ⟨hnb, hag⟩, fun b hb => ⟨hD b hb, ?_⟩⟩
    · simp only [find_cons] at hv
      split at hv
      · rename_i e; subst e; cases hv; rfl
      · simp [find] at hv
    · simp only [find_cons] at hv
      split at hv
      · cases hv; exact hok
      · simp [find] at hv
    · rintro ⟨r, y, hc, hl, hk, rfl⟩
      exact hE.d0 r y hc hl (by rw [hk]; simp) hb
  obtain ⟨V2, h2⟩ := hT.run _ V1 _ w' hr1
  have hres : den V2 (res' z) = den V1 (res z) := by
    have := h2.env 0 (res' z) (by simp [find])
    simpa using this.symm
  exact ⟨z, V2, hz, by rw [hres]; exact he, h2.envOk 0 (res' z) (by simp [find]), h2.pin.1, h2.pin.2, h2.ents.env, h2.frame, h2.own⟩
end Go.Proofs.Ytonjbhdfimcedaa
namespace Go.Proofs.Ytonjbhdfimcedaa
open Go.RowKit
structure RowsG (mem : List (Nat × MB)) (V : Vl) (B : MB) (ks : List Nat) (c : Ty) (zs : List (El c)) (vals : List Value) (pv : Pv) : Prop where
  okB : ∀ nb, okM nb B = true
  root : ∀ b', contB B [] = some b' → b' = .list .own c zs
  val : ∀ a x, zs[a]? = some x → ∀ j t, (tcells c x)[j]? = some t → vals[a * wid c + j]? = some (denP V pv a j t)
  inner : ∀ a j q b', contB B ((a, j) :: q) = some b' → (pv a j = none ∧ ∃ c2 d, b' = .list d c2 [] ∧ d ≠ .tmp) ∨ ∃ ρ d d' c2 l2, pv a j = some ρ ∧ b' = .list d' c2 l2 ∧ cont mem ⟨ρ.k, ρ.p ++ q⟩ = some (.list d c2 l2) ∧ d.le d' ∧ (d' = .own → d = .own) ∧ d' ≠ .tmp ∧ (ρ.k ∈ ks ∨ (d ≠ .own ∧ d' ≠ .own))
  inj : ∀ a j q b1 a' j' q' b2 ρ ρ', contB B ((a, j) :: q) = some b1 → contB B ((a', j') :: q') = some b2 → kindB b1 = .own → pv a j = some ρ → pv a' j' = some ρ' → ρ.k = ρ'.k → ρ.p ++ q = ρ'.p ++ q' → a = a' ∧ j = j'
theorem Rep.listG {x : Cx} {g : Gx} {V : Vl} {s : St} {act : Act} {w w' : World} (h : Rep x g V s act w) {B : MB} {ks : List Nat} {c : Ty} {zs : List (El c)} {vals : List Value} {pv : Pv} (R : RowsG s.mem V B ks c zs vals pv) (hks : ∀ k ∈ ks, k < s.nb)
    {L : Loc} (hlen : L.len = zs.length) (hcap : zs.length ≤ L.cap) (hown : OwnAt w' L (wid c)) (hcells : ∀ j u, vals[j]? = some u → ∃ a, L.a = some a ∧ a.spot = none ∧ w'.cell? ⟨a.block, a.off + j, none⟩ = some u)
    (rs : Option Nat) (hrs : L.cap ≠ 0 → match rs with | none => w.heap.size ≤ L.b | some kb => kb ∈ ks ∧ ∃ b0, cont s.mem ⟨kb, []⟩ = some b0 ∧ liveB (V ⟨kb, []⟩) b0 ∧ kindB b0 = .own ∧ L.b = (V ⟨kb, []⟩).b)
    (hrk : ∀ kb, rs = some kb → kb ∈ ks) (hrp : ∀ a j ρ kb, pv a j = some ρ → rs = some kb → ρ.k = kb → ρ.p ≠ [])
    (hsz : w.heap.size ≤ w'.heap.size) (same : ∀ b, b < w.heap.size → (∀ kb, rs = some kb → L.cap ≠ 0 → b ≠ (V ⟨kb, []⟩).b) → w'.heap[b]? = w.heap[b]?) (io : SIO w w') :
    Rep x g (V.ext s.nb (nlF V pv L)) ⟨s.env, (s.nb, B) :: killL ks s.mem, s.nb + 1⟩ act w' := by
  have ag : AgrB s.nb (V.ext s.nb (nlF V pv L)) V := Vl.ext_agr
  have vn : ∀ p, V.ext s.nb (nlF V pv L) ⟨s.nb, p⟩ = nlF V pv L p := fun p => Vl.ext_new
  have inner := R.inner
  have root := R.root
  have dead : ∀ a j q c2 d, pv a j = none → d ≠ Kd.tmp → ¬ liveB (V.ext s.nb (nlF V pv L) ⟨s.nb, (a, j) :: q⟩) (.list d c2 []) := by
    intro a j q c2 d e1 hd hl
    rw [vn] at hl
    simp only [nlF, pvL, e1] at hl
    cases d with
    | own => exact hl rfl
    | fz => exact hl rfl
    | tmp => exact hd rfl
  have locq : ∀ a j q ρ, pv a j = some ρ → V.ext s.nb (nlF V pv L) ⟨s.nb, (a, j) :: q⟩ = V ⟨ρ.k, ρ.p ++ q⟩ := by
    intro a j q ρ e1
    rw [vn]
    simp only [nlF, pvL, e1]
  have liveq : ∀ {L : Loc} {d d' : Kd} {c2 : Ty} {l2 : List (El c2)}, l2.length ≤ L.cap → (d' = .own → d = .own) → liveB L (.list d' c2 l2) → liveB L (.list d c2 l2) := by
    intro L d d' c2 l2 hc hd hl
    have pos : l2 ≠ [] → L.cap ≠ 0 := by
      intro hne e
      have := List.length_pos_iff.2 hne
      omega
    cases d' with
    | own => have := hd rfl; subst this; exact hl
    | fz => cases d with
      | own => exact pos hl
      | fz => exact hl
      | tmp => exact hl
    | tmp => cases d with
      | own => exact pos hl
      | fz => exact hl
      | tmp => exact hl
  have sameR : ∀ r b, cont s.mem r = some b → liveB (V r) b → (∀ kb, rs = some kb → r ≠ ⟨kb, []⟩) → w'.heap[(V r).b]? = w.heap[(V r).b]? := by
    intro r b hc hl hne
    refine same _ (h.ents.lt hc hl) fun kb hk hcp he => ?_
    have hr := hrs hcp
    rw [hk] at hr
    obtain ⟨_, b0, c1, c2, c3, _⟩ := hr
    exact hne kb hk (h.ents.sep ⟨kb, []⟩ r b0 b c1 hc c2 hl c3 he.symm).symm
  have hE := h.ents.turn (w' := w') (m := B) (ks := ks) s.env ag (R.okB _) hks (fun p => match p with | [] => rs.map fun k => ⟨k, []⟩ | (a, j) :: q => (pv a j).map fun ρ => ⟨ρ.k, ρ.p ++ q⟩)
    (fun r b hc hl hk => sameR r b hc hl fun kb hkb e => by
      subst e
      exact hk (hrk kb hkb))
    (fun p b' hb hl => by
      cases p with
      | nil =>
        have hb' := root b' hb
        subst hb'
        rw [vn] at hl ⊢
        have hr := hrs hl
        cases rs with
        | none => exact .inl ⟨rfl, hr⟩
        | some kb =>
          obtain ⟨k1, b0, k2, k3, k4, k5⟩ := hr
          exact .inr ⟨⟨kb, []⟩, b0, rfl, k2, k3, k5, by rw [k4]; trivial, .inl k1⟩
      | cons aj q =>
        obtain ⟨a, j⟩ := aj
        rcases inner a j q b' hb with ⟨e1, c2, d, rfl, hd⟩ | ⟨ρ, d, d', c2, l2, e1, rfl, e2, e3, e4, e5, e6⟩
        · exact absurd hl (dead a j q c2 d e1 hd)
        · refine .inr ⟨⟨ρ.k, ρ.p ++ q⟩, _, by simp only [e1, Option.map_some], e2, ?_, by rw [locq a j q ρ e1], e3, e6⟩
          rw [locq a j q ρ e1] at hl
          exact liveq (h.ents.at_ _ _ e2).2.1 e4 hl)
    (fun p1 p2 b1 b2 h1 h2 l1 l2 hk he => by
      cases p1 with
      | nil =>
        cases p2 with
        | nil => rfl
        | cons aj q =>
          exfalso
          obtain ⟨a, j⟩ := aj
          rcases inner a j q b2 h2 with ⟨e1, c2, d, rfl, hd⟩ | ⟨ρ, d, d', c2, l2', e1, rfl, e2, e3, e4, e5, e6⟩
          · exact dead a j q c2 d e1 hd l2
          · simp only [e1, Option.map_some] at he
            cases hrs' : rs with
            | none => rw [hrs'] at he; cases he
            | some kb =>
              rw [hrs'] at he
              simp only [Option.map_some, Option.some.injEq, Rid.mk.injEq] at he
              exact hrp a j ρ kb e1 hrs' he.1.symm (List.append_eq_nil_iff.1 he.2.symm).1
      | cons aj q =>
        obtain ⟨a, j⟩ := aj
        rcases inner a j q b1 h1 with ⟨e1, c2, d, rfl, hd⟩ | ⟨ρ, d, d', c2, l2', e1, rfl, e2, e3, e4, e5, e6⟩
        · exact absurd l1 (dead a j q c2 d e1 hd)
        · simp only [e1, Option.map_some] at he
          cases p2 with
          | nil =>
            exfalso
            cases hrs' : rs with
            | none => rw [hrs'] at he; cases he
            | some kb =>
              rw [hrs'] at he
              simp only [Option.map_some, Option.some.injEq, Rid.mk.injEq] at he
              exact hrp a j ρ kb e1 hrs' he.1 (List.append_eq_nil_iff.1 he.2).1
          | cons aj2 q2 =>
            obtain ⟨a2, j2⟩ := aj2
            rcases inner a2 j2 q2 b2 h2 with ⟨f1, c2', d2, rfl, hd2⟩ | ⟨ρ2, d2, d2', c2', l2'', f1, rfl, f2, f3, f4, f5, f6⟩
            · exact absurd l2 (dead a2 j2 q2 c2' d2 f1 hd2)
            · simp only [f1, Option.map_some, Option.some.injEq, Rid.mk.injEq] at he
              obtain ⟨rfl, rfl⟩ := R.inj a j q _ a2 j2 q2 _ ρ ρ2 h1 h2 hk e1 f1 he.1 he.2
              rw [e1] at f1
              cases f1
              rw [List.append_cancel_left he.2])
    (fun p b' hb => by
      cases p with
      | nil =>
        have hb' := root b' hb
        subst hb'
        refine ⟨by rw [vn]; exact hlen, by rw [vn]; exact hcap, fun _ => by rw [vn]; exact hown, fun i y hy j t ht => ?_⟩
        have := R.val i y hy j t ht
        obtain ⟨a, g1, g2, g3⟩ := hcells _ _ this
        refine ⟨a, by rw [vn]; exact g1, g2, ?_⟩
        rw [g3]
        cases t <;> simp only [denP, denT, Rid.ch, List.nil_append]
        rw [vn]; rfl
      | cons aj q =>
        obtain ⟨a, j⟩ := aj
        rcases inner a j q b' hb with ⟨e1, c2, d, rfl, hd⟩ | ⟨ρ, d, d', c2, l2, e1, rfl, e2, e3, e4, e5, e6⟩
        · have : V.ext s.nb (nlF V pv L) ⟨s.nb, (a, j) :: q⟩ = ⟨none, 0, 0⟩ := by rw [vn]; simp only [nlF, pvL, e1]
          refine ⟨by rw [this]; rfl, by rw [this]; exact Nat.le_refl _, fun _ => by rw [this]; exact .inl rfl, fun i y hy => by simp at hy⟩
        · refine (h.ents.at_ _ _ e2).move (locq a j q ρ e1) (fun i j' => ?_) e4 (fun hl => sameR _ _ e2 hl fun kb hkb e => ?_)
          · simp only [Rid.ch, List.cons_append]
            rw [locq a j _ ρ e1, List.append_assoc]
          · simp only [Rid.mk.injEq] at e
            exact hrp a j ρ kb e1 hkb e.1 (List.append_eq_nil_iff.1 e.2).1) h.d0w
  refine h.turn hsz ag hks hE io (fun b hb hd => same b hb fun kb hk hcp he => ?_) (fun p b' hb hl hk => ?_)
  · have hr := hrs hcp
    rw [hk] at hr
    obtain ⟨_, b0, c1, c2, c3, _⟩ := hr
    exact hd ⟨⟨kb, []⟩, b0, c1, c2, c3, he.symm⟩
  · cases p with
    | nil =>
      have hb' := root b' hb
      subst hb'
      rw [vn] at hl ⊢
      have hr := hrs hl
      cases rs with
      | none => exact .inl hr
      | some kb =>
        obtain ⟨k1, b0, k2, k3, k4, k5⟩ := hr
        exact .inr ⟨⟨kb, []⟩, b0, k2, k3, k4, k5.symm⟩
    | cons aj q =>
      obtain ⟨a, j⟩ := aj
      rcases inner a j q b' hb with ⟨e1, c2, d, rfl, hd⟩ | ⟨ρ, d, d', c2, l2, e1, rfl, e2, e3, e4, e5, e6⟩
      · exact absurd hl (dead a j q c2 d e1 hd)
      · rw [locq a j q ρ e1] at hl ⊢
        exact .inr ⟨_, _, e2, liveq (h.ents.at_ _ _ e2).2.1 e4 hl, e4 hk, rfl⟩
section
variable {x : Cx} {s : St} (hL : LayOk x.P x.L)
include hL
theorem store_listG {g : Gx} {V : Vl} {a : Act} {w : World} (hr : Rep x g V s a w) {T : TypeId} {p y : Operand} {k es i f : Nat} {c c1 : Ty} {l : List (El c)} {l1 : List (El c1)} {x' : El c} {ρ0 : Rid} {ti : TI} {B : MB} {pr : Pr}
    (hp : s.get p = some (.el ⟨k, []⟩ es i f)) (hy : s.get y = some (.sl ρ0)) (ht : find x.L T = some ti) (hz1 : ti.zs.length = 1) (hes : es = wid c) (hc : cont s.mem ⟨k, []⟩ = some (.list .own c l)) (hi : i < l.length) (hf : f < wid c)
    (hx : ∀ j, (tcells c x')[j]? = if j = f then some (.sl c1 l1) else (tcells c (gt l i))[j]?) (hpr : pr.rid = some ρ0) (hkn : k < s.nb) (hksn : ∀ k1 ∈ kills [pr], k1 < s.nb) (hρ : ρ0.k = k → ρ0.p ≠ [])
    (RG : RowsG s.mem V B (k :: kills [pr]) c (l.set i x') (valsS V (pvS k f 1 i [pr]) (l.set i x')) (pvS k f 1 i [pr])) (ty : TypeId) (pos : String) (after : Array Edge) (gd : Option (Nat × Bool)) :
    ∃ w', (execOp a.eval ⟨none, .store T p y, ty, pos, after, gd⟩).run x.P w = .ok .skip w' ∧ Rep x g (V.ext s.nb (nlF V (pvS k f 1 i [pr]) (V ⟨k, []⟩))) ⟨s.env, (s.nb, B) :: killL (k :: kills [pr]) s.mem, s.nb + 1⟩ a w' := by
  have hat := hr.ents.at_ _ _ hc
  obtain ⟨ad, a1, a2, _⟩ := row_cells hat hi
  obtain ⟨q1, q2, q3, q4⟩ := hat
  obtain ⟨ad', cs, tt, b1, b2, b3, b4, b5⟩ : ∃ a cs t, (V ⟨k, []⟩).a = some a ∧ a.spot = none ∧ w.heap[a.block]? = some (.cells cs t) ∧ a.off + (V ⟨k, []⟩).cap * wid c ≤ cs.size ∧ (V ⟨k, []⟩).cap ≤ maxLen := by
    rcases q3 rfl with h | h
    · omega
    · exact h
  rw [a1] at b1
  cases b1
  obtain ⟨ii, g1, g2, g3, _⟩ := (hL.at ht).info
  have hz : ((denL V [.sl ρ0])).length = ti.zero.length := by rw [denL_length, TI.zero_len, hz1]; rfl
  have hfit : ad.off + (i * wid c + f) + 1 ≤ cs.size := by
    have : (i + 1) * wid c ≤ (V ⟨k, []⟩).cap * wid c := Nat.mul_le_mul_right _ (by omega)
    rw [Nat.add_mul] at this
    omega
  let cs' := (cs.toList.take (ad.off + (i * wid c + f)) ++ denL V [.sl ρ0] ++ cs.toList.drop (ad.off + (i * wid c + f) + (denL V [.sl ρ0]).length)).toArray
  have hone : ∀ v ∈ denL V [.sl ρ0], v.oneCell' = true := by
    intro v hv
    simp only [denL, List.mem_singleton] at hv
    subst hv; rfl
  have run : (Instr.storeAt T (den V (.el ⟨k, []⟩ es i f)) (den V (.sl ρ0))).run x.P w = .ok () (w.setRow ad.block cs') := by
    have hvs : cellsO (.sl ρ0) = some [.sl ρ0] := rfl
    have hcd := cellsO_den (V := V) hvs
    generalize den V (.sl ρ0) = u0 at hcd ⊢
    simp only [Instr.storeAt, den, Loc.at, a1, Option.map_some, Instr.sureAddr, Sem.run_bind, Sem.run_pure, Result.andThen_ok, storeVar, r_sizeOf g1, hcd]
    rw [if_neg (by simp [hz, g2])]
    have := run_storeCells_at (P := x.P) ad.block (ad.off + (i * wid c + f)) tt (denL V [.sl ρ0]) 0 cs w b3 (by rw [denL_length]; simp; omega) hone
    simp only [Nat.add_zero] at this
    rw [hes]
    exact this
  refine ⟨w.setRow ad.block cs', ?_, ?_⟩
  · simp only [execOp, hr.env.get hp, hr.env.get hy, Sem.run_bind, run, Result.andThen_ok, Sem.run_pure]
  have hbl : (V ⟨k, []⟩).b = ad.block := by unfold Loc.b; rw [a1]
  have hsz : cs'.size = cs.size := by
    simp only [cs', List.size_toArray, List.length_append, List.length_take, List.length_drop, Array.length_toList, denL_length, List.length_cons, List.length_nil]
    omega
  have hcell : ∀ o, cs'[o]? = if o = ad.off + (i * wid c + f) then some (den V (.sl ρ0)) else cs[o]? := by
    intro o
    simp only [cs', List.getElem?_toArray]
    by_cases h1 : o < ad.off + (i * wid c + f)
    · rw [if_neg (by omega), List.append_assoc, List.getElem?_append_left (by simp; omega), List.getElem?_take, if_pos h1]; simp
    · by_cases h2 : o = ad.off + (i * wid c + f)
      · rw [if_pos h2, List.append_assoc, List.getElem?_append_right (by simp; omega), List.getElem?_append_left (by simp [denL_length]; omega), denL_get']
        have : o - (List.take (ad.off + (i * wid c + f)) cs.toList).length = 0 := by simp; omega
        rw [this]; rfl
      · rw [if_neg h2, List.getElem?_append_right (by simp [denL_length]; omega), List.getElem?_drop]
        simp only [Array.getElem?_toList]
        congr 1
        simp [denL_length]; omega
  have hh := setRow_heap w ad.block cs cs' tt (0, 0) b3
  have other : ∀ b, b ≠ ad.block → (w.setRow ad.block cs').heap[b]? = w.heap[b]? := fun b hb => setRow_other w ad.block b _ hb
  have pvo : ∀ {a j : Nat}, ¬ (a = i ∧ j = f) → pvS k f 1 i [pr] a j = some ⟨k, [(a, j)]⟩ := fun h => if_neg (fun h2 => h ⟨h2.1, by omega⟩)
  have pvn : pvS k f 1 i [pr] i f = some ρ0 := by
    unfold pvS
    rw [if_pos ⟨rfl, Nat.le_refl _, by omega⟩, Nat.sub_self]
    exact hpr
  exact hr.listG (w' := w.setRow ad.block cs') (B := B) RG (fun k1 hk1 => by
      rcases List.mem_cons.1 hk1 with rfl | h
      · exact hkn
      · exact hksn k1 h) (L := V ⟨k, []⟩) (by rw [List.length_set]; exact q1) (by rw [List.length_set]; exact q2)
    (.inr ⟨ad, cs', tt, a1, a2, hh, by rw [hsz]; exact b4, b5⟩)
    (fun q v hv => by
      refine ⟨ad, a1, a2, cell_of hh ?_⟩
      obtain ⟨aa, xx, j, t, rfl, hxx, hj, rfl⟩ := valsS_inv hv
      have hjw : j < wid c := by have := (List.getElem?_eq_some_iff.1 hj).1; rw [tcells_len] at this; exact this
      have oldv : ∀ {x0 : El c}, l[aa]? = some x0 → (tcells c x0)[j]? = some t → ¬ (aa = i ∧ j = f) → cs'[ad.off + (aa * wid c + j)]? = some (denP V (pvS k f 1 i [pr]) aa j t) := by
        intro x0 hx0 hj0 hnot
        obtain ⟨ad2, y1, y2, y3⟩ := q4 aa x0 hx0 j t hj0
        rw [a1] at y1
        cases y1
        simp only [World.cell?, b3, Option.isSome_none, Bool.false_eq_true, if_false] at y3
        rw [hcell, if_neg, y3]
        · congr 1
          cases t <;> simp only [denT, denP]
          simp only [pvL, pvo hnot, Rid.ch, List.nil_append, List.append_nil]
        · intro hin
          apply hnot
          have e1 : aa = i := by
            rcases Nat.lt_trichotomy aa i with hlt | heq | hgt
            · have : (aa + 1) * wid c ≤ i * wid c := Nat.mul_le_mul_right _ hlt
              rw [Nat.add_mul] at this; omega
            · exact heq
            · have : (i + 1) * wid c ≤ aa * wid c := Nat.mul_le_mul_right _ hgt
              rw [Nat.add_mul] at this; omega
          subst e1
          exact ⟨rfl, by omega⟩
      by_cases e : aa = i
      · subst e
        rw [List.getElem?_set_self hi] at hxx
        cases hxx
        by_cases ej : j = f
        · subst ej
          rw [hx, if_pos rfl] at hj
          cases hj
          rw [hcell, if_pos rfl]
          simp only [den, denP, pvL, pvn, List.append_nil]
        · rw [hx, if_neg ej] at hj
          exact oldv (gt_at hi) hj (fun h => ej h.2)
      · rw [List.getElem?_set_ne (Ne.symm e)] at hxx
        exact oldv hxx hj (fun h => e h.1))
    (some k) (fun hcap => ⟨List.mem_cons_self, _, hc, hcap, rfl, rfl⟩) (fun kb h => by cases h; exact List.mem_cons_self)
    (fun aa j ρ kb e1 e2 e3 => by
      cases e2
      by_cases h : aa = i ∧ j = f
      · obtain ⟨rfl, rfl⟩ := h
        rw [pvn] at e1
        cases e1
        exact hρ e3
      · rw [pvo h] at e1; cases e1; intro h; cases h)
    (by rw [setRow_size]; exact Nat.le_refl _) (fun b hb hne => other b (by
      have := hne k rfl (by omega)
      rw [hbl] at this
      exact this)) ⟨rfl, rfl, rfl⟩
omit hL
end
def noSlR (l : List CKd) (lo : Nat) : Nat → Bool
  | 0 => true
  | h + 1 => match Nat.ble lo h with
    | true => match nthC l h with
      | some (.sl _) => false
      | _ => noSlR l lo h
    | false => true
theorem noSlR_spec {l : List CKd} {lo : Nat} : ∀ {h : Nat}, noSlR l lo h = true → ∀ j, lo ≤ j → j < h → ∀ c, l[j]? ≠ some (.sl c)
  | 0, _, j, _, h2, _ => absurd h2 (Nat.not_lt_zero _)
  | h + 1, e, j, h1, h2, c => by
    unfold noSlR at e
    split at e
    · rename_i hb
      split at e
      · cases e
      · rename_i hn
        rcases Nat.lt_succ_iff_lt_or_eq.1 h2 with h3 | rfl
        · exact noSlR_spec e j h1 h3 c
        · intro hh; rw [nthC_eq] at hn; exact hn c hh
    · rename_i hb
      have : ¬ lo ≤ h := fun hh => by rw [Nat.ble_eq_true_of_le hh] at hb; cases hb
      omega
def storeP (L : Lay) (s : St) (T : TypeId) (p y : Operand) : Option StoreD := match s.get p, s.get y, find L T with
  | some (.el ⟨k, []⟩ es i f), some (.sl ⟨k1, []⟩), some ti => match find s.mem k, find s.mem k1, Nat.beq 1 ti.zs.length with
    | some (.list (.pt n f1) c l), some (.list .own c1 l1), true => match Nat.beq es (wid c), Nat.beq k k1, noSlR (cks c) f1 f, Nat.ble f1 f with
      | true, false, true, true => match spliceT (tcells c (gt l i)) f [.sl c1 l1] with
        | some cs => match mkc c cs with
          | some x => some ⟨k, i, f, 1, [k1], [(k1, f)], .list (.pt n (Nat.add f 1)) c (l.set i x), [i = n, i < l.length]⟩
          | none => none
        | _ => none
      | _, _, _, _ => none
    | _, _, _ => none
  | _, _, _ => none
theorem splice_one {l r : List TC} {f : Nat} {t : TC} (h : spliceT l f [t] = some r) : f < l.length ∧ ∀ j, r[j]? = if j = f then some t else l[j]? := by
  obtain ⟨g1, g2, g3⟩ := spliceT_get h
  simp only [List.length_cons, List.length_nil, Nat.zero_add] at g1 g3
  refine ⟨by omega, fun j => ?_⟩
  rw [g3]
  by_cases e : j = f
  · subst e; rw [if_pos ⟨Nat.le_refl _, by omega⟩, if_pos rfl, Nat.sub_self]; rfl
  · rw [if_neg (by omega), if_neg e]
theorem ck_sl {c : Ty} {x : El c} {j : Nat} {c1 : Ty} {l1 : List (El c1)} (h : (tcells c x)[j]? = some (.sl c1 l1)) : (cks c)[j]? = some (.sl c1) := by
  rw [← tcells_ck c x, List.getElem?_map, h]; rfl
theorem desc_cons {c : Ty} {l : List (El c)} {i j : Nat} {q : Path} {y : (c : Ty) × List (El c)} (h : desc c l ((i, j) :: q) = some y) : ∃ x c1 l1, l[i]? = some x ∧ (tcells c x)[j]? = some (.sl c1 l1) ∧ desc c1 l1 q = some y := by
  simp only [desc] at h
  split at h
  · cases h
  · rename_i x hx
    split at h
    · rename_i c1 l1 hj; exact ⟨x, c1, l1, hx, hj, h⟩
    · cases h
theorem desc_mk {c : Ty} {l : List (El c)} {i j : Nat} {q : Path} {y : (c : Ty) × List (El c)} {x : El c} {c1 : Ty} {l1 : List (El c1)} (hx : l[i]? = some x) (hj : (tcells c x)[j]? = some (.sl c1 l1)) (h : desc c1 l1 q = some y) : desc c l ((i, j) :: q) = some y := by
  simp only [desc, hx, hj]; exact h
section
variable {x : Cx} {s : St} (hL : LayOk x.P x.L)
include hL
theorem step_storeP {T : TypeId} {p y : Operand} {ty : TypeId} {pos : String} {after : Array Edge} {gd : Option (Nat × Bool)} {d : StoreD} (h : storeP x.L s T p y = some d) (ho : AllP d.obs) :
    StepTo x s ⟨none, .store T p y, ty, pos, after, gd⟩ ⟨envT (ridT d.k s.nb d.f d.n d.i d.mv) s.env, memT (ridT d.k s.nb d.f d.n d.i d.mv) ((s.nb, d.m) :: killL (d.k :: d.ks) s.mem), s.nb + 1⟩ :=
  ⟨fun g V a w Q hr => by
    unfold storeP at h
    split at h
    · rename_i k es i f k1 ti hp hy ht
      split at h
      · rename_i n f1 c l c1 l1 hm hm1 hz1
        split at h
        · rename_i hes hkk hns hfb
          split at h
          · rename_i cs hsp
            split at h
            · rename_i x' hmk
              simp only [Option.some.injEq] at h
              subst h
              obtain ⟨rfl, hi, _⟩ := ho
              have hff := Nat.le_of_ble_eq_true hfb
              have hne : k ≠ k1 := Nat.ne_of_beq_eq_false hkk
              obtain ⟨hf, hx⟩ := splice_one hsp
              rw [← mkc_cells hmk] at hx
              rw [tcells_len] at hf
              have hc : cont s.mem ⟨k, []⟩ = some (.list .own c l) := cont_iff.2 ⟨_, hm, rfl⟩
              have pvo : ∀ {a j : Nat}, ¬ (a = i ∧ j = f) → pvS k f 1 i [.own k1] a j = some ⟨k, [(a, j)]⟩ := fun h => if_neg (fun h2 => h ⟨h2.1, by omega⟩)
              have pvn : pvS k f 1 i [.own k1] i f = some ⟨k1, []⟩ := by
                unfold pvS
                rw [if_pos ⟨rfl, Nat.le_refl _, by omega⟩, Nat.sub_self]; rfl
              have RG : RowsG s.mem V (.list (.pt i (Nat.add f 1)) c (l.set i x')) (k :: kills [.own k1]) c (l.set i x') (valsS V (pvS k f 1 i [.own k1]) (l.set i x')) (pvS k f 1 i [.own k1]) := by
                refine ⟨fun _ => rfl, fun b' hb => ?_, fun a x hx j t hj => valsS_get hx hj, fun a j q b' hb => ?_, fun a j q b1 a' j' q' b2 ρ ρ' h1 h2 hk e1 e2 e3 e4 => ?_⟩
                · simp only [contB, desc, Option.some.injEq, Md.at] at hb; exact hb.symm
                · simp only [contB] at hb
                  split at hb
                  · rename_i c2 l2 hd
                    cases hb
                    right
                    obtain ⟨x0, c3, l3, hx0, hj0, hd0⟩ := desc_cons hd
                    by_cases e : a = i ∧ j = f
                    · obtain ⟨rfl, rfl⟩ := e
                      rw [List.getElem?_set_self hi] at hx0
                      cases hx0
                      rw [hx, if_pos rfl] at hj0
                      cases hj0
                      refine ⟨⟨k1, []⟩, .own, .own, c2, l2, pvn, ?_, cont_iff.2 ⟨_, hm1, ?_⟩, trivial, fun h => h, by simp, .inl (List.mem_cons_of_mem _ (List.mem_singleton_self _))⟩
                      · exact congrArg (fun d => AB.list d c2 l2) (if_pos (.inr ⟨rfl, Nat.lt_succ_self _⟩))
                      · simp only [contB, List.nil_append, hd0, Md.at]
                    · have hold : ∃ xo, l[a]? = some xo ∧ (tcells c xo)[j]? = some (.sl c3 l3) := by
                        by_cases ea : a = i
                        · subst ea
                          rw [List.getElem?_set_self hi] at hx0
                          cases hx0
                          rw [hx, if_neg (fun h => e ⟨rfl, h⟩)] at hj0
                          exact ⟨_, gt_at hi, hj0⟩
                        · rw [List.getElem?_set_ne (Ne.symm ea)] at hx0
                          exact ⟨_, hx0, hj0⟩
                      obtain ⟨xo, ho1, ho2⟩ := hold
                      have hdo := desc_mk ho1 ho2 hd0
                      have key : (a < i ∨ (a = i ∧ j < Nat.add f 1)) ↔ (a < i ∨ (a = i ∧ j < f1)) := by
                        constructor
                        · rintro (h | ⟨rfl, h⟩)
                          · exact .inl h
                          · right
                            refine ⟨rfl, ?_⟩
                            have h' : j < f + 1 := h
                            have hjf : j ≠ f := fun h => e ⟨rfl, h⟩
                            by_cases hlo : f1 ≤ j
                            · exact absurd (ck_sl ho2) (noSlR_spec hns j hlo (by omega) c3)
                            · omega
                        · rintro (h | ⟨rfl, h⟩)
                          · exact .inl h
                          · exact .inr ⟨rfl, show j < f + 1 by omega⟩
                      refine ⟨⟨k, [(a, j)]⟩, (Md.pt i f1).at ((a, j) :: q), (Md.pt i (Nat.add f 1)).at ((a, j) :: q), c2, l2, pvo e, rfl, cont_iff.2 ⟨_, hm, ?_⟩, ?_, ?_, ?_, .inl List.mem_cons_self⟩
                      · simp only [contB, List.cons_append, List.nil_append, hdo]
                      · simp only [Md.at]
                        by_cases hA : a < i ∨ (a = i ∧ j < f1)
                        · rw [if_pos hA]; trivial
                        · rw [if_neg hA, if_neg (fun h => hA (key.1 h))]; trivial
                      · simp only [Md.at]
                        by_cases hA : a < i ∨ (a = i ∧ j < f1)
                        · rw [if_pos hA]; exact fun _ => rfl
                        · rw [if_neg hA, if_neg (fun h => hA (key.1 h))]; exact fun h => h
                      · simp only [Md.at]; split <;> simp
                  · cases hb
                · by_cases g1 : a = i ∧ j = f <;> by_cases g2 : a' = i ∧ j' = f
                  · exact ⟨g1.1.trans g2.1.symm, g1.2.trans g2.2.symm⟩
                  · obtain ⟨rfl, rfl⟩ := g1
                    rw [pvn] at e1; cases e1
                    rw [pvo g2] at e2; cases e2
                    exact absurd e3.symm hne
                  · obtain ⟨rfl, rfl⟩ := g2
                    rw [pvn] at e2; cases e2
                    rw [pvo g1] at e1; cases e1
                    exact absurd e3 hne
                  · rw [pvo g1] at e1; cases e1
                    rw [pvo g2] at e2; cases e2
                    simp only [List.cons_append, List.nil_append, List.cons.injEq, Prod.mk.injEq] at e4
                    exact e4.1
              have hk1 := (hr.ents.ok _ _ hm1).1
              have hkn := (hr.ents.ok _ _ hm).1
              have hksn : ∀ k2 ∈ kills [.own k1], k2 < s.nb := fun k2 h2 => by
                have : k2 = k1 := by simpa [kills] using h2
                subst this; exact hk1
              obtain ⟨w', hrun, hrep⟩ := store_listG hL hr (pr := .own k1) hp hy ht (Nat.eq_of_beq_eq_true hz1).symm (Nat.eq_of_beq_eq_true hes) hc hi hf hx rfl hkn hksn (fun h => absurd h.symm hne) RG ty pos after gd
              unfold Oper.wp
              rw [hrun]
              exact ⟨_, hrep.T (ridT_ok (c := c) (mem := s.mem) (f := f) (n := 1) (i := i) (ps := [.own k1]) rfl hkn hksn)⟩
            · cases h
          · cases h
        · cases h
      · cases h
    · cases h⟩
end
section
variable {x : Cx} {Q : Exit → St → Prop} {obs : List Prop} {K : List Kf} {all l : List Oper} {env : List (Nat × SV)} {mem : List (Nat × MB)} {nb : Nat}
theorem g_storeP (hL : LayOk x.P x.L) (fuel : Nat) {T : TypeId} {p y : Operand} {ty : TypeId} {pos : String} {after : Array Edge} {gd : Option (Nat × Bool)} {d : StoreD} (ho : AllP obs) (hg : goes all env gd = some true) (hd : storeP x.L ⟨env, mem, nb⟩ T p y = some d) (ho2 : AllP d.obs)
    (hk : Good x Q (storeR d ⟨env, mem, nb⟩ fun s' => run x fuel [] (.ops all l) K s')) : Good x Q (.ops obs all (⟨none, .store T p y, ty, pos, after, gd⟩ :: l) K ⟨env, mem, nb⟩) := by
  obtain ⟨k, i, fc, n, ks, mv, m, ob⟩ := d
  simp only [storeR, killP_eq, memTP_eq, envTP_eq, nx_eq] at hk
  exact ⟨ho, sq_step hg (step_storeP hL hd ho2) (run_ok hL hk).2⟩
end
section
variable {x : Cx} {s : St} (hL : LayOk x.P x.L)
include hL
end
section
variable {x : Cx} {Q : Exit → St → Prop} {obs : List Prop} {K : List Kf} {all l : List Oper} {env : List (Nat × SV)} {mem : List (Nat × MB)} {nb : Nat}
end
section
variable {x : Cx} {Q : Exit → St → Prop} {obs : List Prop} {K : List Kf} {all l : List Oper}
theorem g_ownT (hL : LayOk x.P x.L) (fuel : Nat) (c : Ty) {T : TypeId} {p : Operand} {ty : TypeId} {pos : String} {after : Array Edge} {gd : Option (Nat × Bool)} {t k n cp : Nat} {s s' : St} {ob : List Prop} (ho : AllP obs) (hb : find s.env t = some (.slc k 0 n cp)) (hc : ownE s t c = some (s', ob)) (ho1 : AllP ob)
    (hk : Good x Q (run x fuel [] (.ops all (⟨none, .store T p (.tmp t), ty, pos, after, gd⟩ :: l)) K s')) : Good x Q (.ops obs all (⟨none, .store T p (.tmp t), ty, pos, after, gd⟩ :: l) K s) := by
  refine ⟨ho, ?_⟩
  have h1 := (run_ok hL hk).2
  exact ⟨fun g Q' V ac w hQ hr => by
    obtain ⟨V', hr'⟩ := (ownE_ok hc ho1).run g V ac w hr
    exact h1.run g Q' V' ac w hQ hr'⟩
end
section
variable {x : Cx} {s : St} (hL : LayOk x.P x.L)
include hL
end
section
variable {x : Cx} {Q : Exit → St → Prop} {obs : List Prop} {K : List Kf} {all l : List Oper} {env : List (Nat × SV)} {mem : List (Nat × MB)} {nb : Nat}
end
end Go.Proofs.Ytonjbhdfimcedaa
namespace Go.Proofs.Ytonjbhdfimcedaa
open Go.RowKit
theorem c_cln_inp (l : List Inp) (hl : l.length ≤ 1048576) : Trip Try.prog 50 [.sl ⟨0, []⟩] ⟨[], [(0, .list .tmp .input l)], 1⟩ (Z := Unit) (fun _ => True) (fun _ => .sl ⟨1, []⟩) (fun _ => ⟨[], [(0, .list .tmp .input l), (1, .list .own .input l)], 2⟩) := by
  refine trip_by (rs := [_]) 400 lay_ok Try.func50 rfl (by kernel_rfl) Try.ntmps50 Try.results50 rfl rfl ?_
  repeat' (first | (((with_reducible refine g_id ?_); (conv => arg 3; whnf)); first | (with_reducible refine g_fin ?_ ?_) | (refine g_nilEq lay_ok 400 false rfl ?_ ?_ rfl rfl rfl rfl rfl rfl ?_ ?_)) | (with_reducible exact o_nil) | ((with_reducible refine o_id ?_); (conv => arg 1; whnf); first | (with_reducible exact o_nil) | (with_reducible refine o_cons ?_ ?_)) | (intro h; ((try simp only [Int.toNat_natCast] at h); repeat (first | replace h := of_decide_eq_true h)); (try (first | contradiction))) | (simp only [List.length_append, List.length_cons, List.length_nil]; omega))
  all_goals (((with_reducible refine e_id ?_); (conv => whnf)); refine ⟨(), trivial, ?_⟩; ((with_reducible refine s_id ?_); (conv => arg 1; whnf); (with_reducible refine s_some ?_); repeat' (first | ((with_reducible refine o_id ?_); (conv => arg 1; whnf); first | (with_reducible exact o_nil) | (with_reducible refine o_cons ?_ ?_)) | rfl | (simp_all; done))))
theorem c_cln_arr (l : List Arr) (hl : l.length ≤ 1048576) : Trip Try.prog 51 [.sl ⟨0, []⟩] ⟨[], [(0, .list .tmp .array l)], 1⟩ (Z := Unit) (fun _ => True) (fun _ => .sl ⟨1, []⟩) (fun _ => ⟨[], [(0, .list .tmp .array l), (1, .list .own .array l)], 2⟩) := by
  refine trip_by (rs := [_]) 400 lay_ok Try.func51 rfl (by kernel_rfl) Try.ntmps51 Try.results51 rfl rfl ?_
  repeat' (first | (((with_reducible refine g_id ?_); (conv => arg 3; whnf)); first | (with_reducible refine g_fin ?_ ?_) | (refine g_nilEq lay_ok 400 false rfl ?_ ?_ rfl rfl rfl rfl rfl rfl ?_ ?_)) | (with_reducible exact o_nil) | ((with_reducible refine o_id ?_); (conv => arg 1; whnf); first | (with_reducible exact o_nil) | (with_reducible refine o_cons ?_ ?_)) | (intro h; ((try simp only [Int.toNat_natCast] at h); repeat (first | replace h := of_decide_eq_true h)); (try (first | contradiction))) | (simp only [List.length_append, List.length_cons, List.length_nil]; omega))
  all_goals (((with_reducible refine e_id ?_); (conv => whnf)); refine ⟨(), trivial, ?_⟩; ((with_reducible refine s_id ?_); (conv => arg 1; whnf); (with_reducible refine s_some ?_); repeat' (first | ((with_reducible refine o_id ?_); (conv => arg 1; whnf); first | (with_reducible exact o_nil) | (with_reducible refine o_cons ?_ ?_)) | rfl | (simp_all; done))))
theorem c_cln_hd (l : List Hd_) (hl : l.length ≤ 1048576) : Trip Try.prog 52 [.sl ⟨0, []⟩] ⟨[], [(0, .list .tmp .head l)], 1⟩ (Z := Unit) (fun _ => True) (fun _ => .sl ⟨1, []⟩) (fun _ => ⟨[], [(0, .list .tmp .head l), (1, .list .own .head l)], 2⟩) := by
  refine trip_by (rs := [_]) 400 lay_ok Try.func52 rfl (by kernel_rfl) Try.ntmps52 Try.results52 rfl rfl ?_
  repeat' (first | (((with_reducible refine g_id ?_); (conv => arg 3; whnf)); first | (with_reducible refine g_fin ?_ ?_) | (refine g_nilEq lay_ok 400 false rfl ?_ ?_ rfl rfl rfl rfl rfl rfl ?_ ?_)) | (with_reducible exact o_nil) | ((with_reducible refine o_id ?_); (conv => arg 1; whnf); first | (with_reducible exact o_nil) | (with_reducible refine o_cons ?_ ?_)) | (intro h; ((try simp only [Int.toNat_natCast] at h); repeat (first | replace h := of_decide_eq_true h)); (try (first | contradiction))) | (simp only [List.length_append, List.length_cons, List.length_nil]; omega))
  all_goals (((with_reducible refine e_id ?_); (conv => whnf)); refine ⟨(), trivial, ?_⟩; ((with_reducible refine s_id ?_); (conv => arg 1; whnf); (with_reducible refine s_some ?_); repeat' (first | ((with_reducible refine o_id ?_); (conv => arg 1; whnf); first | (with_reducible exact o_nil) | (with_reducible refine o_cons ?_ ?_)) | rfl | (simp_all; done))))
theorem c_cln_blk (l : List Blk) (hl : l.length ≤ 1048576) : Trip Try.prog 53 [.sl ⟨0, []⟩] ⟨[], [(0, .list .fz .block l)], 1⟩ (Z := Unit) (fun _ => True) (fun _ => .sl ⟨1, []⟩) (fun _ => ⟨[], [(0, .list .fz .block l), (1, .list .sh .block l)], 2⟩) := by
  refine trip_by (rs := [_]) 400 lay_ok Try.func53 rfl (by kernel_rfl) Try.ntmps53 Try.results53 rfl rfl ?_
  repeat' (first | (((with_reducible refine g_id ?_); (conv => arg 3; whnf)); first | (with_reducible refine g_fin ?_ ?_) | (refine g_nilEq lay_ok 400 false rfl ?_ ?_ rfl rfl rfl rfl rfl rfl ?_ ?_)) | (with_reducible exact o_nil) | ((with_reducible refine o_id ?_); (conv => arg 1; whnf); first | (with_reducible exact o_nil) | (with_reducible refine o_cons ?_ ?_)) | (intro h; ((try simp only [Int.toNat_natCast] at h); repeat (first | replace h := of_decide_eq_true h)); (try (first | contradiction))) | (simp only [List.length_append, List.length_cons, List.length_nil]; omega))
  all_goals (((with_reducible refine e_id ?_); (conv => whnf)); refine ⟨(), trivial, ?_⟩; ((with_reducible refine s_id ?_); (conv => arg 1; whnf); (with_reducible refine s_some ?_); repeat' (first | ((with_reducible refine o_id ?_); (conv => arg 1; whnf); first | (with_reducible exact o_nil) | (with_reducible refine o_cons ?_ ?_)) | rfl | (simp_all; done))))
theorem c_cln_pts (l : List (List Int)) (hl : l.length ≤ 1048576) : Trip Try.prog 54 [.sl ⟨0, []⟩] ⟨[], [(0, .list .fz .ints l)], 1⟩ (Z := Unit) (fun _ => True) (fun _ => .sl ⟨1, []⟩) (fun _ => ⟨[], [(0, .list .fz .ints l), (1, .list .sh .ints l)], 2⟩) := by
  refine trip_by (rs := [_]) 400 lay_ok Try.func54 rfl (by kernel_rfl) Try.ntmps54 Try.results54 rfl rfl ?_
  repeat' (first | (((with_reducible refine g_id ?_); (conv => arg 3; whnf)); first | (with_reducible refine g_fin ?_ ?_) | (refine g_nilEq lay_ok 400 false rfl ?_ ?_ rfl rfl rfl rfl rfl rfl ?_ ?_)) | (with_reducible exact o_nil) | ((with_reducible refine o_id ?_); (conv => arg 1; whnf); first | (with_reducible exact o_nil) | (with_reducible refine o_cons ?_ ?_)) | (intro h; ((try simp only [Int.toNat_natCast] at h); repeat (first | replace h := of_decide_eq_true h)); (try (first | contradiction))) | (simp only [List.length_append, List.length_cons, List.length_nil]; omega))
  all_goals (((with_reducible refine e_id ?_); (conv => whnf)); refine ⟨(), trivial, ?_⟩; ((with_reducible refine s_id ?_); (conv => arg 1; whnf); (with_reducible refine s_some ?_); repeat' (first | ((with_reducible refine o_id ?_); (conv => arg 1; whnf); first | (with_reducible exact o_nil) | (with_reducible refine o_cons ?_ ?_)) | rfl | (simp_all; done))))
theorem c_cln_op (l : List Op_) (hl : l.length ≤ 1048576) : Trip Try.prog 55 [.sl ⟨0, []⟩] ⟨[], [(0, .list .tmp .op l)], 1⟩ (Z := Unit) (fun _ => True) (fun _ => .sl ⟨1, []⟩) (fun _ => ⟨[], [(0, .list .tmp .op l), (1, .list .own .op l)], 2⟩) := by
  refine trip_by (rs := [_]) 400 lay_ok Try.func55 rfl (by kernel_rfl) Try.ntmps55 Try.results55 rfl rfl ?_
  repeat' (first | (((with_reducible refine g_id ?_); (conv => arg 3; whnf)); first | (with_reducible refine g_fin ?_ ?_) | (refine g_nilEq lay_ok 400 false rfl ?_ ?_ rfl rfl rfl rfl rfl rfl ?_ ?_)) | (with_reducible exact o_nil) | ((with_reducible refine o_id ?_); (conv => arg 1; whnf); first | (with_reducible exact o_nil) | (with_reducible refine o_cons ?_ ?_)) | (intro h; ((try simp only [Int.toNat_natCast] at h); repeat (first | replace h := of_decide_eq_true h)); (try (first | contradiction))) | (simp only [List.length_append, List.length_cons, List.length_nil]; omega))
  all_goals (((with_reducible refine e_id ?_); (conv => whnf)); refine ⟨(), trivial, ?_⟩; ((with_reducible refine s_id ?_); (conv => arg 1; whnf); (with_reducible refine s_some ?_); repeat' (first | ((with_reducible refine o_id ?_); (conv => arg 1; whnf); first | (with_reducible exact o_nil) | (with_reducible refine o_cons ?_ ?_)) | rfl | (simp_all; done))))
theorem c_cln_int (l : List Int) (hl : l.length ≤ 1048576) : Trip Try.prog 56 [.sl ⟨0, []⟩] ⟨[], [(0, .list .tmp .int l)], 1⟩ (Z := Unit) (fun _ => True) (fun _ => .sl ⟨1, []⟩) (fun _ => ⟨[], [(0, .list .tmp .int l), (1, .list .own .int l)], 2⟩) := by
  refine trip_by (rs := [_]) 400 lay_ok Try.func56 rfl (by kernel_rfl) Try.ntmps56 Try.results56 rfl rfl ?_
  repeat' (first | (((with_reducible refine g_id ?_); (conv => arg 3; whnf)); first | (with_reducible refine g_fin ?_ ?_) | (refine g_nilEq lay_ok 400 false rfl ?_ ?_ rfl rfl rfl rfl rfl rfl ?_ ?_)) | (with_reducible exact o_nil) | ((with_reducible refine o_id ?_); (conv => arg 1; whnf); first | (with_reducible exact o_nil) | (with_reducible refine o_cons ?_ ?_)) | (intro h; ((try simp only [Int.toNat_natCast] at h); repeat (first | replace h := of_decide_eq_true h)); (try (first | contradiction))) | (simp only [List.length_append, List.length_cons, List.length_nil]; omega))
  all_goals (((with_reducible refine e_id ?_); (conv => whnf)); refine ⟨(), trivial, ?_⟩; ((with_reducible refine s_id ?_); (conv => arg 1; whnf); (with_reducible refine s_some ?_); repeat' (first | ((with_reducible refine o_id ?_); (conv => arg 1; whnf); first | (with_reducible exact o_nil) | (with_reducible refine o_cons ?_ ?_)) | rfl | (simp_all; done))))
end Go.Proofs.Ytonjbhdfimcedaa
namespace Go.Proofs.Ytonjbhdfimcedaa
open Go.RowKit
def jumpS (l : Nat) (J : St → Prop) (Q : Exit → St → Prop) : Exit → St → Prop
  | .goto l', s => l' = l ∧ J s
  | e, s => Q e s
theorem tr_scope_jumps {x : Cx} {c rest : Code} {Q : Exit → St → Prop} {s : St} {Z : Type} (l : Nat) (I : Z → Prop) (st : Z → St) (m : Z → Nat) (hf : findLabel c l = some rest)
    (first : Tr x c (jumpS l (fun s' => ∃ z, I z ∧ Toward x s' (st z)) Q) s)
    (pass : ∀ y, I y → Tr x rest (jumpS l (fun s' => ∃ z, I z ∧ m z < m y ∧ Toward x s' (st z)) Q) (st y)) : Tr x (.scope c) Q s := by
  refine ⟨fun g V a w hr b k cs => ?_⟩
  have hg : gotoIn l (.inScope c :: k) = some (.code rest :: .inScope c :: k) := by simp [gotoIn, hf]
  have key : ∀ n y, m y = n → I y → ∀ V a w, Rep x g V (st y) a w → ∃ e a' w', QR x g Q e a' w' ∧ Arrives x.P (lone (b.at a (.code rest :: .inScope c :: k)) cs w) b k cs e a' w' := by
    intro n
    induction n using Nat.strongRecOn with
    | _ n ih =>
      intro y hn hI V a w hr
      obtain ⟨e, a₁, w₁, ⟨s1, V1, hq, hr1⟩, harr⟩ := (pass y hI).run g V a w hr b (.inScope c :: k) cs
      cases e with
      | normal => exact ⟨.normal, a₁, w₁, ⟨s1, V1, hq, hr1⟩, Steps.trans harr (.one step_inScope)⟩
      | exit id => exact ⟨.exit id, a₁, w₁, ⟨s1, V1, hq, hr1⟩, fun k' hk => harr k' (by simp [exitTo, hk])⟩
      | goto l' =>
        obtain ⟨rfl, z, hz, hlt, hT⟩ := hq
        obtain ⟨V2, hr2⟩ := hT.run g V1 a₁ w₁ hr1
        obtain ⟨e₂, a₂, w₂, hq₂, harr₂⟩ := ih (m z) (hn ▸ hlt) z rfl hz _ a₁ w₁ hr2
        exact ⟨e₂, a₂, w₂, hq₂, .of_steps (harr _ hg) harr₂⟩
      | ret => exact ⟨_, a₁, w₁, ⟨s1, V1, hq, hr1⟩, harr⟩
      | panic ch => exact ⟨_, a₁, w₁, ⟨s1, V1, hq, hr1⟩, harr⟩
      | outgrown => exact ⟨_, a₁, w₁, ⟨s1, V1, hq, hr1⟩, harr⟩
  obtain ⟨e, a₁, w₁, ⟨s1, V1, hq, hr1⟩, harr⟩ := first.run g V a w hr b (.inScope c :: k) cs
  cases e with
  | normal => exact ⟨.normal, a₁, w₁, ⟨s1, V1, hq, hr1⟩, .head step_scope (Steps.trans harr (.one step_inScope))⟩
  | exit id => exact ⟨.exit id, a₁, w₁, ⟨s1, V1, hq, hr1⟩, fun k' hk => .head step_scope (harr k' (by simp [exitTo, hk]))⟩
  | goto l' =>
    obtain ⟨rfl, z, hz, hT⟩ := hq
    obtain ⟨V2, hr2⟩ := hT.run g V1 a₁ w₁ hr1
    obtain ⟨e₂, a₂, w₂, hq₂, harr₂⟩ := key _ z rfl hz _ a₁ w₁ hr2
    exact ⟨e₂, a₂, w₂, hq₂, .of_steps (.head step_scope (harr _ hg)) harr₂⟩
  | ret => exact ⟨_, a₁, w₁, ⟨s1, V1, hq, hr1⟩, .of_steps (.one step_scope) harr⟩
  | panic ch => exact ⟨_, a₁, w₁, ⟨s1, V1, hq, hr1⟩, .of_steps (.one step_scope) harr⟩
  | outgrown => exact ⟨_, a₁, w₁, ⟨s1, V1, hq, hr1⟩, .of_steps (.one step_scope) harr⟩
section
variable {x : Cx} {Q : Exit → St → Prop} {obs : List Prop} {K : List Kf} {s : St}
theorem g_scope (hL : LayOk x.P x.L) (n l : Nat) {Z : Type} (I : Z → Prop) (st : Z → St) (m : Z → Nat) {a b d : Code} (ho : AllP obs) (hf : findLabel a l = none) (hf2 : findLabel b l = none)
    (first : Good x (thenS (fun s' => ∃ z, I z ∧ SubG x.kb (st z) s') (noGotoS (QK x K Q))) (run x n [] (.code a) [.seq b] s))
    (pass : ∀ y, I y → Good x (jumpS l (fun s' => ∃ z, I z ∧ m z < m y ∧ SubG x.kb (st z) s') (QK x K Q)) (run x n [] (.code d) [] (st y))) :
    Good x Q (.out obs (.code (.scope (.seq a (.seq b (.seq (.label l) d))))) K s) := by
  refine ⟨ho, ?_⟩
  have hp : ∀ y, I y → Tr x d (jumpS l (fun s' => ∃ z, I z ∧ m z < m y ∧ Toward x s' (st z)) (QK x K Q)) (st y) := fun y hy => by
    refine Tr.mono (run_ok hL (pass y hy)).2 fun e s' q => ?_
    cases e <;> first | exact q | skip
    obtain ⟨rfl, z, h1, h2, h3⟩ := q
    exact ⟨rfl, z, h1, h2, SubG_ok h3⟩
  have h1 := (run_ok hL first).2
  show Tr x _ (QK x K Q) s
  refine tr_scope_jumps l I st m (rest := .seq .skip d) ?_ ?_ ?_
  · simp [findLabel, hf, hf2]
  · refine tr_seq (Tr.mono h1 fun e s1 q => ?_)
    cases e with
    | normal =>
      refine tr_seq (Tr.mono (show Tr x b _ s1 from q) fun e s2 q2 => ?_)
      cases e with
      | normal =>
        obtain ⟨z, hz, hs⟩ := q2
        refine tr_toward (SubG_ok hs) (tr_seq (tr_label ?_))
        refine Tr.mono (hp z hz) fun e s3 q3 => ?_
        cases e <;> first | exact q3 | skip
        obtain ⟨e0, z', h1, h2, h3⟩ := q3
        exact ⟨e0, z', h1, h3⟩
      | goto l => exact q2.elim
      | _ => exact q2
    | goto l => exact q.elim
    | _ => exact q
  · intro y hy
    exact tr_seq (tr_skip (hp y hy))
theorem tr_goto {l : Nat} (h : Q (.goto l) s) : Tr x (.goto l) Q s := ⟨fun g V _ _ hr => wp_goto ⟨s, V, h, hr⟩⟩
theorem g_goto (hL : LayOk x.P x.L) (n : Nat) {l : Nat} (ho : AllP obs) (h : Good x Q (run x n [] (.exit (.goto l)) K s)) : Good x Q (.code obs (.goto l) K s) := ⟨ho, tr_goto (run_ok hL h).2⟩
theorem q_jump {l : Nat} {P : St → Prop} {R : Exit → St → Prop} (h : P s) : jumpS l P R (.goto l) s := ⟨rfl, h⟩
theorem q_jret {l : Nat} {P : St → Prop} (hL : LayOk x.P x.L) (n : Nat) (h : Good x Q (run x n [] (.exit .ret) K s)) : jumpS l P (QK x K Q) .ret s := (run_ok hL h).2
end
end Go.Proofs.Ytonjbhdfimcedaa
namespace Go.Proofs.Ytonjbhdfimcedaa
open Go.RowKit
set_option maxHeartbeats 1000000 in
theorem c_resY (o : Op_) (hk : o.kind = 1 ∨ o.kind = 2 ∨ o.kind = 3 ∨ o.kind = 4) : Trip Try.prog 59 [.agg [.int .i64 o.kind, .int .i64 o.dst, .int .i64 o.a, .int .i64 o.b, .int .i64 o.imm]] ⟨[], [], 0⟩ (Z := Unit) (fun _ => True) (fun _ => .tup [.int .i64 o.dst, .tf true]) (fun _ => ⟨[], [], 0⟩) := by
  refine trip_by (rs := [_, _]) 400 lay_ok Try.func59 rfl (by kernel_rfl) Try.ntmps59 Try.results59 rfl rfl ?_
  repeat' (first | (((with_reducible refine g_id ?_); (conv => arg 3; whnf)); first | (with_reducible refine g_cond lay_ok 400 ?_ ?_ ?_) | (with_reducible refine g_fin ?_ ?_)) | (with_reducible exact o_nil) | ((with_reducible refine o_id ?_); (conv => arg 1; whnf); first | (with_reducible exact o_nil)) | (intro h; ((try simp only [Int.toNat_natCast] at h); repeat (first | replace h := of_decide_eq_true h | replace h := of_decide_eq_false h)); (try (first | contradiction | (exfalso; omega)))))
  all_goals (((with_reducible refine e_id ?_); (conv => whnf)); refine ⟨(), trivial, ?_⟩; ((with_reducible refine s_id ?_); (conv => arg 1; whnf); (with_reducible refine s_some ?_); repeat' (first | ((with_reducible refine o_id ?_); (conv => arg 1; whnf); first | (with_reducible exact o_nil) | (with_reducible refine o_cons ?_ ?_)) | rfl)))
set_option maxHeartbeats 1000000 in
theorem c_resN (o : Op_) (hk : ¬ (o.kind = 1 ∨ o.kind = 2 ∨ o.kind = 3 ∨ o.kind = 4)) : Trip Try.prog 59 [.agg [.int .i64 o.kind, .int .i64 o.dst, .int .i64 o.a, .int .i64 o.b, .int .i64 o.imm]] ⟨[], [], 0⟩ (Z := Unit) (fun _ => True) (fun _ => .tup [.int .i64 0, .tf false]) (fun _ => ⟨[], [], 0⟩) := by
  refine trip_by (rs := [_, _]) 400 lay_ok Try.func59 rfl (by kernel_rfl) Try.ntmps59 Try.results59 rfl rfl ?_
  repeat' (first | (((with_reducible refine g_id ?_); (conv => arg 3; whnf)); first | (with_reducible refine g_cond lay_ok 400 ?_ ?_ ?_) | (with_reducible refine g_fin ?_ ?_)) | ((with_reducible refine o_id ?_); (conv => arg 1; whnf); first | (with_reducible exact o_nil)) | (intro h; ((try simp only [Int.toNat_natCast] at h); repeat (first | replace h := of_decide_eq_true h | replace h := of_decide_eq_false h)); (try (first | (exfalso; omega)))))
  all_goals (((with_reducible refine e_id ?_); (conv => whnf)); refine ⟨(), trivial, ?_⟩; ((with_reducible refine s_id ?_); (conv => arg 1; whnf); (with_reducible refine s_some ?_); repeat' (first | ((with_reducible refine o_id ?_); (conv => arg 1; whnf); first | (with_reducible exact o_nil) | (with_reducible refine o_cons ?_ ?_)) | rfl)))
end Go.Proofs.Ytonjbhdfimcedaa
namespace Go.Proofs.Ytonjbhdfimcedaa
open Go.RowKit
def OpL (n : Nat) (o : Op_) : Prop := (o.kind = 1 ∨ o.kind = 2 ∨ o.kind = 3 ∨ o.kind = 4 → 0 ≤ o.dst ∧ o.dst < (n : Int)) ∧ (o.kind = 2 ∨ o.kind = 3 ∨ o.kind = 4 ∨ o.kind = 5 → 0 ≤ o.a ∧ o.a < (n : Int)) ∧ (o.kind = 3 ∨ o.kind = 5 → 0 ≤ o.b ∧ o.b < (n : Int))
def clrN (n : List Bool) (o : Op_) : List Bool := if o.kind = 1 ∨ o.kind = 2 ∨ o.kind = 3 ∨ o.kind = 4 then n.set o.dst.toNat false else n
def intoN (n : List Bool) (o : Op_) : List Bool := if o.kind = 2 ∨ o.kind = 4 then (clrN n o).set o.a.toNat true else if o.kind = 3 ∨ o.kind = 5 then ((clrN n o).set o.a.toNat true).set o.b.toNat true else clrN n o
theorem clrN_len {n : List Bool} {o : Op_} : (clrN n o).length = n.length := by unfold clrN; split <;> simp
theorem intoN_len {n : List Bool} {o : Op_} : (intoN n o).length = n.length := by
  unfold intoN
  split
  · rw [List.length_set, clrN_len]
  · split
    · rw [List.length_set, List.length_set, clrN_len]
    · exact clrN_len
theorem into_1 {n : List Bool} {o : Op_} (h : o.kind = 1) : n.set o.dst.toNat false = intoN n o := by unfold intoN clrN; rw [if_neg (by omega), if_neg (by omega), if_pos (by omega)]
theorem into_2 {n : List Bool} {o : Op_} (h : o.kind = 2 ∨ o.kind = 4) : (n.set o.dst.toNat false).set o.a.toNat true = intoN n o := by unfold intoN clrN; rw [if_pos (by omega), if_pos (by omega)]
theorem into_3 {n : List Bool} {o : Op_} (h : o.kind = 3) : ((n.set o.dst.toNat false).set o.a.toNat true).set o.b.toNat true = intoN n o := by unfold intoN clrN; rw [if_neg (by omega), if_pos (by omega), if_pos (by omega)]
theorem into_5 {n : List Bool} {o : Op_} (h : o.kind = 5) : (n.set o.a.toNat true).set o.b.toNat true = intoN n o := by unfold intoN clrN; rw [if_neg (by omega), if_pos (by omega), if_neg (by omega)]
theorem into_0 {n : List Bool} {o : Op_} (h : ¬ (1 ≤ o.kind ∧ o.kind ≤ 5)) : n = intoN n o := by unfold intoN clrN; rw [if_neg (by omega), if_neg (by omega), if_neg (by omega)]
theorem c_cln_bool (l : List Bool) (hl : l.length ≤ 1048576) : Trip Try.prog 96 [.sl ⟨0, []⟩] ⟨[], [(0, .list .tmp .bool l)], 1⟩ (Z := Unit) (fun _ => True) (fun _ => .sl ⟨1, []⟩) (fun _ => ⟨[], [(0, .list .tmp .bool l), (1, .list .own .bool l)], 2⟩) := by
  refine trip_by (rs := [_]) 400 lay_ok Try.func96 rfl (by kernel_rfl) Try.ntmps96 Try.results96 rfl rfl ?_
  repeat' (first | (((with_reducible refine g_id ?_); (conv => arg 3; whnf)); first | (with_reducible refine g_fin ?_ ?_) | (refine g_nilEq lay_ok 400 false rfl ?_ ?_ rfl rfl rfl rfl rfl rfl ?_ ?_) | fail) | (with_reducible exact o_nil) | ((with_reducible refine o_id ?_); (conv => arg 1; whnf); first | (with_reducible exact o_nil) | (with_reducible refine o_cons ?_ ?_)) | (intro h; ((try simp only [Int.toNat_natCast] at h); repeat (first | replace h := of_decide_eq_true h | fail)); (try (first | contradiction | fail))) | (simp only [List.length_append, List.length_cons, List.length_nil]; omega) | fail)
  all_goals (((with_reducible refine e_id ?_); (conv => whnf)); refine ⟨(), trivial, ?_⟩; ((with_reducible refine s_id ?_); (conv => arg 1; whnf); (with_reducible refine s_some ?_); repeat' (first | ((with_reducible refine o_id ?_); (conv => arg 1; whnf); first | (with_reducible exact o_nil) | (with_reducible refine o_cons ?_ ?_)) | rfl | (simp_all; done))))
theorem c_eqb (l m : List Bool) (hl : l.length ≤ 1048576) (hm : m.length ≤ 1048576) : Trip Try.prog 98 [.sl ⟨0, []⟩, .sl ⟨1, []⟩] ⟨[], [(0, .list .tmp .bool l), (1, .list .tmp .bool m)], 2⟩ (Z := Unit) (fun _ => True) (fun _ => .bool (decide (l = m))) (fun _ => ⟨[], [(0, .list .tmp .bool l), (1, .list .tmp .bool m)], 2⟩) := by
  by_cases hL : l.length = m.length
  · refine trip_by (rs := [_]) 400 lay_ok Try.func98 rfl (by kernel_rfl) Try.ntmps98 Try.results98 rfl rfl ?_
    repeat' (first | (((with_reducible refine g_id ?_); (conv => arg 3; whnf)); first | (with_reducible refine g_cond lay_ok 400 ?_ ?_ ?_) | fail) | ((with_reducible refine o_id ?_); (conv => arg 1; whnf); first | (with_reducible exact o_nil) | fail) | (intro h; ((try simp only [Int.toNat_natCast] at h); repeat (first | replace h := of_decide_eq_true h | replace h := of_decide_eq_false h | replace h := not_t h | replace h := not_f h | fail)); (try (first | (exfalso; omega) | fail))) | fail)
    ((with_reducible refine g_id ?_); (conv => arg 3; whnf))
    refine g_loop lay_ok 400 (Z := Nat) (fun z => z ≤ l.length ∧ ∀ i, i < z → gt (c := .bool) l i = gt (c := .bool) m i) (fun z => ⟨[(0, .sl ⟨0, []⟩), (1, .sl ⟨1, []⟩), (12, .int .i64 (l.length : Int)), (13, .int .i64 (z : Int))], [(0, .list .tmp .bool l), (1, .list .tmp .bool m)], 2⟩) (fun z => l.length - z) ?_ ⟨0, ⟨Nat.zero_le _, fun i hi => absurd hi (Nat.not_lt_zero i)⟩, ?_⟩ (fun z hz => ?_)
    · repeat' (first | ((with_reducible refine o_id ?_); (conv => arg 1; whnf); first | (with_reducible exact o_nil) | fail) | fail)
    · ((with_reducible refine s_id ?_); (conv => arg 1; whnf); (with_reducible refine s_some ?_); repeat' (first | ((with_reducible refine o_id ?_); (conv => arg 1; whnf); first | (with_reducible exact o_nil) | (with_reducible refine o_cons ?_ ?_)) | rfl | fail))
    obtain ⟨hz1, hz2⟩ := hz
    by_cases hlt : z < l.length
    · by_cases he : gt (c := .bool) l z = gt (c := .bool) m z
      · repeat' (first | (((with_reducible refine g_id ?_); (conv => arg 3; whnf)); first | (with_reducible refine g_cond lay_ok 400 ?_ ?_ ?_) | (with_reducible refine g_fin ?_ ?_) | (refine g_flow 6 lay_ok mixed_ok 400 0 [0, 0, 3, 7, 0, 0, 48, 112, 255] (.q 0 (.q 1 (.q 2 (.q 3 (.q 4 (.q 5 (.q 6 (.q 7 (.q 8 .fin))))))))) (by kernel_rfl) ?_ ?_)) | (((with_reducible refine w_id ?_); (conv => arg 4; whnf)); first | (with_reducible refine w_fin ?_ ?_) | fail) | (with_reducible exact o_nil) | ((with_reducible refine o_id ?_); (conv => arg 1; whnf); first | (with_reducible exact o_nil) | (with_reducible refine o_cons ?_ ?_)) | (intro h; ((try simp only [Int.toNat_natCast] at h); repeat (first | replace h := of_decide_eq_true h | replace h := of_decide_eq_false h | replace h := not_t h | replace h := not_f h | fail)); (try (first | contradiction | (exfalso; omega) | fail))) | omega | fail)
        all_goals (refine q_round ⟨z + 1, ⟨by omega, fun i hi => (Nat.lt_or_ge i z).elim (hz2 i) fun q => by rw [Nat.le_antisymm (Nat.le_of_lt_succ hi) q]; exact he⟩, by omega, ?_⟩; ((with_reducible refine s_id ?_); (conv => arg 1; whnf); (with_reducible refine s_some ?_); repeat' (first | ((with_reducible refine o_id ?_); (conv => arg 1; whnf); first | (with_reducible exact o_nil) | (with_reducible refine o_cons ?_ ?_)) | rfl | fail)))
      · repeat' (first | (((with_reducible refine g_id ?_); (conv => arg 3; whnf)); first | (with_reducible refine g_cond lay_ok 400 ?_ ?_ ?_) | (with_reducible refine g_fin ?_ ?_) | (refine g_flow 6 lay_ok mixed_ok 400 0 [0, 0, 3, 7, 0, 0, 48, 112, 255] (.q 0 (.q 1 (.q 2 (.q 3 (.q 4 (.q 5 (.q 6 (.q 7 (.q 8 .fin))))))))) (by kernel_rfl) ?_ ?_)) | (((with_reducible refine w_id ?_); (conv => arg 4; whnf)); first | (with_reducible refine w_fin ?_ ?_) | fail) | (with_reducible refine q_ret lay_ok 400 ?_) | (with_reducible exact o_nil) | ((with_reducible refine o_id ?_); (conv => arg 1; whnf); first | (with_reducible exact o_nil) | (with_reducible refine o_cons ?_ ?_)) | (intro h; ((try simp only [Int.toNat_natCast] at h); repeat (first | replace h := of_decide_eq_true h | replace h := of_decide_eq_false h | replace h := not_t h | replace h := not_f h | fail)); (try (first | contradiction | (exfalso; omega) | fail))) | omega | fail)
        all_goals (((with_reducible refine e_id ?_); (conv => whnf)); refine ⟨(), trivial, ?_⟩; ((with_reducible refine s_id ?_); (conv => arg 1; whnf); (with_reducible refine s_some ?_); repeat' (first | ((with_reducible refine o_id ?_); (conv => arg 1; whnf); first | (with_reducible exact o_nil) | (with_reducible refine o_cons ?_ ?_)) | rfl | (exact decide_eq_false fun e => he (by rw [e])) | fail)))
    · have hE : l = m := gt_ext hL fun i hi => hz2 i (by omega)
      repeat' (first | (((with_reducible refine g_id ?_); (conv => arg 3; whnf)); first | (with_reducible refine g_cond lay_ok 400 ?_ ?_ ?_) | (with_reducible refine g_fin ?_ ?_) | fail) | (with_reducible refine q_leave lay_ok 400 ?_) | (with_reducible exact o_nil) | ((with_reducible refine o_id ?_); (conv => arg 1; whnf); first | (with_reducible exact o_nil) | fail) | (intro h; ((try simp only [Int.toNat_natCast] at h); repeat (first | replace h := of_decide_eq_true h | replace h := of_decide_eq_false h | fail)); (try (first | (exfalso; omega) | fail))) | fail)
      all_goals (((with_reducible refine e_id ?_); (conv => whnf)); refine ⟨(), trivial, ?_⟩; ((with_reducible refine s_id ?_); (conv => arg 1; whnf); (with_reducible refine s_some ?_); repeat' (first | ((with_reducible refine o_id ?_); (conv => arg 1; whnf); first | (with_reducible exact o_nil) | (with_reducible refine o_cons ?_ ?_)) | rfl | (exact decide_eq_true hE) | fail)))
  · refine trip_by (rs := [_]) 400 lay_ok Try.func98 rfl (by kernel_rfl) Try.ntmps98 Try.results98 rfl rfl ?_
    repeat' (first | (((with_reducible refine g_id ?_); (conv => arg 3; whnf)); first | (with_reducible refine g_cond lay_ok 400 ?_ ?_ ?_) | (with_reducible refine g_fin ?_ ?_) | fail) | ((with_reducible refine o_id ?_); (conv => arg 1; whnf); first | (with_reducible exact o_nil) | fail) | (intro h; ((try simp only [Int.toNat_natCast] at h); repeat (first | replace h := of_decide_eq_true h | replace h := of_decide_eq_false h | replace h := not_t h | replace h := not_f h | fail)); (try (first | (exfalso; omega) | fail))) | fail)
    all_goals (((with_reducible refine e_id ?_); (conv => whnf)); refine ⟨(), trivial, ?_⟩; ((with_reducible refine s_id ?_); (conv => arg 1; whnf); (with_reducible refine s_some ?_); repeat' (first | ((with_reducible refine o_id ?_); (conv => arg 1; whnf); first | (with_reducible exact o_nil) | (with_reducible refine o_cons ?_ ?_)) | rfl | (exact decide_eq_false fun e => hL (by rw [e])) | fail)))
theorem c_opC1 (o : Op_) (hk : o.kind = 2 ∨ o.kind = 4) : Trip Try.prog 57 [.ptr 0 0] ⟨[], [(0, .cells [.int .i64 o.kind, .int .i64 o.dst, .int .i64 o.a, .int .i64 o.b, .int .i64 o.imm])], 1⟩ (Z := Unit) (fun _ => True) (fun _ => .slc 1 0 1 1) (fun _ => ⟨[], [(0, .cells [.int .i64 o.kind, .int .i64 o.dst, .int .i64 o.a, .int .i64 o.b, .int .i64 o.imm]), (1, .cells [.ptr 0 2])], 2⟩) := by
  refine trip_by (rs := [_]) 400 lay_ok Try.func57 rfl (by kernel_rfl) Try.ntmps57 Try.results57 rfl rfl ?_
  repeat' (first | (((with_reducible refine g_id ?_); (conv => arg 3; whnf)); first | (with_reducible refine g_cond lay_ok 400 ?_ ?_ ?_) | (with_reducible refine g_fin ?_ ?_) | fail) | (with_reducible exact o_nil) | ((with_reducible refine o_id ?_); (conv => arg 1; whnf); first | (with_reducible exact o_nil) | fail) | (intro h; ((try simp only [Int.toNat_natCast] at h); repeat (first | replace h := of_decide_eq_true h | replace h := of_decide_eq_false h | fail)); (try (first | contradiction | (exfalso; omega) | fail))) | fail)
  all_goals (((with_reducible refine e_id ?_); (conv => whnf)); refine ⟨(), trivial, ?_⟩; ((with_reducible refine s_id ?_); (conv => arg 1; whnf); (with_reducible refine s_some ?_); repeat' (first | ((with_reducible refine o_id ?_); (conv => arg 1; whnf); first | (with_reducible exact o_nil) | (with_reducible refine o_cons ?_ ?_)) | rfl | fail)))
theorem c_opC2 (o : Op_) (hk : o.kind = 3 ∨ o.kind = 5) : Trip Try.prog 57 [.ptr 0 0] ⟨[], [(0, .cells [.int .i64 o.kind, .int .i64 o.dst, .int .i64 o.a, .int .i64 o.b, .int .i64 o.imm])], 1⟩ (Z := Unit) (fun _ => True) (fun _ => .slc 1 0 2 2) (fun _ => ⟨[], [(0, .cells [.int .i64 o.kind, .int .i64 o.dst, .int .i64 o.a, .int .i64 o.b, .int .i64 o.imm]), (1, .cells [.ptr 0 2, .ptr 0 3])], 2⟩) := by
  refine trip_by (rs := [_]) 400 lay_ok Try.func57 rfl (by kernel_rfl) Try.ntmps57 Try.results57 rfl rfl ?_
  repeat' (first | (((with_reducible refine g_id ?_); (conv => arg 3; whnf)); first | (with_reducible refine g_cond lay_ok 400 ?_ ?_ ?_) | (with_reducible refine g_fin ?_ ?_) | (refine g_flow 7 lay_ok mixed_ok 400 64 [0, 1, 3, 0, 8, 24, 63, 127] (.q 0 (.q 1 (.q 2 (.q 3 (.q 4 (.q 5 (.e 6 [] (.q 7 .fin) .stop))))))) (by kernel_rfl) ?_ ?_)) | (((with_reducible refine w_id ?_); (conv => arg 4; whnf)); first | (with_reducible refine w_fin ?_ ?_) | (with_reducible refine w_tt ?_) | (with_reducible refine w_eff lay_ok 400 ?_ rfl rfl ?_ ?_)) | (with_reducible refine q_flow ?_ ?_) | ((with_reducible refine h_id ?_); (conv => arg 1; whnf); (with_reducible refine s_some ?_)) | (with_reducible exact o_nil) | ((with_reducible refine o_id ?_); (conv => arg 1; whnf); first | (with_reducible exact o_nil) | fail) | (intro h; ((try simp only [Int.toNat_natCast] at h); repeat (first | replace h := of_decide_eq_true h | replace h := of_decide_eq_false h | fail)); (try (first | contradiction | (exfalso; omega) | fail))) | fail)
  all_goals (((with_reducible refine e_id ?_); (conv => whnf)); refine ⟨(), trivial, ?_⟩; ((with_reducible refine s_id ?_); (conv => arg 1; whnf); (with_reducible refine s_some ?_); repeat' (first | ((with_reducible refine o_id ?_); (conv => arg 1; whnf); first | (with_reducible exact o_nil) | (with_reducible refine o_cons ?_ ?_)) | rfl | fail)))
theorem c_opC0 (o : Op_) (hk : ¬ (o.kind = 2 ∨ o.kind = 4)) (hk2 : ¬ (o.kind = 3 ∨ o.kind = 5)) : Trip Try.prog 57 [.ptr 0 0] ⟨[], [(0, .cells [.int .i64 o.kind, .int .i64 o.dst, .int .i64 o.a, .int .i64 o.b, .int .i64 o.imm])], 1⟩ (Z := Unit) (fun _ => True) (fun _ => .val (.slice none 0 0)) (fun _ => ⟨[], [(0, .cells [.int .i64 o.kind, .int .i64 o.dst, .int .i64 o.a, .int .i64 o.b, .int .i64 o.imm])], 1⟩) := by
  refine trip_by (rs := [_]) 400 lay_ok Try.func57 rfl (by kernel_rfl) Try.ntmps57 Try.results57 rfl rfl ?_
  repeat' (first | (((with_reducible refine g_id ?_); (conv => arg 3; whnf)); first | (with_reducible refine g_cond lay_ok 400 ?_ ?_ ?_) | (with_reducible refine g_fin ?_ ?_) | fail) | ((with_reducible refine o_id ?_); (conv => arg 1; whnf); first | (with_reducible exact o_nil) | fail) | (intro h; ((try simp only [Int.toNat_natCast] at h); repeat (first | replace h := of_decide_eq_true h | replace h := of_decide_eq_false h | fail)); (try (first | (exfalso; omega) | fail))) | fail)
  all_goals (((with_reducible refine e_id ?_); (conv => whnf)); refine ⟨(), trivial, ?_⟩; ((with_reducible refine s_id ?_); (conv => arg 1; whnf); (with_reducible refine s_some ?_); repeat' (first | ((with_reducible refine o_id ?_); (conv => arg 1; whnf); first | (with_reducible exact o_nil) | (with_reducible refine o_cons ?_ ?_)) | rfl | fail)))
attribute [local irreducible] intoN
theorem c_into (n : List Bool) (o : Op_) (hn : n.length ≤ 1048576) (ho : OpL n.length o) : Trip Try.prog 97 [.sl ⟨0, []⟩, .agg [.int .i64 o.kind, .int .i64 o.dst, .int .i64 o.a, .int .i64 o.b, .int .i64 o.imm]] ⟨[], [(0, .list .own .bool n)], 1⟩ (Z := Unit) (fun _ => True) (fun _ => .tup []) (fun _ => ⟨[], [(0, .list .own .bool (intoN n o))], 1⟩) := by
  obtain ⟨o1, o2, o3⟩ := ho
  by_cases k1 : o.kind = 1
  · have hk2 : ¬ (o.kind = 3 ∨ o.kind = 5) := by omega
    have hk : ¬ (o.kind = 2 ∨ o.kind = 4) := by omega
    obtain ⟨d0, d1⟩ := o1 (by omega)
    refine trip_by (rs := []) 400 lay_ok Try.func97 rfl (by kernel_rfl) Try.ntmps97 Try.results97 rfl rfl ?_
    repeat' (first | (((with_reducible refine g_id ?_); (conv => arg 3; whnf)); first | (with_reducible refine g_cond lay_ok 400 ?_ ?_ ?_) | (with_reducible refine g_fin ?_ ?_) | (refine g_call lay_ok 400 ?_ ?_ ?_ (c_resY ?_ ?_) rfl) | (refine g_call lay_ok 400 ?_ ?_ ?_ (c_opC0 ?_ ?_ ?_) rfl) | (with_reducible refine g_rounds lay_ok 400 3 ?_ ?_)) | (with_reducible refine q_leave lay_ok 400 ?_) | (with_reducible exact o_nil) | ((with_reducible refine o_id ?_); (conv => arg 1; whnf); first | (with_reducible exact o_nil) | (with_reducible refine o_cons ?_ ?_)) | (intro h; ((try simp only [Int.toNat_natCast] at h); repeat (first | replace h := of_decide_eq_true h | replace h := of_decide_eq_false h | fail)); (try (first | contradiction | fail))) | rfl | omega | fail)
    all_goals (((with_reducible refine e_id ?_); (conv => whnf)); refine ⟨(), trivial, ?_⟩; ((with_reducible refine s_id ?_); (conv => arg 1; whnf); (with_reducible refine s_some ?_); repeat' (first | ((with_reducible refine o_id ?_); (conv => arg 1; whnf); first | (with_reducible exact o_nil) | (with_reducible refine o_cons ?_ ?_)) | (exact (into_1 k1).symm) | fail)))
  by_cases hk : o.kind = 2 ∨ o.kind = 4
  · obtain ⟨d0, d1⟩ := o1 (by omega)
    obtain ⟨a0, a1⟩ := o2 (by omega)
    refine trip_by (rs := []) 400 lay_ok Try.func97 rfl (by kernel_rfl) Try.ntmps97 Try.results97 rfl rfl ?_
    repeat' (first | (((with_reducible refine g_id ?_); (conv => arg 3; whnf)); first | (with_reducible refine g_cond lay_ok 400 ?_ ?_ ?_) | (with_reducible refine g_fin ?_ ?_) | (refine g_call lay_ok 400 ?_ ?_ ?_ (c_resY ?_ ?_) rfl) | (refine g_call lay_ok 400 ?_ ?_ ?_ (c_opC1 ?_ ?_) rfl) | (with_reducible refine g_rounds lay_ok 400 3 ?_ ?_)) | (with_reducible refine q_leave lay_ok 400 ?_) | (with_reducible refine q_next ?_) | (with_reducible exact o_nil) | ((with_reducible refine o_id ?_); (conv => arg 1; whnf); first | (with_reducible exact o_nil) | (with_reducible refine o_cons ?_ ?_)) | (intro h; ((try simp only [Int.toNat_natCast] at h); repeat (first | replace h := of_decide_eq_true h | replace h := of_decide_eq_false h | fail)); (try (first | contradiction | fail))) | rfl | omega | (simp only [List.length_nil, List.length_cons, List.length_append, List.length_take, List.length_set, Int.toNat_natCast, Nat.zero_add]; omega) | fail)
    all_goals (((with_reducible refine e_id ?_); (conv => whnf)); refine ⟨(), trivial, ?_⟩; ((with_reducible refine s_id ?_); (conv => arg 1; whnf); (with_reducible refine s_some ?_); repeat' (first | ((with_reducible refine o_id ?_); (conv => arg 1; whnf); first | (with_reducible exact o_nil) | (with_reducible refine o_cons ?_ ?_)) | (exact (into_2 hk).symm) | fail)))
  by_cases k3 : o.kind = 3
  · have hk : o.kind = 3 ∨ o.kind = 5 := by omega
    obtain ⟨d0, d1⟩ := o1 (by omega)
    obtain ⟨a0, a1⟩ := o2 (by omega)
    obtain ⟨b0, b1⟩ := o3 (by omega)
    refine trip_by (rs := []) 400 lay_ok Try.func97 rfl (by kernel_rfl) Try.ntmps97 Try.results97 rfl rfl ?_
    repeat' (first | (((with_reducible refine g_id ?_); (conv => arg 3; whnf)); first | (with_reducible refine g_cond lay_ok 400 ?_ ?_ ?_) | (with_reducible refine g_fin ?_ ?_) | (refine g_call lay_ok 400 ?_ ?_ ?_ (c_resY ?_ ?_) rfl) | (refine g_call lay_ok 400 ?_ ?_ ?_ (c_opC2 ?_ ?_) rfl) | (with_reducible refine g_rounds lay_ok 400 3 ?_ ?_)) | (with_reducible refine q_leave lay_ok 400 ?_) | (with_reducible refine q_next ?_) | (with_reducible exact o_nil) | ((with_reducible refine o_id ?_); (conv => arg 1; whnf); first | (with_reducible exact o_nil) | (with_reducible refine o_cons ?_ ?_)) | (intro h; ((try simp only [Int.toNat_natCast] at h); repeat (first | replace h := of_decide_eq_true h | replace h := of_decide_eq_false h | fail)); (try (first | contradiction | fail))) | rfl | omega | (simp only [List.length_nil, List.length_cons, List.length_append, List.length_take, List.length_set, Int.toNat_natCast, Nat.zero_add]; omega) | fail)
    all_goals (((with_reducible refine e_id ?_); (conv => whnf)); refine ⟨(), trivial, ?_⟩; ((with_reducible refine s_id ?_); (conv => arg 1; whnf); (with_reducible refine s_some ?_); repeat' (first | ((with_reducible refine o_id ?_); (conv => arg 1; whnf); first | (with_reducible exact o_nil) | (with_reducible refine o_cons ?_ ?_)) | (exact (into_3 k3).symm) | fail)))
  by_cases k5 : o.kind = 5
  · have hk : o.kind = 3 ∨ o.kind = 5 := by omega
    obtain ⟨a0, a1⟩ := o2 (by omega)
    obtain ⟨b0, b1⟩ := o3 (by omega)
    refine trip_by (rs := []) 400 lay_ok Try.func97 rfl (by kernel_rfl) Try.ntmps97 Try.results97 rfl rfl ?_
    repeat' (first | (((with_reducible refine g_id ?_); (conv => arg 3; whnf)); first | (with_reducible refine g_cond lay_ok 400 ?_ ?_ ?_) | (with_reducible refine g_fin ?_ ?_) | (refine g_call lay_ok 400 ?_ ?_ ?_ (c_resN ?_ ?_) rfl) | (refine g_call lay_ok 400 ?_ ?_ ?_ (c_opC2 ?_ ?_) rfl) | (with_reducible refine g_rounds lay_ok 400 3 ?_ ?_)) | (with_reducible refine q_leave lay_ok 400 ?_) | (with_reducible refine q_next ?_) | (with_reducible exact o_nil) | ((with_reducible refine o_id ?_); (conv => arg 1; whnf); first | (with_reducible exact o_nil) | (with_reducible refine o_cons ?_ ?_)) | (intro h; ((try simp only [Int.toNat_natCast] at h); repeat (first | replace h := of_decide_eq_true h | replace h := of_decide_eq_false h | fail)); (try (first | contradiction | (exfalso; omega) | fail))) | rfl | omega | (simp only [List.length_nil, List.length_cons, List.length_append, List.length_take, List.length_set, Int.toNat_natCast, Nat.zero_add]; omega) | fail)
    all_goals (((with_reducible refine e_id ?_); (conv => whnf)); refine ⟨(), trivial, ?_⟩; ((with_reducible refine s_id ?_); (conv => arg 1; whnf); (with_reducible refine s_some ?_); repeat' (first | ((with_reducible refine o_id ?_); (conv => arg 1; whnf); first | (with_reducible exact o_nil) | (with_reducible refine o_cons ?_ ?_)) | (exact (into_5 k5).symm) | fail)))
  have hk2 : ¬ (o.kind = 3 ∨ o.kind = 5) := by omega
  have k0 : ¬ (1 ≤ o.kind ∧ o.kind ≤ 5) := by omega
  refine trip_by (rs := []) 400 lay_ok Try.func97 rfl (by kernel_rfl) Try.ntmps97 Try.results97 rfl rfl ?_
  repeat' (first | (((with_reducible refine g_id ?_); (conv => arg 3; whnf)); first | (with_reducible refine g_cond lay_ok 400 ?_ ?_ ?_) | (with_reducible refine g_fin ?_ ?_) | (refine g_call lay_ok 400 ?_ ?_ ?_ (c_resN ?_ ?_) rfl) | (refine g_call lay_ok 400 ?_ ?_ ?_ (c_opC0 ?_ ?_ ?_) rfl) | (with_reducible refine g_rounds lay_ok 400 3 ?_ ?_)) | (with_reducible refine q_leave lay_ok 400 ?_) | (with_reducible exact o_nil) | ((with_reducible refine o_id ?_); (conv => arg 1; whnf); first | (with_reducible exact o_nil) | (with_reducible refine o_cons ?_ ?_)) | (intro h; ((try simp only [Int.toNat_natCast] at h); repeat (first | replace h := of_decide_eq_true h | replace h := of_decide_eq_false h | fail)); (try (first | contradiction | (exfalso; omega) | fail))) | rfl | fail)
  all_goals (((with_reducible refine e_id ?_); (conv => whnf)); refine ⟨(), trivial, ?_⟩; ((with_reducible refine s_id ?_); (conv => arg 1; whnf); (with_reducible refine s_some ?_); repeat' (first | ((with_reducible refine o_id ?_); (conv => arg 1; whnf); first | (with_reducible exact o_nil) | (with_reducible refine o_cons ?_ ?_)) | (exact (into_0 k0).symm) | fail)))
end Go.Proofs.Ytonjbhdfimcedaa
namespace Go.Proofs.Ytonjbhdfimcedaa
open Go.RowKit
abbrev bg (l : List Bool) (i : Nat) : Bool := gt (c := .bool) l i
abbrev bl (L : List (List Bool)) (i : Nat) : List Bool := gt (c := .bools) L i
abbrev bk (g : Grf) (i : Nat) : Blk := gt (c := .block) g.blks i
def LeB (a b : List Bool) : Prop := a.length = b.length ∧ ∀ i, bg a i = true → bg b i = true
theorem LeB.refl (a : List Bool) : LeB a a := ⟨rfl, fun _ h => h⟩
theorem LeB.trans {a b c : List Bool} (h : LeB a b) (k : LeB b c) : LeB a c := ⟨h.1.trans k.1, fun i q => k.2 i (h.2 i q)⟩
theorem LeB.eq {a b : List Bool} (h : LeB a b) (k : LeB b a) : a = b := by
  refine gt_ext (c := .bool) h.1 fun i _ => ?_
  have h1 := h.2 i
  have h2 := k.2 i
  revert h1 h2
  unfold bg
  cases gt (c := .bool) a i <;> cases gt (c := .bool) b i <;> simp
theorem bg_set {l : List Bool} {i j : Nat} {x : Bool} (hi : i < l.length) : bg (l.set i x) j = if j = i then x else bg l j := by
  by_cases e : j = i
  · subst e; rw [if_pos rfl]; exact gt_set_eq (c := .bool) hi
  · rw [if_neg e]; exact gt_set_ne (c := .bool) e
theorem bg_out {l : List Bool} {j : Nat} (h : l.length ≤ j) : bg l j = false := gt_out (c := .bool) h
theorem bg_lt {l : List Bool} {j : Nat} (h : bg l j = true) : j < l.length := by
  refine Nat.lt_of_not_le fun q => ?_
  rw [bg_out q] at h
  cases h
theorem set_le {a b : List Bool} {i : Nat} {x : Bool} (h : LeB a b) : LeB (a.set i x) (b.set i x) := by
  refine ⟨by rw [List.length_set, List.length_set]; exact h.1, fun j q => ?_⟩
  have hj := bg_lt q
  rw [List.length_set] at hj
  by_cases hi : i < a.length
  · rw [bg_set hi] at q
    rw [bg_set (h.1 ▸ hi)]
    by_cases e : j = i
    · rw [if_pos e] at q ⊢; exact q
    · rw [if_neg e] at q ⊢; exact h.2 j q
  · rw [List.set_eq_of_length_le (by omega)] at q
    rw [List.set_eq_of_length_le (by have := h.1; omega)]
    exact h.2 j q
theorem clr_le {a b : List Bool} {o : Op_} (h : LeB a b) : LeB (clrN a o) (clrN b o) := by
  unfold clrN
  split
  · exact set_le h
  · exact h
theorem into_le {a b : List Bool} {o : Op_} (h : LeB a b) : LeB (intoN a o) (intoN b o) := by
  unfold intoN
  split
  · exact set_le (clr_le h)
  · split
    · exact set_le (set_le (clr_le h))
    · exact clr_le h
def bwd (l : List Op_) (e : List Bool) : List Bool := l.foldr (fun o m => intoN m o) e
theorem bwd_len : ∀ {l : List Op_} {e : List Bool}, (bwd l e).length = e.length
  | [], e => rfl
  | o :: l, e => by show (intoN (bwd l e) o).length = _; rw [intoN_len, bwd_len]
theorem bwd_le : ∀ {l : List Op_} {a b : List Bool}, LeB a b → LeB (bwd l a) (bwd l b)
  | [], _, _, h => h
  | o :: l, a, b, h => into_le (bwd_le (l := l) h)
theorem bwd_drop {l : List Op_} {k : Nat} {e : List Bool} (h : k < l.length) : intoN (bwd (l.drop (k + 1)) e) (gt (c := .op) l k) = bwd (l.drop k) e := by
  have : l.drop k = gt (c := .op) l k :: l.drop (k + 1) := by
    rw [List.drop_eq_getElem_cons h]
    congr 1
    have := gt_at (c := .op) h
    rw [List.getElem?_eq_getElem h] at this
    exact Option.some.inj this
  rw [this]; rfl
theorem bwd_end {l : List Op_} {e : List Bool} : bwd (l.drop l.length) e = e := by rw [List.drop_length]; rfl
def frK (g : Grf) (b : Blk) (v : Nat) : Bool := (decide (b.next.length = 0) && decide ((v : Int) < g.keep)) || (decide (b.next.length = 2) && decide (v = b.cond.toNat))
def frB (g : Grf) (B : List (List Bool)) (b : Blk) (v : Nat) : Bool := frK g b v || b.next.any fun n => bg (bl B n.toNat) v
def tabN (n : Nat) (f : Nat → Bool) : List Bool := (List.range n).map f
theorem tab_len {n : Nat} {f : Nat → Bool} : (tabN n f).length = n := by unfold tabN; rw [List.length_map, List.length_range]
theorem bg_tab {n : Nat} {f : Nat → Bool} {v : Nat} (h : v < n) : bg (tabN n f) v = f v := by
  refine gt_eq (c := .bool) ?_
  unfold tabN
  rw [List.getElem?_map, List.getElem?_range h]; rfl
theorem tab_ext {n : Nat} {f : Nat → Bool} {l : List Bool} (h : l.length = n) (q : ∀ v, v < n → bg l v = f v) : l = tabN n f :=
  gt_ext (c := .bool) (by rw [tab_len]; exact h) fun i hi => by
    exact (q i (h ▸ hi)).trans (bg_tab (h ▸ hi)).symm
def freshE (g : Grf) (B : List (List Bool)) (b : Blk) : List Bool := tabN g.vars.toNat (frB g B b)
def LeBB (A B : List (List Bool)) : Prop := A.length = B.length ∧ ∀ i, LeB (bl A i) (bl B i)
theorem LeBB.refl (A : List (List Bool)) : LeBB A A := ⟨rfl, fun i => LeB.refl _⟩
theorem LeBB.trans {A B C : List (List Bool)} (h : LeBB A B) (k : LeBB B C) : LeBB A C := ⟨h.1.trans k.1, fun i => (h.2 i).trans (k.2 i)⟩
theorem any_le {l : List Int} {f h : Int → Bool} (q : ∀ n ∈ l, f n = true → h n = true) (e : l.any f = true) : l.any h = true := by
  obtain ⟨n, hn, hf⟩ := List.any_eq_true.1 e
  exact List.any_eq_true.2 ⟨n, hn, q n hn hf⟩
theorem fresh_le {g : Grf} {A B : List (List Bool)} {b : Blk} (h : LeBB A B) : LeB (freshE g A b) (freshE g B b) := by
  refine ⟨by unfold freshE; rw [tab_len, tab_len], fun v q => ?_⟩
  have hv := bg_lt q
  unfold freshE at hv q ⊢
  rw [tab_len] at hv
  rw [bg_tab hv] at q ⊢
  unfold frB at q ⊢
  rw [Bool.or_eq_true] at q ⊢
  exact q.imp id fun e => any_le (fun n _ => (h.2 n.toNat).2 v) e
theorem fresh_len {g : Grf} {B : List (List Bool)} {b : Blk} : (freshE g B b).length = g.vars.toNat := tab_len
abbrev S2 := List (List Bool) × List (List Bool)
def stepL (g : Grf) (s : S2) (i : Nat) : S2 := (s.1.set i (freshE g s.2 (bk g i)), s.2.set i (bwd (bk g i).ops (freshE g s.2 (bk g i))))
def passL (g : Grf) : Nat → S2 → S2
  | 0, s => s
  | k + 1, s => passL g k (stepL g s k)
def fixL (g : Grf) : Nat → S2 → S2
  | 0, s => s
  | f + 1, s => if (passL g g.blks.length s).2 = s.2 then passL g g.blks.length s else fixL g f (passL g g.blks.length s)
def zeroL (g : Grf) : List (List Bool) := List.replicate g.blks.length (List.replicate g.vars.toNat false)
def cF (l : List Bool) : Nat := (l.filter fun b => !b).length
def cFF (L : List (List Bool)) : Nat := (L.map cF).foldr (· + ·) 0
def liveL (g : Grf) : List (List Bool) := (fixL g (cFF (zeroL g) + 1) (zeroL g, zeroL g)).1
structure InvB (g : Grf) (B : List (List Bool)) : Prop where
  l : B.length = g.blks.length
  r : ∀ i, i < g.blks.length → (bl B i).length = g.vars.toNat
  m : ∀ i, i < g.blks.length → LeB (bl B i) (bwd (bk g i).ops (freshE g B (bk g i)))
theorem bl_set {L : List (List Bool)} {i j : Nat} {x : List Bool} (hi : i < L.length) : bl (L.set i x) j = if j = i then x else bl L j := by
  by_cases e : j = i
  · subst e; rw [if_pos rfl]; exact gt_set_eq (c := .bools) hi
  · rw [if_neg e]; exact gt_set_ne (c := .bools) e
theorem step_le {g : Grf} {s : S2} {i : Nat} (h : InvB g s.2) (hi : i < g.blks.length) : LeBB s.2 (stepL g s i).2 := by
  refine ⟨by unfold stepL; rw [List.length_set], fun j => ?_⟩
  show LeB _ (bl (s.2.set i _) j)
  rw [bl_set (h.l ▸ hi)]
  split
  · rename_i e; subst e; exact h.m j hi
  · exact LeB.refl _
theorem step_inv {g : Grf} {s : S2} {i : Nat} (h : InvB g s.2) (hi : i < g.blks.length) : InvB g (stepL g s i).2 := by
  have hle := step_le h hi
  refine ⟨by rw [← hle.1]; exact h.l, fun j hj => ?_, fun j hj => ?_⟩
  · rw [← (hle.2 j).1]; exact h.r j hj
  · have hm : LeB (bwd (bk g j).ops (freshE g s.2 (bk g j))) (bwd (bk g j).ops (freshE g (stepL g s i).2 (bk g j))) := bwd_le (fresh_le hle)
    refine LeB.trans ?_ hm
    show LeB (bl (s.2.set i _) j) _
    rw [bl_set (h.l ▸ hi)]
    split
    · rename_i e; subst e; exact LeB.refl _
    · exact h.m j hj
theorem pass_le {g : Grf} : ∀ {k : Nat} {s : S2}, InvB g s.2 → k ≤ g.blks.length → LeBB s.2 (passL g k s).2 ∧ InvB g (passL g k s).2
  | 0, s, h, _ => ⟨LeBB.refl _, h⟩
  | k + 1, s, h, hk => by
    obtain ⟨h1, h2⟩ := pass_le (k := k) (step_inv h (i := k) (by omega)) (by omega)
    exact ⟨(step_le h (by omega)).trans h1, h2⟩
theorem zero_inv {g : Grf} : InvB g (zeroL g) := by
  have hr : ∀ i, i < g.blks.length → bl (zeroL g) i = List.replicate g.vars.toNat false := fun i hi => gt_eq (c := .bools) (by unfold zeroL; rw [List.getElem?_replicate, if_pos hi])
  refine ⟨by unfold zeroL; rw [List.length_replicate], fun i hi => by rw [hr i hi, List.length_replicate], fun i hi => ?_⟩
  rw [hr i hi]
  refine ⟨by rw [bwd_len, fresh_len, List.length_replicate], fun v q => ?_⟩
  have hv := bg_lt q
  rw [List.length_replicate] at hv
  have : bg (List.replicate g.vars.toNat false) v = false := gt_eq (c := .bool) (by rw [List.getElem?_replicate, if_pos hv])
  rw [this] at q
  cases q
theorem cF_le : ∀ {a b : List Bool}, LeB a b → cF b ≤ cF a ∧ (cF b = cF a → a = b)
  | [], [], _ => ⟨Nat.le_refl _, fun _ => rfl⟩
  | [], _ :: _, h => by cases h.1
  | _ :: _, [], h => by cases h.1
  | x :: a, y :: b, h => by
    have ht : LeB a b := ⟨Nat.succ.inj h.1, fun i q => h.2 (i + 1) q⟩
    have h0 : x = true → y = true := h.2 0
    obtain ⟨h1, h2⟩ := cF_le ht
    cases x <;> cases y
    · refine ⟨Nat.succ_le_succ h1, fun e => ?_⟩
      rw [h2 (Nat.succ.inj e)]
    · refine ⟨Nat.le_succ_of_le h1, fun e => ?_⟩
      have e' : cF b = cF a + 1 := e
      omega
    · cases h0 rfl
    · refine ⟨h1, fun e => ?_⟩
      rw [h2 e]
theorem cFF_le : ∀ {A B : List (List Bool)}, LeBB A B → cFF B ≤ cFF A ∧ (cFF B = cFF A → A = B)
  | [], [], _ => ⟨Nat.le_refl _, fun _ => rfl⟩
  | [], _ :: _, h => by cases h.1
  | _ :: _, [], h => by cases h.1
  | x :: A, y :: B, h => by
    have ht : LeBB A B := ⟨Nat.succ.inj h.1, fun i => h.2 (i + 1)⟩
    have h0 : LeB x y := h.2 0
    obtain ⟨h1, h2⟩ := cFF_le ht
    obtain ⟨h3, h4⟩ := cF_le h0
    show cF y + cFF B ≤ cF x + cFF A ∧ (cF y + cFF B = cF x + cFF A → x :: A = y :: B)
    refine ⟨by omega, fun e => ?_⟩
    rw [h2 (by omega), h4 (by omega)]
theorem pass_cnt {g : Grf} {s : S2} (h : InvB g s.2) (hne : ¬ (passL g g.blks.length s).2 = s.2) : cFF (passL g g.blks.length s).2 < cFF s.2 := by
  obtain ⟨h1, h2⟩ := cFF_le (pass_le h (Nat.le_refl _)).1
  rcases Nat.lt_or_ge (cFF (passL g g.blks.length s).2) (cFF s.2) with q | q
  · exact q
  · exact absurd (h2 (Nat.le_antisymm h1 q)).symm hne
theorem pass_E {g : Grf} : ∀ {k : Nat} {E E' B : List (List Bool)}, E.length = E'.length → (∀ j, k ≤ j → bl E j = bl E' j) → (passL g k (E, B)) = (passL g k (E', B))
  | 0, E, E', B, hl, h => by
    have : E = E' := gt_ext (c := .bools) hl fun i _ => h i (Nat.zero_le _)
    rw [this]
  | k + 1, E, E', B, hl, h => by
    show passL g k (E.set k _, _) = passL g k (E'.set k _, _)
    refine pass_E (by rw [List.length_set, List.length_set]; exact hl) fun j hj => ?_
    by_cases hk : k < E.length
    · rw [bl_set hk, bl_set (hl ▸ hk)]
      by_cases e : j = k
      · rw [if_pos e, if_pos e]
      · rw [if_neg e, if_neg e]; exact h j (by omega)
    · rw [List.set_eq_of_length_le (by omega), List.set_eq_of_length_le (by omega)]
      by_cases e : j = k
      · subst e
        have h1 : bl E j = dflt .bools := gt_out (c := .bools) (by omega)
        have h2 : bl E' j = dflt .bools := gt_out (c := .bools) (by omega)
        rw [h1, h2]
      · exact h j (by omega)
theorem fix_E {g : Grf} {f : Nat} {E E' B : List (List Bool)} (hl : E.length = g.blks.length) (hl' : E'.length = g.blks.length) : fixL g (f + 1) (E, B) = fixL g (f + 1) (E', B) := by
  have : passL g g.blks.length (E, B) = passL g g.blks.length (E', B) := pass_E (hl.trans hl'.symm) fun j hj => by
    have h1 : bl E j = dflt .bools := gt_out (c := .bools) (by omega)
    have h2 : bl E' j = dflt .bools := gt_out (c := .bools) (by omega)
    rw [h1, h2]
  show (if _ then _ else _) = (if _ then _ else _)
  rw [this]
end Go.Proofs.Ytonjbhdfimcedaa
namespace Go.Proofs.Ytonjbhdfimcedaa
open Go.RowKit
structure LvOK (g : Grf) : Prop where
  v : 0 ≤ g.vars ∧ g.vars ≤ 1048576
  k : 0 ≤ g.keep ∧ g.keep ≤ g.vars
  b : g.blks.length ≤ 1048576
  n : ∀ x ∈ g.blks, x.next.length ≤ 2 ∧ ∀ n ∈ x.next, 0 ≤ n ∧ n < (g.blks.length : Int)
  c : ∀ x ∈ g.blks, x.next.length = 2 → 0 ≤ x.cond ∧ x.cond < g.vars
  o : ∀ x ∈ g.blks, x.ops.length ≤ 1048576 ∧ ∀ o ∈ x.ops, OpL g.vars.toNat o
def orT (e b : List Bool) (z : Nat) : List Bool := tabN e.length fun v => bg e v || (decide (v < z) && bg b v)
def orV (e b : List Bool) : List Bool := tabN e.length fun v => bg e v || bg b v
theorem orT_len {e b : List Bool} {z : Nat} : (orT e b z).length = e.length := tab_len
theorem orV_len {e b : List Bool} : (orV e b).length = e.length := tab_len
theorem orT_0 {e b : List Bool} : orT e b 0 = e := (tab_ext rfl fun v _ => by simp).symm
theorem orT_s {e b : List Bool} {z : Nat} (h : z < e.length) : (orT e b z).set z (bg (orT e b z) z || bg b z) = orT e b (z + 1) := by
  refine tab_ext (by rw [List.length_set, orT_len]) fun v hv => ?_
  rw [bg_set (by rw [orT_len]; exact h)]
  have h1 : ∀ w, w < e.length → bg (orT e b z) w = (bg e w || (decide (w < z) && bg b w)) := fun w hw => bg_tab hw
  split
  · rename_i e0; subst e0
    rw [h1 v h]
    simp
  · rename_i e0
    rw [h1 v hv]
    have : decide (v < z + 1) = decide (v < z) := decide_eq_decide.2 (by omega)
    rw [this]
theorem orT_all {e b : List Bool} (h : b.length = e.length) : orT e b b.length = orV e b := by
  refine tab_ext orT_len fun v hv => ?_
  rw [show bg (orT e b b.length) v = _ from bg_tab hv, decide_eq_true (show v < b.length by omega), Bool.true_and]
def orNs (e : List Bool) (B : List (List Bool)) (l : List Int) : List Bool := l.foldl (fun e n => orV e (bl B n.toNat)) e
theorem orNs_len {B : List (List Bool)} : ∀ {l : List Int} {e : List Bool}, (orNs e B l).length = e.length
  | [], _ => rfl
  | n :: l, e => by show (orNs (orV e _) B l).length = _; rw [orNs_len, orV_len]
theorem orNs_s {e : List Bool} {B : List (List Bool)} {l : List Int} {k : Nat} (h : k < l.length) : orV (orNs e B (l.take k)) (bl B (gt (c := .int) l k : Int).toNat) = orNs e B (l.take (k + 1)) := by
  unfold orNs
  rw [take_snoc (c := .int) h, List.foldl_append]; rfl
theorem orNs_at {B : List (List Bool)} : ∀ {l : List Int} {e : List Bool} {v : Nat}, v < e.length → bg (orNs e B l) v = (bg e v || l.any fun n => bg (bl B n.toNat) v)
  | [], e, v, _ => by show bg e v = _; simp
  | n :: l, e, v, h => by
    show bg (orNs (orV e _) B l) v = _
    rw [orNs_at (by rw [orV_len]; exact h), show bg (orV e (bl B n.toNat)) v = _ from bg_tab h, List.any_cons, Bool.or_assoc]
def keepT (g : Grf) (z : Nat) : List Bool := tabN g.vars.toNat fun v => decide (v < z)
theorem keepT_0 {g : Grf} : keepT g 0 = List.replicate g.vars.toNat false := by
  refine (tab_ext (List.length_replicate) fun v hv => ?_).symm
  show gt (c := .bool) _ v = _
  rw [gt_eq (c := .bool) (by rw [List.getElem?_replicate, if_pos hv])]
  exact (decide_eq_false (Nat.not_lt_zero v)).symm
theorem keepT_s {g : Grf} {z : Nat} (h : z < g.vars.toNat) : (keepT g z).set z true = keepT g (z + 1) := by
  refine tab_ext (by rw [List.length_set]; exact tab_len) fun v hv => ?_
  rw [bg_set (by rw [show (keepT g z).length = _ from tab_len]; exact h)]
  split
  · rename_i e; rw [decide_eq_true (by omega)]
  · rw [show bg (keepT g z) v = _ from bg_tab hv]; exact decide_eq_decide.2 (by omega)
def baseE (g : Grf) (b : Blk) : List Bool := tabN g.vars.toNat (frK g b)
def kpE (g : Grf) (b : Blk) : List Bool := keepT g (if b.next.length = 0 then g.keep.toNat else 0)
theorem base_2 {g : Grf} {b : Blk} (h : b.next.length = 2) (hc : 0 ≤ b.cond ∧ b.cond < g.vars) : (List.replicate g.vars.toNat false).set b.cond.toNat true = baseE g b := by
  refine tab_ext (by rw [List.length_set, List.length_replicate]) fun v hv => ?_
  rw [bg_set (by rw [List.length_replicate]; omega)]
  unfold frK
  rw [decide_eq_false (by omega : ¬ b.next.length = 0), decide_eq_true h, Bool.false_and, Bool.false_or, Bool.true_and]
  split
  · rename_i e; exact (decide_eq_true e).symm
  · rename_i e
    rw [decide_eq_false e]
    exact gt_eq (c := .bool) (by rw [List.getElem?_replicate, if_pos hv])
theorem base_0 {g : Grf} {b : Blk} (h : b.next.length = 0) : keepT g g.keep.toNat = baseE g b := by
  refine tab_ext tab_len fun v hv => ?_
  rw [show bg (keepT g g.keep.toNat) v = _ from bg_tab hv]
  unfold frK
  rw [decide_eq_false (by omega : ¬ b.next.length = 2), decide_eq_true h, Bool.true_and, Bool.false_and, Bool.or_false]
  exact decide_eq_decide.2 (by omega)
theorem base_1 {g : Grf} {b : Blk} (h : ¬ b.next.length = 0) (h2 : ¬ b.next.length = 2) : List.replicate g.vars.toNat false = baseE g b := by
  refine tab_ext List.length_replicate fun v hv => ?_
  unfold frK
  rw [decide_eq_false h, decide_eq_false h2, Bool.false_and, Bool.false_and, Bool.or_false]
  exact gt_eq (c := .bool) (by rw [List.getElem?_replicate, if_pos hv])
def docE (g : Grf) (B : List (List Bool)) (b : Blk) : List Bool := if b.next.length = 2 then (orNs (kpE g b) B b.next).set b.cond.toNat true else orNs (kpE g b) B b.next
theorem kp_len {g : Grf} {b : Blk} : (kpE g b).length = g.vars.toNat := tab_len
theorem kp_at {g : Grf} {b : Blk} {v : Nat} (h : v < g.vars.toNat) : bg (kpE g b) v = (decide (b.next.length = 0) && decide ((v : Int) < g.keep)) := by
  show bg (tabN _ _) v = _
  rw [bg_tab h]
  by_cases e : b.next.length = 0
  · rw [if_pos e, decide_eq_true e, Bool.true_and]; exact decide_eq_decide.2 (by omega)
  · rw [if_neg e, decide_eq_false e, Bool.false_and]; exact decide_eq_false (Nat.not_lt_zero v)
theorem doc_step {g : Grf} {B : List (List Bool)} {b : Blk} (hc : b.next.length = 2 → 0 ≤ b.cond ∧ b.cond < g.vars) : docE g B b = freshE g B b := by
  unfold docE
  split
  · rename_i h2
    have hc := hc h2
    refine tab_ext (by rw [List.length_set, orNs_len, kp_len]) fun v hv => ?_
    rw [bg_set (by rw [orNs_len, kp_len]; omega)]
    unfold frB frK
    rw [decide_eq_true h2]
    split
    · rename_i e; rw [decide_eq_true e]; simp
    · rename_i e
      rw [decide_eq_false e, orNs_at (by rw [kp_len]; exact hv), kp_at hv]; simp
  · rename_i h2
    refine tab_ext (by rw [orNs_len, kp_len]) fun v hv => ?_
    unfold frB frK
    rw [decide_eq_false h2, orNs_at (by rw [kp_len]; exact hv), kp_at hv]; simp
structure InvE (g : Grf) (s : S2) : Prop where
  l : s.1.length = g.blks.length
  r : ∀ i, i < g.blks.length → (bl s.1 i).length = g.vars.toNat
  lo : ∀ i, i < g.blks.length → LeB (baseE g (bk g i)) (bl s.1 i)
  hi : ∀ i, i < g.blks.length → LeB (bl s.1 i) (freshE g s.2 (bk g i))
theorem prog_step {g : Grf} {s : S2} {i : Nat} (h : InvE g s) (hi : i < g.blks.length) : orNs (bl s.1 i) s.2 (bk g i).next = freshE g s.2 (bk g i) := by
  refine tab_ext (by rw [orNs_len]; exact h.r i hi) fun v hv => ?_
  have hr := h.r i hi
  rw [orNs_at (by rw [hr]; exact hv)]
  have h1 := (h.lo i hi).2 v
  have h2 := (h.hi i hi).2 v
  rw [show bg (baseE g (bk g i)) v = _ from bg_tab hv] at h1
  rw [show bg (freshE g s.2 (bk g i)) v = _ from bg_tab hv] at h2
  revert h1 h2
  unfold frB
  cases bg (bl s.1 i) v <;> cases frK g (bk g i) v <;> simp
theorem stepE_inv {g : Grf} {s : S2} {i : Nat} (hB : InvB g s.2) (h : InvE g s) (hi : i < g.blks.length) : InvE g (stepL g s i) := by
  have hle := step_le hB hi
  have h1 : ∀ j, bl (stepL g s i).1 j = if j = i then freshE g s.2 (bk g i) else bl s.1 j := fun j => bl_set (h.l ▸ hi)
  refine ⟨by show (s.1.set i _).length = _; rw [List.length_set]; exact h.l, fun j hj => ?_, fun j hj => ?_, fun j hj => ?_⟩
  · rw [h1]
    split
    · exact fresh_len
    · exact h.r j hj
  · rw [h1]
    split
    · rename_i e; subst e; exact (h.lo j hj).trans (h.hi j hj)
    · exact h.lo j hj
  · rw [h1]
    split
    · rename_i e; subst e; exact fresh_le hle
    · exact (h.hi j hj).trans (fresh_le hle)
theorem base_inv {g : Grf} : InvE g (g.blks.map (baseE g), zeroL g) := by
  have h0 : ∀ i, i < g.blks.length → bl (g.blks.map (baseE g)) i = baseE g (bk g i) := fun i hi => gt_eq (c := .bools) (by rw [List.getElem?_map, gt_at (c := .block) hi]; rfl)
  refine ⟨List.length_map _, fun i hi => by rw [h0 i hi]; exact tab_len, fun i hi => by rw [h0 i hi]; exact LeB.refl _, fun i hi => ?_⟩
  rw [h0 i hi]
  refine ⟨by rw [fresh_len]; exact tab_len, fun v q => ?_⟩
  have hv := bg_lt q
  rw [show (baseE g (bk g i)).length = _ from tab_len] at hv
  rw [show bg (baseE g (bk g i)) v = _ from bg_tab hv] at q
  rw [show bg (freshE g _ (bk g i)) v = _ from bg_tab hv]
  unfold frB
  rw [q]; rfl
theorem fix_go {g : Grf} {f : Nat} {s t : S2} (hf : 1 ≤ f) (hp : t = passL g g.blks.length s) (hne : ¬ t.2 = s.2) : fixL g f s = fixL g (f - 1) t := by
  obtain ⟨k, rfl⟩ : ∃ k, f = k + 1 := ⟨f - 1, by omega⟩
  show (if _ then _ else _) = _
  rw [← hp, if_neg hne]; rfl
theorem fix_end {g : Grf} {f : Nat} {s t : S2} (hf : 1 ≤ f) (hp : t = passL g g.blks.length s) (he : t.2 = s.2) : fixL g f s = t := by
  obtain ⟨k, rfl⟩ : ∃ k, f = k + 1 := ⟨f - 1, by omega⟩
  show (if _ then _ else _) = _
  rw [← hp, if_pos he]
theorem set_same {L : List (List Bool)} {i : Nat} (h : i < L.length) : L.set i (gt (c := .bools) L i) = L := by
  refine gt_ext (c := .bools) (List.length_set) fun j hj => ?_
  show bl _ j = bl L j
  rw [bl_set h]
  split
  · rename_i e; rw [e]
  · rfl
theorem setB_row {L : List (List Bool)} {i k : Nat} {x : List Bool} {y : Bool} (hi : i < L.length) : (L.set i x).set i (List.set (gt (c := .bools) (L.set i x) i) k y) = L.set i (x.set k y) := by
  rw [gt_set_eq (c := .bools) hi, List.set_set]
theorem or_row {E : List (List Bool)} {i v : Nat} {e b : List Bool} (hi : i < E.length) (hv : v < e.length) {y : Bool} (hy : y = (bg (orT e b v) v || bg b v)) : (E.set i (orT e b v)).set i (List.set (gt (c := .bools) (E.set i (orT e b v)) i) v y) = E.set i (orT e b (v + 1)) := by
  rw [setB_row hi, hy, orT_s hv]
theorem or_row_t {E : List (List Bool)} {i v : Nat} {e b : List Bool} (hi : i < E.length) (hv : v < e.length) (h : gt (c := .bool) (gt (c := .bools) (E.set i (orT e b v)) i) v = true) : (E.set i (orT e b v)).set i (List.set (gt (c := .bools) (E.set i (orT e b v)) i) v true) = E.set i (orT e b (v + 1)) := by
  refine or_row hi hv ?_
  rw [gt_set_eq (c := .bools) hi] at h
  rw [show bg (orT e b v) v = true from h]; rfl
theorem or_row_f {E : List (List Bool)} {i v : Nat} {e b : List Bool} (hi : i < E.length) (hv : v < e.length) (h : gt (c := .bool) (gt (c := .bools) (E.set i (orT e b v)) i) v = false) : (E.set i (orT e b v)).set i (List.set (gt (c := .bools) (E.set i (orT e b v)) i) v (gt (c := .bool) b v)) = E.set i (orT e b (v + 1)) := by
  refine or_row hi hv ?_
  rw [gt_set_eq (c := .bools) hi] at h
  rw [show bg (orT e b v) v = false from h]; rfl
theorem chg_t {B B1 : List (List Bool)} {i : Nat} {x : List Bool} (h : LeBB B B1) (h2 : LeBB B1 (B1.set i x)) (hi : i < B1.length) (hx : ¬ x = gt (c := .bools) B1 i) : ¬ B1.set i x = B := by
  intro e
  have e1 : B = B1 := gt_ext (c := .bools) h.1 fun j _ => LeB.eq (h.2 j) (by rw [← e]; exact h2.2 j)
  apply hx
  have : gt (c := .bools) (B1.set i x) i = x := gt_set_eq (c := .bools) hi
  rw [e, e1] at this
  exact this.symm
end Go.Proofs.Ytonjbhdfimcedaa
namespace Go.Proofs.Ytonjbhdfimcedaa
open Go.RowKit
inductive Rch (g : Grf) : Nat → Prop where
  | z : Rch g 0
  | s {b : Nat} {n : Int} : Rch g b → b < g.blks.length → n ∈ (gt (c := .block) g.blks b).next → Rch g n.toNat
def RchL (g : Grf) (R : List Bool) : Prop := R.length = g.blks.length ∧ ∀ b, b < g.blks.length → (bg R b = true ↔ Rch g b)
theorem rch_uniq {g : Grf} {R R' : List Bool} (h : RchL g R) (h' : RchL g R') : R = R' :=
  gt_ext (c := .bool) (h.1.trans h'.1.symm) fun b hb => by
    have h1 := h.2 b (h.1 ▸ hb)
    have h2 := h'.2 b (h.1 ▸ hb)
    have h3 : bg R b = true ↔ bg R' b = true := h1.trans h2.symm
    show bg R b = bg R' b
    revert h3
    cases bg R b <;> cases bg R' b <;> simp
theorem rch_end {g : Grf} {R : List Bool} (hl : R.length = g.blks.length) (hs : ∀ b, bg R b = true → Rch g b) (h0 : bg R 0 = true)
    (hc : ∀ b, bg R b = true → ∀ n ∈ (gt (c := .block) g.blks b).next, bg R n.toNat = true) : RchL g R := by
  refine ⟨hl, fun b _ => ⟨hs b, fun h => ?_⟩⟩
  induction h with
  | z => exact h0
  | s _ _ hn ih => exact hc _ (ih (by assumption)) _ hn
structure InvP (g : Grf) (R : List Bool) (T : List Int) : Prop where
  l : R.length = g.blks.length
  s : ∀ b, bg R b = true → Rch g b
  o : bg R 0 = true
  t : ∀ x ∈ T, 0 ≤ x ∧ x < (g.blks.length : Int) ∧ bg R x.toNat = true
  c : ∀ b, bg R b = true → (b : Int) ∈ T ∨ ∀ n ∈ (gt (c := .block) g.blks b).next, bg R n.toNat = true
theorem InvP.fin {g : Grf} {R : List Bool} (h : InvP g R []) : RchL g R := rch_end h.l h.s h.o fun b hb => (h.c b hb).elim (fun q => absurd q List.not_mem_nil) id
structure InvD (g : Grf) (R : List Bool) (T : List Int) : Prop where
  l : R.length = g.blks.length
  s : ∀ b, bg R b = true → Rch g b
  o : bg R 0 = true ∨ (0 : Int) ∈ T
  t : ∀ x ∈ T, 0 ≤ x ∧ x < (g.blks.length : Int) ∧ Rch g x.toNat
  c : ∀ b, bg R b = true → ∀ n ∈ (gt (c := .block) g.blks b).next, bg R n.toNat = true ∨ n ∈ T
theorem InvD.fin {g : Grf} {R : List Bool} (h : InvD g R []) : RchL g R :=
  rch_end h.l h.s (h.o.elim id fun q => absurd q List.not_mem_nil) fun b hb n hn => (h.c b hb n hn).elim id fun q => absurd q List.not_mem_nil
theorem cF_set : ∀ {l : List Bool} {i : Nat}, i < l.length → bg l i = false → cF (l.set i true) + 1 = cF l
  | [], _, h, _ => absurd h (Nat.not_lt_zero _)
  | x :: l, 0, _, h => by
    have : x = false := h
    subst this
    rfl
  | x :: l, i + 1, h, hb => by
    have ih := cF_set (l := l) (i := i) (Nat.lt_of_succ_lt_succ h) hb
    cases x
    · show cF (l.set i true) + 1 + 1 = cF l + 1
      omega
    · exact ih
theorem bg_setT {l : List Bool} {i j : Nat} (hi : i < l.length) : bg (l.set i true) j = true ↔ (j = i ∨ bg l j = true) := by
  rw [bg_set hi]
  by_cases e : j = i
  · rw [if_pos e]; exact ⟨fun _ => .inl e, fun _ => rfl⟩
  · rw [if_neg e]; exact ⟨.inr, fun q => q.elim (fun r => absurd r e) id⟩
theorem InvD.start {g : Grf} {R : List Bool} (hl : R.length = g.blks.length) (h0 : 0 < g.blks.length) (hf : ∀ b, bg R b = false) : InvD g R [0] := by
  refine ⟨hl, fun b h => (by rw [hf b] at h; cases h), .inr (by simp), fun x hx => ?_, fun b h => (by rw [hf b] at h; cases h)⟩
  simp only [List.mem_cons, List.not_mem_nil, or_false] at hx
  subst hx
  exact ⟨by omega, by omega, .z⟩
theorem InvD.skip {g : Grf} {R : List Bool} {x : Int} {T : List Int} (h : InvD g R (x :: T)) (hx : bg R x.toNat = true) : InvD g R T := by
  refine ⟨h.l, h.s, h.o.elim .inl fun q => ?_, fun y hy => h.t y (List.mem_cons_of_mem x hy), fun b hb n hn => (h.c b hb n hn).elim .inl fun q => ?_⟩
  · rcases List.mem_cons.1 q with e | e
    · exact .inl (by rw [← e] at hx; exact hx)
    · exact .inr e
  · rcases List.mem_cons.1 q with e | e
    · exact .inl (by rw [e]; exact hx)
    · exact .inr e
theorem InvD.take {g : Grf} {R : List Bool} {x : Int} {T : List Int} (hn : ∀ y ∈ g.blks, ∀ n ∈ y.next, 0 ≤ n ∧ n < (g.blks.length : Int)) (h : InvD g R (x :: T)) : InvD g (R.set x.toNat true) (T ++ (gt (c := .block) g.blks x.toNat).next) := by
  obtain ⟨x0, x1, xr⟩ := h.t x List.mem_cons_self
  have hi : x.toNat < R.length := by rw [h.l]; omega
  have hxb : x.toNat < g.blks.length := by omega
  refine ⟨by rw [List.length_set]; exact h.l, fun b hb => ?_, ?_, fun y hy => ?_, fun b hb n hm => ?_⟩
  · rcases (bg_setT hi).1 hb with e | e
    · rw [e]; exact xr
    · exact h.s b e
  · rcases h.o with e | e
    · exact .inl ((bg_setT hi).2 (.inr e))
    · rcases List.mem_cons.1 e with q | q
      · exact .inl ((bg_setT hi).2 (.inl (by omega)))
      · exact .inr (List.mem_append_left _ q)
  · rcases List.mem_append.1 hy with q | q
    · exact h.t y (List.mem_cons_of_mem x q)
    · have := hn _ (mem_gt (c := .block) hxb) y q
      exact ⟨this.1, this.2, .s xr hxb q⟩
  · rcases (bg_setT hi).1 hb with e | e
    · subst e; exact .inr (List.mem_append_right _ hm)
    · rcases h.c b e n hm with q | q
      · exact .inl ((bg_setT hi).2 (.inr q))
      · rcases List.mem_cons.1 q with r | r
        · exact .inl ((bg_setT hi).2 (.inl (by rw [r])))
        · exact .inr (List.mem_append_left _ r)
structure InvQ (g : Grf) (x : Nat) (k : Nat) (R : List Bool) (T : List Int) : Prop where
  l : R.length = g.blks.length
  s : ∀ b, bg R b = true → Rch g b
  o : bg R 0 = true
  w : bg R x = true ∧ x < g.blks.length
  t : ∀ y ∈ T, 0 ≤ y ∧ y < (g.blks.length : Int) ∧ bg R y.toNat = true
  c : ∀ b, bg R b = true → (b : Int) ∈ T ∨ (∀ n ∈ (gt (c := .block) g.blks b).next, bg R n.toNat = true) ∨ b = x
  d : ∀ n ∈ (gt (c := .block) g.blks x).next.take k, bg R n.toNat = true
theorem InvP.pop {g : Grf} {R : List Bool} {x : Int} {T : List Int} (h : InvP g R (x :: T)) : InvQ g x.toNat 0 R T := by
  obtain ⟨x0, x1, xr⟩ := h.t x List.mem_cons_self
  refine ⟨h.l, h.s, h.o, ⟨xr, by omega⟩, fun y hy => h.t y (List.mem_cons_of_mem x hy), fun b hb => ?_, fun n hn => absurd hn List.not_mem_nil⟩
  rcases h.c b hb with q | q
  · rcases List.mem_cons.1 q with e | e
    · exact .inr (.inr (by omega))
    · exact .inl e
  · exact .inr (.inl q)
theorem InvQ.done {g : Grf} {R : List Bool} {x : Nat} {T : List Int} (h : InvQ g x (gt (c := .block) g.blks x).next.length R T) : InvP g R T := by
  refine ⟨h.l, h.s, h.o, h.t, fun b hb => ?_⟩
  rcases h.c b hb with q | q | q
  · exact .inl q
  · exact .inr q
  · subst q
    have := h.d
    rw [List.take_length] at this
    exact .inr this
theorem InvQ.skip {g : Grf} {R : List Bool} {x k : Nat} {T : List Int} (h : InvQ g x k R T) (hk : k < (gt (c := .block) g.blks x).next.length) (hb : bg R (gt (c := .int) (gt (c := .block) g.blks x).next k : Int).toNat = true) : InvQ g x (k + 1) R T := by
  refine ⟨h.l, h.s, h.o, h.w, h.t, h.c, fun n hn => ?_⟩
  rw [take_snoc (c := .int) hk] at hn
  rcases List.mem_append.1 hn with q | q
  · exact h.d n q
  · simp only [List.mem_cons, List.not_mem_nil, or_false] at q
    rw [q]; exact hb
theorem InvQ.mark {g : Grf} {R : List Bool} {x k : Nat} {T : List Int} (hn : ∀ y ∈ g.blks, ∀ n ∈ y.next, 0 ≤ n ∧ n < (g.blks.length : Int)) (h : InvQ g x k R T) (hk : k < (gt (c := .block) g.blks x).next.length) :
    InvQ g x (k + 1) (R.set (gt (c := .int) (gt (c := .block) g.blks x).next k : Int).toNat true) (T ++ [gt (c := .int) (gt (c := .block) g.blks x).next k]) := by
  have hm : gt (c := .int) (gt (c := .block) g.blks x).next k ∈ (gt (c := .block) g.blks x).next := mem_gt (c := .int) hk
  generalize hv : (gt (c := .int) (gt (c := .block) g.blks x).next k : Int) = v at hm ⊢
  obtain ⟨v0, v1⟩ := hn _ (mem_gt (c := .block) h.w.2) v hm
  have hi : v.toNat < R.length := by rw [h.l]; omega
  refine ⟨by rw [List.length_set]; exact h.l, fun b hb => ?_, (bg_setT hi).2 (.inr h.o), ⟨(bg_setT hi).2 (.inr h.w.1), h.w.2⟩, fun y hy => ?_, fun b hb => ?_, fun n hn2 => ?_⟩
  · rcases (bg_setT hi).1 hb with e | e
    · rw [e]; exact .s (h.s x h.w.1) h.w.2 hm
    · exact h.s b e
  · rcases List.mem_append.1 hy with q | q
    · obtain ⟨a, b, c⟩ := h.t y q
      exact ⟨a, b, (bg_setT hi).2 (.inr c)⟩
    · simp only [List.mem_cons, List.not_mem_nil, or_false] at q
      subst q
      exact ⟨v0, v1, (bg_setT hi).2 (.inl rfl)⟩
  · rcases (bg_setT hi).1 hb with e | e
    · refine .inl (List.mem_append_right _ ?_)
      have : (b : Int) = v := by omega
      rw [this]; exact List.mem_singleton.2 rfl
    · rcases h.c b e with q | q | q
      · exact .inl (List.mem_append_left _ q)
      · exact .inr (.inl fun n hm2 => (bg_setT hi).2 (.inr (q n hm2)))
      · exact .inr (.inr q)
  · rw [take_snoc (c := .int) hk] at hn2
    rcases List.mem_append.1 hn2 with q | q
    · exact (bg_setT hi).2 (.inr (h.d n q))
    · simp only [List.mem_cons, List.not_mem_nil, or_false] at q
      rw [q]
      exact (bg_setT hi).2 (.inl (congrArg Int.toNat hv))
end Go.Proofs.Ytonjbhdfimcedaa
namespace Go.Proofs.Ytonjbhdfimcedaa
open Go.RowKit
theorem castL_self {c : Ty} {l : List (El c)} : castL (c' := c) l = some l := by cases c <;> rfl
theorem srcS_vw {mem : List (Nat × MB)} {c : Ty} {l : List (El c)} {k i n : Nat} (hm : find mem k = some (.list .own c l)) (hc : noSl (cks c) = true) (hin : i + n = l.length) :
    ∃ obs, srcS mem c (.vw ⟨k, []⟩ (wid c) i n none) = some ((l.drop i).take n, [], false, obs) ∧ AllP obs := by
  refine ⟨(i + n ≤ l.length) :: app (leP n none) [], ?_, ?_⟩
  · simp only [srcS, hm, Nat.beq_refl, descE, castL_self, srcK, hc]
  · exact ⟨by omega, trivial⟩
theorem add_none {a : Addr} {d : Nat} (h : a.spot = none) : a.add d = ⟨a.block, a.off + d, none⟩ := by
  obtain ⟨b, o, sp⟩ := a
  simp only at h
  subst h
  unfold Addr.add
  split
  · rename_i e; subst e; rfl
  · rfl
theorem Rep.tail {x : Cx} {g : Gx} {V : Vl} {s : St} {act : Act} {w : World} (h : Rep x g V s act w) {c : Ty} {l : List (El c)} {k i n : Nat} (hm : find s.mem k = some (.list .own c l)) (hc : noSl (cks c) = true) (hin : i + n = l.length) :
    ∃ V', Rep x g V' ⟨s.env, (s.nb, .list .own c (l.drop i)) :: killL [k] s.mem, s.nb + 1⟩ act w ∧ AgrB s.nb V' V ∧ den V' (.sl ⟨s.nb, []⟩) = den V (.vw ⟨k, []⟩ (wid c) i n none) := by
  obtain ⟨obs, hs, ho⟩ := srcS_vw hm hc hin
  obtain ⟨a, cap, news, pv, S⟩ := srcS_ok (md := .own) h.ents hs ho (fun e => by cases e)
  have ht : (l.drop i).take n = l.drop i := List.take_of_length_le (by rw [List.length_drop]; omega)
  rw [ht] at S
  have hl : (l.drop i).length = n := by rw [List.length_drop]; omega
  have hcont : cont s.mem ⟨k, []⟩ = some (.list .own c l) := cont_iff.2 ⟨_, hm, rfl⟩
  obtain ⟨a1, a2, a3, _⟩ := h.ents.at_ _ _ hcont
  have hd : Value.slice ((V ⟨k, []⟩).vw (wid c) i n none).a n ((V ⟨k, []⟩).cap - i) = .slice a (l.drop i).length cap := S.den
  rw [hl] at hd
  injection hd with e1 _ e2
  have hle : i ≤ (V ⟨k, []⟩).cap := by omega
  refine ⟨_, h.list (md := .own) (.inl rfl) (S.rows.mono (ks' := [k]) (fun _ q => absurd q List.not_mem_nil) id) (fun y hy => by rw [List.mem_singleton.1 hy]; exact (h.ents.ok k _ hm).1) (L := (V ⟨k, []⟩).vw (wid c) i n none) hl.symm (by show _ ≤ (V ⟨k, []⟩).cap - i; omega) ?_ (fun j u hu => ?_) (some k) (fun hne => ?_) (fun kb e => by cases e; exact List.mem_singleton.2 rfl) (fun a j ρ kb h1 h2 h3 => ?_) (Nat.le_refl _) (fun b _ _ => rfl) (SIO.refl w), Vl.ext_agr, ?_⟩
  · rcases a3 rfl with q | ⟨a0, cs, t, q1, q2, q3, q4, q5⟩
    · exact .inl (by show (V ⟨k, []⟩).cap - i = 0; omega)
    · by_cases hz : (V ⟨k, []⟩).cap - i = 0
      · exact .inl hz
      · refine .inr ⟨a0.add (i * wid c), cs, t, ?_, ?_, ?_, ?_, by show (V ⟨k, []⟩).cap - i ≤ maxLen; omega⟩
        · show (if (V ⟨k, []⟩).cap - i = 0 then _ else _) = _
          rw [if_neg hz, q1]; rfl
        · rw [add_none q2]
        · rw [add_none q2]; exact q3
        · rw [add_none q2]
          show a0.off + i * wid c + ((V ⟨k, []⟩).cap - i) * wid c ≤ cs.size
          have : i * wid c + ((V ⟨k, []⟩).cap - i) * wid c = (V ⟨k, []⟩).cap * wid c := by rw [← Nat.add_mul]; congr 1; omega
          omega
  · have hpos : 0 < news.length := by have := (List.getElem?_eq_some_iff.1 hu).1; omega
    have hn : 0 < n := Nat.pos_of_ne_zero fun e => by rw [S.rows.len, hl, e, Nat.zero_mul] at hpos; omega
    rcases a3 rfl with q | ⟨a0, cs, t, q1, q2, q3, q4, q5⟩
    · omega
    · have hLa : ((V ⟨k, []⟩).vw (wid c) i n none).a = some (a0.add (i * wid c)) := by
        show (if (V ⟨k, []⟩).cap - i = 0 then _ else _) = _
        rw [if_neg (by omega), q1]; rfl
      obtain ⟨ad, e3, e4⟩ := S.read j u hu
      rw [← e1, hLa] at e3
      cases e3
      have hsp : (a0.add (i * wid c)).spot = none := by rw [add_none q2]
      rw [add_none hsp] at e4
      exact ⟨_, hLa, hsp, e4⟩
  · have hcap : (V ⟨k, []⟩).cap - i ≠ 0 := hne
    refine ⟨List.mem_singleton.2 rfl, _, hcont, by show (V ⟨k, []⟩).cap ≠ 0; omega, rfl, ?_⟩
    rcases a3 rfl with q | ⟨a0, cs, t, q1, q2, q3, q4, q5⟩
    · omega
    · unfold Loc.b
      have hLa : ((V ⟨k, []⟩).vw (wid c) i n none).a = some (a0.add (i * wid c)) := by
        show (if (V ⟨k, []⟩).cap - i = 0 then _ else _) = _
        rw [if_neg hcap, q1]; rfl
      simp only [hLa, q1]
      rw [add_none q2]
  · have hk : find s.mem ρ.k = some (.list .own c l) := by cases h2; rw [h3]; exact hm
    exact (S.own2 a j ρ _ _ _ h1 hk (by intro e; cases e)).elim (fun q => absurd q List.not_mem_nil) id
  · simp only [den, Vl.ext_new, nlF, Loc.hd]
def tailE (s : St) (t : Nat) : StepR := match find s.env t with
  | some (.vw ⟨k, []⟩ es i n none) => match find s.mem k, Nat.beq es 1 with
    | some (.list .own .int l), true => match s with
      | ⟨env, mem, nb⟩ => nx nb fun nb' => some (⟨(t, .sl ⟨nb, []⟩) :: env, (nb, .list .own .int (l.drop i)) :: killL [k] mem, nb'⟩, [i + n = l.length])
    | _, _ => none
  | _ => none
theorem tailE_ok {x : Cx} {s : St} {t : Nat} {s' : St} {obs : List Prop} (h : tailE s t = some (s', obs)) (ho : AllP obs) : Toward x s s' := by
  refine ⟨fun g V a w hr => ?_⟩
  unfold tailE at h
  split at h
  · rename_i k es i n hp
    split at h
    · rename_i l hm hes
      obtain ⟨env, mem, nb⟩ := s
      simp only [nx_eq, Option.some.injEq, Prod.mk.injEq] at h
      obtain ⟨rfl, rfl⟩ := h
      have hes := Nat.eq_of_beq_eq_true hes
      subst hes
      obtain ⟨V', h1, h2, h3⟩ := hr.tail (c := .int) (i := i) (n := n) hm rfl ho.1
      refine ⟨V', h1.defers, h1.size, fun u z hu => ?_, envOk_put h1.envOk (by simp [okV, Nat.blt_eq]), h1.ents.env, h1.frame, h1.own, h1.pin, h1.d0⟩
      rw [find_cons] at hu
      split at hu
      · rename_i e; subst e; cases hu; rw [h3]; exact hr.env _ _ hp
      · exact h1.env u z hu
    · cases h
  · cases h
section
variable {x : Cx} {Q : Exit → St → Prop} {obs : List Prop} {K : List Kf}
theorem g_tailC (hL : LayOk x.P x.L) (fuel t : Nat) {d : Code} {s s' : St} {ob : List Prop} (ho : AllP obs) (hc : tailE s t = some (s', ob)) (ho1 : AllP ob) (hk : Good x Q (run x fuel [] (.code d) K s')) : Good x Q (.code obs d K s) := by
  refine ⟨ho, ?_⟩
  have h1 := (run_ok hL hk).2
  exact ⟨fun g V a w hr => by
    obtain ⟨V', hr'⟩ := (tailE_ok hc ho1).run g V a w hr
    exact h1.run g V' a w hr'⟩
theorem g_tailM (hL : LayOk x.P x.L) (fuel t : Nat) {d : Code} {s s' : St} {ob : List Prop} (ho : AllP obs) (hc : tailE s t = some (s', ob)) (ho1 : AllP ob) (hk : Good x Q (run x fuel [] (.code d) K s')) : Good x Q (.out obs (.code d) K s) := by
  refine ⟨ho, ?_⟩
  have h1 := (run_ok hL hk).2
  exact ⟨fun g V a w hr => by
    obtain ⟨V', hr'⟩ := (tailE_ok hc ho1).run g V a w hr
    exact h1.run g V' a w hr'⟩
end
end Go.Proofs.Ytonjbhdfimcedaa
