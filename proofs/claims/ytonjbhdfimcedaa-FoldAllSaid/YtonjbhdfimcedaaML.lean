/- Is a number in a list: the document. -/
import Derived.Test.YtonjbhdfimcedaaMK
namespace Go.Proofs.Ytonjbhdfimcedaa
set_option linter.unusedVariables false
set_option linter.unusedSimpArgs false
open Go.RowKit
def eqB (n m : Int) : Bool := decide (m = n)
theorem eq_t {n m : Int} (h : m = n) : eqB n m = true := decide_eq_true h
theorem eq_f {n m : Int} (h : ¬ m = n) : eqB n m = false := decide_eq_false h
def hasB (l : List Int) (n : Int) : Bool := l.any (eqB n)
theorem met_has {l : List Int} {k : Nat} {x : Int} (h : k ≤ l.length) : hasB (l.take k) x = metB l k x := by
  apply Bool.eq_iff_iff.2
  unfold hasB metB
  rw [List.any_eq_true, List.any_eq_true]
  constructor
  · rintro ⟨m, h1, h2⟩
    obtain ⟨j, hj, e⟩ := List.mem_iff_getElem.1 h1
    rw [List.length_take] at hj
    refine ⟨j, List.mem_range.2 (by omega), ?_⟩
    rw [List.getElem_take] at e
    have e2 : gt (c := .int) l j = m := by rw [gt_eq (c := .int) (List.getElem?_eq_getElem (by omega))]; exact e
    rw [e2]; exact h2
  · rintro ⟨j, h1, h2⟩
    have hj := List.mem_range.1 h1
    refine ⟨gt (c := .int) l j, ?_, h2⟩
    rw [List.mem_iff_getElem]
    refine ⟨j, by rw [List.length_take]; omega, ?_⟩
    rw [List.getElem_take, gt_eq (c := .int) (List.getElem?_eq_getElem (by omega))]
set_option maxHeartbeats 1000000 in
theorem r_has (l : List Int) (n : Int) (hl : l.length ≤ 1048576) : Trip Try.prog 65 [.sl ⟨0, []⟩, .int .i64 n] ⟨[], [(0, .list .tmp .int l)], 1⟩ (Z := Unit) (fun _ => True) (fun _ => .bool (hasB l n)) (fun _ => ⟨[], [(0, .list .tmp .int l)], 1⟩) := by
  refine trip_by (rs := [_]) 400 lay_ok Try.func65 rfl (by kernel_rfl) Try.ntmps65 Try.results65 rfl rfl ?_
  repeat' (first | (((with_reducible refine g_id ?_); (conv => arg 3; whnf)); first | (with_reducible refine g_split lay_ok 400 ?_ ?_ ?_)))
  refine g_loop lay_ok 400 (Z := Nat) (fun i => i ≤ l.length ∧ ∀ k, k < i → (eqB n) (gt (c := .int) l k) = false) (fun i => ⟨[(0, .sl ⟨0, []⟩), (1, .int .i64 n), (5, .int .i64 (i : Int))], [(0, .list .tmp .int l)], 1⟩) (fun i => l.length - i) ?_ ⟨0, ⟨Nat.zero_le _, fun k hk => by omega⟩, ?_⟩ (fun i hi => ?_)
  · repeat' (first | ((with_reducible refine o_id ?_); (conv => arg 1; whnf); first | (with_reducible exact o_nil)))
  · ((with_reducible refine s_id ?_); (conv => arg 1; whnf); (with_reducible refine s_some ?_); repeat' (first | ((with_reducible refine o_id ?_); (conv => arg 1; whnf); first | (with_reducible exact o_nil) | (with_reducible refine o_cons ?_ ?_)) | rfl))
  obtain ⟨hi, hn⟩ := hi
  by_cases hlt : i < l.length
  · repeat' (first | (((with_reducible refine g_id ?_); (conv => arg 3; whnf)); first | (with_reducible refine g_cond lay_ok 400 ?_ ?_ ?_) | (with_reducible refine g_fin ?_ ?_)) | (with_reducible refine q_ret lay_ok 400 ?_) | (with_reducible exact o_nil) | ((with_reducible refine o_id ?_); (conv => arg 1; whnf); first | (with_reducible exact o_nil) | (with_reducible refine o_cons ?_ ?_)) | (intro h; ((try simp only [Int.toNat_natCast] at h); repeat (first | replace h := of_decide_eq_true h | replace h := of_decide_eq_false h)); (try (first | (exfalso; omega)))) | omega)
    all_goals first | (refine q_round ⟨i + 1, ⟨by omega, gt_next (c := .int) hn (eq_f h)⟩, by omega, ?_⟩; ((with_reducible refine s_id ?_); (conv => arg 1; whnf); (with_reducible refine s_some ?_); repeat' (first | ((with_reducible refine o_id ?_); (conv => arg 1; whnf); first | (with_reducible exact o_nil) | (with_reducible refine o_cons ?_ ?_)) | rfl))) | ((((with_reducible refine e_id ?_); (conv => whnf)); refine ⟨(), trivial, ?_⟩; ((with_reducible refine s_id ?_); (conv => arg 1; whnf); (with_reducible refine s_some ?_); repeat' (first | ((with_reducible refine o_id ?_); (conv => arg 1; whnf); first | (with_reducible exact o_nil) | (with_reducible refine o_cons ?_ ?_)) | rfl | (exact any_gt_t (c := .int) hlt (eq_t h))))))
  · repeat' (first | (((with_reducible refine g_id ?_); (conv => arg 3; whnf)); first | (with_reducible refine g_cond lay_ok 400 ?_ ?_ ?_) | (with_reducible refine g_fin ?_ ?_)) | (with_reducible refine q_leave lay_ok 400 ?_) | (with_reducible exact o_nil) | ((with_reducible refine o_id ?_); (conv => arg 1; whnf); first | (with_reducible exact o_nil)) | (intro h; ((try simp only [Int.toNat_natCast] at h); repeat (first | replace h := of_decide_eq_true h | replace h := of_decide_eq_false h)); (try (first | (exfalso; omega)))))
    all_goals (((with_reducible refine e_id ?_); (conv => whnf)); refine ⟨(), trivial, ?_⟩; ((with_reducible refine s_id ?_); (conv => arg 1; whnf); (with_reducible refine s_some ?_); repeat' (first | ((with_reducible refine o_id ?_); (conv => arg 1; whnf); first | (with_reducible exact o_nil) | (with_reducible refine o_cons ?_ ?_)) | rfl | (exact any_gt_f (c := .int) (n := i) hn (by omega)))))
end Go.Proofs.Ytonjbhdfimcedaa
