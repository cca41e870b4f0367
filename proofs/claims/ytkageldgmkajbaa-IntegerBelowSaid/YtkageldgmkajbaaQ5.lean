/- Parts of the proof. No condition. -/
import Derived.Test.YtkageldgmkajbaaQ4
set_option linter.unusedVariables false
set_option linter.unusedSimpArgs false
set_option linter.unusedSectionVars false
namespace Go.Proofs.Ytkageldgmkajbaa
open Go.RowKit
attribute [local irreducible] tmB rwsB rwB tm1 trmN
theorem c_clone_t (l : List Term) (hl : l.length ≤ 1000) : Trip Try.prog 27 [.sl ⟨0, []⟩] ⟨[], [(0, .list .tmp .term l)], 1⟩ (Z := Unit) (fun _ => True) (fun _ => .sl ⟨1, []⟩) (fun _ => ⟨[], [(0, .list .tmp .term l), (1, .list .own .term l)], 2⟩) := by
  refine trip_by (rs := [_]) 400 lay_ok Try.func27 rfl (by kernel_rfl) Try.ntmps27 Try.results27 rfl rfl ?_
  repeat' (first | (((with_reducible refine g_id ?_); (conv => arg 3; whnf)); first | (with_reducible refine g_split lay_ok 400 ?_ ?_ ?_) | (with_reducible refine g_cond lay_ok 400 ?_ ?_ ?_) | (with_reducible refine g_out lay_ok 400 ?_ ?_) | (with_reducible refine g_fin ?_ ?_) | (refine g_nilEq lay_ok 400 false rfl ?_ ?_ rfl rfl rfl rfl rfl rfl ?_ ?_) | (refine g_nilEq lay_ok 400 true rfl ?_ ?_ rfl rfl rfl rfl rfl rfl ?_ ?_)) | (with_reducible refine q_leave lay_ok 400 ?_) | (with_reducible refine q_ret lay_ok 400 ?_) | (with_reducible exact o_nil) | (with_reducible refine o_cons ?_ ?_) | ((with_reducible refine o_id ?_); (conv => arg 1; whnf); first | (with_reducible exact o_nil) | (with_reducible refine o_cons ?_ ?_)) | (intro h; ((try simp only [Int.toNat_natCast] at h); repeat (first | replace h := of_decide_eq_true h | replace h := of_decide_eq_false h | replace h := not_t h | replace h := not_f h | replace h := eq_of_beq h)); (try (first | contradiction | (exfalso; omega) | exact Bool.noConfusion (h.symm.trans (by assumption) : true = false) | exact Bool.noConfusion (h.symm.trans (by assumption) : false = true) | exact absurd rfl h | exact absurd (by assumption) h | exact absurd h (by assumption)))) | rfl | omega | assumption | (simp only [List.length_append, List.length_cons, List.length_nil]; omega) | (simp only [Int.toNat_natCast]; omega))
  all_goals (((with_reducible refine e_id ?_); (conv => whnf)); refine ⟨(), trivial, ?_⟩; ((with_reducible refine s_id ?_); (conv => arg 1; whnf); (with_reducible refine s_some ?_); repeat' (first | (with_reducible exact o_nil) | (with_reducible refine o_cons ?_ ?_) | ((with_reducible refine o_id ?_); (conv => arg 1; whnf); first | (with_reducible exact o_nil) | (with_reducible refine o_cons ?_ ?_)) | rfl | omega | assumption | (simp only [List.length_append, List.length_cons, List.length_nil]; omega) | (exact List.length_eq_zero_iff.1 (by assumption)) | (exact (List.length_eq_zero_iff.1 (by assumption)).symm))))
theorem c_clone_i (l : List Int) (hl : l.length ≤ 1000) : Trip Try.prog 30 [.sl ⟨0, []⟩] ⟨[], [(0, .list .tmp .int l)], 1⟩ (Z := Unit) (fun _ => True) (fun _ => .sl ⟨1, []⟩) (fun _ => ⟨[], [(0, .list .tmp .int l), (1, .list .own .int l)], 2⟩) := by
  refine trip_by (rs := [_]) 400 lay_ok Try.func30 rfl (by kernel_rfl) Try.ntmps30 Try.results30 rfl rfl ?_
  repeat' (first | (((with_reducible refine g_id ?_); (conv => arg 3; whnf)); first | (with_reducible refine g_split lay_ok 400 ?_ ?_ ?_) | (with_reducible refine g_cond lay_ok 400 ?_ ?_ ?_) | (with_reducible refine g_out lay_ok 400 ?_ ?_) | (with_reducible refine g_fin ?_ ?_) | (refine g_nilEq lay_ok 400 false rfl ?_ ?_ rfl rfl rfl rfl rfl rfl ?_ ?_) | (refine g_nilEq lay_ok 400 true rfl ?_ ?_ rfl rfl rfl rfl rfl rfl ?_ ?_)) | (with_reducible refine q_leave lay_ok 400 ?_) | (with_reducible refine q_ret lay_ok 400 ?_) | (with_reducible exact o_nil) | (with_reducible refine o_cons ?_ ?_) | ((with_reducible refine o_id ?_); (conv => arg 1; whnf); first | (with_reducible exact o_nil) | (with_reducible refine o_cons ?_ ?_)) | (intro h; ((try simp only [Int.toNat_natCast] at h); repeat (first | replace h := of_decide_eq_true h | replace h := of_decide_eq_false h | replace h := not_t h | replace h := not_f h | replace h := eq_of_beq h)); (try (first | contradiction | (exfalso; omega) | exact Bool.noConfusion (h.symm.trans (by assumption) : true = false) | exact Bool.noConfusion (h.symm.trans (by assumption) : false = true) | exact absurd rfl h | exact absurd (by assumption) h | exact absurd h (by assumption)))) | rfl | omega | assumption | (simp only [List.length_append, List.length_cons, List.length_nil]; omega) | (simp only [Int.toNat_natCast]; omega))
  all_goals (((with_reducible refine e_id ?_); (conv => whnf)); refine ⟨(), trivial, ?_⟩; ((with_reducible refine s_id ?_); (conv => arg 1; whnf); (with_reducible refine s_some ?_); repeat' (first | (with_reducible exact o_nil) | (with_reducible refine o_cons ?_ ?_) | ((with_reducible refine o_id ?_); (conv => arg 1; whnf); first | (with_reducible exact o_nil) | (with_reducible refine o_cons ?_ ?_)) | rfl | omega | assumption | (simp only [List.length_append, List.length_cons, List.length_nil]; omega) | (exact List.length_eq_zero_iff.1 (by assumption)) | (exact (List.length_eq_zero_iff.1 (by assumption)).symm))))
def badM (n : Int) : Bool := decide (n < 0) || decide (3 < n)
def badV (n : Int) : Bool := decide (n < 0) || decide (1048576 < n)
def boxOk (cols : Int) (most : List Int) : Bool := decide (cols ≤ 4) && decide ((most.length : Int) = cols) && !(most.any badM)
def boxRows (most : List Int) : Nat → List Row
  | 0 => []
  | n + 1 => boxRows most n ++ [⟨[⟨n, 1⟩], gt (c := .int) most n⟩]
def boxM (m : Mdl) (most : List Int) : Mdl := ⟨m.cols, m.rows ++ boxRows most most.length, m.goal, m.cst⟩
theorem box_len {most : List Int} : ∀ n, (boxRows most n).length = n
  | 0 => rfl
  | n + 1 => by show (boxRows most n ++ [_]).length = _; rw [List.length_append, box_len n]; rfl
theorem box_zero {most : List Int} {l : List Row} : l ++ boxRows most 0 = l := List.append_nil _
theorem box_snoc {most : List Int} {l : List Row} {n : Nat} : l ++ boxRows most n ++ [⟨[⟨n, 1⟩], gt (c := .int) most n⟩] = l ++ boxRows most (n + 1) := by rw [List.append_assoc]; rfl
theorem row_snoc {l : List Row} {n : Nat} (h : n < l.length) : l.take n ++ [⟨(gt (c := .row) l n).te, (gt (c := .row) l n).mo⟩] = l.take (n + 1) := (take_snoc (c := .row) h).symm
theorem box_is {cols : Int} {most : List Int} (h : boxOk cols most = true) : cols ≤ 4 ∧ (most.length : Int) = cols ∧ most.any badM = false := by
  unfold boxOk at h
  rw [Bool.and_eq_true, Bool.and_eq_true, decide_eq_true_eq, decide_eq_true_eq, Bool.not_eq_true'] at h
  exact ⟨h.1.1, h.1.2, h.2⟩
theorem box_not {cols : Int} {most : List Int} (h : boxOk cols most = false) : 4 < cols ∨ (most.length : Int) ≠ cols ∨ most.any badM = true := by
  unfold boxOk at h
  by_cases h1 : cols ≤ 4
  · by_cases h2 : (most.length : Int) = cols
    · rw [decide_eq_true h1, decide_eq_true h2] at h
      right; right; simpa using h
    · exact .inr (.inl h2)
  · left; omega
theorem c_bm (n : Int) : Trip Try.prog 26 [.int .i64 n] ⟨[], [], 0⟩ (Z := Unit) (fun _ => True) (fun _ => .bool (badM n)) (fun _ => ⟨[], [], 0⟩) := by
  refine trip_by (rs := [_]) 400 lay_ok Try.func26 rfl (by kernel_rfl) Try.ntmps26 Try.results26 rfl rfl ?_
  repeat' (first | (((with_reducible refine g_id ?_); (conv => arg 3; whnf)); first | (with_reducible refine g_split lay_ok 400 ?_ ?_ ?_) | (with_reducible refine g_cond lay_ok 400 ?_ ?_ ?_) | (with_reducible refine g_out lay_ok 400 ?_ ?_) | (with_reducible refine g_fin ?_ ?_)) | (with_reducible refine q_leave lay_ok 400 ?_) | (with_reducible refine q_ret lay_ok 400 ?_) | (with_reducible exact o_nil) | (with_reducible refine o_cons ?_ ?_) | ((with_reducible refine o_id ?_); (conv => arg 1; whnf); first | (with_reducible exact o_nil) | (with_reducible refine o_cons ?_ ?_)) | (intro h; ((try simp only [Int.toNat_natCast] at h); repeat (first | replace h := of_decide_eq_true h | replace h := of_decide_eq_false h | replace h := not_t h | replace h := not_f h | replace h := eq_of_beq h)); (try (first | contradiction | (exfalso; omega) | exact Bool.noConfusion (h.symm.trans (by assumption) : true = false) | exact Bool.noConfusion (h.symm.trans (by assumption) : false = true) | exact absurd rfl h | exact absurd (by assumption) h | exact absurd h (by assumption)))) | rfl | omega | assumption | (simp only [List.length_append, List.length_cons, List.length_nil]; omega))
  all_goals (((with_reducible refine e_id ?_); (conv => whnf)); refine ⟨(), trivial, ?_⟩; ((with_reducible refine s_id ?_); (conv => arg 1; whnf); (with_reducible refine s_some ?_); repeat' (first | (with_reducible exact o_nil) | (with_reducible refine o_cons ?_ ?_) | ((with_reducible refine o_id ?_); (conv => arg 1; whnf); first | (with_reducible exact o_nil) | (with_reducible refine o_cons ?_ ?_)) | rfl | omega | assumption | (simp only [List.length_append, List.length_cons, List.length_nil]; omega))))
  all_goals grind [badM]
theorem c_bv (n : Int) : Trip Try.prog 33 [.int .i64 n] ⟨[], [], 0⟩ (Z := Unit) (fun _ => True) (fun _ => .bool (badV n)) (fun _ => ⟨[], [], 0⟩) := by
  refine trip_by (rs := [_]) 400 lay_ok Try.func33 rfl (by kernel_rfl) Try.ntmps33 Try.results33 rfl rfl ?_
  repeat' (first | (((with_reducible refine g_id ?_); (conv => arg 3; whnf)); first | (with_reducible refine g_split lay_ok 400 ?_ ?_ ?_) | (with_reducible refine g_cond lay_ok 400 ?_ ?_ ?_) | (with_reducible refine g_out lay_ok 400 ?_ ?_) | (with_reducible refine g_fin ?_ ?_)) | (with_reducible refine q_leave lay_ok 400 ?_) | (with_reducible refine q_ret lay_ok 400 ?_) | (with_reducible exact o_nil) | (with_reducible refine o_cons ?_ ?_) | ((with_reducible refine o_id ?_); (conv => arg 1; whnf); first | (with_reducible exact o_nil) | (with_reducible refine o_cons ?_ ?_)) | (intro h; ((try simp only [Int.toNat_natCast] at h); repeat (first | replace h := of_decide_eq_true h | replace h := of_decide_eq_false h | replace h := not_t h | replace h := not_f h | replace h := eq_of_beq h)); (try (first | contradiction | (exfalso; omega) | exact Bool.noConfusion (h.symm.trans (by assumption) : true = false) | exact Bool.noConfusion (h.symm.trans (by assumption) : false = true) | exact absurd rfl h | exact absurd (by assumption) h | exact absurd h (by assumption)))) | rfl | omega | assumption | (simp only [List.length_append, List.length_cons, List.length_nil]; omega))
  all_goals (((with_reducible refine e_id ?_); (conv => whnf)); refine ⟨(), trivial, ?_⟩; ((with_reducible refine s_id ?_); (conv => arg 1; whnf); (with_reducible refine s_some ?_); repeat' (first | (with_reducible exact o_nil) | (with_reducible refine o_cons ?_ ?_) | ((with_reducible refine o_id ?_); (conv => arg 1; whnf); first | (with_reducible exact o_nil) | (with_reducible refine o_cons ?_ ?_)) | rfl | omega | assumption | (simp only [List.length_append, List.length_cons, List.length_nil]; omega))))
  all_goals grind [badV]
theorem bd_of {n : Int} (h : ¬ badM n = true) : 0 ≤ n ∧ n ≤ 3 := by
  unfold badM at h
  simp only [Bool.or_eq_true, decide_eq_true_eq] at h
  omega
theorem bad_no {n : Int} (h : ¬ n < 0) (h2 : ¬ 3 < n) : badM n = false := by
  unfold badM
  rw [decide_eq_false h, decide_eq_false h2]; rfl
attribute [local irreducible] badM badV boxRows
set_option maxHeartbeats 1000000 in
theorem i_bm (xs : List Int) (hl : xs.length ≤ 1000) : Trip Try.prog 46 [.sl ⟨0, []⟩, .clo 26 []] ⟨[], [(0, .list .tmp .int xs)], 1⟩ (Z := Int) (fun z => decide ((0 : Int) ≤ z) = xs.any badM) (fun z => .int .i64 z) (fun _ => ⟨[], [(0, .list .tmp .int xs)], 1⟩) := by
  refine trip_by (rs := [_]) 400 lay_ok Try.func46 rfl (by kernel_rfl) Try.ntmps46 Try.results46 rfl rfl ?_
  repeat' (first | (((with_reducible refine g_id ?_); (conv => arg 3; whnf)); first | (with_reducible refine g_split lay_ok 400 ?_ ?_ ?_) | (with_reducible refine g_cond lay_ok 400 ?_ ?_ ?_) | (with_reducible refine g_out lay_ok 400 ?_ ?_) | (with_reducible refine g_fin ?_ ?_) | (refine g_call lay_ok 400 ?_ ?_ ?_ (c_bm ?_) rfl)) | (with_reducible refine q_leave lay_ok 400 ?_) | (with_reducible refine q_ret lay_ok 400 ?_) | (with_reducible exact o_nil) | (with_reducible refine o_cons ?_ ?_) | ((with_reducible refine o_id ?_); (conv => arg 1; whnf); first | (with_reducible exact o_nil) | (with_reducible refine o_cons ?_ ?_)) | (intro h; ((try simp only [Int.toNat_natCast] at h); repeat (first | replace h := of_decide_eq_true h | replace h := of_decide_eq_false h | replace h := not_t h | replace h := not_f h | replace h := eq_of_beq h)); (try (first | contradiction | (exfalso; omega) | exact Bool.noConfusion (h.symm.trans (by assumption) : true = false) | exact Bool.noConfusion (h.symm.trans (by assumption) : false = true) | exact absurd rfl h | exact absurd (by assumption) h | exact absurd h (by assumption)))) | rfl | omega | assumption | (simp only [List.length_append, List.length_cons, List.length_nil]; omega))
  refine g_loop lay_ok 400 (Z := Nat) (fun i => i ≤ xs.length ∧ ∀ k, k < i → badM (gt (c := .int) xs k) = false) (fun i => ⟨[(0, .sl ⟨0, []⟩), (1, .clo 26 []), (6, .sl ⟨0, []⟩), (7, .int .i64 (xs.length : Int)), (8, .int .i64 (i : Int))], [(0, .list .tmp .int xs)], 1⟩) (fun i => xs.length - i) ?_ ⟨0, ⟨Nat.zero_le _, fun k hk => by omega⟩, ?_⟩ (fun i hi => ?_)
  · repeat' (first | (with_reducible exact o_nil) | (with_reducible refine o_cons ?_ ?_) | ((with_reducible refine o_id ?_); (conv => arg 1; whnf); first | (with_reducible exact o_nil) | (with_reducible refine o_cons ?_ ?_)) | rfl | omega | assumption | (simp only [List.length_append, List.length_cons, List.length_nil]; omega))
  · ((with_reducible refine s_id ?_); (conv => arg 1; whnf); (with_reducible refine s_some ?_); repeat' (first | (with_reducible exact o_nil) | (with_reducible refine o_cons ?_ ?_) | ((with_reducible refine o_id ?_); (conv => arg 1; whnf); first | (with_reducible exact o_nil) | (with_reducible refine o_cons ?_ ?_)) | rfl | omega | assumption | (simp only [List.length_append, List.length_cons, List.length_nil]; omega)))
  obtain ⟨hi, hn⟩ := hi
  repeat' (first | (((with_reducible refine g_id ?_); (conv => arg 3; whnf)); first | (with_reducible refine g_split lay_ok 400 ?_ ?_ ?_) | (with_reducible refine g_cond lay_ok 400 ?_ ?_ ?_) | (with_reducible refine g_out lay_ok 400 ?_ ?_) | (with_reducible refine g_fin ?_ ?_) | (refine g_call lay_ok 400 ?_ ?_ ?_ (c_bm ?_) rfl)) | (with_reducible refine q_leave lay_ok 400 ?_) | (with_reducible refine q_ret lay_ok 400 ?_) | (with_reducible exact o_nil) | (with_reducible refine o_cons ?_ ?_) | ((with_reducible refine o_id ?_); (conv => arg 1; whnf); first | (with_reducible exact o_nil) | (with_reducible refine o_cons ?_ ?_)) | (intro h; ((try simp only [Int.toNat_natCast] at h); repeat (first | replace h := of_decide_eq_true h | replace h := of_decide_eq_false h | replace h := not_t h | replace h := not_f h | replace h := eq_of_beq h)); (try (first | contradiction | (exfalso; omega) | exact Bool.noConfusion (h.symm.trans (by assumption) : true = false) | exact Bool.noConfusion (h.symm.trans (by assumption) : false = true) | exact absurd rfl h | exact absurd (by assumption) h | exact absurd h (by assumption)))) | rfl | omega | assumption | (simp only [List.length_append, List.length_cons, List.length_nil]; omega))
  all_goals first | (refine q_round ⟨i + 1, ⟨by omega, gt_next (c := .int) hn (by assumption)⟩, by omega, ?_⟩; ((with_reducible refine s_id ?_); (conv => arg 1; whnf); (with_reducible refine s_some ?_); repeat' (first | (with_reducible exact o_nil) | (with_reducible refine o_cons ?_ ?_) | ((with_reducible refine o_id ?_); (conv => arg 1; whnf); first | (with_reducible exact o_nil) | (with_reducible refine o_cons ?_ ?_)) | rfl | omega | assumption | (simp only [List.length_append, List.length_cons, List.length_nil]; omega)))) | (((with_reducible refine e_id ?_); (conv => whnf)); refine ⟨(i : Int), found_gt (c := .int) (by omega) (by assumption), ?_⟩; ((with_reducible refine s_id ?_); (conv => arg 1; whnf); (with_reducible refine s_some ?_); repeat' (first | (with_reducible exact o_nil) | (with_reducible refine o_cons ?_ ?_) | ((with_reducible refine o_id ?_); (conv => arg 1; whnf); first | (with_reducible exact o_nil) | (with_reducible refine o_cons ?_ ?_)) | rfl | omega | assumption | (simp only [List.length_append, List.length_cons, List.length_nil]; omega)))) | (((with_reducible refine e_id ?_); (conv => whnf)); refine ⟨-1, none_gt (c := .int) hn (by omega), ?_⟩; ((with_reducible refine s_id ?_); (conv => arg 1; whnf); (with_reducible refine s_some ?_); repeat' (first | (with_reducible exact o_nil) | (with_reducible refine o_cons ?_ ?_) | ((with_reducible refine o_id ?_); (conv => arg 1; whnf); first | (with_reducible exact o_nil) | (with_reducible refine o_cons ?_ ?_)) | rfl | omega | assumption | (simp only [List.length_append, List.length_cons, List.length_nil]; omega))))
set_option maxHeartbeats 1000000 in
theorem k_bm (xs : List Int) (hl : xs.length ≤ 1000) : Trip Try.prog 25 [.sl ⟨0, []⟩, .clo 26 []] ⟨[], [(0, .list .tmp .int xs)], 1⟩ (Z := Unit) (fun _ => True) (fun _ => .bool (xs.any badM)) (fun _ => ⟨[], [(0, .list .tmp .int xs)], 1⟩) := by
  refine trip_by (rs := [_]) 400 lay_ok Try.func25 rfl (by kernel_rfl) Try.ntmps25 Try.results25 rfl rfl ?_
  repeat' (first | (((with_reducible refine g_id ?_); (conv => arg 3; whnf)); first | (with_reducible refine g_split lay_ok 400 ?_ ?_ ?_) | (with_reducible refine g_cond lay_ok 400 ?_ ?_ ?_) | (with_reducible refine g_out lay_ok 400 ?_ ?_) | (with_reducible refine g_fin ?_ ?_) | (refine g_call lay_ok 400 ?_ ?_ ?_ (i_bm ?_ ?_) rfl)) | (with_reducible refine q_leave lay_ok 400 ?_) | (with_reducible refine q_ret lay_ok 400 ?_) | (with_reducible exact o_nil) | (with_reducible refine o_cons ?_ ?_) | ((with_reducible refine o_id ?_); (conv => arg 1; whnf); first | (with_reducible exact o_nil) | (with_reducible refine o_cons ?_ ?_)) | (intro h; ((try simp only [Int.toNat_natCast] at h); repeat (first | replace h := of_decide_eq_true h | replace h := of_decide_eq_false h | replace h := not_t h | replace h := not_f h | replace h := eq_of_beq h)); (try (first | contradiction | (exfalso; omega) | exact Bool.noConfusion (h.symm.trans (by assumption) : true = false) | exact Bool.noConfusion (h.symm.trans (by assumption) : false = true) | exact absurd rfl h | exact absurd (by assumption) h | exact absurd h (by assumption)))) | rfl | omega | assumption | (simp only [List.length_append, List.length_cons, List.length_nil]; omega))
  all_goals ((((with_reducible refine e_id ?_); (conv => whnf)); refine ⟨(), trivial, ?_⟩; ((with_reducible refine s_id ?_); (conv => arg 1; whnf); (with_reducible refine s_some ?_); repeat' (first | (with_reducible exact o_nil) | (with_reducible refine o_cons ?_ ?_) | ((with_reducible refine o_id ?_); (conv => arg 1; whnf); first | (with_reducible exact o_nil) | (with_reducible refine o_cons ?_ ?_)) | rfl | omega | assumption | (simp only [List.length_append, List.length_cons, List.length_nil]; omega)))); exact h.symm)
set_option maxHeartbeats 1000000 in
theorem i_bv (xs : List Int) (hl : xs.length ≤ 1000) : Trip Try.prog 46 [.sl ⟨0, []⟩, .clo 33 []] ⟨[], [(0, .list .tmp .int xs)], 1⟩ (Z := Int) (fun z => decide ((0 : Int) ≤ z) = xs.any badV) (fun z => .int .i64 z) (fun _ => ⟨[], [(0, .list .tmp .int xs)], 1⟩) := by
  refine trip_by (rs := [_]) 400 lay_ok Try.func46 rfl (by kernel_rfl) Try.ntmps46 Try.results46 rfl rfl ?_
  repeat' (first | (((with_reducible refine g_id ?_); (conv => arg 3; whnf)); first | (with_reducible refine g_split lay_ok 400 ?_ ?_ ?_) | (with_reducible refine g_cond lay_ok 400 ?_ ?_ ?_) | (with_reducible refine g_out lay_ok 400 ?_ ?_) | (with_reducible refine g_fin ?_ ?_) | (refine g_call lay_ok 400 ?_ ?_ ?_ (c_bv ?_) rfl)) | (with_reducible refine q_leave lay_ok 400 ?_) | (with_reducible refine q_ret lay_ok 400 ?_) | (with_reducible exact o_nil) | (with_reducible refine o_cons ?_ ?_) | ((with_reducible refine o_id ?_); (conv => arg 1; whnf); first | (with_reducible exact o_nil) | (with_reducible refine o_cons ?_ ?_)) | (intro h; ((try simp only [Int.toNat_natCast] at h); repeat (first | replace h := of_decide_eq_true h | replace h := of_decide_eq_false h | replace h := not_t h | replace h := not_f h | replace h := eq_of_beq h)); (try (first | contradiction | (exfalso; omega) | exact Bool.noConfusion (h.symm.trans (by assumption) : true = false) | exact Bool.noConfusion (h.symm.trans (by assumption) : false = true) | exact absurd rfl h | exact absurd (by assumption) h | exact absurd h (by assumption)))) | rfl | omega | assumption | (simp only [List.length_append, List.length_cons, List.length_nil]; omega))
  refine g_loop lay_ok 400 (Z := Nat) (fun i => i ≤ xs.length ∧ ∀ k, k < i → badV (gt (c := .int) xs k) = false) (fun i => ⟨[(0, .sl ⟨0, []⟩), (1, .clo 33 []), (6, .sl ⟨0, []⟩), (7, .int .i64 (xs.length : Int)), (8, .int .i64 (i : Int))], [(0, .list .tmp .int xs)], 1⟩) (fun i => xs.length - i) ?_ ⟨0, ⟨Nat.zero_le _, fun k hk => by omega⟩, ?_⟩ (fun i hi => ?_)
  · repeat' (first | (with_reducible exact o_nil) | (with_reducible refine o_cons ?_ ?_) | ((with_reducible refine o_id ?_); (conv => arg 1; whnf); first | (with_reducible exact o_nil) | (with_reducible refine o_cons ?_ ?_)) | rfl | omega | assumption | (simp only [List.length_append, List.length_cons, List.length_nil]; omega))
  · ((with_reducible refine s_id ?_); (conv => arg 1; whnf); (with_reducible refine s_some ?_); repeat' (first | (with_reducible exact o_nil) | (with_reducible refine o_cons ?_ ?_) | ((with_reducible refine o_id ?_); (conv => arg 1; whnf); first | (with_reducible exact o_nil) | (with_reducible refine o_cons ?_ ?_)) | rfl | omega | assumption | (simp only [List.length_append, List.length_cons, List.length_nil]; omega)))
  obtain ⟨hi, hn⟩ := hi
  repeat' (first | (((with_reducible refine g_id ?_); (conv => arg 3; whnf)); first | (with_reducible refine g_split lay_ok 400 ?_ ?_ ?_) | (with_reducible refine g_cond lay_ok 400 ?_ ?_ ?_) | (with_reducible refine g_out lay_ok 400 ?_ ?_) | (with_reducible refine g_fin ?_ ?_) | (refine g_call lay_ok 400 ?_ ?_ ?_ (c_bv ?_) rfl)) | (with_reducible refine q_leave lay_ok 400 ?_) | (with_reducible refine q_ret lay_ok 400 ?_) | (with_reducible exact o_nil) | (with_reducible refine o_cons ?_ ?_) | ((with_reducible refine o_id ?_); (conv => arg 1; whnf); first | (with_reducible exact o_nil) | (with_reducible refine o_cons ?_ ?_)) | (intro h; ((try simp only [Int.toNat_natCast] at h); repeat (first | replace h := of_decide_eq_true h | replace h := of_decide_eq_false h | replace h := not_t h | replace h := not_f h | replace h := eq_of_beq h)); (try (first | contradiction | (exfalso; omega) | exact Bool.noConfusion (h.symm.trans (by assumption) : true = false) | exact Bool.noConfusion (h.symm.trans (by assumption) : false = true) | exact absurd rfl h | exact absurd (by assumption) h | exact absurd h (by assumption)))) | rfl | omega | assumption | (simp only [List.length_append, List.length_cons, List.length_nil]; omega))
  all_goals first | (refine q_round ⟨i + 1, ⟨by omega, gt_next (c := .int) hn (by assumption)⟩, by omega, ?_⟩; ((with_reducible refine s_id ?_); (conv => arg 1; whnf); (with_reducible refine s_some ?_); repeat' (first | (with_reducible exact o_nil) | (with_reducible refine o_cons ?_ ?_) | ((with_reducible refine o_id ?_); (conv => arg 1; whnf); first | (with_reducible exact o_nil) | (with_reducible refine o_cons ?_ ?_)) | rfl | omega | assumption | (simp only [List.length_append, List.length_cons, List.length_nil]; omega)))) | (((with_reducible refine e_id ?_); (conv => whnf)); refine ⟨(i : Int), found_gt (c := .int) (by omega) (by assumption), ?_⟩; ((with_reducible refine s_id ?_); (conv => arg 1; whnf); (with_reducible refine s_some ?_); repeat' (first | (with_reducible exact o_nil) | (with_reducible refine o_cons ?_ ?_) | ((with_reducible refine o_id ?_); (conv => arg 1; whnf); first | (with_reducible exact o_nil) | (with_reducible refine o_cons ?_ ?_)) | rfl | omega | assumption | (simp only [List.length_append, List.length_cons, List.length_nil]; omega)))) | (((with_reducible refine e_id ?_); (conv => whnf)); refine ⟨-1, none_gt (c := .int) hn (by omega), ?_⟩; ((with_reducible refine s_id ?_); (conv => arg 1; whnf); (with_reducible refine s_some ?_); repeat' (first | (with_reducible exact o_nil) | (with_reducible refine o_cons ?_ ?_) | ((with_reducible refine o_id ?_); (conv => arg 1; whnf); first | (with_reducible exact o_nil) | (with_reducible refine o_cons ?_ ?_)) | rfl | omega | assumption | (simp only [List.length_append, List.length_cons, List.length_nil]; omega))))
set_option maxHeartbeats 1000000 in
theorem k_bv (xs : List Int) (hl : xs.length ≤ 1000) : Trip Try.prog 25 [.sl ⟨0, []⟩, .clo 33 []] ⟨[], [(0, .list .tmp .int xs)], 1⟩ (Z := Unit) (fun _ => True) (fun _ => .bool (xs.any badV)) (fun _ => ⟨[], [(0, .list .tmp .int xs)], 1⟩) := by
  refine trip_by (rs := [_]) 400 lay_ok Try.func25 rfl (by kernel_rfl) Try.ntmps25 Try.results25 rfl rfl ?_
  repeat' (first | (((with_reducible refine g_id ?_); (conv => arg 3; whnf)); first | (with_reducible refine g_split lay_ok 400 ?_ ?_ ?_) | (with_reducible refine g_cond lay_ok 400 ?_ ?_ ?_) | (with_reducible refine g_out lay_ok 400 ?_ ?_) | (with_reducible refine g_fin ?_ ?_) | (refine g_call lay_ok 400 ?_ ?_ ?_ (i_bv ?_ ?_) rfl)) | (with_reducible refine q_leave lay_ok 400 ?_) | (with_reducible refine q_ret lay_ok 400 ?_) | (with_reducible exact o_nil) | (with_reducible refine o_cons ?_ ?_) | ((with_reducible refine o_id ?_); (conv => arg 1; whnf); first | (with_reducible exact o_nil) | (with_reducible refine o_cons ?_ ?_)) | (intro h; ((try simp only [Int.toNat_natCast] at h); repeat (first | replace h := of_decide_eq_true h | replace h := of_decide_eq_false h | replace h := not_t h | replace h := not_f h | replace h := eq_of_beq h)); (try (first | contradiction | (exfalso; omega) | exact Bool.noConfusion (h.symm.trans (by assumption) : true = false) | exact Bool.noConfusion (h.symm.trans (by assumption) : false = true) | exact absurd rfl h | exact absurd (by assumption) h | exact absurd h (by assumption)))) | rfl | omega | assumption | (simp only [List.length_append, List.length_cons, List.length_nil]; omega))
  all_goals ((((with_reducible refine e_id ?_); (conv => whnf)); refine ⟨(), trivial, ?_⟩; ((with_reducible refine s_id ?_); (conv => arg 1; whnf); (with_reducible refine s_some ?_); repeat' (first | (with_reducible exact o_nil) | (with_reducible refine o_cons ?_ ?_) | ((with_reducible refine o_id ?_); (conv => arg 1; whnf); first | (with_reducible exact o_nil) | (with_reducible refine o_cons ?_ ?_)) | rfl | omega | assumption | (simp only [List.length_append, List.length_cons, List.length_nil]; omega)))); exact h.symm)
set_option maxHeartbeats 4000000 in
theorem c_boxed (m : Mdl) (most : List Int) (hg : Gd m) (h6 : m.rows.length ≤ 6) (hm : most.length ≤ 1000) (hb : boxOk m.cols most = true) : Trip Try.prog 11 [.agg [.int .i64 m.cols, .sl ⟨0, []⟩, .sl ⟨1, []⟩, .int .i64 m.cst], .sl ⟨2, []⟩] ⟨[], [(0, .list .tmp .row m.rows), (1, .list .tmp .term m.goal), (2, .list .tmp .int most)], 3⟩ (Z := Unit) (fun _ => True) (fun _ => .tup [.agg [.int .i64 m.cols, .sl ⟨3, []⟩, .sl ⟨4, []⟩, .int .i64 m.cst], .int .i64 0]) (fun _ => ⟨[], [(0, .list .tmp .row m.rows), (1, .list .tmp .term m.goal), (2, .list .tmp .int most), (3, .list .own .row (boxM m most).rows), (4, .list .own .term m.goal)], 5⟩) := by
  obtain ⟨b1, b2, b3⟩ := box_is hb
  have hc := hg.c
  have hl := tm_len hg.g (by omega)
  have hr := hg.r
  refine trip_by (rs := [_, _]) 400 lay_ok Try.func11 rfl (by kernel_rfl) Try.ntmps11 Try.results11 rfl rfl ?_
  repeat' (first | (((with_reducible refine g_id ?_); (conv => arg 3; whnf)); first | (with_reducible refine g_split lay_ok 400 ?_ ?_ ?_) | (with_reducible refine g_cond lay_ok 400 ?_ ?_ ?_) | (with_reducible refine g_out lay_ok 400 ?_ ?_) | (with_reducible refine g_fin ?_ ?_) | (refine g_call lay_ok 400 ?_ ?_ ?_ (c_small ?_ ?_ ?_) rfl) | (refine g_call lay_ok 400 ?_ ?_ ?_ (k_bm ?_ ?_) rfl) | (refine g_call lay_ok 400 ?_ ?_ ?_ (c_clone_t ?_ ?_) rfl) | (refine g_ownA lay_ok 400 0 .term ?_ rfl rfl rfl ?_ ?_) | (refine g_flow 3 lay_ok mixed_ok 400 784 [0, 1, 0, 4, 12, 0, 32, 127, 0, 511] (.q 0 (.q 1 (.q 2 (.q 3 (.q 5 (.q 6 (.e 4 [0, 1, 5, 6] (.q 7 (.e 8 [0, 1, 2, 3, 5, 6, 7] (.e 9 [] (.fin) .stop) .stop)) (.e 8 [0, 1, 2, 3, 5, 6] (.e 4 [0, 1, 5, 6] (.q 7 (.e 9 [] (.fin) .stop)) .stop) .stop)))))))) (by kernel_rfl) ?_ ?_) | (refine g_flow 7 lay_ok mixed_ok 400 2832 [0, 1, 0, 4, 12, 0, 32, 124, 252, 511, 1023, 2047] (.q 0 (.q 1 (.q 2 (.q 3 (.q 5 (.q 6 (.e 4 [0, 1, 5, 6] (.q 7 (.e 8 [0, 1] (.e 9 [] (.q 10 (.e 11 [] (.fin) .stop)) .stop) .stop)) .stop))))))) (by kernel_rfl) ?_ ?_)) | (((with_reducible refine w_id ?_); (conv => arg 4; whnf)); first | (with_reducible refine w_fin ?_ ?_) | (with_reducible refine w_split lay_ok 400 ?_ ?_ ?_) | (with_reducible refine w_tt ?_) | (with_reducible refine w_eff lay_ok 400 ?_ rfl rfl ?_ ?_)) | (with_reducible refine q_flow ?_ ?_) | ((with_reducible refine h_id ?_); (conv => arg 1; whnf); (with_reducible refine s_some ?_)) | (with_reducible refine q_leave lay_ok 400 ?_) | (with_reducible refine q_ret lay_ok 400 ?_) | (with_reducible exact o_nil) | (with_reducible refine o_cons ?_ ?_) | ((with_reducible refine o_id ?_); (conv => arg 1; whnf); first | (with_reducible exact o_nil) | (with_reducible refine o_cons ?_ ?_)) | (intro h; ((try simp only [Int.toNat_natCast] at h); repeat (first | replace h := of_decide_eq_true h | replace h := of_decide_eq_false h | replace h := not_t h | replace h := not_f h | replace h := eq_of_beq h)); (try (first | contradiction | (exfalso; omega) | exact Bool.noConfusion (h.symm.trans (by assumption) : true = false) | exact Bool.noConfusion (h.symm.trans (by assumption) : false = true) | exact absurd rfl h | exact absurd (by assumption) h | exact absurd h (by assumption) | (simp only [Int.toNat_natCast] at h; exfalso; omega)))) | rfl | omega | assumption | (simp only [List.length_append, List.length_cons, List.length_nil]; omega) | (simp only [Int.toNat_natCast]; omega) | (simp only [Int.toNat_natCast, List.length_nil]; omega) | (simp only [List.length_append, List.length_take, List.length_cons, List.length_nil, box_len]; omega) | (exact tm_len (rw_at hr (by assumption)).1 (by omega)) | (simp only [Int.toNat_natCast]; omega))
  all_goals (
    refine g_loop lay_ok 400 (Z := Nat) (fun z => z ≤ m.rows.length) (fun z => ⟨[(1, .sl ⟨2, []⟩), (2, .ptr 3 0), (4, .ptr 4 0), (5, .int .i64 0), (6, .ptr 6 0), (40, .sl ⟨0, []⟩), (41, .int .i64 (m.rows.length : Int)), (42, .int .i64 (z : Int))], [(0, .list .tmp .row m.rows), (1, .list .tmp .term m.goal), (2, .list .tmp .int most), (3, .cells [.int .i64 m.cols, .sl ⟨0, []⟩, .sl ⟨1, []⟩, .int .i64 m.cst]), (4, .cells [.int .i64 0, .val (.slice none 0 0), .val (.slice none 0 0), .int .i64 0]), (5, .dead), (6, .cells [.int .i64 m.cols, .sl ⟨7, []⟩, .sl ⟨8, []⟩, .int .i64 m.cst]), (7, .list .own .row (m.rows.take z)), (8, .list .own .term m.goal)], 9⟩) (fun z => m.rows.length - z) ?_ ⟨0, Nat.zero_le _, ?_⟩ (fun z hz => ?_)
    · repeat' (first | (with_reducible exact o_nil) | (with_reducible refine o_cons ?_ ?_) | ((with_reducible refine o_id ?_); (conv => arg 1; whnf); first | (with_reducible exact o_nil) | (with_reducible refine o_cons ?_ ?_)) | rfl | omega | assumption | (simp only [List.length_append, List.length_cons, List.length_nil]; omega) | (simp only [Int.toNat_natCast]; omega))
    · ((with_reducible refine s_id ?_); (conv => arg 1; whnf); (with_reducible refine s_some ?_); repeat' (first | (with_reducible exact o_nil) | (with_reducible refine o_cons ?_ ?_) | ((with_reducible refine o_id ?_); (conv => arg 1; whnf); first | (with_reducible exact o_nil) | (with_reducible refine o_cons ?_ ?_)) | rfl | omega | assumption | (simp only [List.length_append, List.length_cons, List.length_nil]; omega) | (simp only [Int.toNat_natCast]; omega)))
    by_cases hlt : z < m.rows.length
    · have q1 := (rw_at hr hlt).1
      have q2 := tm_len q1 (by omega)
      repeat' (first | (((with_reducible refine g_id ?_); (conv => arg 3; whnf)); first | (with_reducible refine g_split lay_ok 400 ?_ ?_ ?_) | (with_reducible refine g_cond lay_ok 400 ?_ ?_ ?_) | (with_reducible refine g_out lay_ok 400 ?_ ?_) | (with_reducible refine g_fin ?_ ?_) | (refine g_call lay_ok 400 ?_ ?_ ?_ (c_small ?_ ?_ ?_) rfl) | (refine g_call lay_ok 400 ?_ ?_ ?_ (k_bm ?_ ?_) rfl) | (refine g_call lay_ok 400 ?_ ?_ ?_ (c_clone_t ?_ ?_) rfl) | (refine g_ownA lay_ok 400 0 .term ?_ rfl rfl rfl ?_ ?_) | (refine g_flow 3 lay_ok mixed_ok 400 784 [0, 1, 0, 4, 12, 0, 32, 127, 0, 511] (.q 0 (.q 1 (.q 2 (.q 3 (.q 5 (.q 6 (.e 4 [0, 1, 5, 6] (.q 7 (.e 8 [0, 1, 2, 3, 5, 6, 7] (.e 9 [] (.fin) .stop) .stop)) (.e 8 [0, 1, 2, 3, 5, 6] (.e 4 [0, 1, 5, 6] (.q 7 (.e 9 [] (.fin) .stop)) .stop) .stop)))))))) (by kernel_rfl) ?_ ?_) | (refine g_flow 7 lay_ok mixed_ok 400 2832 [0, 1, 0, 4, 12, 0, 32, 124, 252, 511, 1023, 2047] (.q 0 (.q 1 (.q 2 (.q 3 (.q 5 (.q 6 (.e 4 [0, 1, 5, 6] (.q 7 (.e 8 [0, 1] (.e 9 [] (.q 10 (.e 11 [] (.fin) .stop)) .stop) .stop)) .stop))))))) (by kernel_rfl) ?_ ?_)) | (((with_reducible refine w_id ?_); (conv => arg 4; whnf)); first | (with_reducible refine w_fin ?_ ?_) | (with_reducible refine w_split lay_ok 400 ?_ ?_ ?_) | (with_reducible refine w_tt ?_) | (with_reducible refine w_eff lay_ok 400 ?_ rfl rfl ?_ ?_)) | (with_reducible refine q_flow ?_ ?_) | ((with_reducible refine h_id ?_); (conv => arg 1; whnf); (with_reducible refine s_some ?_)) | (with_reducible refine q_leave lay_ok 400 ?_) | (with_reducible refine q_ret lay_ok 400 ?_) | (with_reducible exact o_nil) | (with_reducible refine o_cons ?_ ?_) | ((with_reducible refine o_id ?_); (conv => arg 1; whnf); first | (with_reducible exact o_nil) | (with_reducible refine o_cons ?_ ?_)) | (intro h; ((try simp only [Int.toNat_natCast] at h); repeat (first | replace h := of_decide_eq_true h | replace h := of_decide_eq_false h | replace h := not_t h | replace h := not_f h | replace h := eq_of_beq h)); (try (first | contradiction | (exfalso; omega) | exact Bool.noConfusion (h.symm.trans (by assumption) : true = false) | exact Bool.noConfusion (h.symm.trans (by assumption) : false = true) | exact absurd rfl h | exact absurd (by assumption) h | exact absurd h (by assumption) | (simp only [Int.toNat_natCast] at h; exfalso; omega)))) | rfl | omega | assumption | (simp only [List.length_append, List.length_cons, List.length_nil]; omega) | (simp only [Int.toNat_natCast]; omega) | (simp only [Int.toNat_natCast, List.length_nil]; omega) | (simp only [List.length_append, List.length_take, List.length_cons, List.length_nil, box_len]; omega) | (exact tm_len (rw_at hr (by assumption)).1 (by omega)) | (simp only [Int.toNat_natCast]; omega))
      all_goals (refine q_round ⟨z + 1, by omega, by omega, ?_⟩; ((with_reducible refine s_id ?_); (conv => arg 1; whnf); (with_reducible refine s_some ?_); repeat' (first | (with_reducible exact o_nil) | (with_reducible refine o_cons ?_ ?_) | ((with_reducible refine o_id ?_); (conv => arg 1; whnf); first | (with_reducible exact o_nil) | (with_reducible refine o_cons ?_ ?_)) | rfl | omega | assumption | (simp only [List.length_append, List.length_cons, List.length_nil]; omega) | (simp only [Int.toNat_natCast]; omega) | (exact row_snoc hlt) | (exact (row_snoc hlt).symm) | (exact box_snoc) | (exact box_snoc.symm) | (simp only [Int.toNat_natCast]; exact row_snoc hlt) | (simp only [Int.toNat_natCast]; exact (row_snoc hlt).symm) | (simp only [Int.toNat_natCast]; exact box_snoc) | (simp only [Int.toNat_natCast]; exact box_snoc.symm) | exact box_zero | exact box_zero.symm | (rw [List.take_of_length_le (by omega)]; exact box_zero) | (rw [List.take_of_length_le (by omega)]; exact box_zero.symm))))
    · have e : z = m.rows.length := by omega
      subst e
      repeat' (first | (((with_reducible refine g_id ?_); (conv => arg 3; whnf)); first | (with_reducible refine g_split lay_ok 400 ?_ ?_ ?_) | (with_reducible refine g_cond lay_ok 400 ?_ ?_ ?_) | (with_reducible refine g_out lay_ok 400 ?_ ?_) | (with_reducible refine g_fin ?_ ?_) | (refine g_call lay_ok 400 ?_ ?_ ?_ (c_small ?_ ?_ ?_) rfl) | (refine g_call lay_ok 400 ?_ ?_ ?_ (k_bm ?_ ?_) rfl) | (refine g_call lay_ok 400 ?_ ?_ ?_ (c_clone_t ?_ ?_) rfl) | (refine g_ownA lay_ok 400 0 .term ?_ rfl rfl rfl ?_ ?_) | (refine g_flow 3 lay_ok mixed_ok 400 784 [0, 1, 0, 4, 12, 0, 32, 127, 0, 511] (.q 0 (.q 1 (.q 2 (.q 3 (.q 5 (.q 6 (.e 4 [0, 1, 5, 6] (.q 7 (.e 8 [0, 1, 2, 3, 5, 6, 7] (.e 9 [] (.fin) .stop) .stop)) (.e 8 [0, 1, 2, 3, 5, 6] (.e 4 [0, 1, 5, 6] (.q 7 (.e 9 [] (.fin) .stop)) .stop) .stop)))))))) (by kernel_rfl) ?_ ?_) | (refine g_flow 7 lay_ok mixed_ok 400 2832 [0, 1, 0, 4, 12, 0, 32, 124, 252, 511, 1023, 2047] (.q 0 (.q 1 (.q 2 (.q 3 (.q 5 (.q 6 (.e 4 [0, 1, 5, 6] (.q 7 (.e 8 [0, 1] (.e 9 [] (.q 10 (.e 11 [] (.fin) .stop)) .stop) .stop)) .stop))))))) (by kernel_rfl) ?_ ?_)) | (((with_reducible refine w_id ?_); (conv => arg 4; whnf)); first | (with_reducible refine w_fin ?_ ?_) | (with_reducible refine w_split lay_ok 400 ?_ ?_ ?_) | (with_reducible refine w_tt ?_) | (with_reducible refine w_eff lay_ok 400 ?_ rfl rfl ?_ ?_)) | (with_reducible refine q_flow ?_ ?_) | ((with_reducible refine h_id ?_); (conv => arg 1; whnf); (with_reducible refine s_some ?_)) | (with_reducible refine q_leave lay_ok 400 ?_) | (with_reducible refine q_ret lay_ok 400 ?_) | (with_reducible exact o_nil) | (with_reducible refine o_cons ?_ ?_) | ((with_reducible refine o_id ?_); (conv => arg 1; whnf); first | (with_reducible exact o_nil) | (with_reducible refine o_cons ?_ ?_)) | (intro h; ((try simp only [Int.toNat_natCast] at h); repeat (first | replace h := of_decide_eq_true h | replace h := of_decide_eq_false h | replace h := not_t h | replace h := not_f h | replace h := eq_of_beq h)); (try (first | contradiction | (exfalso; omega) | exact Bool.noConfusion (h.symm.trans (by assumption) : true = false) | exact Bool.noConfusion (h.symm.trans (by assumption) : false = true) | exact absurd rfl h | exact absurd (by assumption) h | exact absurd h (by assumption) | (simp only [Int.toNat_natCast] at h; exfalso; omega)))) | rfl | omega | assumption | (simp only [List.length_append, List.length_cons, List.length_nil]; omega) | (simp only [Int.toNat_natCast]; omega) | (simp only [Int.toNat_natCast, List.length_nil]; omega) | (simp only [List.length_append, List.length_take, List.length_cons, List.length_nil, box_len]; omega) | (exact tm_len (rw_at hr (by assumption)).1 (by omega)) | (simp only [Int.toNat_natCast]; omega))
      refine g_loop lay_ok 400 (Z := Nat) (fun z => z ≤ most.length) (fun z => ⟨[(1, .sl ⟨2, []⟩), (2, .ptr 3 0), (4, .ptr 4 0), (5, .int .i64 0), (6, .ptr 6 0), (58, .sl ⟨2, []⟩), (59, .int .i64 (most.length : Int)), (60, .int .i64 (z : Int))], [(0, .list .tmp .row m.rows), (1, .list .tmp .term m.goal), (2, .list .tmp .int most), (3, .cells [.int .i64 m.cols, .sl ⟨0, []⟩, .sl ⟨1, []⟩, .int .i64 m.cst]), (4, .cells [.int .i64 0, .val (.slice none 0 0), .val (.slice none 0 0), .int .i64 0]), (5, .dead), (6, .cells [.int .i64 m.cols, .sl ⟨7, []⟩, .sl ⟨8, []⟩, .int .i64 m.cst]), (7, .list .own .row (m.rows ++ boxRows most z)), (8, .list .own .term m.goal)], 9⟩) (fun z => most.length - z) ?_ ⟨0, Nat.zero_le _, ?_⟩ (fun z hz => ?_)
      · repeat' (first | (with_reducible exact o_nil) | (with_reducible refine o_cons ?_ ?_) | ((with_reducible refine o_id ?_); (conv => arg 1; whnf); first | (with_reducible exact o_nil) | (with_reducible refine o_cons ?_ ?_)) | rfl | omega | assumption | (simp only [List.length_append, List.length_cons, List.length_nil]; omega) | (simp only [Int.toNat_natCast]; omega))
      · ((with_reducible refine s_id ?_); (conv => arg 1; whnf); (with_reducible refine s_some ?_); repeat' (first | (with_reducible exact o_nil) | (with_reducible refine o_cons ?_ ?_) | ((with_reducible refine o_id ?_); (conv => arg 1; whnf); first | (with_reducible exact o_nil) | (with_reducible refine o_cons ?_ ?_)) | rfl | omega | assumption | (simp only [List.length_append, List.length_cons, List.length_nil]; omega) | (simp only [Int.toNat_natCast]; omega) | (exact row_snoc hlt) | (exact (row_snoc hlt).symm) | (exact box_snoc) | (exact box_snoc.symm) | (simp only [Int.toNat_natCast]; exact row_snoc hlt) | (simp only [Int.toNat_natCast]; exact (row_snoc hlt).symm) | (simp only [Int.toNat_natCast]; exact box_snoc) | (simp only [Int.toNat_natCast]; exact box_snoc.symm) | exact box_zero | exact box_zero.symm | (rw [List.take_of_length_le (by omega)]; exact box_zero) | (rw [List.take_of_length_le (by omega)]; exact box_zero.symm)))
      by_cases hlt : z < most.length
      · have bn : ¬ badM (gt (c := .int) most z) = true := fun q => by rw [any_gt_t (c := .int) hlt q] at b3; cases b3
        have bb := bd_of bn
        have bx := box_len (most := most) z
        repeat' (first | (((with_reducible refine g_id ?_); (conv => arg 3; whnf)); first | (with_reducible refine g_split lay_ok 400 ?_ ?_ ?_) | (with_reducible refine g_cond lay_ok 400 ?_ ?_ ?_) | (with_reducible refine g_out lay_ok 400 ?_ ?_) | (with_reducible refine g_fin ?_ ?_) | (refine g_call lay_ok 400 ?_ ?_ ?_ (c_small ?_ ?_ ?_) rfl) | (refine g_call lay_ok 400 ?_ ?_ ?_ (k_bm ?_ ?_) rfl) | (refine g_call lay_ok 400 ?_ ?_ ?_ (c_clone_t ?_ ?_) rfl) | (refine g_ownA lay_ok 400 0 .term ?_ rfl rfl rfl ?_ ?_) | (refine g_flow 3 lay_ok mixed_ok 400 784 [0, 1, 0, 4, 12, 0, 32, 127, 0, 511] (.q 0 (.q 1 (.q 2 (.q 3 (.q 5 (.q 6 (.e 4 [0, 1, 5, 6] (.q 7 (.e 8 [0, 1, 2, 3, 5, 6, 7] (.e 9 [] (.fin) .stop) .stop)) (.e 8 [0, 1, 2, 3, 5, 6] (.e 4 [0, 1, 5, 6] (.q 7 (.e 9 [] (.fin) .stop)) .stop) .stop)))))))) (by kernel_rfl) ?_ ?_) | (refine g_flow 7 lay_ok mixed_ok 400 2832 [0, 1, 0, 4, 12, 0, 32, 124, 252, 511, 1023, 2047] (.q 0 (.q 1 (.q 2 (.q 3 (.q 5 (.q 6 (.e 4 [0, 1, 5, 6] (.q 7 (.e 8 [0, 1] (.e 9 [] (.q 10 (.e 11 [] (.fin) .stop)) .stop) .stop)) .stop))))))) (by kernel_rfl) ?_ ?_)) | (((with_reducible refine w_id ?_); (conv => arg 4; whnf)); first | (with_reducible refine w_fin ?_ ?_) | (with_reducible refine w_split lay_ok 400 ?_ ?_ ?_) | (with_reducible refine w_tt ?_) | (with_reducible refine w_eff lay_ok 400 ?_ rfl rfl ?_ ?_)) | (with_reducible refine q_flow ?_ ?_) | ((with_reducible refine h_id ?_); (conv => arg 1; whnf); (with_reducible refine s_some ?_)) | (with_reducible refine q_leave lay_ok 400 ?_) | (with_reducible refine q_ret lay_ok 400 ?_) | (with_reducible exact o_nil) | (with_reducible refine o_cons ?_ ?_) | ((with_reducible refine o_id ?_); (conv => arg 1; whnf); first | (with_reducible exact o_nil) | (with_reducible refine o_cons ?_ ?_)) | (intro h; ((try simp only [Int.toNat_natCast] at h); repeat (first | replace h := of_decide_eq_true h | replace h := of_decide_eq_false h | replace h := not_t h | replace h := not_f h | replace h := eq_of_beq h)); (try (first | contradiction | (exfalso; omega) | exact Bool.noConfusion (h.symm.trans (by assumption) : true = false) | exact Bool.noConfusion (h.symm.trans (by assumption) : false = true) | exact absurd rfl h | exact absurd (by assumption) h | exact absurd h (by assumption) | (simp only [Int.toNat_natCast] at h; exfalso; omega)))) | rfl | omega | assumption | (simp only [List.length_append, List.length_cons, List.length_nil]; omega) | (simp only [Int.toNat_natCast]; omega) | (simp only [Int.toNat_natCast, List.length_nil]; omega) | (simp only [List.length_append, List.length_take, List.length_cons, List.length_nil, box_len]; omega) | (exact tm_len (rw_at hr (by assumption)).1 (by omega)) | (simp only [Int.toNat_natCast]; omega))
        all_goals (refine q_round ⟨z + 1, by omega, by omega, ?_⟩; ((with_reducible refine s_id ?_); (conv => arg 1; whnf); (with_reducible refine s_some ?_); repeat' (first | (with_reducible exact o_nil) | (with_reducible refine o_cons ?_ ?_) | ((with_reducible refine o_id ?_); (conv => arg 1; whnf); first | (with_reducible exact o_nil) | (with_reducible refine o_cons ?_ ?_)) | rfl | omega | assumption | (simp only [List.length_append, List.length_cons, List.length_nil]; omega) | (simp only [Int.toNat_natCast]; omega) | (exact row_snoc hlt) | (exact (row_snoc hlt).symm) | (exact box_snoc) | (exact box_snoc.symm) | (simp only [Int.toNat_natCast]; exact row_snoc hlt) | (simp only [Int.toNat_natCast]; exact (row_snoc hlt).symm) | (simp only [Int.toNat_natCast]; exact box_snoc) | (simp only [Int.toNat_natCast]; exact box_snoc.symm) | exact box_zero | exact box_zero.symm | (rw [List.take_of_length_le (by omega)]; exact box_zero) | (rw [List.take_of_length_le (by omega)]; exact box_zero.symm))))
      · have e : z = most.length := by omega
        subst e
        repeat' (first | (((with_reducible refine g_id ?_); (conv => arg 3; whnf)); first | (with_reducible refine g_split lay_ok 400 ?_ ?_ ?_) | (with_reducible refine g_cond lay_ok 400 ?_ ?_ ?_) | (with_reducible refine g_out lay_ok 400 ?_ ?_) | (with_reducible refine g_fin ?_ ?_) | (refine g_call lay_ok 400 ?_ ?_ ?_ (c_small ?_ ?_ ?_) rfl) | (refine g_call lay_ok 400 ?_ ?_ ?_ (k_bm ?_ ?_) rfl) | (refine g_call lay_ok 400 ?_ ?_ ?_ (c_clone_t ?_ ?_) rfl) | (refine g_ownA lay_ok 400 0 .term ?_ rfl rfl rfl ?_ ?_) | (refine g_flow 3 lay_ok mixed_ok 400 784 [0, 1, 0, 4, 12, 0, 32, 127, 0, 511] (.q 0 (.q 1 (.q 2 (.q 3 (.q 5 (.q 6 (.e 4 [0, 1, 5, 6] (.q 7 (.e 8 [0, 1, 2, 3, 5, 6, 7] (.e 9 [] (.fin) .stop) .stop)) (.e 8 [0, 1, 2, 3, 5, 6] (.e 4 [0, 1, 5, 6] (.q 7 (.e 9 [] (.fin) .stop)) .stop) .stop)))))))) (by kernel_rfl) ?_ ?_) | (refine g_flow 7 lay_ok mixed_ok 400 2832 [0, 1, 0, 4, 12, 0, 32, 124, 252, 511, 1023, 2047] (.q 0 (.q 1 (.q 2 (.q 3 (.q 5 (.q 6 (.e 4 [0, 1, 5, 6] (.q 7 (.e 8 [0, 1] (.e 9 [] (.q 10 (.e 11 [] (.fin) .stop)) .stop) .stop)) .stop))))))) (by kernel_rfl) ?_ ?_)) | (((with_reducible refine w_id ?_); (conv => arg 4; whnf)); first | (with_reducible refine w_fin ?_ ?_) | (with_reducible refine w_split lay_ok 400 ?_ ?_ ?_) | (with_reducible refine w_tt ?_) | (with_reducible refine w_eff lay_ok 400 ?_ rfl rfl ?_ ?_)) | (with_reducible refine q_flow ?_ ?_) | ((with_reducible refine h_id ?_); (conv => arg 1; whnf); (with_reducible refine s_some ?_)) | (with_reducible refine q_leave lay_ok 400 ?_) | (with_reducible refine q_ret lay_ok 400 ?_) | (with_reducible exact o_nil) | (with_reducible refine o_cons ?_ ?_) | ((with_reducible refine o_id ?_); (conv => arg 1; whnf); first | (with_reducible exact o_nil) | (with_reducible refine o_cons ?_ ?_)) | (intro h; ((try simp only [Int.toNat_natCast] at h); repeat (first | replace h := of_decide_eq_true h | replace h := of_decide_eq_false h | replace h := not_t h | replace h := not_f h | replace h := eq_of_beq h)); (try (first | contradiction | (exfalso; omega) | exact Bool.noConfusion (h.symm.trans (by assumption) : true = false) | exact Bool.noConfusion (h.symm.trans (by assumption) : false = true) | exact absurd rfl h | exact absurd (by assumption) h | exact absurd h (by assumption) | (simp only [Int.toNat_natCast] at h; exfalso; omega)))) | rfl | omega | assumption | (simp only [List.length_append, List.length_cons, List.length_nil]; omega) | (simp only [Int.toNat_natCast]; omega) | (simp only [Int.toNat_natCast, List.length_nil]; omega) | (simp only [List.length_append, List.length_take, List.length_cons, List.length_nil, box_len]; omega) | (exact tm_len (rw_at hr (by assumption)).1 (by omega)) | (simp only [Int.toNat_natCast]; omega))
        all_goals (((with_reducible refine e_id ?_); (conv => whnf)); refine ⟨(), trivial, ?_⟩; ((with_reducible refine s_id ?_); (conv => arg 1; whnf); (with_reducible refine s_some ?_); repeat' (first | (with_reducible exact o_nil) | (with_reducible refine o_cons ?_ ?_) | ((with_reducible refine o_id ?_); (conv => arg 1; whnf); first | (with_reducible exact o_nil) | (with_reducible refine o_cons ?_ ?_)) | rfl | omega | assumption | (simp only [List.length_append, List.length_cons, List.length_nil]; omega)))))
set_option maxHeartbeats 4000000 in
theorem c_boxed_no (m : Mdl) (most : List Int) (hg : Gd m) (h6 : m.rows.length ≤ 6) (hm : most.length ≤ 1000) (hb : boxOk m.cols most = false) : Trip Try.prog 11 [.agg [.int .i64 m.cols, .sl ⟨0, []⟩, .sl ⟨1, []⟩, .int .i64 m.cst], .sl ⟨2, []⟩] ⟨[], [(0, .list .tmp .row m.rows), (1, .list .tmp .term m.goal), (2, .list .tmp .int most)], 3⟩ (Z := Unit) (fun _ => True) (fun _ => .tup [.agg [.int .i64 0, .val (.slice none 0 0), .val (.slice none 0 0), .int .i64 0], .int .i64 33]) (fun _ => ⟨[], [(0, .list .tmp .row m.rows), (1, .list .tmp .term m.goal), (2, .list .tmp .int most)], 3⟩) := by
  have hnot := box_not hb
  have hc := hg.c
  refine trip_by (rs := [_, _]) 400 lay_ok Try.func11 rfl (by kernel_rfl) Try.ntmps11 Try.results11 rfl rfl ?_
  repeat' (first | (((with_reducible refine g_id ?_); (conv => arg 3; whnf)); first | (with_reducible refine g_split lay_ok 400 ?_ ?_ ?_) | (with_reducible refine g_cond lay_ok 400 ?_ ?_ ?_) | (with_reducible refine g_out lay_ok 400 ?_ ?_) | (with_reducible refine g_fin ?_ ?_) | (refine g_call lay_ok 400 ?_ ?_ ?_ (c_small ?_ ?_ ?_) rfl) | (refine g_call lay_ok 400 ?_ ?_ ?_ (k_bm ?_ ?_) rfl) | (refine g_flow 3 lay_ok mixed_ok 400 784 [0, 1, 0, 4, 12, 0, 32, 127, 0, 511] (.q 0 (.q 1 (.q 2 (.q 3 (.q 5 (.q 6 (.e 4 [0, 1, 5, 6] (.q 7 (.e 8 [0, 1, 2, 3, 5, 6, 7] (.e 9 [] (.fin) .stop) .stop)) (.e 8 [0, 1, 2, 3, 5, 6] (.e 4 [0, 1, 5, 6] (.q 7 (.e 9 [] (.fin) .stop)) .stop) .stop)))))))) (by kernel_rfl) ?_ ?_) | (refine g_flow 7 lay_ok mixed_ok 400 2832 [0, 1, 0, 4, 12, 0, 32, 124, 252, 511, 1023, 2047] (.q 0 (.q 1 (.q 2 (.q 3 (.q 5 (.q 6 (.e 4 [0, 1, 5, 6] (.q 7 (.e 8 [0, 1] (.e 9 [] (.q 10 (.e 11 [] (.fin) .stop)) .stop) .stop)) .stop))))))) (by kernel_rfl) ?_ ?_)) | (((with_reducible refine w_id ?_); (conv => arg 4; whnf)); first | (with_reducible refine w_fin ?_ ?_) | (with_reducible refine w_split lay_ok 400 ?_ ?_ ?_) | (with_reducible refine w_tt ?_) | (with_reducible refine w_eff lay_ok 400 ?_ rfl rfl ?_ ?_)) | (with_reducible refine q_flow ?_ ?_) | ((with_reducible refine h_id ?_); (conv => arg 1; whnf); (with_reducible refine s_some ?_)) | (with_reducible refine q_leave lay_ok 400 ?_) | (with_reducible refine q_ret lay_ok 400 ?_) | (with_reducible exact o_nil) | (with_reducible refine o_cons ?_ ?_) | ((with_reducible refine o_id ?_); (conv => arg 1; whnf); first | (with_reducible exact o_nil) | (with_reducible refine o_cons ?_ ?_)) | (intro h; ((try simp only [Int.toNat_natCast] at h); repeat (first | replace h := of_decide_eq_true h | replace h := of_decide_eq_false h | replace h := not_t h | replace h := not_f h | replace h := eq_of_beq h)); (try (first | contradiction | (exfalso; omega) | exact Bool.noConfusion (h.symm.trans (by assumption) : true = false) | exact Bool.noConfusion (h.symm.trans (by assumption) : false = true) | exact absurd rfl h | exact absurd (by assumption) h | exact absurd h (by assumption) | (simp only [Int.toNat_natCast] at h; exfalso; omega) | (exfalso; rcases hnot with q | q | q <;> first | omega | (rw [h] at q; exact Bool.noConfusion q))))) | rfl | omega | assumption | (simp only [List.length_append, List.length_cons, List.length_nil]; omega) | (simp only [Int.toNat_natCast]; omega))
  all_goals (((with_reducible refine e_id ?_); (conv => whnf)); refine ⟨(), trivial, ?_⟩; ((with_reducible refine s_id ?_); (conv => arg 1; whnf); (with_reducible refine s_some ?_); repeat' (first | (with_reducible exact o_nil) | (with_reducible refine o_cons ?_ ?_) | ((with_reducible refine o_id ?_); (conv => arg 1; whnf); first | (with_reducible exact o_nil) | (with_reducible refine o_cons ?_ ?_)) | rfl | omega | assumption | (simp only [List.length_append, List.length_cons, List.length_nil]; omega))))
end Go.Proofs.Ytkageldgmkajbaa
namespace Go.Proofs.Ytkageldgmkajbaa
open Go.RowKit
def valN (l : List Term) (x : List Int) (n : Nat) : Int := sumN (fun i => (gt (c := .term) l i).co * gt (c := .int) x (gt (c := .term) l i).of_.toNat) n
theorem val_zero {l : List Term} {x : List Int} : valN l x 0 = 0 := rfl
theorem val_succ {l : List Term} {x : List Int} {n : Nat} : valN l x (n + 1) = valN l x n + (gt (c := .term) l n).co * gt (c := .int) x (gt (c := .term) l n).of_.toNat := rfl
theorem mul_bd9 {a b : Int} (h1 : -9 ≤ a) (h2 : a ≤ 9) (h3 : 0 ≤ b) (h4 : b ≤ 1048576) : -9437184 ≤ a * b ∧ a * b ≤ 9437184 := by
  have h5 := Int.mul_le_mul_of_nonneg_right h2 h3
  have h6 := Int.mul_le_mul_of_nonneg_right h1 h3
  omega
theorem x_bd {x : List Int} (h : x.any badV = false) (i : Nat) : @LE.le Int _ 0 (gt (c := .int) x i) ∧ @LE.le Int _ (gt (c := .int) x i) 1048576 := by
  by_cases hi : i < x.length
  · have h1 := List.any_eq_false.1 h _ (mem_gt (c := .int) hi)
    unfold badV at h1
    simp only [Bool.or_eq_true, decide_eq_true_eq] at h1
    omega
  · rw [gt_out (c := .int) (by omega)]
    exact ⟨Int.le_refl _, by show (0 : Int) ≤ 1048576; omega⟩
theorem val_bd {c : Int} {l : List Term} {x : List Int} (h : tmB c 9 l = true) (hx : x.any badV = false) (n : Nat) (hn : n ≤ l.length) : -(9437184 * (n : Int)) ≤ valN l x n ∧ valN l x n ≤ 9437184 * (n : Int) :=
  sumN_bd fun i hi => by
    have h1 := tmB_at h (i := i) (by omega)
    have h2 := x_bd hx (gt (c := .term) l i).of_.toNat
    exact mul_bd9 h1.2.2.2.1 h1.2.2.2.2.1 h2.1 h2.2
theorem val_len {c m : Int} {l : List Term} (h : tmB c m l = true) (hc : c ≤ 6) : l.length ≤ 6 := by
  rcases tmB_len h with h1 | h1
  · omega
  · subst h1; exact Nat.zero_le _
attribute [local irreducible] valN tmB badV tm1
set_option maxHeartbeats 2000000 in
theorem c_sum (l : List Term) (x : List Int) (c1 : x.length ≤ 6) (h : tmB (x.length : Int) 9 l = true) (hx : x.any badV = false) : Trip Try.prog 35 [.sl ⟨0, []⟩, .sl ⟨1, []⟩] ⟨[], [(0, .list .tmp .term l), (1, .list .tmp .int x)], 2⟩ (Z := Unit) (fun _ => True) (fun _ => .int .i64 (valN l x l.length)) (fun _ => ⟨[], [(0, .list .tmp .term l), (1, .list .tmp .int x)], 2⟩) := by
  have hl := val_len h (by omega)
  refine trip_by (rs := [_]) 400 lay_ok Try.func35 rfl (by kernel_rfl) Try.ntmps35 Try.results35 rfl rfl ?_
  repeat' (first | (((with_reducible refine g_id ?_); (conv => arg 3; whnf)); first | (with_reducible refine g_split lay_ok 400 ?_ ?_ ?_) | (with_reducible refine g_cond lay_ok 400 ?_ ?_ ?_) | (with_reducible refine g_out lay_ok 400 ?_ ?_) | (with_reducible refine g_fin ?_ ?_) | (refine g_flow 5 lay_ok mixed_ok 400 1024 [0, 0, 2, 0, 0, 16, 56, 120, 254, 511, 1023] (.q 0 (.q 1 (.q 2 (.q 3 (.q 4 (.q 5 (.q 6 (.q 7 (.q 8 (.q 9 (.e 10 [] (.fin) .stop))))))))))) (by kernel_rfl) ?_ ?_)) | (((with_reducible refine w_id ?_); (conv => arg 4; whnf)); first | (with_reducible refine w_fin ?_ ?_) | (with_reducible refine w_split lay_ok 400 ?_ ?_ ?_) | (with_reducible refine w_tt ?_) | (with_reducible refine w_eff lay_ok 400 ?_ rfl rfl ?_ ?_)) | (with_reducible refine q_flow ?_ ?_) | ((with_reducible refine h_id ?_); (conv => arg 1; whnf); (with_reducible refine s_some ?_)) | (with_reducible refine q_leave lay_ok 400 ?_) | (with_reducible refine q_ret lay_ok 400 ?_) | (with_reducible exact o_nil) | (with_reducible refine o_cons ?_ ?_) | ((with_reducible refine o_id ?_); (conv => arg 1; whnf); first | (with_reducible exact o_nil) | (with_reducible refine o_cons ?_ ?_)) | (intro h; ((try simp only [Int.toNat_natCast] at h); repeat (first | replace h := of_decide_eq_true h | replace h := of_decide_eq_false h | replace h := not_t h | replace h := not_f h | replace h := eq_of_beq h)); (try (first | contradiction | (exfalso; omega) | exact Bool.noConfusion (h.symm.trans (by assumption) : true = false) | exact Bool.noConfusion (h.symm.trans (by assumption) : false = true) | exact absurd rfl h | exact absurd (by assumption) h | exact absurd h (by assumption) | (simp only [Int.toNat_natCast] at h; exfalso; omega)))) | rfl | omega | assumption | (simp only [List.length_append, List.length_cons, List.length_nil]; omega) | (simp only [Int.toNat_natCast]; omega) | (simp only [Int.toNat_natCast]; omega))
  refine g_loop lay_ok 400 (Z := Nat) (fun z => z ≤ l.length) (fun z => ⟨[(1, .sl ⟨1, []⟩), (5, .int .i64 (valN l x z)), (8, .sl ⟨0, []⟩), (9, .int .i64 (l.length : Int)), (10, .int .i64 (z : Int))], [(0, .list .tmp .term l), (1, .list .tmp .int x)], 2⟩) (fun z => l.length - z) ?_ ⟨0, Nat.zero_le _, ?_⟩ (fun z hz => ?_)
  · repeat' (first | (with_reducible exact o_nil) | (with_reducible refine o_cons ?_ ?_) | ((with_reducible refine o_id ?_); (conv => arg 1; whnf); first | (with_reducible exact o_nil) | (with_reducible refine o_cons ?_ ?_)) | rfl | omega | assumption | (simp only [List.length_append, List.length_cons, List.length_nil]; omega) | (simp only [Int.toNat_natCast]; omega))
  · ((with_reducible refine s_id ?_); (conv => arg 1; whnf); (with_reducible refine s_some ?_); repeat' (first | (with_reducible exact o_nil) | (with_reducible refine o_cons ?_ ?_) | ((with_reducible refine o_id ?_); (conv => arg 1; whnf); first | (with_reducible exact o_nil) | (with_reducible refine o_cons ?_ ?_)) | rfl | omega | assumption | (simp only [List.length_append, List.length_cons, List.length_nil]; omega) | (simp only [Int.toNat_natCast]; omega) | exact val_zero | exact val_zero.symm | exact val_succ | exact val_succ.symm | (simp only [Int.toNat_natCast]; exact val_succ) | (simp only [Int.toNat_natCast]; exact val_succ.symm)))
  by_cases hlt : z < l.length
  · have t1 := tmB_at h (i := z) hlt
    have t2 := val_bd h hx z (by omega)
    have t3 := x_bd hx (gt (c := .term) l z).of_.toNat
    have t4 := mul_bd9 t1.2.2.2.1 t1.2.2.2.2.1 t3.1 t3.2
    repeat' (first | (((with_reducible refine g_id ?_); (conv => arg 3; whnf)); first | (with_reducible refine g_split lay_ok 400 ?_ ?_ ?_) | (with_reducible refine g_cond lay_ok 400 ?_ ?_ ?_) | (with_reducible refine g_out lay_ok 400 ?_ ?_) | (with_reducible refine g_fin ?_ ?_) | (refine g_flow 5 lay_ok mixed_ok 400 1024 [0, 0, 2, 0, 0, 16, 56, 120, 254, 511, 1023] (.q 0 (.q 1 (.q 2 (.q 3 (.q 4 (.q 5 (.q 6 (.q 7 (.q 8 (.q 9 (.e 10 [] (.fin) .stop))))))))))) (by kernel_rfl) ?_ ?_)) | (((with_reducible refine w_id ?_); (conv => arg 4; whnf)); first | (with_reducible refine w_fin ?_ ?_) | (with_reducible refine w_split lay_ok 400 ?_ ?_ ?_) | (with_reducible refine w_tt ?_) | (with_reducible refine w_eff lay_ok 400 ?_ rfl rfl ?_ ?_)) | (with_reducible refine q_flow ?_ ?_) | ((with_reducible refine h_id ?_); (conv => arg 1; whnf); (with_reducible refine s_some ?_)) | (with_reducible refine q_leave lay_ok 400 ?_) | (with_reducible refine q_ret lay_ok 400 ?_) | (with_reducible exact o_nil) | (with_reducible refine o_cons ?_ ?_) | ((with_reducible refine o_id ?_); (conv => arg 1; whnf); first | (with_reducible exact o_nil) | (with_reducible refine o_cons ?_ ?_)) | (intro h; ((try simp only [Int.toNat_natCast] at h); repeat (first | replace h := of_decide_eq_true h | replace h := of_decide_eq_false h | replace h := not_t h | replace h := not_f h | replace h := eq_of_beq h)); (try (first | contradiction | (exfalso; omega) | exact Bool.noConfusion (h.symm.trans (by assumption) : true = false) | exact Bool.noConfusion (h.symm.trans (by assumption) : false = true) | exact absurd rfl h | exact absurd (by assumption) h | exact absurd h (by assumption) | (simp only [Int.toNat_natCast] at h; exfalso; omega)))) | rfl | omega | assumption | (simp only [List.length_append, List.length_cons, List.length_nil]; omega) | (simp only [Int.toNat_natCast]; omega) | (simp only [Int.toNat_natCast]; omega))
    all_goals (refine q_round ⟨z + 1, by omega, by omega, ?_⟩; ((with_reducible refine s_id ?_); (conv => arg 1; whnf); (with_reducible refine s_some ?_); repeat' (first | (with_reducible exact o_nil) | (with_reducible refine o_cons ?_ ?_) | ((with_reducible refine o_id ?_); (conv => arg 1; whnf); first | (with_reducible exact o_nil) | (with_reducible refine o_cons ?_ ?_)) | rfl | omega | assumption | (simp only [List.length_append, List.length_cons, List.length_nil]; omega) | (simp only [Int.toNat_natCast]; omega) | exact val_zero | exact val_zero.symm | exact val_succ | exact val_succ.symm | (simp only [Int.toNat_natCast]; exact val_succ) | (simp only [Int.toNat_natCast]; exact val_succ.symm))))
  · have e : z = l.length := by omega
    subst e
    repeat' (first | (((with_reducible refine g_id ?_); (conv => arg 3; whnf)); first | (with_reducible refine g_split lay_ok 400 ?_ ?_ ?_) | (with_reducible refine g_cond lay_ok 400 ?_ ?_ ?_) | (with_reducible refine g_out lay_ok 400 ?_ ?_) | (with_reducible refine g_fin ?_ ?_) | (refine g_flow 5 lay_ok mixed_ok 400 1024 [0, 0, 2, 0, 0, 16, 56, 120, 254, 511, 1023] (.q 0 (.q 1 (.q 2 (.q 3 (.q 4 (.q 5 (.q 6 (.q 7 (.q 8 (.q 9 (.e 10 [] (.fin) .stop))))))))))) (by kernel_rfl) ?_ ?_)) | (((with_reducible refine w_id ?_); (conv => arg 4; whnf)); first | (with_reducible refine w_fin ?_ ?_) | (with_reducible refine w_split lay_ok 400 ?_ ?_ ?_) | (with_reducible refine w_tt ?_) | (with_reducible refine w_eff lay_ok 400 ?_ rfl rfl ?_ ?_)) | (with_reducible refine q_flow ?_ ?_) | ((with_reducible refine h_id ?_); (conv => arg 1; whnf); (with_reducible refine s_some ?_)) | (with_reducible refine q_leave lay_ok 400 ?_) | (with_reducible refine q_ret lay_ok 400 ?_) | (with_reducible exact o_nil) | (with_reducible refine o_cons ?_ ?_) | ((with_reducible refine o_id ?_); (conv => arg 1; whnf); first | (with_reducible exact o_nil) | (with_reducible refine o_cons ?_ ?_)) | (intro h; ((try simp only [Int.toNat_natCast] at h); repeat (first | replace h := of_decide_eq_true h | replace h := of_decide_eq_false h | replace h := not_t h | replace h := not_f h | replace h := eq_of_beq h)); (try (first | contradiction | (exfalso; omega) | exact Bool.noConfusion (h.symm.trans (by assumption) : true = false) | exact Bool.noConfusion (h.symm.trans (by assumption) : false = true) | exact absurd rfl h | exact absurd (by assumption) h | exact absurd h (by assumption) | (simp only [Int.toNat_natCast] at h; exfalso; omega)))) | rfl | omega | assumption | (simp only [List.length_append, List.length_cons, List.length_nil]; omega) | (simp only [Int.toNat_natCast]; omega) | (simp only [Int.toNat_natCast]; omega))
    all_goals (((with_reducible refine e_id ?_); (conv => whnf)); refine ⟨(), trivial, ?_⟩; ((with_reducible refine s_id ?_); (conv => arg 1; whnf); (with_reducible refine s_some ?_); repeat' (first | (with_reducible exact o_nil) | (with_reducible refine o_cons ?_ ?_) | ((with_reducible refine o_id ?_); (conv => arg 1; whnf); first | (with_reducible exact o_nil) | (with_reducible refine o_cons ?_ ?_)) | rfl | omega | assumption | (simp only [List.length_append, List.length_cons, List.length_nil]; omega))))
end Go.Proofs.Ytkageldgmkajbaa
namespace Go.Proofs.Ytkageldgmkajbaa
open Go.RowKit
def rowBad (x : List Int) (r : Row) : Bool := decide (r.mo < valN r.te x r.te.length)
def okX (m : Mdl) (x : List Int) : Bool := decide ((x.length : Int) = m.cols) && !(x.any badV) && !(m.rows.any (rowBad x))
def valR (m : Mdl) (x : List Int) : Int := if okX m x = true then m.cst + valN m.goal x m.goal.length else 0
theorem okX_t {m : Mdl} {x : List Int} (h1 : (x.length : Int) = m.cols) (h2 : x.any badV = false) (h3 : m.rows.any (rowBad x) = false) : okX m x = true := by unfold okX; rw [decide_eq_true h1, h2, h3]; rfl
theorem okX_f1 {m : Mdl} {x : List Int} (h1 : ¬ (x.length : Int) = m.cols) : okX m x = false := by unfold okX; rw [decide_eq_false h1]; rfl
theorem okX_f2 {m : Mdl} {x : List Int} (h1 : x.any badV = true) : okX m x = false := by unfold okX; rw [h1]; simp
theorem okX_f3 {m : Mdl} {x : List Int} (h1 : m.rows.any (rowBad x) = true) : okX m x = false := by unfold okX; rw [h1]; simp
theorem valR_t {m : Mdl} {x : List Int} (h : okX m x = true) : valR m x = m.cst + valN m.goal x m.goal.length := if_pos h
theorem valR_f {m : Mdl} {x : List Int} (h : okX m x = false) : valR m x = 0 := if_neg (by rw [h]; simp)
theorem okX_is {m : Mdl} {x : List Int} (h : okX m x = true) : (x.length : Int) = m.cols ∧ x.any badV = false ∧ m.rows.any (rowBad x) = false := by
  unfold okX at h
  simp only [Bool.and_eq_true, decide_eq_true_eq, Bool.not_eq_true'] at h
  exact ⟨h.1.1, h.1.2, h.2⟩
theorem any_t {z : Int} {b : Bool} (h : decide (0 ≤ z) = b) (hz : 0 ≤ z) : b = true := by rw [← h, decide_eq_true hz]
theorem any_f {z : Int} {b : Bool} (h : decide (0 ≤ z) = b) (hz : ¬ 0 ≤ z) : b = false := by rw [← h, decide_eq_false hz]
theorem tm_cast {c : Int} {n : Nat} {l : List Term} (h : (n : Int) = c) (g : tmB c 9 l = true) : tmB (n : Int) 9 l = true := by rw [h]; exact g
attribute [local irreducible] valN tmB badV tm1 rwsB rowBad okX valR
theorem rowBad_eq (x : List Int) (r : Row) : rowBad x r = decide (r.mo < valN r.te x r.te.length) := by unfold rowBad; rfl
set_option maxHeartbeats 1000000 in
theorem c_brk1 (x : List Int) (c1 : x.length ≤ 6) (hx : x.any badV = false) (r : Row) (h : tmB (x.length : Int) 9 r.te = true) : Trip Try.prog 49 [.agg [.sl ⟨0, []⟩, .int .i64 r.mo], .ptr 1 0] ⟨[], [(0, .list .tmp .term r.te), (1, .cells [.sl ⟨2, []⟩]), (2, .list .tmp .int x)], 3⟩ (Z := Unit) (fun _ => True) (fun _ => .bool (rowBad x r)) (fun _ => ⟨[], [(0, .list .tmp .term r.te), (1, .cells [.sl ⟨2, []⟩]), (2, .list .tmp .int x)], 3⟩) := by
  refine trip_by (rs := [_]) 400 lay_ok Try.func49 rfl (by kernel_rfl) Try.ntmps49 Try.results49 rfl rfl ?_
  repeat' (first | (((with_reducible refine g_id ?_); (conv => arg 3; whnf)); first | (with_reducible refine g_split lay_ok 400 ?_ ?_ ?_) | (with_reducible refine g_cond lay_ok 400 ?_ ?_ ?_) | (with_reducible refine g_out lay_ok 400 ?_ ?_) | (with_reducible refine g_fin ?_ ?_) | (refine g_call lay_ok 400 ?_ ?_ ?_ (c_sum ?_ ?_ ?_ ?_ ?_) rfl) | (refine g_flow 1 lay_ok mixed_ok 400 8 [0, 1, 0, 7, 0, 16, 63, 127] (.q 0 (.q 1 (.q 2 (.q 4 (.q 5 (.e 3 [4, 5] (.q 6 (.q 7 .fin)) .stop)))))) (by kernel_rfl) ?_ ?_)) | (((with_reducible refine w_id ?_); (conv => arg 4; whnf)); first | (with_reducible refine w_fin ?_ ?_) | (with_reducible refine w_split lay_ok 400 ?_ ?_ ?_) | (with_reducible refine w_tt ?_) | (with_reducible refine w_eff lay_ok 400 ?_ rfl rfl ?_ ?_)) | (with_reducible refine q_flow ?_ ?_) | ((with_reducible refine h_id ?_); (conv => arg 1; whnf); (with_reducible refine s_some ?_)) | (with_reducible refine q_leave lay_ok 400 ?_) | (with_reducible refine q_ret lay_ok 400 ?_) | (with_reducible exact o_nil) | (with_reducible refine o_cons ?_ ?_) | ((with_reducible refine o_id ?_); (conv => arg 1; whnf); first | (with_reducible exact o_nil) | (with_reducible refine o_cons ?_ ?_)) | (intro h; ((try simp only [Int.toNat_natCast] at h); repeat (first | replace h := of_decide_eq_true h | replace h := of_decide_eq_false h | replace h := not_t h | replace h := not_f h | replace h := eq_of_beq h)); (try (first | contradiction | (exfalso; omega) | exact Bool.noConfusion (h.symm.trans (by assumption) : true = false) | exact Bool.noConfusion (h.symm.trans (by assumption) : false = true) | exact absurd rfl h | exact absurd (by assumption) h | exact absurd h (by assumption)))) | rfl | omega | assumption | (simp only [List.length_append, List.length_cons, List.length_nil]; omega) | (simp only [Int.toNat_natCast]; omega))
  all_goals (((with_reducible refine e_id ?_); (conv => whnf)); refine ⟨(), trivial, ?_⟩; ((with_reducible refine s_id ?_); (conv => arg 1; whnf); (with_reducible refine s_some ?_); repeat' (first | (with_reducible exact o_nil) | (with_reducible refine o_cons ?_ ?_) | ((with_reducible refine o_id ?_); (conv => arg 1; whnf); first | (with_reducible exact o_nil) | (with_reducible refine o_cons ?_ ?_)) | rfl | omega | assumption | (simp only [List.length_append, List.length_cons, List.length_nil]; omega) | (rw [rowBad_eq]))))
set_option maxHeartbeats 1000000 in
theorem i_brk (x : List Int) (c1 : x.length ≤ 6) (hx : x.any badV = false) (xs : List Row) (hr : rwsB (x.length : Int) 9 50 xs = true) (hl : xs.length ≤ 1000) : Trip Try.prog 48 [.sl ⟨0, []⟩, .clo 49 [.ptr 1 0]] ⟨[], [(0, .list .tmp .row xs), (1, .cells [.sl ⟨2, []⟩]), (2, .list .tmp .int x)], 3⟩ (Z := Int) (fun z => decide ((0 : Int) ≤ z) = xs.any (rowBad x)) (fun z => .int .i64 z) (fun _ => ⟨[], [(0, .list .tmp .row xs), (1, .cells [.sl ⟨2, []⟩]), (2, .list .tmp .int x)], 3⟩) := by
  refine trip_by (rs := [_]) 400 lay_ok Try.func48 rfl (by kernel_rfl) Try.ntmps48 Try.results48 rfl rfl ?_
  repeat' (first | (((with_reducible refine g_id ?_); (conv => arg 3; whnf)); first | (with_reducible refine g_split lay_ok 400 ?_ ?_ ?_) | (with_reducible refine g_cond lay_ok 400 ?_ ?_ ?_) | (with_reducible refine g_out lay_ok 400 ?_ ?_) | (with_reducible refine g_fin ?_ ?_)) | (with_reducible refine q_leave lay_ok 400 ?_) | (with_reducible refine q_ret lay_ok 400 ?_) | (with_reducible exact o_nil) | (with_reducible refine o_cons ?_ ?_) | ((with_reducible refine o_id ?_); (conv => arg 1; whnf); first | (with_reducible exact o_nil) | (with_reducible refine o_cons ?_ ?_)) | (intro h; ((try simp only [Int.toNat_natCast] at h); repeat (first | replace h := of_decide_eq_true h | replace h := of_decide_eq_false h | replace h := not_t h | replace h := not_f h | replace h := eq_of_beq h)); (try (first | contradiction | (exfalso; omega) | exact Bool.noConfusion (h.symm.trans (by assumption) : true = false) | exact Bool.noConfusion (h.symm.trans (by assumption) : false = true) | exact absurd rfl h | exact absurd (by assumption) h | exact absurd h (by assumption)))) | rfl | omega | assumption | (simp only [List.length_append, List.length_cons, List.length_nil]; omega))
  refine g_loop lay_ok 400 (Z := Nat) (fun i => i ≤ xs.length ∧ ∀ k, k < i → rowBad x (gt (c := .row) xs k) = false) (fun i => ⟨[(0, .sl ⟨0, []⟩), (1, .clo 49 [.ptr 1 0]), (6, .sl ⟨0, []⟩), (7, .int .i64 (xs.length : Int)), (8, .int .i64 (i : Int))], [(0, .list .tmp .row xs), (1, .cells [.sl ⟨2, []⟩]), (2, .list .tmp .int x)], 3⟩) (fun i => xs.length - i) ?_ ⟨0, ⟨Nat.zero_le _, fun k hk => by omega⟩, ?_⟩ (fun i hi => ?_)
  · repeat' (first | (with_reducible exact o_nil) | (with_reducible refine o_cons ?_ ?_) | ((with_reducible refine o_id ?_); (conv => arg 1; whnf); first | (with_reducible exact o_nil) | (with_reducible refine o_cons ?_ ?_)) | rfl | omega | assumption | (simp only [List.length_append, List.length_cons, List.length_nil]; omega) | (simp only [Int.toNat_natCast]; omega))
  · ((with_reducible refine s_id ?_); (conv => arg 1; whnf); (with_reducible refine s_some ?_); repeat' (first | (with_reducible exact o_nil) | (with_reducible refine o_cons ?_ ?_) | ((with_reducible refine o_id ?_); (conv => arg 1; whnf); first | (with_reducible exact o_nil) | (with_reducible refine o_cons ?_ ?_)) | rfl | omega | assumption | (simp only [List.length_append, List.length_cons, List.length_nil]; omega) | (simp only [Int.toNat_natCast]; omega)))
  obtain ⟨hi, hn⟩ := hi
  by_cases hlt : i < xs.length
  · have hq := (rw_at hr hlt).1
    repeat' (first | (((with_reducible refine g_id ?_); (conv => arg 3; whnf)); first | (with_reducible refine g_split lay_ok 400 ?_ ?_ ?_) | (with_reducible refine g_cond lay_ok 400 ?_ ?_ ?_) | (with_reducible refine g_out lay_ok 400 ?_ ?_) | (with_reducible refine g_fin ?_ ?_) | (refine g_call lay_ok 400 ?_ ?_ ?_ (c_brk1 ?_ ?_ ?_ ?_ ?_) rfl)) | (with_reducible refine q_leave lay_ok 400 ?_) | (with_reducible refine q_ret lay_ok 400 ?_) | (with_reducible exact o_nil) | (with_reducible refine o_cons ?_ ?_) | ((with_reducible refine o_id ?_); (conv => arg 1; whnf); first | (with_reducible exact o_nil) | (with_reducible refine o_cons ?_ ?_)) | (intro h; ((try simp only [Int.toNat_natCast] at h); repeat (first | replace h := of_decide_eq_true h | replace h := of_decide_eq_false h | replace h := not_t h | replace h := not_f h | replace h := eq_of_beq h)); (try (first | contradiction | (exfalso; omega) | exact Bool.noConfusion (h.symm.trans (by assumption) : true = false) | exact Bool.noConfusion (h.symm.trans (by assumption) : false = true) | exact absurd rfl h | exact absurd (by assumption) h | exact absurd h (by assumption) | (simp only [Int.toNat_natCast] at h; exfalso; omega)))) | rfl | omega | assumption | (simp only [List.length_append, List.length_cons, List.length_nil]; omega) | (simp only [Int.toNat_natCast]; omega) | (exact hq) | (simp only [Int.toNat_natCast]; exact hq))
    all_goals first | (refine q_round ⟨i + 1, ⟨by omega, gt_next (c := .row) hn (by assumption)⟩, by omega, ?_⟩; ((with_reducible refine s_id ?_); (conv => arg 1; whnf); (with_reducible refine s_some ?_); repeat' (first | (with_reducible exact o_nil) | (with_reducible refine o_cons ?_ ?_) | ((with_reducible refine o_id ?_); (conv => arg 1; whnf); first | (with_reducible exact o_nil) | (with_reducible refine o_cons ?_ ?_)) | rfl | omega | assumption | (simp only [List.length_append, List.length_cons, List.length_nil]; omega) | (simp only [Int.toNat_natCast]; omega)))) | (((with_reducible refine e_id ?_); (conv => whnf)); refine ⟨(i : Int), found_gt (c := .row) (by omega) (by assumption), ?_⟩; ((with_reducible refine s_id ?_); (conv => arg 1; whnf); (with_reducible refine s_some ?_); repeat' (first | (with_reducible exact o_nil) | (with_reducible refine o_cons ?_ ?_) | ((with_reducible refine o_id ?_); (conv => arg 1; whnf); first | (with_reducible exact o_nil) | (with_reducible refine o_cons ?_ ?_)) | rfl | omega | assumption | (simp only [List.length_append, List.length_cons, List.length_nil]; omega) | (simp only [Int.toNat_natCast]; omega))))
  · repeat' (first | (((with_reducible refine g_id ?_); (conv => arg 3; whnf)); first | (with_reducible refine g_split lay_ok 400 ?_ ?_ ?_) | (with_reducible refine g_cond lay_ok 400 ?_ ?_ ?_) | (with_reducible refine g_out lay_ok 400 ?_ ?_) | (with_reducible refine g_fin ?_ ?_)) | (with_reducible refine q_leave lay_ok 400 ?_) | (with_reducible refine q_ret lay_ok 400 ?_) | (with_reducible exact o_nil) | (with_reducible refine o_cons ?_ ?_) | ((with_reducible refine o_id ?_); (conv => arg 1; whnf); first | (with_reducible exact o_nil) | (with_reducible refine o_cons ?_ ?_)) | (intro h; ((try simp only [Int.toNat_natCast] at h); repeat (first | replace h := of_decide_eq_true h | replace h := of_decide_eq_false h | replace h := not_t h | replace h := not_f h | replace h := eq_of_beq h)); (try (first | contradiction | (exfalso; omega) | exact Bool.noConfusion (h.symm.trans (by assumption) : true = false) | exact Bool.noConfusion (h.symm.trans (by assumption) : false = true) | exact absurd rfl h | exact absurd (by assumption) h | exact absurd h (by assumption) | (simp only [Int.toNat_natCast] at h; exfalso; omega)))) | rfl | omega | assumption | (simp only [List.length_append, List.length_cons, List.length_nil]; omega) | (simp only [Int.toNat_natCast]; omega))
    all_goals (((with_reducible refine e_id ?_); (conv => whnf)); refine ⟨-1, none_gt (c := .row) hn (by omega), ?_⟩; ((with_reducible refine s_id ?_); (conv => arg 1; whnf); (with_reducible refine s_some ?_); repeat' (first | (with_reducible exact o_nil) | (with_reducible refine o_cons ?_ ?_) | ((with_reducible refine o_id ?_); (conv => arg 1; whnf); first | (with_reducible exact o_nil) | (with_reducible refine o_cons ?_ ?_)) | rfl | omega | assumption | (simp only [List.length_append, List.length_cons, List.length_nil]; omega) | (simp only [Int.toNat_natCast]; omega))))
set_option maxHeartbeats 1000000 in
theorem c_broken (m : Mdl) (x : List Int) (hg : Gd m) (hx : x.any badV = false) (hc : (x.length : Int) = m.cols) : Trip Try.prog 34 [.agg [.int .i64 m.cols, .sl ⟨0, []⟩, .sl ⟨1, []⟩, .int .i64 m.cst], .sl ⟨2, []⟩] ⟨[], [(0, .list .tmp .row m.rows), (1, .list .tmp .term m.goal), (2, .list .tmp .int x)], 3⟩ (Z := Int) (fun z => decide ((0 : Int) ≤ z) = m.rows.any (rowBad x)) (fun z => .int .i64 z) (fun _ => ⟨[], [(0, .list .tmp .row m.rows), (1, .list .tmp .term m.goal), (2, .list .tmp .int x)], 3⟩) := by
  have hm := hg.c
  have hr := hg.r
  have hn := hg.n
  rw [← hc] at hm hr
  refine trip_by (rs := [_]) 400 lay_ok Try.func34 rfl (by kernel_rfl) Try.ntmps34 Try.results34 rfl rfl ?_
  repeat' (first | (((with_reducible refine g_id ?_); (conv => arg 3; whnf)); first | (with_reducible refine g_split lay_ok 400 ?_ ?_ ?_) | (with_reducible refine g_cond lay_ok 400 ?_ ?_ ?_) | (with_reducible refine g_out lay_ok 400 ?_ ?_) | (with_reducible refine g_fin ?_ ?_) | (refine g_call lay_ok 400 ?_ ?_ ?_ (i_brk ?_ ?_ ?_ ?_ ?_ ?_) rfl)) | (with_reducible refine q_leave lay_ok 400 ?_) | (with_reducible refine q_ret lay_ok 400 ?_) | (with_reducible exact o_nil) | (with_reducible refine o_cons ?_ ?_) | ((with_reducible refine o_id ?_); (conv => arg 1; whnf); first | (with_reducible exact o_nil) | (with_reducible refine o_cons ?_ ?_)) | (intro h; ((try simp only [Int.toNat_natCast] at h); repeat (first | replace h := of_decide_eq_true h | replace h := of_decide_eq_false h | replace h := not_t h | replace h := not_f h | replace h := eq_of_beq h)); (try (first | contradiction | (exfalso; omega) | exact Bool.noConfusion (h.symm.trans (by assumption) : true = false) | exact Bool.noConfusion (h.symm.trans (by assumption) : false = true) | exact absurd rfl h | exact absurd (by assumption) h | exact absurd h (by assumption)))) | rfl | omega | assumption | (simp only [List.length_append, List.length_cons, List.length_nil]; omega) | (simp only [Int.toNat_natCast]; omega))
  all_goals (((with_reducible refine e_id ?_); (conv => whnf)); apply ex_i2; ((with_reducible refine s_id ?_); (conv => arg 1; whnf); (with_reducible refine s_some ?_); repeat' (first | (with_reducible exact o_nil) | (with_reducible refine o_cons ?_ ?_) | ((with_reducible refine o_id ?_); (conv => arg 1; whnf); first | (with_reducible exact o_nil) | (with_reducible refine o_cons ?_ ?_)) | rfl | omega | assumption | (simp only [List.length_append, List.length_cons, List.length_nil]; omega) | (simp only [Int.toNat_natCast]; omega))))
set_option maxHeartbeats 4000000 in
theorem c_value (m : Mdl) (x : List Int) (hg : Gd m) (hl : x.length ≤ 1000) : Trip Try.prog 17 [.agg [.int .i64 m.cols, .sl ⟨0, []⟩, .sl ⟨1, []⟩, .int .i64 m.cst], .sl ⟨2, []⟩] ⟨[], [(0, .list .tmp .row m.rows), (1, .list .tmp .term m.goal), (2, .list .tmp .int x)], 3⟩ (Z := Unit) (fun _ => True) (fun _ => .tup [.int .i64 (valR m x), .bool (okX m x)]) (fun _ => ⟨[], [(0, .list .tmp .row m.rows), (1, .list .tmp .term m.goal), (2, .list .tmp .int x)], 3⟩) := by
  have hm := hg.c
  have hk := hg.k
  have hgl := val_len hg.g hm.2
  have vb := fun (q : x.any badV = false) => val_bd hg.g q m.goal.length (Nat.le_refl _)
  refine trip_by (rs := [_, _]) 400 lay_ok Try.func17 rfl (by kernel_rfl) Try.ntmps17 Try.results17 rfl rfl ?_
  repeat' (first | (((with_reducible refine g_id ?_); (conv => arg 3; whnf)); first | (with_reducible refine g_split lay_ok 400 ?_ ?_ ?_) | (with_reducible refine g_cond lay_ok 400 ?_ ?_ ?_) | (with_reducible refine g_out lay_ok 400 ?_ ?_) | (with_reducible refine g_fin ?_ ?_) | (refine g_call lay_ok 400 ?_ ?_ ?_ (c_valid ?_ ?_) rfl) | (refine g_call lay_ok 400 ?_ ?_ ?_ (k_bv ?_ ?_) rfl) | (refine g_call lay_ok 400 ?_ ?_ ?_ (c_broken ?_ ?_ ?_ ?_ ?_) rfl) | (refine g_call lay_ok 400 ?_ ?_ ?_ (c_sum ?_ ?_ ?_ ?_ ?_) rfl) | (refine g_flow 3 lay_ok mixed_ok 400 32 [0, 1, 0, 4, 0, 28, 63, 127, 255] (.q 0 (.q 1 (.q 2 (.q 3 (.q 4 (.e 5 [0, 1] (.q 6 (.q 7 (.q 8 .fin))) .stop)))))) (by kernel_rfl) ?_ ?_)) | (((with_reducible refine w_id ?_); (conv => arg 4; whnf)); first | (with_reducible refine w_fin ?_ ?_) | (with_reducible refine w_split lay_ok 400 ?_ ?_ ?_) | (with_reducible refine w_tt ?_) | (with_reducible refine w_eff lay_ok 400 ?_ rfl rfl ?_ ?_)) | (with_reducible refine q_flow ?_ ?_) | ((with_reducible refine h_id ?_); (conv => arg 1; whnf); (with_reducible refine s_some ?_)) | (with_reducible refine q_leave lay_ok 400 ?_) | (with_reducible refine q_ret lay_ok 400 ?_) | (with_reducible exact o_nil) | (with_reducible refine o_cons ?_ ?_) | ((with_reducible refine o_id ?_); (conv => arg 1; whnf); first | (with_reducible exact o_nil) | (with_reducible refine o_cons ?_ ?_)) | (intro h; ((try simp only [Int.toNat_natCast] at h); repeat (first | replace h := of_decide_eq_true h | replace h := of_decide_eq_false h | replace h := not_t h | replace h := not_f h | replace h := eq_of_beq h)); (try (first | contradiction | (exfalso; omega) | exact Bool.noConfusion (h.symm.trans (by assumption) : true = false) | exact Bool.noConfusion (h.symm.trans (by assumption) : false = true) | exact absurd rfl h | exact absurd (by assumption) h | exact absurd h (by assumption) | (simp only [Int.toNat_natCast] at h; exfalso; omega)))) | rfl | omega | assumption | (simp only [List.length_append, List.length_cons, List.length_nil]; omega) | (simp only [Int.toNat_natCast]; omega) | (exact tm_cast (by assumption) hg.g) | (have q := vb (by assumption); omega))
  all_goals (((with_reducible refine e_id ?_); (conv => whnf)); refine ⟨(), trivial, ?_⟩; ((with_reducible refine s_id ?_); (conv => arg 1; whnf); (with_reducible refine s_some ?_); repeat' (first | (with_reducible exact o_nil) | (with_reducible refine o_cons ?_ ?_) | ((with_reducible refine o_id ?_); (conv => arg 1; whnf); first | (with_reducible exact o_nil) | (with_reducible refine o_cons ?_ ?_)) | rfl | omega | assumption | (simp only [List.length_append, List.length_cons, List.length_nil]; omega) | (exact (okX_t (by assumption) (by assumption) (any_f (by assumption) (by assumption))).symm) | (exact (okX_f1 (by assumption)).symm) | (exact (okX_f2 (by assumption)).symm) | (exact (okX_f3 (any_t (by assumption) (by assumption))).symm) | (exact (valR_f (okX_f1 (by assumption))).symm) | (exact (valR_f (okX_f2 (by assumption))).symm) | (exact (valR_f (okX_f3 (any_t (by assumption) (by assumption)))).symm) | (exact (valR_t (okX_t (by assumption) (by assumption) (any_f (by assumption) (by assumption)))).symm) | (exact (okX_t (by assumption) (by assumption) (any_f (by assumption) (by assumption)))) | (exact (okX_f1 (by assumption))) | (exact (okX_f2 (by assumption))) | (exact (okX_f3 (any_t (by assumption) (by assumption)))) | (exact (valR_f (okX_f1 (by assumption)))) | (exact (valR_f (okX_f2 (by assumption)))) | (exact (valR_f (okX_f3 (any_t (by assumption) (by assumption))))) | (exact (valR_t (okX_t (by assumption) (by assumption) (any_f (by assumption) (by assumption))))))))
end Go.Proofs.Ytkageldgmkajbaa
namespace Go.Proofs.Ytkageldgmkajbaa
open Go.RowKit
structure Bs where
  f : Bool
  b : Int
  a : List Int
def upd (M : Mdl) (s : Bs) (x : List Int) : Bs := if okX M x = true ∧ (s.f = false ∨ s.b < valR M x) then ⟨true, valR M x, x⟩ else s
theorem upd_y {M : Mdl} {s : Bs} {x : List Int} (h : okX M x = true ∧ (s.f = false ∨ s.b < valR M x)) : upd M s x = ⟨true, valR M x, x⟩ := if_pos h
theorem upd_n {M : Mdl} {s : Bs} {x : List Int} (h : ¬ (okX M x = true ∧ (s.f = false ∨ s.b < valR M x))) : upd M s x = s := if_neg h
def tops (m : Int) : List Int := (List.range (m.toNat + 1)).map fun a : Nat => (a : Int)
def allX : List Int → List (List Int)
  | [] => [[]]
  | m :: ms => (tops m).flatMap fun a => (allX ms).map (a :: ·)
def visX (M : Mdl) (most : List Int) (k : Nat) (p : List Int) (s : Bs) : Bs := ((allX (most.drop k)).map (p ++ ·)).foldl (upd M) s
def visL (M : Mdl) (most : List Int) (k : Nat) (p : List Int) (s : Bs) : Nat → Bs
  | 0 => s
  | j + 1 => visX M most (k + 1) (p ++ [(j : Int)]) (visL M most k p s j)
theorem vis_end {M : Mdl} {most : List Int} {k : Nat} {p : List Int} {s : Bs} (h : k = most.length) : visX M most k p s = upd M s p := by
  unfold visX
  rw [List.drop_of_length_le (by omega)]
  simp [allX]
theorem visL_eq {M : Mdl} {most : List Int} {k : Nat} {p : List Int} {s : Bs} : ∀ j, (((List.range j).map fun a : Nat => (a : Int)).flatMap fun a => (allX (most.drop (k + 1))).map fun r => p ++ (a :: r)).foldl (upd M) s = visL M most k p s j
  | 0 => rfl
  | j + 1 => by
    rw [List.range_succ, List.map_append, List.flatMap_append, List.foldl_append, visL_eq j]
    show List.foldl (upd M) (visL M most k p s j) (List.flatMap _ [(j : Int)]) = visX M most (k + 1) (p ++ [(j : Int)]) (visL M most k p s j)
    unfold visX
    congr 1
    rw [List.flatMap_singleton]
    apply List.map_congr_left
    intro r _
    rw [List.append_assoc]; rfl
theorem vis_step {M : Mdl} {most : List Int} {k : Nat} {p : List Int} {s : Bs} (h : k < most.length) (h0 : @LE.le Int _ 0 (gt (c := .int) most k)) : visX M most k p s = visL M most k p s ((gt (c := .int) most k : Int).toNat + 1) := by
  rw [← visL_eq]
  unfold visX
  have e : most.drop k = gt (c := .int) most k :: most.drop (k + 1) := by
    rw [List.drop_eq_getElem_cons h, gt_eq (c := .int) (List.getElem?_eq_getElem h)]
  rw [e]
  show List.foldl (upd M) s (List.map _ (List.flatMap _ (tops (gt (c := .int) most k)))) = _
  rw [List.map_flatMap]
  congr 1
  unfold tops
  congr 1
  funext a
  rw [List.map_map]; rfl
theorem visL_zero {M : Mdl} {most : List Int} {k : Nat} {p : List Int} {s : Bs} : visL M most k p s 0 = s := rfl
theorem visL_succ {M : Mdl} {most : List Int} {k j : Nat} {p : List Int} {s : Bs} : visL M most k p s (j + 1) = visX M most (k + 1) (p ++ [(j : Int)]) (visL M most k p s j) := rfl
def solB (M : Mdl) (most : List Int) : Bs := (allX most).foldl (upd M) ⟨false, 0, []⟩
theorem sol_vis {M : Mdl} {most : List Int} : visX M most 0 [] ⟨false, 0, []⟩ = solB M most := by
  unfold visX solB
  congr 1
  simp
def inc : List Int → List Int → Option (List Int)
  | [], _ => none
  | _ :: _, [] => none
  | m :: ms, x :: xs => match inc ms xs with
    | some ys => some (x :: ys)
    | none => if x < m then some ((x + 1) :: List.replicate ms.length 0) else none
def rest (x m : Int) : List Int := (List.range (m - x).toNat).map fun k : Nat => x + 1 + (k : Int)
def from_ : List Int → List Int → List (List Int)
  | [], _ => [[]]
  | _ :: _, [] => []
  | m :: ms, x :: xs => (from_ ms xs).map (x :: ·) ++ (rest x m).flatMap fun a => (allX ms).map (a :: ·)
def inBx : List Int → List Int → Prop
  | [], [] => True
  | m :: ms, x :: xs => 0 ≤ x ∧ x ≤ m ∧ inBx ms xs
  | _, _ => False
end Go.Proofs.Ytkageldgmkajbaa
namespace Go.Proofs.Ytkageldgmkajbaa
open Go.RowKit
attribute [local irreducible] valN tmB badV tm1 rwsB rowBad okX valR visX visL upd allX
set_option maxHeartbeats 4000000 in
theorem c_solve1 (M : Mdl) (s : Bs) (x : List Int) (hg : Gd M) (hl : x.length ≤ 1000) : Trip Try.prog 29 [.sl ⟨0, []⟩, .ptr 1 0, .ptr 2 0, .ptr 3 0, .ptr 4 0] ⟨[], [(0, .list .tmp .int x), (1, .cells [.int .i64 M.cols, .sl ⟨6, []⟩, .sl ⟨7, []⟩, .int .i64 M.cst]), (2, .cells [.bool s.f]), (3, .cells [.int .i64 s.b]), (4, .cells [.sl ⟨5, []⟩]), (5, .list .own .int s.a), (6, .list .tmp .row M.rows), (7, .list .tmp .term M.goal)], 8⟩ (Z := Unit) (fun _ => True) (fun _ => .tup []) (fun _ => ⟨[], [(1, .cells [.int .i64 M.cols, .sl ⟨6, []⟩, .sl ⟨7, []⟩, .int .i64 M.cst]), (2, .cells [.bool (upd M s x).f]), (3, .cells [.int .i64 (upd M s x).b]), (4, .cells [.sl ⟨8, []⟩]), (8, .list .own .int (upd M s x).a)], 9⟩) := by
  by_cases hu : okX M x = true ∧ (s.f = false ∨ s.b < valR M x)
  · obtain ⟨hu1, hu2⟩ := hu
    have hu : okX M x = true ∧ (s.f = false ∨ s.b < valR M x) := ⟨hu1, hu2⟩
    refine trip_by (rs := []) 400 lay_ok Try.func29 rfl (by kernel_rfl) Try.ntmps29 Try.results29 rfl rfl ?_
    repeat' (first | (((with_reducible refine g_id ?_); (conv => arg 3; whnf)); first | (with_reducible refine g_split lay_ok 400 ?_ ?_ ?_) | (with_reducible refine g_cond lay_ok 400 ?_ ?_ ?_) | (with_reducible refine g_fin ?_ ?_) | (refine g_call lay_ok 400 ?_ ?_ ?_ (c_value ?_ ?_ ?_ ?_) rfl) | (refine g_call lay_ok 400 ?_ ?_ ?_ (c_clone_i ?_ ?_) rfl)) | ((with_reducible refine o_id ?_); (conv => arg 1; whnf); first | (with_reducible exact o_nil) | (with_reducible refine o_cons ?_ ?_)) | (intro h; ((try simp only [Int.toNat_natCast] at h); repeat (first | replace h := of_decide_eq_true h | replace h := of_decide_eq_false h | replace h := not_t h | replace h := not_f h | fail)); (try (first | exact Bool.noConfusion (h.symm.trans (by assumption) : false = true) | (exfalso; rcases hu2 with q | q <;> first | omega | exact Bool.noConfusion (q.symm.trans (by assumption) : false = true)) | fail))) | rfl | omega | fail)
    all_goals (((with_reducible refine e_id ?_); (conv => whnf)); refine ⟨(), trivial, ?_⟩; ((with_reducible refine s_id ?_); (conv => arg 1; whnf); (with_reducible refine s_some ?_); repeat' (first | ((with_reducible refine o_id ?_); (conv => arg 1; whnf); first | (with_reducible exact o_nil) | (with_reducible refine o_cons ?_ ?_)) | rfl | (rw [upd_y hu]))))
  · refine trip_by (rs := []) 400 lay_ok Try.func29 rfl (by kernel_rfl) Try.ntmps29 Try.results29 rfl rfl ?_
    repeat' (first | (((with_reducible refine g_id ?_); (conv => arg 3; whnf)); first | (with_reducible refine g_split lay_ok 400 ?_ ?_ ?_) | (with_reducible refine g_cond lay_ok 400 ?_ ?_ ?_) | (with_reducible refine g_fin ?_ ?_) | (refine g_call lay_ok 400 ?_ ?_ ?_ (c_value ?_ ?_ ?_ ?_) rfl) | fail) | (with_reducible exact o_nil) | ((with_reducible refine o_id ?_); (conv => arg 1; whnf); first | (with_reducible exact o_nil) | (with_reducible refine o_cons ?_ ?_)) | (intro h; ((try simp only [Int.toNat_natCast] at h); repeat (first | replace h := of_decide_eq_true h | replace h := of_decide_eq_false h | replace h := not_t h | replace h := not_f h | fail)); (try (first | (exact absurd ⟨by assumption, .inl (by assumption)⟩ hu) | (exact absurd ⟨by assumption, .inr (by assumption)⟩ hu)))) | rfl | omega | fail)
    all_goals (((with_reducible refine e_id ?_); (conv => whnf)); refine ⟨(), trivial, ?_⟩; ((with_reducible refine s_id ?_); (conv => arg 1; whnf); (with_reducible refine s_some ?_); repeat' (first | ((with_reducible refine o_id ?_); (conv => arg 1; whnf); first | (with_reducible exact o_nil) | (with_reducible refine o_cons ?_ ?_)) | rfl | (rw [upd_n hu]))))
theorem w_take {w : List Int} {k : Nat} {v : Int} : (w.set k v).take k = w.take k := by
  rw [List.take_set]
  exact List.set_eq_of_length_le (by rw [List.length_take]; omega)
theorem w_next {w : List Int} {k : Nat} {p : List Int} {j : Int} (h : w.take k = p) (hk : k < w.length) (hj : gt (c := .int) w k = j) : w.take (k + 1) = p ++ [j] := by
  rw [take_snoc (c := .int) hk, h, hj]
theorem w_back {w v : List Int} {k : Nat} (h : v.take (k + 1) = w.take (k + 1)) (hl : v.length = w.length) (hk : k < w.length) : v.take k = w.take k ∧ gt (c := .int) v k = gt (c := .int) w k := by
  have h1 : (v.take (k + 1)).take k = (w.take (k + 1)).take k := by rw [h]
  rw [List.take_take, List.take_take, Nat.min_eq_left (Nat.le_succ k)] at h1
  refine ⟨h1, ?_⟩
  rw [take_snoc (c := .int) hk, take_snoc (c := .int) (show k < v.length by omega), h1] at h
  have := List.append_cancel_left h
  exact (List.cons.inj this).1
theorem ex_v {I : List Int × Bs → Prop} {P : List Int × Bs → Prop} (w : List Int) (s : Bs) (hP : P (w, s)) (hI : I (w, s)) : ∃ z, I z ∧ P z := ⟨_, hI, hP⟩
theorem ex_vn {I : List Int × Nat → Prop} {m : List Int × Nat → Nat} {n : Nat} {P : List Int × Nat → Prop} (w : List Int) (k : Nat) (hP : P (w, k)) (hI : I (w, k)) (hm : m (w, k) < n) : ∃ z, I z ∧ m z < n ∧ P z := ⟨_, hI, hm, hP⟩
theorem take_all2 {w : List Int} {k : Nat} (h : w.length ≤ k) : w.take k = w := List.take_of_length_le h
set_option maxHeartbeats 4000000 in
theorem c_visit (M : Mdl) (most : List Int) (hg : Gd M) (hm : most.length ≤ 6) (hbx : ∀ i, i < most.length → @LE.le Int _ 0 (gt (c := .int) most i) ∧ @LE.le Int _ (gt (c := .int) most i) 3) : ∀ (n k : Nat) (w : List Int) (s : Bs), k + n = most.length → w.length = most.length → Trip Try.prog 47 [.int .i64 (k : Int), .ptr 0 0, .ptr 1 0, .ptr 2 0, .ptr 3 0] ⟨[], [(0, .cells [.sl ⟨4, []⟩]), (1, .cells [.clo 29 [.ptr 6 0, .ptr 7 0, .ptr 8 0, .ptr 9 0]]), (2, .cells [.sl ⟨5, []⟩]), (3, .cells [.clo 47 [.ptr 0 0, .ptr 1 0, .ptr 2 0, .ptr 3 0]]), (4, .list .tmp .int most), (5, .list .own .int w), (6, .cells [.int .i64 M.cols, .sl ⟨11, []⟩, .sl ⟨12, []⟩, .int .i64 M.cst]), (7, .cells [.bool s.f]), (8, .cells [.int .i64 s.b]), (9, .cells [.sl ⟨10, []⟩]), (10, .list .own .int s.a), (11, .list .tmp .row M.rows), (12, .list .tmp .term M.goal)], 13⟩ (Z := List Int × Bs) (fun z => z.1.length = w.length ∧ z.1.take k = w.take k ∧ z.2 = visX M most k (w.take k) s) (fun _ => .tup []) (fun z => ⟨[], [(0, .cells [.sl ⟨4, []⟩]), (1, .cells [.clo 29 [.ptr 6 0, .ptr 7 0, .ptr 8 0, .ptr 9 0]]), (2, .cells [.sl ⟨5, []⟩]), (3, .cells [.clo 47 [.ptr 0 0, .ptr 1 0, .ptr 2 0, .ptr 3 0]]), (4, .list .tmp .int most), (5, .list .own .int z.1), (6, .cells [.int .i64 M.cols, .sl ⟨11, []⟩, .sl ⟨12, []⟩, .int .i64 M.cst]), (7, .cells [.bool z.2.f]), (8, .cells [.int .i64 z.2.b]), (9, .cells [.sl ⟨13, []⟩]), (13, .list .own .int z.2.a), (11, .list .tmp .row M.rows), (12, .list .tmp .term M.goal)], 14⟩) := by
  intro n
  induction n with
  | zero =>
    intro k w s hk hw
    have hk : k = most.length := by omega
    refine trip_by (rs := []) 400 lay_ok Try.func47 rfl (by kernel_rfl) Try.ntmps47 Try.results47 rfl rfl ?_
    repeat' (first | (((with_reducible refine g_id ?_); (conv => arg 3; whnf)); first | (with_reducible refine g_cond lay_ok 400 ?_ ?_ ?_) | (with_reducible refine g_fin ?_ ?_) | (refine g_call lay_ok 400 ?_ ?_ ?_ (c_solve1 ?_ ?_ ?_ ?_ ?_) rfl) | fail) | (with_reducible exact o_nil) | ((with_reducible refine o_id ?_); (conv => arg 1; whnf); first | (with_reducible exact o_nil) | (with_reducible refine o_cons ?_ ?_)) | (intro h; ((try simp only [Int.toNat_natCast] at h); repeat (first | replace h := of_decide_eq_true h | replace h := of_decide_eq_false h | fail)); (try (first | (exfalso; omega) | fail))) | rfl | omega | fail)
    all_goals (((with_reducible refine e_id ?_); (conv => whnf)); apply ex_v; (((with_reducible refine s_id ?_); (conv => arg 1; whnf); (with_reducible refine s_some ?_); repeat' (first | ((with_reducible refine o_id ?_); (conv => arg 1; whnf); first | (with_reducible exact o_nil) | (with_reducible refine o_cons ?_ ?_)) | rfl | fail))); (exact ⟨rfl, rfl, by rw [vis_end hk, take_all2 (by omega)]⟩))
  | succ n ih =>
    intro k w s hk hw
    have IH := fun (w : List Int) (s : Bs) (hw : w.length = most.length) => ih (k + 1) w s (by omega) hw
    clear ih
    have hmk := hbx k (by omega)
    obtain ⟨p, hp⟩ : ∃ p, w.take k = p := ⟨_, rfl⟩
    rw [hp]
    refine trip_by (rs := []) 400 lay_ok Try.func47 rfl (by kernel_rfl) Try.ntmps47 Try.results47 rfl rfl ?_
    repeat' (first | (((with_reducible refine g_id ?_); (conv => arg 3; whnf)); first | (with_reducible refine g_cond lay_ok 400 ?_ ?_ ?_) | fail) | ((with_reducible refine o_id ?_); (conv => arg 1; whnf); first | (with_reducible exact o_nil) | fail) | (intro h; ((try simp only [Int.toNat_natCast] at h); repeat (first | replace h := of_decide_eq_true h | replace h := of_decide_eq_false h | fail)); (try (first | (exfalso; omega) | fail))) | fail)
    refine g_loop lay_ok 400 (Z := List Int × Nat) (fun z => z.1.length = most.length ∧ z.1.take k = p ∧ gt (c := .int) z.1 k = (z.2 : Int) ∧ @LE.le Int _ (z.2 : Int) (gt (c := .int) most k + 1)) (fun z => ⟨[(0, .int .i64 (k : Int)), (1, .ptr 0 0), (2, .ptr 1 0), (3, .ptr 2 0), (4, .ptr 3 0)], [(0, .cells [.sl ⟨4, []⟩]), (1, .cells [.clo 29 [.ptr 6 0, .ptr 7 0, .ptr 8 0, .ptr 9 0]]), (2, .cells [.sl ⟨5, []⟩]), (3, .cells [.clo 47 [.ptr 0 0, .ptr 1 0, .ptr 2 0, .ptr 3 0]]), (4, .list .tmp .int most), (5, .list .own .int z.1), (6, .cells [.int .i64 M.cols, .sl ⟨11, []⟩, .sl ⟨12, []⟩, .int .i64 M.cst]), (7, .cells [.bool (visL M most k p s z.2).f]), (8, .cells [.int .i64 (visL M most k p s z.2).b]), (9, .cells [.sl ⟨13, []⟩]), (13, .list .own .int (visL M most k p s z.2).a), (11, .list .tmp .row M.rows), (12, .list .tmp .term M.goal)], 14⟩) (fun z => ((gt (c := .int) most k : Int) + 1 - z.2).toNat) ?_ ⟨(w.set k 0, 0), ⟨by rw [List.length_set]; exact hw, by rw [w_take]; exact hp, gt_set_eq (c := .int) (by omega), by dsimp only; omega⟩, ?_⟩ (fun z hz => ?_)
    · repeat' (first | ((with_reducible refine o_id ?_); (conv => arg 1; whnf); first | (with_reducible exact o_nil) | (with_reducible refine o_cons ?_ ?_)) | omega | fail)
    · ((with_reducible refine s_id ?_); (conv => arg 1; whnf); (with_reducible refine s_some ?_); repeat' (first | ((with_reducible refine o_id ?_); (conv => arg 1; whnf); first | (with_reducible exact o_nil) | (with_reducible refine o_cons ?_ ?_)) | rfl | (rw [visL_zero]) | fail))
    obtain ⟨v, j⟩ := z
    obtain ⟨h1, h2, h3, h4⟩ := hz
    dsimp only at h1 h2 h3 h4
    dsimp only
    by_cases hj : @LE.le Int _ (j : Int) (gt (c := .int) most k)
    · repeat' (first | (((with_reducible refine g_id ?_); (conv => arg 3; whnf)); first | (with_reducible refine g_cond lay_ok 400 ?_ ?_ ?_) | (refine g_flow 3 lay_ok mixed_ok 400 0 [0, 0, 3, 7, 0, 0, 48, 112, 255] (.q 0 (.q 1 (.q 2 (.q 3 (.q 4 (.q 5 (.q 6 (.q 7 (.q 8 .fin))))))))) (by kernel_rfl) ?_ ?_)) | (((with_reducible refine w_id ?_); (conv => arg 4; whnf)); first | (with_reducible refine w_fin ?_ ?_) | fail) | (with_reducible exact o_nil) | ((with_reducible refine o_id ?_); (conv => arg 1; whnf); first | (with_reducible exact o_nil) | (with_reducible refine o_cons ?_ ?_)) | (intro h; ((try simp only [Int.toNat_natCast] at h); repeat (first | replace h := of_decide_eq_true h | replace h := of_decide_eq_false h | fail)); (try (first | (simp only [Int.toNat_natCast, h3] at h; exfalso; omega)))) | omega | fail)
      ((with_reducible refine g_id ?_); (conv => arg 3; whnf))
      refine g_call lay_ok 400 ?_ ?_ (fun z hz => ?_) (IH v (visL M most k p s j) h1) rfl
      · repeat' (first | ((with_reducible refine o_id ?_); (conv => arg 1; whnf); first | (with_reducible exact o_nil) | (with_reducible refine o_cons ?_ ?_)) | omega | fail)
      · repeat' (first | ((with_reducible refine o_id ?_); (conv => arg 1; whnf); first | (with_reducible exact o_nil) | (with_reducible refine o_cons ?_ ?_)) | rfl | fail)
      obtain ⟨v2, s2⟩ := z
      obtain ⟨z1, z2, z3⟩ := hz
      dsimp only at z1 z2 z3
      have wb := w_back z2 (by omega) (by omega)
      have e2 := w_next h2 (by omega) h3
      rw [e2, ← visL_succ] at z3
      subst z3
      dsimp only
      rw [h2, h3] at wb
      repeat' (first | (((with_reducible refine g_id ?_); (conv => arg 3; whnf)); first | (with_reducible refine g_fin ?_ ?_) | fail) | ((with_reducible refine o_id ?_); (conv => arg 1; whnf); first | (with_reducible exact o_nil) | (with_reducible refine o_cons ?_ ?_)) | omega | (simp only [Int.toNat_natCast, wb.2]; omega))
      all_goals (refine q_round ?_; apply ex_vn (v2.set k ((j + 1 : Nat) : Int)) (j + 1); (((with_reducible refine s_id ?_); (conv => arg 1; whnf); (with_reducible refine s_some ?_); repeat' (first | ((with_reducible refine o_id ?_); (conv => arg 1; whnf); first | (with_reducible exact o_nil) | (with_reducible refine o_cons ?_ ?_)) | rfl | (simp only [Int.toNat_natCast, wb.2]; rfl) | fail))); all_goals first | (exact ⟨by rw [List.length_set]; omega, by rw [w_take]; exact wb.1, gt_set_eq (c := .int) (by omega), (by show @LE.le Int _ ((j : Int) + 1) ((gt (c := .int) most k : Int) + 1); omega)⟩) | (show (((gt (c := .int) most k : Int) + 1) - ((j : Int) + 1)).toNat < (((gt (c := .int) most k : Int) + 1) - (j : Int)).toNat; omega))
    · have ej : j = (gt (c := .int) most k : Int).toNat + 1 := by omega
      repeat' (first | (((with_reducible refine g_id ?_); (conv => arg 3; whnf)); first | (with_reducible refine g_cond lay_ok 400 ?_ ?_ ?_) | (with_reducible refine g_fin ?_ ?_) | (refine g_flow 3 lay_ok mixed_ok 400 0 [0, 0, 3, 7, 0, 0, 48, 112, 255] (.q 0 (.q 1 (.q 2 (.q 3 (.q 4 (.q 5 (.q 6 (.q 7 (.q 8 .fin))))))))) (by kernel_rfl) ?_ ?_)) | (((with_reducible refine w_id ?_); (conv => arg 4; whnf)); first | (with_reducible refine w_fin ?_ ?_) | fail) | (with_reducible refine q_leave lay_ok 400 ?_) | (with_reducible exact o_nil) | ((with_reducible refine o_id ?_); (conv => arg 1; whnf); first | (with_reducible exact o_nil) | (with_reducible refine o_cons ?_ ?_)) | (intro h; ((try simp only [Int.toNat_natCast] at h); repeat (first | replace h := of_decide_eq_true h | replace h := of_decide_eq_false h | fail)); (try (first | (simp only [Int.toNat_natCast, h3] at h; exfalso; omega)))) | omega | fail)
      all_goals (((with_reducible refine e_id ?_); (conv => whnf)); apply ex_v (v.set k 0) (visL M most k p s j); (((with_reducible refine s_id ?_); (conv => arg 1; whnf); (with_reducible refine s_some ?_); repeat' (first | ((with_reducible refine o_id ?_); (conv => arg 1; whnf); first | (with_reducible exact o_nil) | (with_reducible refine o_cons ?_ ?_)) | rfl | fail))); (exact ⟨by rw [List.length_set]; omega, by rw [w_take]; exact h2, by dsimp only; rw [vis_step (by omega) hmk.1, ej]⟩))
set_option maxHeartbeats 4000000 in
theorem c_every (M : Mdl) (most : List Int) (hg : Gd M) (hm : most.length ≤ 6) (hbx : ∀ i, i < most.length → @LE.le Int _ 0 (gt (c := .int) most i) ∧ @LE.le Int _ (gt (c := .int) most i) 3) (s : Bs) : Trip Try.prog 28 [.sl ⟨0, []⟩, .clo 29 [.ptr 1 0, .ptr 2 0, .ptr 3 0, .ptr 4 0]] ⟨[], [(0, .list .tmp .int most), (1, .cells [.int .i64 M.cols, .sl ⟨6, []⟩, .sl ⟨7, []⟩, .int .i64 M.cst]), (2, .cells [.bool s.f]), (3, .cells [.int .i64 s.b]), (4, .cells [.sl ⟨5, []⟩]), (5, .list .own .int s.a), (6, .list .tmp .row M.rows), (7, .list .tmp .term M.goal)], 8⟩ (Z := Bs) (fun z => z = visX M most 0 [] s) (fun _ => .tup []) (fun z => ⟨[], [(0, .list .tmp .int most), (1, .cells [.int .i64 M.cols, .sl ⟨6, []⟩, .sl ⟨7, []⟩, .int .i64 M.cst]), (6, .list .tmp .row M.rows), (7, .list .tmp .term M.goal), (2, .cells [.bool z.f]), (3, .cells [.int .i64 z.b]), (4, .cells [.sl ⟨8, []⟩]), (8, .list .own .int z.a)], 9⟩) := by
  refine trip_by (rs := []) 400 lay_ok Try.func28 rfl (by kernel_rfl) Try.ntmps28 Try.results28 rfl rfl ?_
  repeat' (first | (((with_reducible refine g_id ?_); (conv => arg 3; whnf)); first | (with_reducible refine g_fin ?_ ?_) | (refine g_call lay_ok 400 ?_ ?_ ?_ (c_visit M most hg hm hbx most.length 0 ?_ ?_ ?_ ?_) rfl)) | (with_reducible exact o_nil) | ((with_reducible refine o_id ?_); (conv => arg 1; whnf); first | (with_reducible exact o_nil) | (with_reducible refine o_cons ?_ ?_)) | (intro h; ((try simp only [Int.toNat_natCast] at h); repeat (first | replace h := of_decide_eq_true h | fail)); (try (first | contradiction | fail))) | rfl | omega | (rw [List.length_replicate]; omega) | fail)
  all_goals (rename_i z; obtain ⟨z1, z2, z3⟩ := h; (((with_reducible refine e_id ?_); (conv => whnf))); refine ex_i2 z.2 ?_ (by rw [List.take_zero] at z3; exact z3); ((with_reducible refine s_id ?_); (conv => arg 1; whnf); (with_reducible refine s_some ?_); repeat' (first | ((with_reducible refine o_id ?_); (conv => arg 1; whnf); first | (with_reducible exact o_nil) | (with_reducible refine o_cons ?_ ?_)) | rfl | fail)))
def solS (s : Bs) : Int × List Int × Int := if s.f = true then (s.b, s.a, 0) else (0, [], 34)
def solM (m : Mdl) (most : List Int) : Int × List Int × Int := if boxOk m.cols most = true then solS (solB (boxM m most) most) else (0, [], 33)
theorem solM_no {m : Mdl} {most : List Int} (h : boxOk m.cols most = false) : solM m most = (0, [], 33) := if_neg (by rw [h]; simp)
theorem solM_f {m : Mdl} {most : List Int} (h : boxOk m.cols most = true) (h2 : (solB (boxM m most) most).f = false) : solM m most = (0, [], 34) := by
  unfold solM solS
  rw [if_pos h, if_neg (by rw [h2]; simp)]
theorem solM_t {m : Mdl} {most : List Int} (h : boxOk m.cols most = true) (h2 : (solB (boxM m most) most).f = true) : solM m most = ((solB (boxM m most) most).b, (solB (boxM m most) most).a, 0) := by
  unfold solM solS
  rw [if_pos h, if_pos h2]
theorem box_bd {cols : Int} {most : List Int} (h : boxOk cols most = true) : most.length ≤ 6 ∧ ∀ i, i < most.length → @LE.le Int _ 0 (gt (c := .int) most i) ∧ @LE.le Int _ (gt (c := .int) most i) 3 := by
  obtain ⟨h1, h2, h3⟩ := box_is h
  refine ⟨by omega, fun i hi => ?_⟩
  have bn : ¬ badM (gt (c := .int) most i) = true := fun q => by rw [any_gt_t (c := .int) hi q] at h3; cases h3
  exact bd_of bn
theorem boxRows_ok {c : Int} {most : List Int} (hl : (most.length : Int) = c) (hb : ∀ i, i < most.length → @LE.le Int _ 0 (gt (c := .int) most i) ∧ @LE.le Int _ (gt (c := .int) most i) 3) : ∀ n, n ≤ most.length → rwsB c 9 50 (boxRows most n) = true
  | 0, _ => rwsB_nil
  | n + 1, hn => by
    refine rwsB_snoc (boxRows_ok hl hb n (by omega)) (rwB_t (tmB_iff.2 fun i hi => ?_) ?_)
    · have : i = 0 := by
        have : i < 1 := hi
        omega
      subst this
      show 0 ≤ (n : Int) ∧ (n : Int) < c ∧ (1 : Int) ≠ 0 ∧ -9 ≤ (1 : Int) ∧ (1 : Int) ≤ 9 ∧ -1 < (n : Int)
      omega
    · have := hb n (by omega)
      show @LE.le Int _ (-50) (gt (c := .int) most n) ∧ @LE.le Int _ (gt (c := .int) most n) 50
      omega
theorem rwsB_app {c e m : Int} {l k : List Row} (h : rwsB c e m l = true) (g : rwsB c e m k = true) : rwsB c e m (l ++ k) = true := rwsB_iff.2 fun r hr => by
  rcases List.mem_append.1 hr with hr | hr
  · exact rwsB_iff.1 h r hr
  · exact rwsB_iff.1 g r hr
theorem gd_box {m : Mdl} {most : List Int} (hg : Gd m) (h6 : m.rows.length ≤ 6) (h : boxOk m.cols most = true) : Gd (boxM m most) := by
  obtain ⟨b1, b2, b3⟩ := box_is h
  obtain ⟨c1, c2⟩ := box_bd h
  refine ⟨hg.c, hg.g, hg.k, ?_, rwsB_app hg.r (boxRows_ok b2 c2 _ (Nat.le_refl _))⟩
  show (m.rows ++ boxRows most most.length).length ≤ 16
  rw [List.length_append, box_len]; omega
theorem box_cols {m : Mdl} {most : List Int} : (boxM m most).cols = m.cols := rfl
theorem box_goal {m : Mdl} {most : List Int} : (boxM m most).goal = m.goal := rfl
theorem box_cst {m : Mdl} {most : List Int} : (boxM m most).cst = m.cst := rfl
attribute [local irreducible] solB solM boxM
set_option maxHeartbeats 4000000 in
theorem c_solve (m : Mdl) (most : List Int) (hg : Gd m) (h6 : m.rows.length ≤ 6) (hm : most.length ≤ 1000) : Trip Try.prog 13 [.agg [.int .i64 m.cols, .sl ⟨0, []⟩, .sl ⟨1, []⟩, .int .i64 m.cst], .sl ⟨2, []⟩] ⟨[], [(0, .list .tmp .row m.rows), (1, .list .tmp .term m.goal), (2, .list .tmp .int most)], 3⟩ (Z := Unit) (fun _ => True) (fun _ => .tup [.int .i64 (solM m most).1, .sl ⟨3, []⟩, .int .i64 (solM m most).2.2]) (fun _ => ⟨[], [(0, .list .tmp .row m.rows), (1, .list .tmp .term m.goal), (2, .list .tmp .int most), (3, .list .own .int (solM m most).2.1)], 4⟩) := by
  cases hb : boxOk m.cols most with
  | false =>
    have e := solM_no hb
    rw [e]
    refine trip_by (rs := [_, _, _]) 400 lay_ok Try.func13 rfl (by kernel_rfl) Try.ntmps13 Try.results13 rfl rfl ?_
    repeat' (first | (((with_reducible refine g_id ?_); (conv => arg 3; whnf)); first | (with_reducible refine g_cond lay_ok 400 ?_ ?_ ?_) | (with_reducible refine g_fin ?_ ?_) | (refine g_call lay_ok 400 ?_ ?_ ?_ (c_boxed_no ?_ ?_ ?_ ?_ ?_ ?_) rfl)) | ((with_reducible refine o_id ?_); (conv => arg 1; whnf); first | (with_reducible exact o_nil) | (with_reducible refine o_cons ?_ ?_)) | (intro h; ((try simp only [Int.toNat_natCast] at h); repeat (first | replace h := of_decide_eq_true h | replace h := of_decide_eq_false h | replace h := not_t h | replace h := not_f h | fail)); (try (first | contradiction | fail))) | rfl | omega | fail)
    all_goals (((with_reducible refine e_id ?_); (conv => whnf)); refine ⟨(), trivial, ?_⟩; ((with_reducible refine s_id ?_); (conv => arg 1; whnf); (with_reducible refine s_some ?_); repeat' (first | ((with_reducible refine o_id ?_); (conv => arg 1; whnf); first | (with_reducible exact o_nil) | (with_reducible refine o_cons ?_ ?_)) | rfl | fail)))
  | true =>
    have hg2 := gd_box hg h6 hb
    obtain ⟨hb1, hb2⟩ := box_bd hb
    refine trip_by (rs := [_, _, _]) 400 lay_ok Try.func13 rfl (by kernel_rfl) Try.ntmps13 Try.results13 rfl rfl ?_
    repeat' (first | (((with_reducible refine g_id ?_); (conv => arg 3; whnf)); first | (with_reducible refine g_cond lay_ok 400 ?_ ?_ ?_) | (refine g_call lay_ok 400 ?_ ?_ ?_ (c_boxed ?_ ?_ ?_ ?_ ?_ ?_) rfl)) | ((with_reducible refine o_id ?_); (conv => arg 1; whnf); first | (with_reducible exact o_nil) | (with_reducible refine o_cons ?_ ?_)) | (intro h; ((try simp only [Int.toNat_natCast] at h); repeat (first | replace h := of_decide_eq_true h | replace h := of_decide_eq_false h | replace h := not_t h | replace h := not_f h | fail)); (try (first | contradiction | fail))) | rfl | omega | fail)
    ((with_reducible refine g_id ?_); (conv => arg 3; whnf))
    try ((with_reducible refine g_out lay_ok 400 ?_ ?_); rotate_left; (conv => arg 3; whnf))
    refine g_ownC lay_ok 400 9 0 .int ?_ rfl ?_ ?_
    · repeat' (first | ((with_reducible refine o_id ?_); (conv => arg 1; whnf); first | (with_reducible exact o_nil) | fail) | fail)
    · repeat' (first | (with_reducible exact o_nil) | fail)
    ((with_reducible refine g_id ?_); (conv => arg 3; whnf))
    refine g_call lay_ok 400 ?_ ?_ (fun z hz => ?_) (c_every (boxM m most) most hg2 hb1 hb2 ⟨false, 0, []⟩) rfl
    · repeat' (first | (with_reducible exact o_nil) | fail)
    · repeat' (first | ((with_reducible refine o_id ?_); (conv => arg 1; whnf); first | (with_reducible exact o_nil) | (with_reducible refine o_cons ?_ ?_)) | rfl | exact box_cols | exact box_goal | exact box_cst | fail)
    rw [sol_vis] at hz
    subst hz
    cases hf : (solB (boxM m most) most).f with
    | false =>
      have e := solM_f hb hf
      rw [e]
      repeat' (first | (((with_reducible refine g_id ?_); (conv => arg 3; whnf)); first | (with_reducible refine g_cond lay_ok 400 ?_ ?_ ?_) | (with_reducible refine g_fin ?_ ?_) | fail) | ((with_reducible refine o_id ?_); (conv => arg 1; whnf); first | (with_reducible exact o_nil) | fail) | (intro h; ((try simp only [Int.toNat_natCast] at h); repeat (first | replace h := not_t h | replace h := not_f h | fail)); (try (first | contradiction | fail))) | fail)
      all_goals (((with_reducible refine e_id ?_); (conv => whnf)); refine ⟨(), trivial, ?_⟩; ((with_reducible refine s_id ?_); (conv => arg 1; whnf); (with_reducible refine s_some ?_); repeat' (first | ((with_reducible refine o_id ?_); (conv => arg 1; whnf); first | (with_reducible exact o_nil) | (with_reducible refine o_cons ?_ ?_)) | rfl | fail)))
    | true =>
      have e := solM_t hb hf
      rw [e]
      repeat' (first | (((with_reducible refine g_id ?_); (conv => arg 3; whnf)); first | (with_reducible refine g_cond lay_ok 400 ?_ ?_ ?_) | (with_reducible refine g_fin ?_ ?_) | (refine g_flow 9 lay_ok mixed_ok 400 0 [0, 0, 1, 7, 15] (.q 0 (.q 1 (.q 2 (.q 3 (.q 4 .fin))))) (by kernel_rfl) ?_ ?_)) | (((with_reducible refine w_id ?_); (conv => arg 4; whnf)); first | (with_reducible refine w_fin ?_ ?_) | fail) | (with_reducible exact o_nil) | ((with_reducible refine o_id ?_); (conv => arg 1; whnf); first | (with_reducible exact o_nil) | fail) | (intro h; ((try simp only [Int.toNat_natCast] at h); repeat (first | replace h := not_t h | replace h := not_f h | fail)); (try (first | contradiction | fail))) | fail)
      all_goals (((with_reducible refine e_id ?_); (conv => whnf)); refine ⟨(), trivial, ?_⟩; ((with_reducible refine s_id ?_); (conv => arg 1; whnf); (with_reducible refine s_some ?_); repeat' (first | ((with_reducible refine o_id ?_); (conv => arg 1; whnf); first | (with_reducible exact o_nil) | (with_reducible refine o_cons ?_ ?_)) | rfl | fail)))
end Go.Proofs.Ytkageldgmkajbaa
namespace Go.Proofs.Ytkageldgmkajbaa
open Go.RowKit
attribute [local irreducible] valN tmB badV tm1 rwsB rowBad okX valR visX visL upd allX from_ inc inBx solB solM boxM
end Go.Proofs.Ytkageldgmkajbaa
namespace Go.Proofs.Ytkageldgmkajbaa
open Go.RowKit
def exM : Mdl := ⟨2, [⟨[⟨0, 2⟩, ⟨1, 2⟩], 3⟩], [⟨0, 1⟩, ⟨1, 1⟩], 0⟩
theorem ex_gd : Gd exM := ⟨by decide, by kernel_rfl, by decide, by decide, by kernel_rfl⟩
theorem ex_sol : solM exM [3, 3] = (1, [0, 1], 0) := by kernel_rfl
attribute [local irreducible] solM
theorem c_solve_ex  : Trip Try.prog 13 [.agg [.int .i64 2, .sl ⟨0, []⟩, .sl ⟨1, []⟩, .int .i64 0], .sl ⟨2, []⟩] ⟨[], [(0, .list .tmp .row [⟨[⟨0, 2⟩, ⟨1, 2⟩], 3⟩]), (1, .list .tmp .term [⟨0, 1⟩, ⟨1, 1⟩]), (2, .list .tmp .int [3, 3])], 3⟩ (Z := Unit) (fun _ => True) (fun _ => .tup [.int .i64 1, .sl ⟨3, []⟩, .int .i64 0]) (fun _ => ⟨[], [(0, .list .tmp .row [⟨[⟨0, 2⟩, ⟨1, 2⟩], 3⟩]), (1, .list .tmp .term [⟨0, 1⟩, ⟨1, 1⟩]), (2, .list .tmp .int [3, 3]), (3, .list .own .int [0, 1])], 4⟩) := by
  have h := c_solve exM [3, 3] ex_gd (by decide) (by decide)
  rw [ex_sol] at h
  exact h
theorem c_awake33  : Trip Try.prog 6 [] ⟨[], [], 0⟩ (Z := Unit) (fun _ => True) (fun _ => .bool true) (fun _ => ⟨[], [], 0⟩) := by
  refine trip_by (rs := [_]) 13 lay_ok Try.func6 rfl (by kernel_rfl) Try.ntmps6 Try.results6 rfl rfl ?_
  ((with_reducible refine g_id ?_); (conv => arg 3; whnf))
  refine g_ownS lay_ok 2 10 .term ?_ rfl ?_ ?_
  · repeat' (first | (with_reducible exact o_nil) | (with_reducible refine o_cons ?_ ?_) | ((with_reducible refine o_id ?_); (conv => arg 1; whnf); first | (with_reducible exact o_nil) | (with_reducible refine o_cons ?_ ?_)) | rfl | omega | assumption | (simp only [List.length_append, List.length_cons, List.length_nil]; omega) | (simp only [Int.toNat_natCast]; omega))
  · repeat' (first | (with_reducible exact o_nil) | (with_reducible refine o_cons ?_ ?_) | ((with_reducible refine o_id ?_); (conv => arg 1; whnf); first | (with_reducible exact o_nil) | (with_reducible refine o_cons ?_ ?_)) | rfl | omega | assumption | (simp only [List.length_append, List.length_cons, List.length_nil]; omega) | (simp only [Int.toNat_natCast]; omega))
  ((with_reducible refine g_id ?_); (conv => arg 3; whnf))
  refine g_ownS lay_ok 400 12 .row ?_ rfl ?_ ?_
  · repeat' (first | (with_reducible exact o_nil) | (with_reducible refine o_cons ?_ ?_) | ((with_reducible refine o_id ?_); (conv => arg 1; whnf); first | (with_reducible exact o_nil) | (with_reducible refine o_cons ?_ ?_)) | rfl | omega | assumption | (simp only [List.length_append, List.length_cons, List.length_nil]; omega) | (simp only [Int.toNat_natCast]; omega))
  · repeat' (first | (with_reducible exact o_nil) | (with_reducible refine o_cons ?_ ?_) | ((with_reducible refine o_id ?_); (conv => arg 1; whnf); first | (with_reducible exact o_nil) | (with_reducible refine o_cons ?_ ?_)) | rfl | omega | assumption | (simp only [List.length_append, List.length_cons, List.length_nil]; omega) | (simp only [Int.toNat_natCast]; omega))
  repeat' (first | (((with_reducible refine g_id ?_); (conv => arg 3; whnf)); first | (with_reducible refine g_split lay_ok 400 ?_ ?_ ?_) | (with_reducible refine g_cond lay_ok 400 ?_ ?_ ?_) | (with_reducible refine g_out lay_ok 400 ?_ ?_) | (with_reducible refine g_fin ?_ ?_) | (refine g_call lay_ok 400 ?_ ?_ ?_ (c_solve_ex) rfl)) | (with_reducible refine q_leave lay_ok 400 ?_) | (with_reducible refine q_ret lay_ok 400 ?_) | (with_reducible exact o_nil) | (with_reducible refine o_cons ?_ ?_) | ((with_reducible refine o_id ?_); (conv => arg 1; whnf); first | (with_reducible exact o_nil) | (with_reducible refine o_cons ?_ ?_)) | (intro h; ((try simp only [Int.toNat_natCast] at h); repeat (first | replace h := of_decide_eq_true h | replace h := of_decide_eq_false h | replace h := not_t h | replace h := not_f h | replace h := eq_of_beq h)); (try (first | contradiction | (exfalso; omega) | exact Bool.noConfusion (h.symm.trans (by assumption) : true = false) | exact Bool.noConfusion (h.symm.trans (by assumption) : false = true) | exact absurd rfl h | exact absurd (by assumption) h | exact absurd h (by assumption) | (simp only [Int.toNat_natCast] at h; exfalso; omega)))) | rfl | omega | assumption | (simp only [List.length_append, List.length_cons, List.length_nil]; omega) | (simp only [Int.toNat_natCast]; omega))
  all_goals (((with_reducible refine e_id ?_); (conv => whnf)); refine ⟨(), trivial, ?_⟩; ((with_reducible refine s_id ?_); (conv => arg 1; whnf); (with_reducible refine s_some ?_); repeat' (first | (with_reducible exact o_nil) | (with_reducible refine o_cons ?_ ?_) | ((with_reducible refine o_id ?_); (conv => arg 1; whnf); first | (with_reducible exact o_nil) | (with_reducible refine o_cons ?_ ?_)) | rfl | omega | assumption | (simp only [List.length_append, List.length_cons, List.length_nil]; omega))))
end Go.Proofs.Ytkageldgmkajbaa
namespace Go.Proofs.Ytkageldgmkajbaa
open Go.RowKit
def Bst (M : Mdl) (L : List (List Int)) (s : Bs) : Prop := (s.f = true → ∃ x ∈ L, okX M x = true ∧ s.b = valR M x ∧ s.a = x) ∧ ∀ x ∈ L, okX M x = true → s.f = true ∧ valR M x ≤ s.b
theorem bst_step {M : Mdl} {L : List (List Int)} {s : Bs} {x : List Int} (h : Bst M L s) : Bst M (L ++ [x]) (upd M s x) := by
  by_cases hu : okX M x = true ∧ (s.f = false ∨ s.b < valR M x)
  · rw [upd_y hu]
    refine ⟨fun _ => ⟨x, by simp, hu.1, rfl, rfl⟩, fun y hy hok => ⟨rfl, ?_⟩⟩
    rcases List.mem_append.1 hy with hy | hy
    · obtain ⟨h1, h2⟩ := h.2 y hy hok
      rcases hu.2 with h3 | h3
      · rw [h1] at h3; cases h3
      · show valR M y ≤ valR M x; omega
    · rw [List.mem_singleton] at hy; subst hy; exact Int.le_refl _
  · rw [upd_n hu]
    refine ⟨fun hf => ?_, fun y hy hok => ?_⟩
    · obtain ⟨y, h1, h2⟩ := h.1 hf
      exact ⟨y, List.mem_append_left _ h1, h2⟩
    · rcases List.mem_append.1 hy with hy | hy
      · exact h.2 y hy hok
      · rw [List.mem_singleton] at hy; subst hy
        cases hf : s.f with
        | false => exact absurd ⟨hok, .inl hf⟩ hu
        | true =>
          refine ⟨rfl, ?_⟩
          by_cases hlt : s.b < valR M y
          · exact absurd ⟨hok, .inr hlt⟩ hu
          · omega
theorem bst_fold {M : Mdl} : ∀ {K L : List (List Int)} {s : Bs}, Bst M L s → Bst M (L ++ K) (K.foldl (upd M) s)
  | [], L, s, h => by rw [List.append_nil]; exact h
  | x :: K, L, s, h => by
    have := bst_fold (K := K) (bst_step (x := x) h)
    rw [List.append_assoc] at this
    exact this
theorem sol_best {M : Mdl} {most : List Int} : Bst M (allX most) (solB M most) := by
  have := bst_fold (M := M) (K := allX most) (L := []) (s := ⟨false, 0, []⟩) ⟨(fun h => Bool.noConfusion h), (fun x hx => (List.not_mem_nil hx).elim)⟩
  rw [List.nil_append] at this
  exact this
theorem boxOk_of {cols : Int} {most : List Int} (h1 : cols ≤ 4) (h2 : (most.length : Int) = cols) (h3 : ∀ i, i < most.length → @LE.le Int _ 0 (gt (c := .int) most i) ∧ @LE.le Int _ (gt (c := .int) most i) 3) : boxOk cols most = true := by
  unfold boxOk
  rw [decide_eq_true h1, decide_eq_true h2, any_gt_f (c := .int) (n := most.length) (fun k hk => bad_no (by have := h3 k hk; omega) (by have := h3 k hk; omega)) (Nat.le_refl _)]; rfl
theorem sol_err {m : Mdl} {most : List Int} (h : boxOk m.cols most = true) : (solM m most).2.2 = 0 ∨ (solM m most).2.2 = 34 := by
  cases hf : (solB (boxM m most) most).f with
  | false => rw [solM_f h hf]; exact .inr rfl
  | true => rw [solM_t h hf]; exact .inl rfl
end Go.Proofs.Ytkageldgmkajbaa
namespace Go.Proofs.Ytkageldgmkajbaa
def sm (f : Nat → Rat) : Nat → Rat
  | 0 => 0
  | n + 1 => sm f n + f n
theorem sm_congr {f g : Nat → Rat} : ∀ {n : Nat}, (∀ i, i < n → f i = g i) → sm f n = sm g n
  | 0, _ => rfl
  | n + 1, h => by
    have ih := sm_congr (f := f) (g := g) (n := n) fun i hi => h i (by omega)
    show sm f n + f n = sm g n + g n
    rw [ih, h n (by omega)]
theorem sm_add {f g : Nat → Rat} : ∀ n, sm (fun i => f i + g i) n = sm f n + sm g n
  | 0 => by show (0 : Rat) = 0 + 0; grind
  | n + 1 => by
    have ih := sm_add (f := f) (g := g) n
    show sm (fun i => f i + g i) n + (f n + g n) = (sm f n + f n) + (sm g n + g n)
    rw [ih]; grind
theorem sm_mul {f : Nat → Rat} {c : Rat} : ∀ n, sm (fun i => c * f i) n = c * sm f n
  | 0 => by show (0 : Rat) = c * 0; grind
  | n + 1 => by
    have ih := sm_mul (f := f) (c := c) n
    show sm (fun i => c * f i) n + c * f n = c * (sm f n + f n)
    rw [ih]; grind
theorem sm_zero {f : Nat → Rat} : ∀ {n : Nat}, (∀ i, i < n → f i = 0) → sm f n = 0
  | 0, _ => rfl
  | n + 1, h => by
    have ih := sm_zero (f := f) (n := n) fun i hi => h i (by omega)
    show sm f n + f n = 0
    rw [ih, h n (by omega)]; grind
theorem sm_sub {f g : Nat → Rat} (n : Nat) : sm (fun i => f i - g i) n = sm f n - sm g n := by
  have h := sm_add (f := fun i => f i - g i) (g := g) n
  have e : sm (fun i => (f i - g i) + g i) n = sm f n := sm_congr fun i _ => by grind
  grind
theorem sm_one {f : Nat → Rat} {n k : Nat} (hk : k < n) (h : ∀ i, i < n → i ≠ k → f i = 0) : sm f n = f k := by
  induction n with
  | zero => omega
  | succ n ih =>
    show sm f n + f n = f k
    by_cases e : k = n
    · subst e
      rw [sm_zero fun i hi => h i (by omega) (by omega)]; grind
    · rw [ih (by omega) fun i hi hne => h i (by omega) hne, h n (by omega) (Ne.symm e)]; grind
theorem sm_swap {f : Nat → Nat → Rat} {m : Nat} : ∀ n, sm (fun i => sm (fun j => f i j) m) n = sm (fun j => sm (fun i => f i j) n) m
  | 0 => (sm_zero fun _ _ => rfl).symm
  | n + 1 => by
    have ih := sm_swap (f := f) (m := m) n
    show sm (fun i => sm (fun j => f i j) m) n + sm (fun j => f n j) m = _
    rw [ih]
    exact (sm_add m).symm
theorem sm_nn {f : Nat → Rat} : ∀ {n : Nat}, (∀ i, i < n → 0 ≤ f i) → 0 ≤ sm f n
  | 0, _ => by show (0 : Rat) ≤ 0; grind
  | n + 1, h => by
    have ih := sm_nn (f := f) (n := n) fun i hi => h i (by omega)
    have := h n (by omega)
    show 0 ≤ sm f n + f n
    grind
theorem sm_pos {f : Nat → Rat} {n : Nat} (h : 0 < sm f n) : ∃ i, i < n ∧ 0 < f i := by
  induction n with
  | zero => exact absurd h (by show ¬ (0 : Rat) < 0; grind)
  | succ n ih =>
    by_cases e : 0 < f n
    · exact ⟨n, by omega, e⟩
    · have : 0 < sm f n := by
        have h2 : 0 < sm f n + f n := h
        grind
      obtain ⟨i, hi, h3⟩ := ih this
      exact ⟨i, by omega, h3⟩
theorem sm_split {f g : Nat → Rat} {n k : Nat} (hk : k < n) (h : ∀ i, i < n → i ≠ k → g i = f i) : sm g n = sm f n - f k + g k := by
  have e : sm (fun i => g i - f i) n = g k - f k := sm_one hk fun i hi hne => by rw [h i hi hne]; grind
  rw [sm_sub] at e
  grind
abbrev Col := Nat → Rat
def sg (j : Nat) : Rat := if j % 2 = 0 then 1 else -1
theorem sg_s (j : Nat) : sg (j + 1) = - sg j := by
  unfold sg
  by_cases h : j % 2 = 0
  · rw [if_neg (by omega), if_pos h]
  · rw [if_pos (by omega), if_neg h]; grind
def cset (c : Nat → Col) (l : Nat) (u : Col) : Nat → Col := fun i => if i = l then u else c i
def cdel (c : Nat → Col) (j : Nat) : Nat → Col := fun i => if i < j then c i else c (i + 1)
def det : Nat → (Nat → Col) → Rat
  | 0, _ => 1
  | k + 1, c => sm (fun j => sg j * c j k * det k (cdel c j)) (k + 1)
theorem det_congr : ∀ {k : Nat} {c d : Nat → Col}, (∀ j, j < k → ∀ q, q < k → c j q = d j q) → det k c = det k d
  | 0, _, _, _ => rfl
  | k + 1, c, d, h => by
    refine sm_congr fun j hj => ?_
    rw [h j hj k (by omega), det_congr (c := cdel c j) (d := cdel d j) fun i hi q hq => ?_]
    unfold cdel
    split
    · exact h i (by omega) q (by omega)
    · exact h (i + 1) (by omega) q (by omega)
theorem cdel_set_eq {c : Nat → Col} {l : Nat} {u : Col} : cdel (cset c l u) l = cdel c l := by
  funext i
  unfold cdel cset
  try dsimp only
  split
  · rw [if_neg (by omega)]
  · rw [if_neg (by omega)]
theorem cdel_set_lt {c : Nat → Col} {l j : Nat} {u : Col} (h : j < l) : cdel (cset c l u) j = cset (cdel c j) (l - 1) u := by
  funext i
  unfold cdel cset
  try dsimp only
  by_cases h1 : i < j
  · rw [if_pos h1, if_neg (by omega), if_neg (by omega), if_pos h1]
  · by_cases h2 : i + 1 = l
    · rw [if_neg h1, if_pos h2, if_pos (by omega)]
    · rw [if_neg h1, if_neg h2, if_neg (by omega), if_neg h1]
theorem cdel_set_gt {c : Nat → Col} {l j : Nat} {u : Col} (h : l < j) : cdel (cset c l u) j = cset (cdel c j) l u := by
  funext i
  unfold cdel cset
  try dsimp only
  by_cases h1 : i < j
  · by_cases h2 : i = l
    · rw [if_pos h1, if_pos h2, if_pos h2]
    · rw [if_pos h1, if_neg h2, if_neg h2, if_pos h1]
  · rw [if_neg h1, if_neg (by omega), if_neg (by omega), if_neg h1]
theorem det_lin : ∀ {k : Nat} {c : Nat → Col} {l : Nat} {u v : Col} {x y : Rat}, l < k → det k (cset c l fun q => x * u q + y * v q) = x * det k (cset c l u) + y * det k (cset c l v)
  | 0, _, _, _, _, _, _, h => absurd h (Nat.not_lt_zero _)
  | k + 1, c, l, u, v, x, y, h => by
    show sm _ (k + 1) = x * sm _ (k + 1) + y * sm _ (k + 1)
    rw [← sm_mul, ← sm_mul, ← sm_add]
    refine sm_congr fun j hj => ?_
    by_cases e : j = l
    · subst e
      rw [cdel_set_eq, cdel_set_eq, cdel_set_eq]
      unfold cset
      rw [if_pos rfl, if_pos rfl, if_pos rfl]
      grind
    · have ha : ∀ w : Col, (cset c l w) j k = c j k := fun w => by unfold cset; rw [if_neg e]
      rw [ha, ha, ha]
      by_cases h1 : j < l
      · rw [cdel_set_lt h1, cdel_set_lt h1, cdel_set_lt h1, det_lin (k := k) (l := l - 1) (by omega)]
        grind
      · rw [cdel_set_gt (by omega), cdel_set_gt (by omega), cdel_set_gt (by omega), det_lin (k := k) (l := l) (by omega)]
        grind
theorem cset_self {c : Nat → Col} {l : Nat} : cset c l (c l) = c := by
  funext i
  unfold cset
  split
  · rename_i e; rw [e]
  · rfl
theorem cset_comm {c : Nat → Col} {l m : Nat} {u v : Col} (h : l ≠ m) : cset (cset c l u) m v = cset (cset c m v) l u := by
  funext i
  unfold cset
  by_cases h1 : i = m
  · rw [if_pos h1, if_neg (by omega), if_pos h1]
  · by_cases h2 : i = l
    · rw [if_neg h1, if_pos h2, if_pos h2]
    · rw [if_neg h1, if_neg h2, if_neg h2, if_neg h1]
theorem det_adj : ∀ {k : Nat} {c : Nat → Col} {l : Nat}, l + 1 < k → c l = c (l + 1) → det k c = 0
  | 0, _, _, h, _ => absurd h (Nat.not_lt_zero _)
  | k + 1, c, l, h, he => by
    have hd : cdel c l = cdel c (l + 1) := by
      funext i
      unfold cdel
      by_cases h1 : i < l
      · rw [if_pos h1, if_pos (by omega)]
      · by_cases h2 : i = l
        · subst h2; rw [if_neg h1, if_pos (by omega), he]
        · rw [if_neg h1, if_neg (by omega)]
    have hz : ∀ j, j < k + 1 → j ≠ l → j ≠ l + 1 → sg j * c j k * det k (cdel c j) = 0 := by
      intro j hj h1 h2
      have : det k (cdel c j) = 0 := by
        by_cases h3 : j < l
        · refine det_adj (k := k) (l := l - 1) (by omega) ?_
          unfold cdel
          rw [if_neg (by omega), if_neg (by omega), show l - 1 + 1 = l by omega]; exact he
        · refine det_adj (k := k) (l := l) (by omega) ?_
          unfold cdel
          rw [if_pos (by omega), if_pos (by omega)]; exact he
      rw [this]; grind
    show sm (fun j => sg j * c j k * det k (cdel c j)) (k + 1) = 0
    have e1 := sm_split (f := fun j => sg j * c j k * det k (cdel c j)) (g := fun j => if j = l then 0 else sg j * c j k * det k (cdel c j)) (n := k + 1) (k := l) (by omega) (fun i _ hne => if_neg hne)
    have e2 : sm (fun j => if j = l then 0 else sg j * c j k * det k (cdel c j)) (k + 1) = sg (l + 1) * c (l + 1) k * det k (cdel c (l + 1)) := by
      rw [sm_one (k := l + 1) h (fun i hi hne => ?_)]
      · rw [if_neg (by omega)]
      · by_cases e : i = l
        · rw [if_pos e]
        · rw [if_neg e]; exact hz i hi e hne
    rw [e2, if_pos rfl, sg_s, ← hd, ← he] at e1
    grind
theorem det_addL {k : Nat} {c : Nat → Col} {l m : Nat} {u v y : Col} (hl : l < k) (h : l ≠ m) : det k (cset (cset c l fun q => u q + v q) m y) = det k (cset (cset c l u) m y) + det k (cset (cset c l v) m y) := by
  rw [cset_comm h, cset_comm h, cset_comm h]
  have := det_lin (k := k) (c := cset c m y) (l := l) (u := u) (v := v) (x := 1) (y := 1) hl
  have e : (fun q : Nat => 1 * u q + 1 * v q) = fun q => u q + v q := by funext q; grind
  rw [e] at this
  grind
theorem det_addR {k : Nat} {c : Nat → Col} {m : Nat} {u v : Col} (hm : m < k) : det k (cset c m fun q => u q + v q) = det k (cset c m u) + det k (cset c m v) := by
  have := det_lin (k := k) (c := c) (l := m) (u := u) (v := v) (x := 1) (y := 1) hm
  have e : (fun q : Nat => 1 * u q + 1 * v q) = fun q => u q + v q := by funext q; grind
  rw [e] at this
  grind
theorem det_swp {k : Nat} {c : Nat → Col} {l : Nat} {u v : Col} (h : l + 1 < k) : det k (cset (cset c l u) (l + 1) v) = - det k (cset (cset c l v) (l + 1) u) := by
  have key : ∀ w : Col, det k (cset (cset c l w) (l + 1) w) = 0 := fun w => by
    refine det_adj h ?_
    unfold cset
    try dsimp only
    rw [if_neg (by omega), if_pos rfl, if_pos rfl]
  have e0 := key (fun q => u q + v q)
  rw [det_addL (by omega) (by omega), det_addR h, det_addR h, key, key] at e0
  grind
theorem det_eq0 {k : Nat} : ∀ {d : Nat} {c : Nat → Col} {l : Nat}, l + d + 1 < k → c l = c (l + d + 1) → det k c = 0
  | 0, c, l, h, he => det_adj h he
  | d + 1, c, l, h, he => by
    have h1 : c = cset (cset c (l + d + 1) (c (l + d + 1))) (l + d + 1 + 1) (c (l + d + 1 + 1)) := by rw [cset_self, cset_self]
    rw [h1, det_swp (by omega)]
    have : det k (cset (cset c (l + d + 1) (c (l + d + 1 + 1))) (l + d + 1 + 1) (c (l + d + 1))) = 0 := by
      refine det_eq0 (d := d) (l := l) (by omega) ?_
      unfold cset
      rw [if_neg (by omega), if_neg (by omega), if_neg (by omega), if_pos rfl]
      exact he
    rw [this]; grind
theorem det_two {k i j : Nat} {c : Nat → Col} (hi : i < k) (hj : j < k) (hne : i ≠ j) (he : c i = c j) : det k c = 0 := by
  rcases Nat.lt_or_gt_of_ne hne with h | h
  · exact det_eq0 (d := j - i - 1) (l := i) (by omega) (by rw [show i + (j - i - 1) + 1 = j by omega]; exact he)
  · exact det_eq0 (d := i - j - 1) (l := j) (by omega) (by rw [show j + (i - j - 1) + 1 = i by omega]; exact he.symm)
theorem det_sum {k : Nat} {c : Nat → Col} {i : Nat} (hi : i < k) {t : Nat → Rat} {B : Nat → Col} : ∀ n, det k (cset c i fun q => sm (fun l => t l * B l q) n) = sm (fun l => t l * det k (cset c i (B l))) n
  | 0 => by
    have h := det_lin (k := k) (c := c) (l := i) (u := fun _ => 0) (v := fun _ => 0) (x := 0) (y := 0) hi
    have e : (fun q : Nat => sm (fun l => t l * B l q) 0) = fun q => 0 * (fun _ => (0 : Rat)) q + 0 * (fun _ => (0 : Rat)) q := by
      funext q
      show (0 : Rat) = 0 * 0 + 0 * 0
      grind
    rw [e, h]
    show _ = (0 : Rat)
    grind
  | n + 1 => by
    have ih := det_sum (k := k) (c := c) hi (t := t) (B := B) n
    have h := det_lin (k := k) (c := c) (l := i) (u := fun q => sm (fun l => t l * B l q) n) (v := B n) (x := 1) (y := t n) hi
    have e : (fun q : Nat => sm (fun l => t l * B l q) (n + 1)) = fun q => 1 * (fun q => sm (fun l => t l * B l q) n) q + t n * B n q := by
      funext q
      show sm _ n + t n * B n q = _
      grind
    rw [e, h, ih]
    show _ = sm _ n + t n * det k (cset c i (B n))
    grind
theorem cramer {k : Nat} {B : Nat → Col} {a : Col} {t : Nat → Rat} {i : Nat} (hi : i < k) (h : ∀ q, q < k → a q = sm (fun l => t l * B l q) k) : det k (cset B i a) = t i * det k B := by
  have e : det k (cset B i a) = det k (cset B i fun q => sm (fun l => t l * B l q) k) := det_congr fun j hj q hq => by
    unfold cset
    split
    · exact h q hq
    · rfl
  rw [e, det_sum hi, sm_one hi (fun l hl hne => ?_), cset_self]
  rw [det_two hi hl (Ne.symm hne) (by unfold cset; rw [if_pos rfl, if_neg hne])]
  grind
theorem indep {k : Nat} {B : Nat → Col} {t : Nat → Rat} (hd : det k B ≠ 0) (h : ∀ q, q < k → sm (fun l => t l * B l q) k = 0) : ∀ i, i < k → t i = 0 := by
  intro i hi
  have h1 := cramer (B := B) (a := fun _ => 0) (t := t) hi (fun q hq => (h q hq).symm)
  have h2 := det_lin (k := k) (c := B) (l := i) (u := fun _ => 0) (v := fun _ => 0) (x := 0) (y := 0) hi
  have e : (fun q : Nat => (0 : Rat) * (fun _ => (0 : Rat)) q + 0 * (fun _ => (0 : Rat)) q) = fun _ => 0 := by funext q; show (0 : Rat) * 0 + 0 * 0 = 0; grind
  rw [e] at h2
  have h3 : det k (cset B i fun _ => 0) = 0 := by grind
  rw [h3] at h1
  grind
def sn (f : Nat → Nat) : Nat → Nat
  | 0 => 0
  | n + 1 => sn f n + f n
def pr (f : Nat → Nat) : Nat → Nat
  | 0 => 1
  | n + 1 => pr f n * f n
def ndel (s : Nat → Nat) (j : Nat) : Nat → Nat := fun i => if i < j then s i else s (i + 1)
theorem sn_congr {f g : Nat → Nat} : ∀ {n : Nat}, (∀ i, i < n → f i = g i) → sn f n = sn g n
  | 0, _ => rfl
  | n + 1, h => by
    have ih := sn_congr (f := f) (g := g) (n := n) fun i hi => h i (by omega)
    show sn f n + f n = sn g n + g n
    rw [ih, h n (by omega)]
theorem sn_mul {f : Nat → Nat} {c : Nat} : ∀ n, sn (fun i => f i * c) n = sn f n * c
  | 0 => (Nat.zero_mul c).symm
  | n + 1 => by
    have ih := sn_mul (f := f) (c := c) n
    show sn (fun i => f i * c) n + f n * c = (sn f n + f n) * c
    rw [ih, Nat.add_mul]
theorem pr_congr {f g : Nat → Nat} : ∀ {n : Nat}, (∀ i, i < n → f i = g i) → pr f n = pr g n
  | 0, _ => rfl
  | n + 1, h => by
    have ih := pr_congr (f := f) (g := g) (n := n) fun i hi => h i (by omega)
    show pr f n * f n = pr g n * g n
    rw [ih, h n (by omega)]
theorem pr_le {f g : Nat → Nat} : ∀ {n : Nat}, (∀ i, i < n → f i ≤ g i) → pr f n ≤ pr g n
  | 0, _ => Nat.le_refl _
  | n + 1, h => Nat.mul_le_mul (pr_le fun i hi => h i (by omega)) (h n (by omega))
theorem pr_del {s : Nat → Nat} {j n : Nat} (h : j ≤ n) : pr (ndel s j) (n + 1) = pr (ndel s j) n * s (n + 1) := by
  show pr (ndel s j) n * ndel s j n = _
  unfold ndel
  rw [if_neg (by omega)]
theorem pr_del_n {s : Nat → Nat} {n : Nat} : pr (ndel s n) n = pr s n := pr_congr fun i hi => if_pos hi
theorem pr_exp {a s : Nat → Nat} : ∀ n, sn (fun j => a j * pr (ndel s j) n) (n + 1) ≤ pr (fun l => s l + a l) (n + 1)
  | 0 => by show 0 + a 0 * 1 ≤ 1 * (s 0 + a 0); omega
  | n + 1 => by
    have ih := pr_exp (a := a) (s := s) n
    show sn (fun j => a j * pr (ndel s j) (n + 1)) (n + 1) + a (n + 1) * pr (ndel s (n + 1)) (n + 1) ≤ pr (fun l => s l + a l) (n + 1) * (s (n + 1) + a (n + 1))
    have e : sn (fun j => a j * pr (ndel s j) (n + 1)) (n + 1) = sn (fun j => a j * pr (ndel s j) n) (n + 1) * s (n + 1) := by
      rw [← sn_mul]
      exact sn_congr fun j hj => by rw [pr_del (by omega), Nat.mul_assoc]
    rw [e, pr_del_n, Nat.mul_add]
    refine Nat.add_le_add (Nat.mul_le_mul_right _ ih) ?_
    rw [Nat.mul_comm]
    exact Nat.mul_le_mul_right _ (pr_le fun i _ => Nat.le_add_right _ _)
def ab (f : Nat → Int) (k : Nat) : Nat := sn (fun q => (f q).natAbs) k
theorem sm_int {f : Nat → Rat} {g : Nat → Nat} : ∀ {n : Nat}, (∀ i, i < n → ∃ z : Int, f i = (z : Rat) ∧ z.natAbs ≤ g i) → ∃ z : Int, sm f n = (z : Rat) ∧ z.natAbs ≤ sn g n
  | 0, _ => ⟨0, rfl, Nat.le_refl _⟩
  | n + 1, h => by
    obtain ⟨z1, e1, b1⟩ := sm_int (f := f) (g := g) (n := n) fun i hi => h i (by omega)
    obtain ⟨z2, e2, b2⟩ := h n (by omega)
    refine ⟨z1 + z2, ?_, ?_⟩
    · show sm f n + f n = _
      rw [e1, e2, Rat.intCast_add]
    · show _ ≤ sn g n + g n
      omega
theorem sg_int (j : Nat) : ∃ z : Int, sg j = (z : Rat) ∧ z.natAbs = 1 := by
  unfold sg
  split
  · exact ⟨1, rfl, rfl⟩
  · exact ⟨-1, rfl, rfl⟩
theorem det_int : ∀ {k : Nat} {c : Nat → Col} {M : Nat → Nat → Int}, (∀ j, j < k → ∀ q, q < k → c j q = (M j q : Rat)) → ∃ z : Int, det k c = (z : Rat) ∧ z.natAbs ≤ pr (fun j => ab (M j) k) k
  | 0, _, _, _ => ⟨1, rfl, Nat.le_refl _⟩
  | k + 1, c, M, h => by
    have step : ∀ j, j < k + 1 → ∃ z : Int, sg j * c j k * det k (cdel c j) = (z : Rat) ∧ z.natAbs ≤ (M j k).natAbs * pr (ndel (fun l => ab (M l) k) j) k := by
      intro j hj
      obtain ⟨z1, e1, b1⟩ := sg_int j
      obtain ⟨z2, e2, b2⟩ := det_int (k := k) (c := cdel c j) (M := fun i => if i < j then M i else M (i + 1)) (fun i hi q hq => by
        unfold cdel
        split
        · exact h i (by omega) q (by omega)
        · exact h (i + 1) (by omega) q (by omega))
      refine ⟨z1 * M j k * z2, ?_, ?_⟩
      · rw [e1, e2, h j hj k (by omega), Rat.intCast_mul, Rat.intCast_mul]
      · rw [Int.natAbs_mul, Int.natAbs_mul, b1, Nat.one_mul]
        refine Nat.mul_le_mul_left _ (Nat.le_trans b2 (Nat.le_of_eq (pr_congr fun i hi => ?_)))
        unfold ndel
        split <;> rfl
    obtain ⟨z, e, b⟩ := sm_int step
    exact ⟨z, e, Nat.le_trans b (pr_exp (a := fun j => (M j k).natAbs) (s := fun l => ab (M l) k) k)⟩
def cntb (b : Nat → Nat) (m : Nat) : Nat → Nat
  | 0 => 0
  | k + 1 => cntb b m k + if b k < m then 1 else 0
def ceq (b : Nat → Nat) (m : Nat) : Nat → Nat
  | 0 => 0
  | k + 1 => ceq b m k + if b k = m then 1 else 0
def Inj (b : Nat → Nat) (k : Nat) : Prop := ∀ i j, i < k → j < k → b i = b j → i = j
theorem Inj.le {b : Nat → Nat} {k m : Nat} (h : Inj b k) (hm : m ≤ k) : Inj b m := fun i j hi hj e => h i j (by omega) (by omega) e
theorem ceq_le {b : Nat → Nat} {m : Nat} : ∀ {k : Nat}, Inj b k → ceq b m k ≤ 1 ∧ (ceq b m k = 1 → ∃ i, i < k ∧ b i = m)
  | 0, _ => ⟨Nat.zero_le _, fun h => by cases h⟩
  | k + 1, h => by
    obtain ⟨h1, h2⟩ := ceq_le (b := b) (m := m) (k := k) (h.le (by omega))
    show ceq b m k + (if b k = m then 1 else 0) ≤ 1 ∧ (ceq b m k + (if b k = m then 1 else 0) = 1 → _)
    by_cases e : b k = m
    · rw [if_pos e]
      have : ceq b m k ≠ 1 := fun h3 => by
        obtain ⟨i, hi, hb⟩ := h2 h3
        have := h i k (by omega) (by omega) (hb.trans e.symm)
        omega
      exact ⟨by omega, fun _ => ⟨k, by omega, e⟩⟩
    · rw [if_neg e]
      exact ⟨h1, fun h3 => by obtain ⟨i, hi, hb⟩ := h2 h3; exact ⟨i, by omega, hb⟩⟩
theorem cntb_s {b : Nat → Nat} {m : Nat} : ∀ k, cntb b (m + 1) k = cntb b m k + ceq b m k
  | 0 => rfl
  | k + 1 => by
    have ih := cntb_s (b := b) (m := m) k
    show cntb b (m + 1) k + (if b k < m + 1 then 1 else 0) = cntb b m k + (if b k < m then 1 else 0) + (ceq b m k + (if b k = m then 1 else 0))
    rw [ih]
    rcases Nat.lt_trichotomy (b k) m with e | e | e
    · rw [if_pos (by omega), if_pos e, if_neg (by omega)]; omega
    · rw [if_pos (by omega), if_neg (by omega), if_pos e]; omega
    · rw [if_neg (by omega), if_neg (by omega), if_neg (by omega)]; omega
theorem cntb_le {b : Nat → Nat} {k : Nat} (h : Inj b k) : ∀ m, cntb b m k ≤ m
  | 0 => by
    have : ∀ k, cntb b 0 k = 0 := fun k => by
      induction k with
      | zero => rfl
      | succ k ih => show cntb b 0 k + (if b k < 0 then 1 else 0) = 0; rw [ih, if_neg (by omega)]
    rw [this]; exact Nat.le_refl _
  | m + 1 => by
    have := cntb_le h m
    have := (ceq_le (m := m) h).1
    rw [cntb_s]; omega
def SC (c : Nat) : Nat := if c < 3 then 54 else 1
theorem SC_pos (c : Nat) : 1 ≤ SC c := by unfold SC; split <;> omega
theorem pr_SC {b : Nat → Nat} : ∀ k, pr (fun l => SC (b l)) k = 54 ^ cntb b 3 k
  | 0 => rfl
  | k + 1 => by
    have ih := pr_SC (b := b) k
    show pr (fun l => SC (b l)) k * SC (b k) = 54 ^ (cntb b 3 k + if b k < 3 then 1 else 0)
    rw [ih]
    unfold SC
    by_cases e : b k < 3
    · rw [if_pos e, if_pos e, Nat.pow_succ]
    · rw [if_neg e, if_neg e, Nat.mul_one]; rfl
theorem pr_SC_le {b : Nat → Nat} {k : Nat} (h : Inj b k) : pr (fun l => SC (b l)) k ≤ 157464 := by
  rw [pr_SC]
  exact Nat.le_trans (Nat.pow_le_pow_right (by decide) (cntb_le h 3)) (by decide)
theorem pr_rep {s : Nat → Nat} {X i : Nat} : ∀ {k : Nat}, (∀ l, l < k → 1 ≤ s l) → 1 ≤ X → pr (fun l => if l = i then X else s l) k ≤ X * pr s k
  | 0, _, hX => by show 1 ≤ X * 1; omega
  | k + 1, h, hX => by
    show pr (fun l => if l = i then X else s l) k * (if k = i then X else s k) ≤ X * (pr s k * s k)
    by_cases e : k = i
    · subst e
      rw [if_pos rfl]
      have e1 : pr (fun l => if l = k then X else s l) k = pr s k := pr_congr fun l hl => if_neg (by omega)
      rw [e1, Nat.mul_comm]
      refine Nat.mul_le_mul_left _ ?_
      have := h k (by omega)
      exact Nat.le_mul_of_pos_right _ this
    · rw [if_neg e, ← Nat.mul_assoc]
      exact Nat.mul_le_mul_right _ (pr_rep (fun l hl => h l (by omega)) hX)
theorem rat_parts {q : Rat} {z d : Int} (hd : d ≠ 0) (h : q = (z : Rat) / (d : Rat)) : q.num.natAbs ≤ z.natAbs ∧ q.den ≤ d.natAbs := by
  have hdr : (d : Rat) ≠ 0 := fun e => hd (by exact_mod_cast e)
  have h1 : q * (d : Rat) = (z : Rat) := by rw [h]; grind
  have h2 : (q.num : Rat) * (d : Rat) = (z : Rat) * ((q.den : Int) : Rat) := by
    have h3 : q = (q.num : Rat) / ((q.den : Int) : Rat) := by rw [← Rat.divInt_eq_div]; exact (Rat.num_divInt_den q).symm
    have h4 : ((q.den : Int) : Rat) ≠ 0 := fun e => q.den_nz (by have := Rat.intCast_inj.1 (show ((q.den : Int) : Rat) = ((0 : Int) : Rat) from e); omega)
    generalize ((q.den : Int) : Rat) = y at *
    generalize (q.num : Rat) = x at *
    have h5 : q * y = x := by rw [h3]; grind
    grind
  have h5 : q.num * d = z * (q.den : Int) := by
    rw [← Rat.intCast_mul, ← Rat.intCast_mul] at h2
    exact Rat.intCast_inj.1 h2
  have h6 : q.num.natAbs * d.natAbs = z.natAbs * q.den := by
    have := congrArg Int.natAbs h5
    rw [Int.natAbs_mul, Int.natAbs_mul, Int.natAbs_natCast] at this
    exact this
  have hden := q.den_nz
  have hdn : 0 < d.natAbs := Int.natAbs_pos.2 hd
  have hc := q.reduced
  constructor
  · by_cases hz : z.natAbs = 0
    · rw [hz, Nat.zero_mul] at h6
      rcases Nat.mul_eq_zero.1 h6 with h7 | h7
      · omega
      · omega
    · refine Nat.le_of_dvd (by omega) ?_
      exact hc.dvd_of_dvd_mul_right ⟨d.natAbs, h6.symm⟩
  · refine Nat.le_of_dvd hdn ?_
    exact hc.symm.dvd_of_dvd_mul_left ⟨z.natAbs, by rw [h6, Nat.mul_comm]⟩
structure Tb where
  T : Nat → Nat → Rat
  b : Nat → Nat
  g : Nat → Rat
structure Vd (A : Nat → Col) (k m : Nat) (w : Nat → Rat) (t : Tb) : Prop where
  bl : ∀ i, i < k → t.b i < m
  inj : Inj t.b k
  dn : det k (fun l => A (t.b l)) ≠ 0
  inv : ∀ j, j ≤ m → ∀ q, q < k → A j q = sm (fun l => t.T l j * A (t.b l) q) k
  gl : ∀ j, j ≤ m → t.g j = w j - sm (fun l => w (t.b l) * t.T l j) k
def updB (b : Nat → Nat) (r c : Nat) : Nat → Nat := fun i => if i = r then c else b i
def pvt (t : Tb) (r c : Nat) : Tb :=
  ⟨fun i j => if i = r then t.T r j / t.T r c else t.T i j - t.T i c * (t.T r j / t.T r c), updB t.b r c, fun j => t.g j - t.g c * (t.T r j / t.T r c)⟩
section
variable {A : Nat → Col} {k m : Nat} {w : Nat → Rat}
theorem Vd.one {t : Tb} (h : Vd A k m w t) {j : Nat} (hj : j ≤ m) {y : Nat → Rat} (hy : ∀ q, q < k → A j q = sm (fun l => y l * A (t.b l) q) k) : ∀ i, i < k → t.T i j = y i := by
  intro i hi
  have := indep (t := fun l => t.T l j - y l) h.dn (fun q hq => by
    have h1 := h.inv j hj q hq
    have h2 := hy q hq
    have h3 := sm_sub (f := fun l => t.T l j * A (t.b l) q) (g := fun l => y l * A (t.b l) q) k
    have h4 : sm (fun l => (t.T l j - y l) * A (t.b l) q) k = sm (fun l => t.T l j * A (t.b l) q - y l * A (t.b l) q) k := sm_congr fun l _ => by grind
    rw [h4, h3, ← h1, ← h2]; grind) i hi
  grind
theorem Vd.unit {t : Tb} (h : Vd A k m w t) {l : Nat} (hl : l < k) : ∀ i, i < k → t.T i (t.b l) = if i = l then 1 else 0 := by
  refine h.one (Nat.le_of_lt (h.bl l hl)) (y := fun i => if i = l then 1 else 0) fun q _ => ?_
  rw [sm_one hl (fun i _ hne => by rw [if_neg hne]; grind), if_pos rfl]; grind
theorem Vd.g0 {t : Tb} (h : Vd A k m w t) {l : Nat} (hl : l < k) : t.g (t.b l) = 0 := by
  rw [h.gl _ (Nat.le_of_lt (h.bl l hl)), sm_one hl (fun i hi hne => by rw [h.unit hl i hi, if_neg hne]; grind), h.unit hl l hl, if_pos rfl]; grind
theorem Vd.piv {t : Tb} (h : Vd A k m w t) {r c : Nat} (hr : r < k) (hc : c < m) (hp : t.T r c ≠ 0) : Vd A k m w (pvt t r c) := by
  have hn : ∀ l, l < k → l ≠ r → t.b l ≠ c := fun l hl hne e => by
    have := h.unit hl r hr
    rw [e, if_neg (Ne.symm hne)] at this
    exact hp this
  refine ⟨fun i hi => ?_, fun i j hi hj e => ?_, ?_, fun j hj q hq => ?_, fun j hj => ?_⟩
  · show updB t.b r c i < m
    unfold updB
    split
    · exact hc
    · exact h.bl i hi
  · have e : updB t.b r c i = updB t.b r c j := e
    unfold updB at e
    by_cases h1 : i = r <;> by_cases h2 : j = r
    · omega
    · rw [if_pos h1, if_neg h2] at e; exact absurd e.symm (hn j hj h2)
    · rw [if_neg h1, if_pos h2] at e; exact absurd e (hn i hi h1)
    · rw [if_neg h1, if_neg h2] at e; exact h.inj i j hi hj e
  · have e : (fun l => A ((Tb.b (pvt t r c)) l)) = cset (fun l => A (t.b l)) r (A c) := by
      funext l
      show A (updB t.b r c l) = _
      unfold updB cset
      split <;> rfl
    rw [e, cramer (t := fun l => t.T l c) hr (fun q hq => h.inv c (Nat.le_of_lt hc) q hq)]
    intro h0
    rcases Rat.mul_eq_zero.1 h0 with h1 | h1
    · exact hp h1
    · exact h.dn h1
  · have e1 := sm_split (f := fun l => (t.T l j - t.T l c * (t.T r j / t.T r c)) * A (t.b l) q) (g := fun l => (pvt t r c).T l j * A ((pvt t r c).b l) q) hr (fun i _ hne => by
      show (if i = r then _ else _) * A (updB t.b r c i) q = _
      unfold updB
      rw [if_neg hne, if_neg hne])
    have e2 : sm (fun l => (t.T l j - t.T l c * (t.T r j / t.T r c)) * A (t.b l) q) k = A j q - (t.T r j / t.T r c) * A c q := by
      rw [h.inv j hj q hq, h.inv c (Nat.le_of_lt hc) q hq, ← sm_mul, ← sm_sub]
      exact sm_congr fun l _ => by grind
    have e3 : (pvt t r c).T r j * A ((pvt t r c).b r) q = (t.T r j / t.T r c) * A c q := by
      show (if r = r then _ else _) * A (updB t.b r c r) q = _
      unfold updB
      rw [if_pos rfl, if_pos rfl]
    rw [e1, e2, e3]
    have e4 : t.T r j - t.T r c * (t.T r j / t.T r c) = 0 := by grind
    rw [e4]; grind
  · have e1 := sm_split (f := fun l => w (t.b l) * (t.T l j - t.T l c * (t.T r j / t.T r c))) (g := fun l => w ((pvt t r c).b l) * (pvt t r c).T l j) hr (fun i _ hne => by
      show w (updB t.b r c i) * (if i = r then _ else _) = _
      unfold updB
      rw [if_neg hne, if_neg hne])
    have e2 : sm (fun l => w (t.b l) * (t.T l j - t.T l c * (t.T r j / t.T r c))) k = (w j - t.g j) - (t.T r j / t.T r c) * (w c - t.g c) := by
      have f1 := h.gl j hj
      have f2 := h.gl c (Nat.le_of_lt hc)
      have f3 : sm (fun l => w (t.b l) * (t.T l j - t.T l c * (t.T r j / t.T r c))) k = sm (fun l => w (t.b l) * t.T l j) k - (t.T r j / t.T r c) * sm (fun l => w (t.b l) * t.T l c) k := by
        rw [← sm_mul, ← sm_sub]
        exact sm_congr fun l _ => by grind
      rw [f3]; grind
    have e3 : w ((pvt t r c).b r) * (pvt t r c).T r j = w c * (t.T r j / t.T r c) := by
      show w (updB t.b r c r) * (if r = r then _ else _) = _
      unfold updB
      rw [if_pos rfl, if_pos rfl]
    have e4 : t.T r j - t.T r c * (t.T r j / t.T r c) = 0 := by grind
    show t.g j - t.g c * (t.T r j / t.T r c) = _
    rw [e1, e2, e3, e4]; grind
theorem Vd.same {t u : Tb} (h : Vd A k m w t) (h2 : Vd A k m w u) (hb : ∀ l, l < k → t.b l = u.b l) : (∀ i, i < k → ∀ j, j ≤ m → t.T i j = u.T i j) ∧ ∀ j, j ≤ m → t.g j = u.g j := by
  have e : ∀ i, i < k → ∀ j, j ≤ m → t.T i j = u.T i j := fun i hi j hj => h.one hj (y := fun l => u.T l j) (fun q hq => by
    rw [h2.inv j hj q hq]
    exact sm_congr fun l hl => by rw [hb l hl]) i hi
  refine ⟨e, fun j hj => ?_⟩
  rw [h.gl j hj, h2.gl j hj, sm_congr fun l hl => by rw [hb l hl, e l hl j hj]]
theorem Vd.thru {t u : Tb} (h : Vd A k m w t) (h2 : Vd A k m w u) {s : Nat} (hs : s ≤ m) : t.g s = u.g s - sm (fun i => u.g (t.b i) * t.T i s) k := by
  have e1 : ∀ l, l < k → u.T l s = sm (fun i => t.T i s * u.T l (t.b i)) k := h2.one hs (y := fun l => sm (fun i => t.T i s * u.T l (t.b i)) k) (fun q hq => by
    rw [h.inv s hs q hq]
    have a1 : sm (fun i => t.T i s * A (t.b i) q) k = sm (fun i => sm (fun l => t.T i s * (u.T l (t.b i) * A (u.b l) q)) k) k := sm_congr fun i hi => by
      rw [sm_mul, ← h2.inv (t.b i) (Nat.le_of_lt (h.bl i hi)) q hq]
    rw [a1, sm_swap]
    refine sm_congr fun l _ => ?_
    have a2 : sm (fun i => t.T i s * u.T l (t.b i)) k * A (u.b l) q = sm (fun i => A (u.b l) q * (t.T i s * u.T l (t.b i))) k := by rw [sm_mul]; grind
    rw [a2]
    exact sm_congr fun i _ => by grind)
  have e2 : sm (fun i => u.g (t.b i) * t.T i s) k = sm (fun i => w (t.b i) * t.T i s) k - sm (fun l => w (u.b l) * u.T l s) k := by
    have a1 : sm (fun i => u.g (t.b i) * t.T i s) k = sm (fun i => w (t.b i) * t.T i s - sm (fun l => t.T i s * (w (u.b l) * u.T l (t.b i))) k) k := sm_congr fun i hi => by
      rw [h2.gl (t.b i) (Nat.le_of_lt (h.bl i hi)), sm_mul]; grind
    rw [a1, sm_sub, sm_swap]
    congr 1
    refine sm_congr fun l hl => ?_
    rw [e1 l hl, ← sm_mul]
    exact sm_congr fun i _ => by grind
  rw [e2, h.gl s hs, h2.gl s hs]; grind
def Sol (A : Nat → Col) (k m : Nat) (x : Nat → Rat) : Prop := ∀ q, q < k → sm (fun j => x j * A j q) m = A m q
theorem Vd.sol {t : Tb} (h : Vd A k m w t) {x : Nat → Rat} (hx : Sol A k m x) : ∀ i, i < k → t.T i m = sm (fun j => x j * t.T i j) m :=
  h.one (Nat.le_refl m) (y := fun i => sm (fun j => x j * t.T i j) m) (fun q hq => by
    rw [← hx q hq]
    have a1 : sm (fun j => x j * A j q) m = sm (fun j => sm (fun l => x j * (t.T l j * A (t.b l) q)) k) m := sm_congr fun j hj => by
      rw [sm_mul, ← h.inv j (by omega) q hq]
    rw [a1, sm_swap]
    refine sm_congr fun l _ => ?_
    have a2 : sm (fun j => x j * t.T l j) m * A (t.b l) q = sm (fun j => A (t.b l) q * (x j * t.T l j)) m := by rw [sm_mul]; grind
    rw [a2]
    exact sm_congr fun j _ => by grind)
theorem Vd.val {t : Tb} (h : Vd A k m w t) (hw : w m = 0) {x : Nat → Rat} (hx : Sol A k m x) : sm (fun j => x j * t.g j) m = sm (fun j => x j * w j) m + t.g m := by
  have a1 : sm (fun j => x j * t.g j) m = sm (fun j => x j * w j - sm (fun l => x j * (w (t.b l) * t.T l j)) k) m := sm_congr fun j hj => by
    rw [h.gl j (by omega), sm_mul]; grind
  rw [a1, sm_sub, sm_swap, h.gl m (Nat.le_refl m), hw]
  have a2 : sm (fun l => sm (fun j => x j * (w (t.b l) * t.T l j)) m) k = sm (fun l => w (t.b l) * t.T l m) k := sm_congr fun l hl => by
    rw [h.sol hx l hl, ← sm_mul]
    exact sm_congr fun j _ => by grind
  rw [a2]; grind
end
structure Stp (k m n : Nat) (t u : Tb) (r c : Nat) : Prop where
  c0 : c < n
  c1 : t.g c < 0
  c2 : ∀ j, j < c → 0 ≤ t.g j
  r0 : r < k
  r1 : 0 < t.T r c
  r2 : ∀ i, i < k → 0 < t.T i c → t.T r m / t.T r c < t.T i m / t.T i c ∨ (t.T r m / t.T r c = t.T i m / t.T i c ∧ t.b r ≤ t.b i)
  e : u = pvt t r c
theorem div_nn {x y : Rat} (h : 0 ≤ x) (h2 : 0 < y) : 0 ≤ x / y := by
  have : x / y = x * y⁻¹ := Rat.div_def x y
  rw [this]
  exact Rat.mul_nonneg h (Rat.le_of_lt (Rat.inv_pos.2 h2))
section
variable {A : Nat → Col} {k m n : Nat} {w : Nat → Rat}
def Nn (k m : Nat) (t : Tb) : Prop := ∀ i, i < k → 0 ≤ t.T i m
theorem Stp.vd {t u : Tb} {r c : Nat} (h : Vd A k m w t) (hn : n ≤ m) (s : Stp k m n t u r c) : Vd A k m w u := by
  rw [s.e]
  have h1 := s.r1
  exact h.piv s.r0 (by have := s.c0; omega) (by grind)
theorem Stp.nn {t u : Tb} {r c : Nat} (hp : Nn k m t) (s : Stp k m n t u r c) : Nn k m u := by
  intro i hi
  rw [s.e]
  show 0 ≤ if i = r then t.T r m / t.T r c else t.T i m - t.T i c * (t.T r m / t.T r c)
  have h1 := s.r1
  have hq := div_nn (hp r s.r0) h1
  split
  · exact hq
  · have hi0 := hp i hi
    by_cases h2 : 0 < t.T i c
    · have h3 := s.r2 i hi h2
      have h4 : t.T r m / t.T r c ≤ t.T i m / t.T i c := by
        rcases h3 with h | h
        · exact Rat.le_of_lt h
        · rw [h.1]; exact Rat.le_refl
      have h5 := Rat.mul_le_mul_of_nonneg_left h4 (Rat.le_of_lt h2)
      have h6 : t.T i c * (t.T i m / t.T i c) = t.T i m := by grind
      rw [h6] at h5
      grind
    · have h3 : t.T i c ≤ 0 := by grind
      have h5 : 0 ≤ (- t.T i c) * (t.T r m / t.T r c) := Rat.mul_nonneg (by grind) hq
      grind
theorem Stp.obj {t u : Tb} {r c : Nat} (hp : Nn k m t) (s : Stp k m n t u r c) : t.g m ≤ u.g m ∧ (u.g m = t.g m → t.T r m = 0) := by
  have h1 := s.r1
  have hq := div_nn (hp r s.r0) h1
  have hc := s.c1
  have h2 : u.g m = t.g m - t.g c * (t.T r m / t.T r c) := by rw [s.e]; rfl
  have h3 : 0 ≤ (- t.g c) * (t.T r m / t.T r c) := Rat.mul_nonneg (by grind) hq
  refine ⟨by grind, fun h4 => ?_⟩
  have h5 : t.g c * (t.T r m / t.T r c) = 0 := by grind
  rcases Rat.mul_eq_zero.1 h5 with h6 | h6
  · grind
  · have h7 : t.T r c * (t.T r m / t.T r c) = t.T r m := by grind
    rw [h6] at h7; grind
theorem amax (f : Nat → Nat) (p : Nat) : ∀ d, ∃ u, p ≤ u ∧ u ≤ p + d ∧ ∀ v, p ≤ v → v ≤ p + d → f v ≤ f u
  | 0 => ⟨p, Nat.le_refl _, Nat.le_refl _, fun v h1 h2 => by rw [show v = p by omega]; exact Nat.le_refl _⟩
  | d + 1 => by
    obtain ⟨u, h1, h2, h3⟩ := amax f p d
    by_cases h : f u ≤ f (p + (d + 1))
    · refine ⟨p + (d + 1), by omega, Nat.le_refl _, fun v v1 v2 => ?_⟩
      by_cases e : v = p + (d + 1)
      · rw [e]; exact Nat.le_refl _
      · exact Nat.le_trans (h3 v v1 (by omega)) h
    · refine ⟨u, h1, by omega, fun v v1 v2 => ?_⟩
      by_cases e : v = p + (d + 1)
      · rw [e]; omega
      · exact h3 v v1 (by omega)
structure Rn (A : Nat → Col) (k m n : Nat) (w : Nat → Rat) (f : Nat → Tb) (R C : Nat → Nat) (s : Nat) : Prop where
  nm : n ≤ m
  v : Vd A k m w (f 0)
  nn : Nn k m (f 0)
  st : ∀ i, i < s → Stp k m n (f i) (f (i + 1)) (R i) (C i)
variable {f : Nat → Tb} {R C : Nat → Nat} {s : Nat}
theorem Rn.vd (h : Rn A k m n w f R C s) : ∀ {i}, i ≤ s → Vd A k m w (f i) ∧ Nn k m (f i)
  | 0, _ => ⟨h.v, h.nn⟩
  | i + 1, hi => by
    obtain ⟨h1, h2⟩ := h.vd (i := i) (by omega)
    have := h.st i (by omega)
    exact ⟨this.vd h1 h.nm, this.nn h2⟩
theorem Rn.mono (h : Rn A k m n w f R C s) {i : Nat} : ∀ d, i + d ≤ s → (f i).g m ≤ (f (i + d)).g m
  | 0, _ => Rat.le_refl
  | d + 1, hd => Rat.le_trans (h.mono d (by omega)) ((h.st (i + d) (by omega)).obj (h.vd (by omega)).2).1
theorem Rn.no (h : Rn A k m n w f R C s) {p q : Nat} (hpq : p < q) (hq : q ≤ s) (hb : ∀ l, l < k → (f p).b l = (f q).b l) : False := by
  have vp := (h.vd (i := p) (by omega)).1
  have vq := (h.vd hq).1
  have hg := (vp.same vq hb).2 m (Nat.le_refl m)
  -- all pivots are degenerate
  have deg : ∀ u, p ≤ u → u < q → (f u).T (R u) m = 0 := by
    intro u h1 h2
    have a1 := h.mono (i := p) (u - p) (by omega)
    have a2 := h.mono (i := u + 1) (q - (u + 1)) (by omega)
    rw [show p + (u - p) = u by omega] at a1
    rw [show u + 1 + (q - (u + 1)) = q by omega] at a2
    have a3 := (h.st u (by omega)).obj (h.vd (by omega)).2
    exact a3.2 (by grind)
  have cst1 : ∀ u, p ≤ u → u < q → ∀ i, i < k → (f (u + 1)).T i m = (f u).T i m := by
    intro u h1 h2 i hi
    have a1 := deg u h1 h2
    have a2 := h.st u (by omega)
    rw [a2.e]
    show (if i = R u then (f u).T (R u) m / (f u).T (R u) (C u) else (f u).T i m - (f u).T i (C u) * ((f u).T (R u) m / (f u).T (R u) (C u))) = _
    have a3 : (f u).T (R u) m / (f u).T (R u) (C u) = 0 := by rw [a1, Rat.div_def]; grind
    rw [a3]
    split
    · rename_i e; rw [e, a1]
    · grind
  have cst : ∀ d, p + d ≤ q → ∀ i, i < k → (f (p + d)).T i m = (f p).T i m := by
    intro d
    induction d with
    | zero => intro _ i _; rfl
    | succ d ih =>
      intro hd i hi
      rw [show p + (d + 1) = p + d + 1 by omega, cst1 (p + d) (by omega) (by omega) i hi, ih (by omega) i hi]
  have bas : ∀ u, u < s → ∀ i, (f (u + 1)).b i = if i = R u then C u else (f u).b i := by
    intro u hu i
    rw [(h.st u hu).e]; rfl
  -- a row in which something changes has 0 on its right side
  have zer : ∀ i, i < k → ∀ u v, p ≤ u → u ≤ v → v ≤ q → (f u).b i ≠ (f v).b i → ∀ y, p ≤ y → y ≤ q → (f y).T i m = 0 := by
    intro i hi u v hu huv hv hne y hy1 hy2
    have key : ∀ d, u + d ≤ q → (f u).b i ≠ (f (u + d)).b i → ∃ x, p ≤ x ∧ x < q ∧ R x = i := by
      intro d
      induction d with
      | zero => intro _ h1; exact absurd rfl h1
      | succ d ih =>
        intro hd h1
        by_cases h2 : (f u).b i = (f (u + d)).b i
        · by_cases h3 : R (u + d) = i
          · exact ⟨u + d, by omega, by omega, h3⟩
          · rw [show u + (d + 1) = u + d + 1 by omega, bas (u + d) (by omega) i, if_neg (Ne.symm h3)] at h1
            exact absurd h2 h1
        · exact ih (by omega) h2
    obtain ⟨x, hx1, hx2, hx3⟩ := key (v - u) (by omega) (by rw [show u + (v - u) = v by omega]; exact hne)
    have a1 := deg x hx1 hx2
    rw [hx3] at a1
    have a2 := cst (x - p) (by omega) i hi
    have a3 := cst (y - p) (by omega) i hi
    rw [show p + (x - p) = x by omega] at a2
    rw [show p + (y - p) = y by omega] at a3
    rw [a3, ← a2, a1]
  -- basic variables that do not leave stay, nonbasic ones that do not enter stay out
  have stay : ∀ v u, p ≤ u → ∀ d, u + d ≤ q → (∀ x, u ≤ x → x < u + d → (f x).b (R x) ≠ v) → ∀ i, i < k → (f u).b i = v → (f (u + d)).b i = v := by
    intro v u hu d
    induction d with
    | zero => intro _ _ i _ h1; exact h1
    | succ d ih =>
      intro hd h1 i hi h2
      have h3 := ih (by omega) (fun x x1 x2 => h1 x x1 (by omega)) i hi h2
      rw [show u + (d + 1) = u + d + 1 by omega, bas (u + d) (by omega) i]
      by_cases h4 : i = R (u + d)
      · exact absurd (by rw [← h4]; exact h3) (h1 (u + d) (by omega) (by omega))
      · rw [if_neg h4]; exact h3
  have outs : ∀ v u, p ≤ u → ∀ d, u + d ≤ q → (∀ x, u ≤ x → x < u + d → C x ≠ v) → (∀ i, i < k → (f u).b i ≠ v) → ∀ i, i < k → (f (u + d)).b i ≠ v := by
    intro v u hu d
    induction d with
    | zero => intro _ _ h1; exact h1
    | succ d ih =>
      intro hd h1 h2 i hi
      have h3 := ih (by omega) (fun x x1 x2 => h1 x x1 (by omega)) h2 i hi
      rw [show u + (d + 1) = u + d + 1 by omega, bas (u + d) (by omega) i]
      by_cases h4 : i = R (u + d)
      · rw [if_pos h4]; exact h1 (u + d) (by omega) (by omega)
      · rw [if_neg h4]; exact h3
  have nonb : ∀ u, u < s → ∀ i, i < k → (f u).b i ≠ C u := by
    intro u hu i hi e
    have := (h.vd (i := u) (by omega)).1.g0 hi
    rw [e] at this
    have := (h.st u hu).c1
    grind
  -- the greatest variable that enters
  obtain ⟨u1, hu1, hu2, hmax⟩ := amax C p (q - p - 1)
  have hu2 : u1 < q := by omega
  have hmax : ∀ v, p ≤ v → v < q → C v ≤ C u1 := fun v h1 h2 => hmax v h1 (by omega)
  -- it leaves somewhere
  have hlv : ∃ u0, p ≤ u0 ∧ u0 < q ∧ (f u0).b (R u0) = C u1 := by
    refine Classical.byContradiction fun hno => ?_
    have hno : ∀ x, p ≤ x → x < q → (f x).b (R x) ≠ C u1 := fun x h1 h2 e => hno ⟨x, h1, h2, e⟩
    have a1 : (f (u1 + 1)).b (R u1) = C u1 := by rw [bas u1 (by omega), if_pos rfl]
    have hr := (h.st u1 (by omega)).r0
    have a2 := stay (C u1) (u1 + 1) (by omega) (q - (u1 + 1)) (by omega) (fun x x1 x2 => hno x (by omega) (by omega)) (R u1) hr a1
    rw [show u1 + 1 + (q - (u1 + 1)) = q by omega, ← hb _ hr] at a2
    have a3 := stay (C u1) p (Nat.le_refl p) (u1 - p) (by omega) (fun x x1 x2 => hno x (by omega) (by omega)) (R u1) hr a2
    rw [show p + (u1 - p) = u1 by omega] at a3
    exact nonb u1 (by omega) _ hr a3
  obtain ⟨u0, hu0, hu0q, hleave⟩ := hlv
  have v0 := (h.vd (i := u0) (by omega)).1
  have v1 := (h.vd (i := u1) (by omega)).1
  have s0 := h.st u0 (by omega)
  have s1 := h.st u1 (by omega)
  have hst : C u0 < C u1 := by
    have a1 := hmax u0 hu0 hu0q
    have a2 := nonb u0 (by omega) (R u0) s0.r0
    rw [hleave] at a2
    omega
  have hth := v0.thru v1 (s := C u0) (by have := s0.c0; have := h.nm; omega)
  have g1 := s0.c1
  have g2 := s1.c2 (C u0) hst
  have hps : 0 < sm (fun i => (f u1).g ((f u0).b i) * (f u0).T i (C u0)) k := by grind
  obtain ⟨i, hi, hpi⟩ := sm_pos hps
  -- that variable is not in the other basis
  have hnb : ∀ l, l < k → (f u1).b l ≠ (f u0).b i := by
    intro l hl e
    have := v1.g0 hl
    rw [e] at this
    rw [this] at hpi
    grind
  have hent : ∃ u2, p ≤ u2 ∧ u2 < q ∧ C u2 = (f u0).b i := by
    refine Classical.byContradiction fun hno => ?_
    have hno : ∀ x, p ≤ x → x < q → C x ≠ (f u0).b i := fun x h1 h2 e => hno ⟨x, h1, h2, e⟩
    rcases Nat.lt_or_ge u1 u0 with hlt | hge
    · have := outs ((f u0).b i) u1 hu1 (u0 - u1) (by omega) (fun x x1 x2 => hno x (by omega) (by omega)) hnb i hi
      rw [show u1 + (u0 - u1) = u0 by omega] at this
      exact this rfl
    · have a1 := outs ((f u0).b i) u1 hu1 (q - u1) (by omega) (fun x x1 x2 => hno x (by omega) (by omega)) hnb
      rw [show u1 + (q - u1) = q by omega] at a1
      have a2 := outs ((f u0).b i) p (Nat.le_refl p) (u0 - p) (by omega) (fun x x1 x2 => hno x (by omega) (by omega)) (fun l hl e => a1 l hl ((hb l hl).symm.trans e)) i hi
      rw [show p + (u0 - p) = u0 by omega] at a2
      exact a2 rfl
  obtain ⟨u2, hu2a, hu2b, hu2c⟩ := hent
  have hle := hmax u2 hu2a hu2b
  rw [hu2c] at hle
  have hz : (f u0).T i m = 0 := by
    have a1 := nonb u2 (by omega) i hi
    rw [hu2c] at a1
    rcases Nat.le_total u0 u2 with h1 | h1
    · exact zer i hi u0 u2 hu0 h1 (by omega) (Ne.symm a1) u0 hu0 (by omega)
    · exact zer i hi u2 u0 hu2a h1 (by omega) a1 u0 hu0 (by omega)
  by_cases heq : (f u0).b i = C u1
  · have e1 : i = R u0 := v0.inj i (R u0) hi s0.r0 (heq.trans hleave.symm)
    rw [heq, e1] at hpi
    have b1 := s1.c1
    have b2 := s0.r1
    have b3 : 0 < (- (f u1).g (C u1)) * (f u0).T (R u0) (C u0) := Rat.mul_pos (by grind) b2
    grind
  · have hlt : (f u0).b i < C u1 := by omega
    have b1 := s1.c2 _ hlt
    have b2 : 0 < (f u0).T i (C u0) := by
      refine Classical.byContradiction fun hn => ?_
      have b3 : 0 ≤ (f u1).g ((f u0).b i) * (- (f u0).T i (C u0)) := Rat.mul_nonneg b1 (by grind)
      grind
    have b4 := s0.r2 i hi b2
    rw [deg u0 hu0 hu0q, hz] at b4
    have e0 : ∀ y : Rat, 0 / y = 0 := fun y => by rw [Rat.div_def]; grind
    rw [e0, e0] at b4
    rcases b4 with b5 | b5
    · exact absurd b5 (by grind)
    · rw [hleave] at b5; omega
def code (b : Nat → Nat) : Nat → Nat
  | 0 => 0
  | k + 1 => code b k * 16 + b k
theorem code_lt {b : Nat → Nat} : ∀ {k : Nat}, (∀ i, i < k → b i < 16) → code b k < 16 ^ k
  | 0, _ => by show 0 < 1; omega
  | k + 1, h => by
    have ih := code_lt (b := b) (k := k) fun i hi => h i (by omega)
    have := h k (by omega)
    show code b k * 16 + b k < 16 ^ (k + 1)
    rw [Nat.pow_succ]; omega
theorem code_inj {b d : Nat → Nat} : ∀ {k : Nat}, (∀ i, i < k → b i < 16 ∧ d i < 16) → code b k = code d k → ∀ i, i < k → b i = d i
  | 0, _, _, i, hi => absurd hi (Nat.not_lt_zero _)
  | k + 1, h, e, i, hi => by
    have h1 := h k (by omega)
    have e : code b k * 16 + b k = code d k * 16 + d k := e
    have e1 : b k = d k := by omega
    have e2 : code b k = code d k := by omega
    by_cases hk : i = k
    · rw [hk]; exact e1
    · exact code_inj (fun j hj => h j (by omega)) e2 i (by omega)
theorem cntb_all {b : Nat → Nat} {M : Nat} : ∀ {k : Nat}, (∀ i, i < k → b i < M) → cntb b M k = k
  | 0, _ => rfl
  | k + 1, h => by
    have ih := cntb_all (b := b) (M := M) (k := k) fun i hi => h i (by omega)
    show cntb b M k + (if b k < M then 1 else 0) = k + 1
    rw [ih, if_pos (h k (by omega))]
theorem Rn.len (h : Rn A k m n w f R C s) (hk : k ≤ 6) (hm : m ≤ 16) : s < 16777216 := by
  have hb : ∀ i, i ≤ s → ∀ l, l < k → (f i).b l < 16 := fun i hi l hl => Nat.lt_of_lt_of_le ((h.vd hi).1.bl l hl) hm
  have hinj : Inj (fun i => code (f i).b k) (s + 1) := by
    intro i j hi hj e
    have e := code_inj (fun l hl => ⟨hb i (by omega) l hl, hb j (by omega) l hl⟩) e
    rcases Nat.lt_trichotomy i j with h1 | h1 | h1
    · exact (h.no h1 (by omega) e).elim
    · exact h1
    · exact (h.no h1 (by omega) fun l hl => (e l hl).symm).elim
  have h1 := cntb_le hinj (16 ^ k)
  rw [cntb_all fun i hi => code_lt fun l hl => hb i (by omega) l hl] at h1
  have h2 : 16 ^ k ≤ 16 ^ 6 := Nat.pow_le_pow_right (by decide) hk
  have h3 : 16 ^ 6 = 16777216 := by decide
  omega
end
end Go.Proofs.Ytkageldgmkajbaa
namespace Go.Proofs.Ytkageldgmkajbaa
open Go.RowKit
section
variable {x : Cx} {Q : Exit → St → Prop} {obs : List Prop} {K : List Kf} {all l : List Oper} {s : St}
theorem g_outOps (h : Good x Q (.ops obs all l K s)) : Good x Q (.out obs (.ops all l) K s) := h
theorem e_convW (hL : LayOk x.P x.L) {a : Operand} {t t' : TypeId} {k k' : IntKind} {n : Int} {ts : TI} {zs : List SV} {by_ : Nat} {code : Option Ty} (ha : s.get a = some (.int k' n)) (hs : find x.L t = some ts) (hd : find x.L t' = some ⟨zs, .int k, by_, code⟩) : EvTo x s (.convert t t' a) (.int k (k.wrap n)) := by
  refine ⟨fun _ V ac w he _ _ _ _ _ _ => ?_⟩
  obtain ⟨ds, h4, _⟩ := (hL.at hs).desc
  obtain ⟨dd, h5, h6⟩ := (hL.at hd).desc
  have := td_int h6
  subst this
  simp only [execOp, he.get ha]
  refine fin_v ?_
  simp only [convert, Sem.run_bind, r_underlying h4, r_underlying h5, Result.andThen_ok, den]
  cases ds <;> rfl
variable {a b : Operand} {T T' : TypeId} {k : IntKind} {m n : Int}
theorem e_subW (ha : s.get a = some (.int k m)) (hb : s.get b = some (.int k n)) : EvTo x s (.binOp .sub T a b T') (.int k (k.wrap (m - n))) :=
  e_bin ha hb fun V y z w => by
    simp only [den, Sem.run_bind, g_int, Result.andThen_ok, binOp, ne_eq, not_true_eq_false, if_false]; rfl
theorem e_addW (ha : s.get a = some (.int k m)) (hb : s.get b = some (.int k n)) : EvTo x s (.binOp .add T a b T') (.int k (k.wrap (m + n))) :=
  e_bin ha hb fun V y z w => by
    simp only [den, Sem.run_bind, g_int, Result.andThen_ok, binOp, ne_eq, not_true_eq_false, if_false]; rfl
theorem e_mulW (ha : s.get a = some (.int k m)) (hb : s.get b = some (.int k n)) : EvTo x s (.binOp .mul T a b T') (.int k (k.wrap (m * n))) :=
  e_bin ha hb fun V y z w => by
    simp only [den, Sem.run_bind, g_int, Result.andThen_ok, binOp, ne_eq, not_true_eq_false, if_false]; rfl
theorem e_shlW {k' : IntKind} (ha : s.get a = some (.int k m)) (hb : s.get b = some (.int k' n)) (h0 : 0 ≤ n) (h1 : n ≤ (k.bits : Int)) : EvTo x s (.binOp .shl T a b T') (.int k (k.wrap (m * 2 ^ n.toNat))) :=
  e_bin ha hb fun V y z w => by
    have e : min n.toNat k.bits = n.toNat := Nat.min_eq_left (by omega)
    simp only [den, Sem.run_bind, g_int, Result.andThen_ok]
    show (Op.shift .shl k m k' n).run x.P w = _
    unfold Op.shift
    rw [if_neg (by omega)]
    simp only [e]
    rfl
theorem e_negW {T' : TypeId} (ha : s.get a = some (.int k m)) : EvTo x s (.unOp .neg T' a) (.int k (k.wrap (0 - m))) := by
  refine ⟨fun _ V ac w he _ _ _ _ _ _ => ?_⟩
  simp only [execOp, he.get ha]
  exact fin_v rfl
end
set_option maxHeartbeats 20000000 in
theorem eqw_run (p q r s : Int) (V : Vl) (y z : Operand) (w : World) : (do eqGuard .eql 89 y z (den V (.agg [.int .u64 p, .int .u64 q])) (den V (.agg [.int .u64 r, .int .u64 s])); binOp .eql 89 (den V (.agg [.int .u64 p, .int .u64 q])) (den V (.agg [.int .u64 r, .int .u64 s])) : Sem Value).run Try.prog w = .ok (.bool (p == r && q == s)) w := by
  simp only [den, denL]
  simp_all (config := { maxSteps := 3000000 }) [go_sem]
  (repeat' split) <;> simp_all
set_option maxHeartbeats 20000000 in
theorem new_run (p q r s : Int) (V : Vl) (y z : Operand) (w : World) : (do eqGuard .neq 89 y z (den V (.agg [.int .u64 p, .int .u64 q])) (den V (.agg [.int .u64 r, .int .u64 s])); binOp .neq 89 (den V (.agg [.int .u64 p, .int .u64 q])) (den V (.agg [.int .u64 r, .int .u64 s])) : Sem Value).run Try.prog w = .ok (.bool (!(p == r && q == s))) w := by
  simp only [den, denL]
  simp_all (config := { maxSteps := 3000000 }) [go_sem]
  (repeat' split) <;> simp_all
theorem e_eqw {x : Cx} {s : St} {T' : TypeId} {a b : Operand} {p q r u : Int} (ha : s.get a = some (.agg [.int .u64 p, .int .u64 q])) (hb : s.get b = some (.agg [.int .u64 r, .int .u64 u])) (hP : x.P = Try.prog) : EvTo x s (.binOp .eql 89 a b T') (.bool (decide (p = r ∧ q = u))) :=
  e_cmp (fun V y z w => by
    rw [hP]
    have e : (p == r && q == u) = decide (p = r ∧ q = u) := by simp only [Bool.decide_and]; rfl
    rw [← e]; exact eqw_run p q r u V y z w) ha hb
theorem e_new {x : Cx} {s : St} {T' : TypeId} {a b : Operand} {p q r u : Int} (ha : s.get a = some (.agg [.int .u64 p, .int .u64 q])) (hb : s.get b = some (.agg [.int .u64 r, .int .u64 u])) (hP : x.P = Try.prog) : EvTo x s (.binOp .neq 89 a b T') (.bool (!decide (p = r ∧ q = u))) :=
  e_cmp (fun V y z w => by
    rw [hP]
    have e : (p == r && q == u) = decide (p = r ∧ q = u) := by simp only [Bool.decide_and]; rfl
    rw [← e]; exact new_run p q r u V y z w) ha hb
def wh (n : Nat) : Int := ((n / 18446744073709551616 : Nat) : Int)
def wl (n : Nat) : Int := ((n % 18446744073709551616 : Nat) : Int)
theorem wr64 (n : Int) : IntKind.u64.wrap n = n % 18446744073709551616 := rfl
theorem wrN (n : Nat) : IntKind.u64.wrap (n : Int) = ((n % 18446744073709551616 : Nat) : Int) := by rw [wr64]; omega
theorem sh32 (n : Nat) : ((n : Int)).fdiv (2 ^ Int.toNat 32) = ((n / 4294967296 : Nat) : Int) := by
  have e : (2 : Int) ^ Int.toNat 32 = 4294967296 := by decide
  rw [e, Int.fdiv_eq_ediv_of_nonneg _ (by omega)]; omega
theorem sh63 (n : Nat) : ((n : Int)).fdiv (2 ^ Int.toNat 63) = ((n / 9223372036854775808 : Nat) : Int) := by
  have e : (2 : Int) ^ Int.toNat 63 = 9223372036854775808 := by decide
  rw [e, Int.fdiv_eq_ediv_of_nonneg _ (by omega)]; omega
theorem bitN (x y : Nat) (hx : x < 18446744073709551616) (hy : y < 18446744073709551616) : bitI .and .u64 (x : Int) (y : Int) = ((x &&& y : Nat) : Int) ∧ bitI .or .u64 (x : Int) (y : Int) = ((x ||| y : Nat) : Int) := by
  have ex : (BitVec.ofInt 64 (x : Int)).toNat = x := by rw [BitVec.toNat_ofInt]; have : ((2 ^ 64 : Nat) : Int) = 18446744073709551616 := by decide
                                                        rw [this]; omega
  have ey : (BitVec.ofInt 64 (y : Int)).toNat = y := by rw [BitVec.toNat_ofInt]; have : ((2 ^ 64 : Nat) : Int) = 18446744073709551616 := by decide
                                                        rw [this]; omega
  constructor
  · show IntKind.u64.wrap ((BitVec.ofInt 64 (x : Int) &&& BitVec.ofInt 64 (y : Int)).toNat : Int) = _
    rw [BitVec.toNat_and, ex, ey, wrN, Nat.mod_eq_of_lt (Nat.lt_of_le_of_lt Nat.and_le_left hx)]
  · show IntKind.u64.wrap ((BitVec.ofInt 64 (x : Int) ||| BitVec.ofInt 64 (y : Int)).toNat : Int) = _
    rw [BitVec.toNat_or, ex, ey, wrN, Nat.mod_eq_of_lt (Nat.or_lt_two_pow (n := 64) hx hy)]
theorem and32 (n : Nat) (h : n < 18446744073709551616) : bitI .and .u64 (n : Int) 4294967295 = ((n % 4294967296 : Nat) : Int) := by
  have := (bitN n 4294967295 h (by decide)).1
  rw [show n &&& 4294967295 = n % 4294967296 from Nat.and_two_pow_sub_one_eq_mod n 32] at this
  exact this
theorem and1 (n : Nat) (h : n < 18446744073709551616) : bitI .and .u64 (n : Int) 1 = ((n % 2 : Nat) : Int) := by
  have := (bitN n 1 h (by decide)).1
  rw [show n &&& 1 = n % 2 from Nat.and_two_pow_sub_one_eq_mod n 1] at this
  exact this
theorem or32 (x y : Nat) (hx : x * 4294967296 < 18446744073709551616) (hy : y < 4294967296) : bitI .or .u64 ((x * 4294967296 : Nat) : Int) (y : Int) = ((x * 4294967296 + y : Nat) : Int) := by
  rw [(bitN _ y hx (by omega)).2]
  have e := Nat.two_pow_add_eq_or_of_lt (i := 32) (b := y) hy x
  rw [Nat.mul_comm] at e
  rw [← show x * 4294967296 + y = x * 4294967296 ||| y from e]
theorem or1 (x y : Nat) (hx : x * 2 < 18446744073709551616) (hy : y < 2) : bitI .or .u64 ((x * 2 : Nat) : Int) (y : Int) = ((x * 2 + y : Nat) : Int) := by
  rw [(bitN _ y hx (by omega)).2]
  have e := Nat.two_pow_add_eq_or_of_lt (i := 1) (b := y) hy x
  rw [Nat.mul_comm] at e
  rw [← show x * 2 + y = x * 2 ||| y from e]
theorem mul32 (n : Nat) : (n : Int) * 2 ^ Int.toNat 32 = ((n * 4294967296 : Nat) : Int) := by
  have e : (2 : Int) ^ Int.toNat 32 = 4294967296 := by decide
  rw [e]; omega
theorem castM (m n : Nat) : (m : Int) * (n : Int) = ((m * n : Nat) : Int) := (Int.natCast_mul m n).symm
theorem castA (m n : Nat) : (m : Int) + (n : Int) = ((m + n : Nat) : Int) := (Int.natCast_add m n).symm
theorem mul_parts {a b : Nat} (ha : a < 18446744073709551616) (hb : b < 18446744073709551616) : a * b = (a / 4294967296 * (b / 4294967296)) * 18446744073709551616 + (a / 4294967296 * (b % 4294967296) + a % 4294967296 * (b / 4294967296)) * 4294967296 + a % 4294967296 * (b % 4294967296) := by
  have e1 : a = a / 4294967296 * 4294967296 + a % 4294967296 := by omega
  have e2 : b = b / 4294967296 * 4294967296 + b % 4294967296 := by omega
  generalize a / 4294967296 = a1, a % 4294967296 = a0, b / 4294967296 = b1, b % 4294967296 = b0 at *
  subst e1 e2
  grind
theorem le_prod {a b : Nat} (ha : a < 4294967296) (hb : b < 4294967296) : a * b ≤ 18446744065119617025 := Nat.mul_le_mul (show a ≤ 4294967295 by omega) (show b ≤ 4294967295 by omega)
theorem mul_h {a b : Nat} (ha : a < 18446744073709551616) (hb : b < 18446744073709551616) : wh (a * b) = IntKind.u64.wrap (IntKind.u64.wrap (IntKind.u64.wrap ((a : Int).fdiv (2 ^ Int.toNat 32) * (b : Int).fdiv (2 ^ Int.toNat 32)) + (IntKind.u64.wrap (IntKind.u64.wrap ((a : Int).fdiv (2 ^ Int.toNat 32) * bitI BinOp.and IntKind.u64 (b : Int) 4294967295) + (IntKind.u64.wrap (bitI BinOp.and IntKind.u64 (a : Int) 4294967295 * bitI BinOp.and IntKind.u64 (b : Int) 4294967295)).fdiv (2 ^ Int.toNat 32))).fdiv (2 ^ Int.toNat 32)) + (IntKind.u64.wrap (IntKind.u64.wrap (bitI BinOp.and IntKind.u64 (a : Int) 4294967295 * (b : Int).fdiv (2 ^ Int.toNat 32)) + bitI BinOp.and IntKind.u64 (IntKind.u64.wrap (IntKind.u64.wrap ((a : Int).fdiv (2 ^ Int.toNat 32) * bitI BinOp.and IntKind.u64 (b : Int) 4294967295) + (IntKind.u64.wrap (bitI BinOp.and IntKind.u64 (a : Int) 4294967295 * bitI BinOp.and IntKind.u64 (b : Int) 4294967295)).fdiv (2 ^ Int.toNat 32))) 4294967295)).fdiv (2 ^ Int.toNat 32)) := by
  have h1 := mul_parts ha hb
  have a1 : a / 4294967296 < 4294967296 := by omega
  have b1 : b / 4294967296 < 4294967296 := by omega
  have a0 : a % 4294967296 < 4294967296 := by omega
  have b0 : b % 4294967296 < 4294967296 := by omega
  have p1 := le_prod a1 b1
  have p2 := le_prod a1 b0
  have p3 := le_prod a0 b1
  have p4 := le_prod a0 b0
  simp only [wrN, sh32, castM, castA]
  rw [and32 a ha, and32 b hb]
  simp only [wrN, sh32, castM, castA]
  rw [and32 _ (Nat.mod_lt _ (by decide))]
  simp only [wrN, sh32, castM, castA]
  unfold wh
  congr 1
  generalize a / 4294967296 * (b / 4294967296) = x1, a / 4294967296 * (b % 4294967296) = x2, a % 4294967296 * (b / 4294967296) = x3, a % 4294967296 * (b % 4294967296) = x4 at *
  omega
theorem mul_l {a b : Nat} (ha : a < 18446744073709551616) (hb : b < 18446744073709551616) : wl (a * b) = bitI BinOp.or IntKind.u64 (IntKind.u64.wrap (IntKind.u64.wrap (IntKind.u64.wrap (bitI BinOp.and IntKind.u64 (a : Int) 4294967295 * (b : Int).fdiv (2 ^ Int.toNat 32)) + bitI BinOp.and IntKind.u64 (IntKind.u64.wrap (IntKind.u64.wrap ((a : Int).fdiv (2 ^ Int.toNat 32) * bitI BinOp.and IntKind.u64 (b : Int) 4294967295) + (IntKind.u64.wrap (bitI BinOp.and IntKind.u64 (a : Int) 4294967295 * bitI BinOp.and IntKind.u64 (b : Int) 4294967295)).fdiv (2 ^ Int.toNat 32))) 4294967295) * 2 ^ Int.toNat 32)) (bitI BinOp.and IntKind.u64 (IntKind.u64.wrap (bitI BinOp.and IntKind.u64 (a : Int) 4294967295 * bitI BinOp.and IntKind.u64 (b : Int) 4294967295)) 4294967295) := by
  have h1 := mul_parts ha hb
  have a1 : a / 4294967296 < 4294967296 := by omega
  have b1 : b / 4294967296 < 4294967296 := by omega
  have a0 : a % 4294967296 < 4294967296 := by omega
  have b0 : b % 4294967296 < 4294967296 := by omega
  have p1 := le_prod a1 b1
  have p2 := le_prod a1 b0
  have p3 := le_prod a0 b1
  have p4 := le_prod a0 b0
  simp only [wrN, sh32, castM, castA]
  rw [and32 a ha, and32 b hb]
  simp only [wrN, sh32, castM, castA]
  rw [and32 _ (Nat.mod_lt _ (by decide)), and32 _ (Nat.mod_lt _ (by decide))]
  simp only [wrN, sh32, castM, castA, mul32]
  unfold wl
  generalize a / 4294967296 * (b / 4294967296) = x1, a / 4294967296 * (b % 4294967296) = x2, a % 4294967296 * (b / 4294967296) = x3, a % 4294967296 * (b % 4294967296) = x4 at *
  rw [show ∀ n : Nat, n * 4294967296 % 18446744073709551616 = n % 4294967296 * 4294967296 from fun n => by omega]
  rw [or32 _ _ (by omega) (by omega)]
  congr 1
  omega
theorem f_mul (a b : Nat) (ha : a < 18446744073709551616) (hb : b < 18446744073709551616) : Trip Try.prog 55 [.int .u64 (a : Int), .int .u64 (b : Int)] ⟨[], [], 0⟩ (Z := Unit) (fun _ => True) (fun _ => .agg [.int .u64 (wh (a * b)), .int .u64 (wl (a * b))]) (fun _ => ⟨[], [], 0⟩) := by
  refine trip_by (rs := [_]) 1 lay_ok Try.func55 rfl (by kernel_rfl) Try.ntmps55 Try.results55 rfl rfl ?_
  repeat' (first | (((with_reducible refine g_id ?_); (conv => arg 3; whnf)); first | (refine g_outOps (g_ev lay_ok 0 ?_ (e_addW rfl rfl) rfl rfl rfl ?_)) | (refine g_outOps (g_ev lay_ok 0 ?_ (e_mulW rfl rfl) rfl rfl rfl ?_)) | (refine g_outOps (g_ev lay_ok 0 ?_ (e_shlW rfl rfl (by decide) (by decide)) rfl rfl rfl ?_)) | (with_reducible refine g_out lay_ok 1 ?_ ?_) | (with_reducible refine g_fin ?_ ?_)) | (with_reducible exact o_nil) | ((with_reducible refine o_id ?_); (conv => arg 1; whnf); first | (with_reducible exact o_nil) | (with_reducible refine o_cons ?_ ?_)) | omega | (decide) | fail)
  all_goals (((with_reducible refine e_id ?_); (conv => whnf)); refine ⟨(), trivial, ?_⟩; ((with_reducible refine s_id ?_); (conv => arg 1; whnf); (with_reducible refine s_some ?_); repeat' (first | ((with_reducible refine o_id ?_); (conv => arg 1; whnf); first | (with_reducible exact o_nil) | (with_reducible refine o_cons ?_ ?_)) | (exact mul_h ha hb) | (exact mul_l ha hb))))
theorem dbl_h {a : Nat} (ha : a < 170141183460469231731687303715884105728) : wh (2 * a) = bitI .or .u64 (IntKind.u64.wrap (wh a * 2 ^ Int.toNat 1)) ((wl a).fdiv (2 ^ Int.toNat 63)) := by
  have e : (2 : Int) ^ Int.toNat 1 = 2 := by decide
  unfold wh wl
  rw [sh63, e, show ((a / 18446744073709551616 : Nat) : Int) * 2 = ((a / 18446744073709551616 * 2 : Nat) : Int) by omega, wrN, Nat.mod_eq_of_lt (by omega), or1 _ _ (by omega) (by omega)]
  congr 1
  omega
theorem dbl_l (a : Nat) : wl (2 * a) = IntKind.u64.wrap (wl a * 2 ^ Int.toNat 1) := by
  have e : (2 : Int) ^ Int.toNat 1 = 2 := by decide
  unfold wl
  rw [e, wr64]; omega
theorem wl_bd (n : Nat) : 0 ≤ wl n ∧ wl n < 18446744073709551616 := by unfold wl; omega
theorem f_add (a b : Nat) (ha : a < 340282366920938463463374607431768211456) (hb : b < 340282366920938463463374607431768211456) (hs : a + b < 340282366920938463463374607431768211456) : Trip Try.prog 58 [.agg [.int .u64 (wh (a)), .int .u64 (wl (a))], .agg [.int .u64 (wh (b)), .int .u64 (wl (b))]] ⟨[], [], 0⟩ (Z := Unit) (fun _ => True) (fun _ => .agg [.int .u64 (wh (a + b)), .int .u64 (wl (a + b))]) (fun _ => ⟨[], [], 0⟩) := by
  refine trip_by (rs := [_]) 1 lay_ok Try.func58 rfl (by kernel_rfl) Try.ntmps58 Try.results58 rfl rfl ?_
  repeat' (first | (((with_reducible refine g_id ?_); (conv => arg 3; whnf)); first | (with_reducible refine g_cond lay_ok 1 ?_ ?_ ?_) | (refine g_outOps (g_ev lay_ok 0 ?_ (e_addW rfl rfl) rfl rfl rfl ?_)) | (with_reducible refine g_out lay_ok 1 ?_ ?_) | (with_reducible refine g_fin ?_ ?_)) | (with_reducible exact o_nil) | ((with_reducible refine o_id ?_); (conv => arg 1; whnf); first | (with_reducible exact o_nil) | fail) | (intro h; ((try simp only [Int.toNat_natCast] at h); repeat (first | replace h := of_decide_eq_true h | replace h := of_decide_eq_false h | fail)); (try (first | contradiction | fail))) | fail)
  all_goals (((with_reducible refine e_id ?_); (conv => whnf)); refine ⟨(), trivial, ?_⟩; ((with_reducible refine s_id ?_); (conv => arg 1; whnf); (with_reducible refine s_some ?_); repeat' (first | ((with_reducible refine o_id ?_); (conv => arg 1; whnf); first | (with_reducible exact o_nil) | (with_reducible refine o_cons ?_ ?_)) | (unfold wh wl at *; simp only [wr64] at *; omega) | fail)))
theorem f_sub (a b : Nat) (ha : a < 340282366920938463463374607431768211456) (hb : b < 340282366920938463463374607431768211456) (hs : b ≤ a) : Trip Try.prog 60 [.agg [.int .u64 (wh (a)), .int .u64 (wl (a))], .agg [.int .u64 (wh (b)), .int .u64 (wl (b))]] ⟨[], [], 0⟩ (Z := Unit) (fun _ => True) (fun _ => .agg [.int .u64 (wh (a - b)), .int .u64 (wl (a - b))]) (fun _ => ⟨[], [], 0⟩) := by
  refine trip_by (rs := [_]) 1 lay_ok Try.func60 rfl (by kernel_rfl) Try.ntmps60 Try.results60 rfl rfl ?_
  repeat' (first | (((with_reducible refine g_id ?_); (conv => arg 3; whnf)); first | (with_reducible refine g_cond lay_ok 1 ?_ ?_ ?_) | (refine g_outOps (g_ev lay_ok 0 ?_ (e_subW rfl rfl) rfl rfl rfl ?_)) | (with_reducible refine g_out lay_ok 1 ?_ ?_) | (with_reducible refine g_fin ?_ ?_)) | (with_reducible exact o_nil) | ((with_reducible refine o_id ?_); (conv => arg 1; whnf); first | (with_reducible exact o_nil) | fail) | (intro h; ((try simp only [Int.toNat_natCast] at h); repeat (first | replace h := of_decide_eq_true h | replace h := of_decide_eq_false h | fail)); (try (first | contradiction | fail))) | fail)
  all_goals (((with_reducible refine e_id ?_); (conv => whnf)); refine ⟨(), trivial, ?_⟩; ((with_reducible refine s_id ?_); (conv => arg 1; whnf); (with_reducible refine s_some ?_); repeat' (first | ((with_reducible refine o_id ?_); (conv => arg 1; whnf); first | (with_reducible exact o_nil) | (with_reducible refine o_cons ?_ ?_)) | (unfold wh wl at *; simp only [wr64] at *; omega) | fail)))
theorem f_less (a b : Nat) (ha : a < 340282366920938463463374607431768211456) (hb : b < 340282366920938463463374607431768211456) : Trip Try.prog 59 [.agg [.int .u64 (wh (a)), .int .u64 (wl (a))], .agg [.int .u64 (wh (b)), .int .u64 (wl (b))]] ⟨[], [], 0⟩ (Z := Unit) (fun _ => True) (fun _ => .bool (decide (a < b))) (fun _ => ⟨[], [], 0⟩) := by
  refine trip_by (rs := [_]) 1 lay_ok Try.func59 rfl (by kernel_rfl) Try.ntmps59 Try.results59 rfl rfl ?_
  repeat' (first | (((with_reducible refine g_id ?_); (conv => arg 3; whnf)); first | (with_reducible refine g_split lay_ok 1 ?_ ?_ ?_) | (with_reducible refine g_out lay_ok 1 ?_ ?_) | (with_reducible refine g_fin ?_ ?_)) | (with_reducible exact o_nil) | ((with_reducible refine o_id ?_); (conv => arg 1; whnf); first | (with_reducible exact o_nil) | fail) | (intro h; ((try simp only [Int.toNat_natCast] at h); repeat (first | replace h := of_decide_eq_true h | replace h := of_decide_eq_false h | fail)); (try (first | contradiction | fail))) | fail)
  all_goals (((with_reducible refine e_id ?_); (conv => whnf)); refine ⟨(), trivial, ?_⟩; ((with_reducible refine s_id ?_); (conv => arg 1; whnf); (with_reducible refine s_some ?_); repeat' (first | ((with_reducible refine o_id ?_); (conv => arg 1; whnf); first | (with_reducible exact o_nil) | (with_reducible refine o_cons ?_ ?_)) | (exact decide_eq_true (by simp only [wh, wl] at *; omega)) | (exact decide_eq_false (by simp only [wh, wl] at *; omega)) | (simp only [decide_eq_decide]; unfold wh wl at *; omega))))
theorem f_double (a : Nat) (ha : a < 170141183460469231731687303715884105728) : Trip Try.prog 67 [.agg [.int .u64 (wh (a)), .int .u64 (wl (a))]] ⟨[], [], 0⟩ (Z := Unit) (fun _ => True) (fun _ => .agg [.int .u64 (wh (2 * a)), .int .u64 (wl (2 * a))]) (fun _ => ⟨[], [], 0⟩) := by
  refine trip_by (rs := [_]) 1 lay_ok Try.func67 rfl (by kernel_rfl) Try.ntmps67 Try.results67 rfl rfl ?_
  repeat' (first | (((with_reducible refine g_id ?_); (conv => arg 3; whnf)); first | (refine g_outOps (g_ev lay_ok 0 ?_ (e_shlW rfl rfl (by decide) (by decide)) rfl rfl rfl ?_)) | (with_reducible refine g_out lay_ok 1 ?_ ?_) | (with_reducible refine g_fin ?_ ?_)) | (with_reducible exact o_nil) | ((with_reducible refine o_id ?_); (conv => arg 1; whnf); first | (with_reducible exact o_nil) | (with_reducible refine o_cons ?_ ?_)) | omega | (decide))
  all_goals (((with_reducible refine e_id ?_); (conv => whnf)); refine ⟨(), trivial, ?_⟩; ((with_reducible refine s_id ?_); (conv => arg 1; whnf); (with_reducible refine s_some ?_); repeat' (first | ((with_reducible refine o_id ?_); (conv => arg 1; whnf); first | (with_reducible exact o_nil) | (with_reducible refine o_cons ?_ ?_)) | (exact dbl_h ha) | (exact dbl_l a) | fail)))
theorem f_size (n : Int) (h0 : -1152921504606846976 ≤ n) (h1 : n ≤ 1152921504606846976) : Trip Try.prog 56 [.int .i64 n] ⟨[], [], 0⟩ (Z := Unit) (fun _ => True) (fun _ => .int .u64 ((n.natAbs : Nat) : Int)) (fun _ => ⟨[], [], 0⟩) := by
  refine trip_by (rs := [_]) 1 lay_ok Try.func56 rfl (by kernel_rfl) Try.ntmps56 Try.results56 rfl rfl ?_
  repeat' (first | (((with_reducible refine g_id ?_); (conv => arg 3; whnf)); first | (with_reducible refine g_cond lay_ok 1 ?_ ?_ ?_) | (refine g_outOps (g_ev lay_ok 0 ?_ (e_convW lay_ok rfl rfl rfl) rfl rfl rfl ?_)) | (refine g_outOps (g_ev lay_ok 0 ?_ (e_negW rfl) rfl rfl rfl ?_)) | (with_reducible refine g_out lay_ok 1 ?_ ?_) | (with_reducible refine g_fin ?_ ?_)) | (with_reducible exact o_nil) | ((with_reducible refine o_id ?_); (conv => arg 1; whnf); first | (with_reducible exact o_nil) | fail) | (intro h; ((try simp only [Int.toNat_natCast] at h); repeat (first | replace h := of_decide_eq_true h | replace h := of_decide_eq_false h | fail)); (try (first | contradiction | fail))) | fail)
  all_goals (((with_reducible refine e_id ?_); (conv => whnf)); refine ⟨(), trivial, ?_⟩; ((with_reducible refine s_id ?_); (conv => arg 1; whnf); (with_reducible refine s_some ?_); repeat' (first | ((with_reducible refine o_id ?_); (conv => arg 1; whnf); first | (with_reducible exact o_nil) | (with_reducible refine o_cons ?_ ?_)) | (simp only [wr64]; omega) | fail)))
end Go.Proofs.Ytkageldgmkajbaa
namespace Go.Proofs.Ytkageldgmkajbaa
open Go.RowKit
def prf (a z : Nat) : Nat := a / 2 ^ (128 - z)
def dvq (a b z : Nat) : Nat := prf a z / b
def dvr (a b z : Nat) : Nat := prf a z % b
def bit_ (a z : Nat) : Nat := a / 2 ^ (127 - z) % 2
theorem prf_s (a : Nat) {z : Nat} (h : z < 128) : prf a (z + 1) = 2 * prf a z + bit_ a z := by
  unfold prf bit_
  rw [show 128 - z = 127 - z + 1 by omega, show 128 - (z + 1) = 127 - z by omega, Nat.pow_succ, ← Nat.div_div_eq_div_mul]
  omega
theorem prf_0 {a : Nat} (ha : a < 340282366920938463463374607431768211456) : prf a 0 = 0 := Nat.div_eq_of_lt ha
theorem prf_128 (a : Nat) : prf a 128 = a := Nat.div_one a
theorem prf_lt {a : Nat} (ha : a < 340282366920938463463374607431768211456) {z : Nat} (h : z < 128) : prf a z < 170141183460469231731687303715884105728 := by
  unfold prf
  have h2 : (2 : Nat) ^ 1 ≤ 2 ^ (128 - z) := Nat.pow_le_pow_right (by decide) (by omega)
  exact Nat.lt_of_le_of_lt (Nat.div_le_div_left h2 (by decide)) (by omega)
theorem bit_h {a z : Nat} (h : z < 64) (ha : a < 340282366920938463463374607431768211456) : bitI .and .u64 ((wh a).fdiv (2 ^ (127 - (z : Int) - 64).toNat)) 1 = ((bit_ a z : Nat) : Int) := by
  have e : (2 : Int) ^ (127 - (z : Int) - 64).toNat = ((2 ^ (63 - z) : Nat) : Int) := by rw [show (127 - (z : Int) - 64).toNat = 63 - z by omega]; norm_cast
  have p : 0 < 2 ^ (63 - z) := Nat.pow_pos (by decide)
  unfold wh
  rw [e, Int.fdiv_eq_ediv_of_nonneg _ (by omega), ← Int.natCast_ediv, and1 _ (Nat.lt_of_le_of_lt (Nat.div_le_self _ _) (by omega))]
  unfold bit_
  rw [Nat.div_div_eq_div_mul, show (18446744073709551616 : Nat) = 2 ^ 64 by decide, ← Nat.pow_add, show 64 + (63 - z) = 127 - z by omega]
theorem bit_l {a z : Nat} (h : ¬ z < 64) (h2 : z < 128) : bitI .and .u64 ((wl a).fdiv (2 ^ (127 - (z : Int)).toNat)) 1 = ((bit_ a z : Nat) : Int) := by
  have e : (2 : Int) ^ (127 - (z : Int)).toNat = ((2 ^ (127 - z) : Nat) : Int) := by rw [show (127 - (z : Int)).toNat = 127 - z by omega]; norm_cast
  have p : 0 < 2 ^ (127 - z) := Nat.pow_pos (by decide)
  unfold wl
  rw [e, Int.fdiv_eq_ediv_of_nonneg _ (by omega), ← Int.natCast_ediv, and1 _ (Nat.lt_of_le_of_lt (Nat.div_le_self _ _) (Nat.mod_lt _ (by decide)))]
  unfold bit_
  have q : (18446744073709551616 : Nat) = 2 ^ (127 - z) * 2 ^ (z - 63) := by rw [← Nat.pow_add, show 127 - z + (z - 63) = 64 by omega]
  rw [q, Nat.mod_mul_right_div_self]
  have q2 : 2 ^ (z - 63) = 2 * 2 ^ (z - 64) := by rw [show z - 63 = z - 64 + 1 by omega, Nat.pow_succ, Nat.mul_comm]
  rw [q2, Nat.mod_mul_right_mod]
theorem or_lo (r : Nat) : bitI .or .u64 (wl (2 * r)) 1 = wl (2 * r + 1) := by
  unfold wl
  have := or1 (r % 9223372036854775808) 1 (by omega) (by decide)
  rw [show 2 * r % 18446744073709551616 = r % 9223372036854775808 * 2 by omega]
  exact this.trans (by congr 1; omega)
theorem wh_e (r : Nat) : wh (2 * r) = wh (2 * r + 1) := by unfold wh; congr 1; omega
theorem dv_bd {a b z : Nat} (ha : a < 340282366920938463463374607431768211456) (b0 : 0 < b) (h : z < 128) : dvr a b z < b ∧ dvq a b z < 170141183460469231731687303715884105728 ∧ bit_ a z < 2 :=
  ⟨Nat.mod_lt _ b0, Nat.lt_of_le_of_lt (Nat.div_le_self _ _) (prf_lt ha h), Nat.mod_lt _ (by decide)⟩
theorem dv_1 {a b z c : Nat} (b0 : 0 < b) (h : z < 128) (hc : bit_ a z = c) (hl : 2 * dvr a b z + c < b) : dvq a b (z + 1) = 2 * dvq a b z ∧ dvr a b (z + 1) = 2 * dvr a b z + c := by
  have e := Nat.div_add_mod (prf a z) b
  unfold dvq dvr at *
  rw [prf_s a h, hc]
  refine (Nat.div_mod_unique b0).2 ⟨?_, hl⟩
  have : b * (2 * (prf a z / b)) = 2 * (b * (prf a z / b)) := by rw [Nat.mul_left_comm]
  omega
theorem dv_2 {a b z c : Nat} (b0 : 0 < b) (h : z < 128) (hc : bit_ a z = c) (hl : ¬ 2 * dvr a b z + c < b) : dvq a b (z + 1) = 2 * dvq a b z + 1 ∧ dvr a b (z + 1) = 2 * dvr a b z + c - b := by
  have e := Nat.div_add_mod (prf a z) b
  have m := Nat.mod_lt (prf a z) b0
  have hc2 : c < 2 := hc ▸ Nat.mod_lt _ (by decide)
  unfold dvq dvr at *
  rw [prf_s a h, hc]
  refine (Nat.div_mod_unique b0).2 ⟨?_, by omega⟩
  have : b * (2 * (prf a z / b) + 1) = 2 * (b * (prf a z / b)) + b := by rw [Nat.mul_add, Nat.mul_left_comm, Nat.mul_one]
  omega
attribute [local irreducible] dvq dvr bit_ wh wl bitI
set_option maxHeartbeats 8000000 in
theorem f_div (a b : Nat) (ha : a < 340282366920938463463374607431768211456) (b0 : 0 < b) (hb : b < 170141183460469231731687303715884105728) : Trip Try.prog 66 [.agg [.int .u64 (wh (a)), .int .u64 (wl (a))], .agg [.int .u64 (wh (b)), .int .u64 (wl (b))]] ⟨[], [], 0⟩ (Z := Unit) (fun _ => True) (fun _ => .tup [.agg [.int .u64 (wh (a / b)), .int .u64 (wl (a / b))], .agg [.int .u64 (wh (a % b)), .int .u64 (wl (a % b))]]) (fun _ => ⟨[], [], 0⟩) := by
  have i1 : dvq a b 0 = 0 := by unfold dvq; rw [prf_0 ha, Nat.zero_div]
  have i2 : dvr a b 0 = 0 := by unfold dvr; rw [prf_0 ha, Nat.zero_mod]
  have i3 : wh 0 = 0 := by unfold wh; rfl
  have i4 : wl 0 = 0 := by unfold wl; rfl
  have j1 : dvq a b 128 = a / b := by unfold dvq; rw [prf_128]
  have j2 : dvr a b 128 = a % b := by unfold dvr; rw [prf_128]
  refine trip_by (rs := [_, _]) 1 lay_ok Try.func66 rfl (by kernel_rfl) Try.ntmps66 Try.results66 rfl rfl ?_
  repeat' (first | (((with_reducible refine g_id ?_); (conv => arg 3; whnf)); first | (with_reducible refine g_out lay_ok 1 ?_ ?_) | fail) | (with_reducible exact o_nil) | ((with_reducible refine o_id ?_); (conv => arg 1; whnf); first | (with_reducible exact o_nil) | fail) | fail)
  refine g_loop lay_ok 400 (Z := Nat) (fun z => z ≤ 128) (fun z => ⟨[(2, .ptr 0 0), (3, .ptr 1 0), (4, .ptr 2 0), (5, .ptr 3 0), (6, .ptr 4 0), (7, .ptr 5 0), (8, .int .i64 (127 - (z : Int)))], [(0, .cells [.int .u64 (wh (a)), .int .u64 (wl (a))]), (1, .cells [.int .u64 (wh (b)), .int .u64 (wl (b))]), (2, .cells [.int .u64 0, .int .u64 0]), (3, .cells [.int .u64 0, .int .u64 0]), (4, .cells [.int .u64 (wh (dvq a b z)), .int .u64 (wl (dvq a b z))]), (5, .cells [.int .u64 (wh (dvr a b z)), .int .u64 (wl (dvr a b z))])], 6⟩) (fun z => 128 - z) ?_ ⟨0, Nat.zero_le _, ?_⟩ (fun z hz => ?_)
  · repeat' (first | (with_reducible exact o_nil) | fail)
  · ((with_reducible refine s_id ?_); (conv => arg 1; whnf); (with_reducible refine s_some ?_); repeat' (first | ((with_reducible refine o_id ?_); (conv => arg 1; whnf); first | (with_reducible exact o_nil) | (with_reducible refine o_cons ?_ ?_)) | rfl | (rw [i1]; exact i3) | (rw [i1]; exact i4) | (rw [i2]; exact i3) | (rw [i2]; exact i4)))
  by_cases hz1 : z < 128
  · obtain ⟨d1, d2, d3⟩ := dv_bd ha b0 hz1
    repeat' (first | (((with_reducible refine g_id ?_); (conv => arg 3; whnf)); first | (with_reducible refine g_split lay_ok 400 ?_ ?_ ?_) | (with_reducible refine g_cond lay_ok 400 ?_ ?_ ?_) | (refine g_call lay_ok 400 ?_ ?_ ?_ (f_double ?_ ?_) rfl)) | ((with_reducible refine o_id ?_); (conv => arg 1; whnf); first | (with_reducible exact o_nil) | (with_reducible refine o_cons ?_ ?_)) | (intro h; ((try simp only [Int.toNat_natCast] at h); repeat (first | replace h := of_decide_eq_true h | replace h := of_decide_eq_false h | fail)); (try (first | (exfalso; omega) | fail))) | omega | rfl | (show _ ≤ (64 : Int); omega))
    · have hc : bit_ a z = 1 := by have q := bit_h (a := a) (z := z) (by omega) ha; omega
      rw [or_lo (dvr a b z), wh_e (dvr a b z)]
      by_cases hl : 2 * dvr a b z + 1 < b
      · have H1 := dv_1 b0 hz1 hc hl
        try simp only [Nat.add_zero] at hl H1
        repeat' (first | (((with_reducible refine g_id ?_); (conv => arg 3; whnf)); first | (with_reducible refine g_cond lay_ok 400 ?_ ?_ ?_) | (with_reducible refine g_fin ?_ ?_) | (refine g_call lay_ok 400 ?_ ?_ ?_ (f_less ?_ ?_ ?_ ?_) rfl) | fail) | ((with_reducible refine o_id ?_); (conv => arg 1; whnf); first | (with_reducible exact o_nil) | (with_reducible refine o_cons ?_ ?_)) | (intro h; ((try simp only [Int.toNat_natCast] at h); repeat (first | replace h := of_decide_eq_true h | replace h := of_decide_eq_false h | replace h := not_t h | replace h := not_f h | fail)); (try (first | contradiction | fail))) | omega | rfl | fail)
        all_goals (refine q_round ⟨z + 1, by omega, by omega, ?_⟩; ((with_reducible refine s_id ?_); (conv => arg 1; whnf); (with_reducible refine s_some ?_); repeat' (first | ((with_reducible refine o_id ?_); (conv => arg 1; whnf); first | (with_reducible exact o_nil) | (with_reducible refine o_cons ?_ ?_)) | (with_reducible rfl) | omega | (rw [H1.1]; done) | (rw [H1.2]; done))))
      · have H1 := dv_2 b0 hz1 hc hl
        try simp only [Nat.add_zero] at hl H1
        repeat' (first | (((with_reducible refine g_id ?_); (conv => arg 3; whnf)); first | (with_reducible refine g_cond lay_ok 400 ?_ ?_ ?_) | (with_reducible refine g_fin ?_ ?_) | (refine g_call lay_ok 400 ?_ ?_ ?_ (f_less ?_ ?_ ?_ ?_) rfl) | (refine g_call lay_ok 400 ?_ ?_ ?_ (f_sub ?_ ?_ ?_ ?_ ?_) rfl) | fail) | ((with_reducible refine o_id ?_); (conv => arg 1; whnf); first | (with_reducible exact o_nil) | (with_reducible refine o_cons ?_ ?_)) | (intro h; ((try simp only [Int.toNat_natCast] at h); repeat (first | replace h := of_decide_eq_true h | replace h := of_decide_eq_false h | replace h := not_t h | replace h := not_f h | fail)); (try (first | contradiction | fail))) | omega | rfl | fail)
        all_goals (refine q_round ⟨z + 1, by omega, by omega, ?_⟩; ((with_reducible refine s_id ?_); (conv => arg 1; whnf); (with_reducible refine s_some ?_); repeat' (first | ((with_reducible refine o_id ?_); (conv => arg 1; whnf); first | (with_reducible exact o_nil) | (with_reducible refine o_cons ?_ ?_)) | (with_reducible rfl) | omega | (rw [H1.1]; exact (wh_e _).symm) | (rw [H1.1]; exact (or_lo _).symm) | (rw [H1.2]; done))))
    · have hc : bit_ a z = 0 := by have q := bit_h (a := a) (z := z) (by omega) ha; omega
      by_cases hl : 2 * dvr a b z + 0 < b
      · have H1 := dv_1 b0 hz1 hc hl
        try simp only [Nat.add_zero] at hl H1
        repeat' (first | (((with_reducible refine g_id ?_); (conv => arg 3; whnf)); first | (with_reducible refine g_cond lay_ok 400 ?_ ?_ ?_) | (with_reducible refine g_fin ?_ ?_) | (refine g_call lay_ok 400 ?_ ?_ ?_ (f_less ?_ ?_ ?_ ?_) rfl) | fail) | ((with_reducible refine o_id ?_); (conv => arg 1; whnf); first | (with_reducible exact o_nil) | (with_reducible refine o_cons ?_ ?_)) | (intro h; ((try simp only [Int.toNat_natCast] at h); repeat (first | replace h := of_decide_eq_true h | replace h := of_decide_eq_false h | replace h := not_t h | replace h := not_f h | fail)); (try (first | contradiction | fail))) | omega | rfl | fail)
        all_goals (refine q_round ⟨z + 1, by omega, by omega, ?_⟩; ((with_reducible refine s_id ?_); (conv => arg 1; whnf); (with_reducible refine s_some ?_); repeat' (first | ((with_reducible refine o_id ?_); (conv => arg 1; whnf); first | (with_reducible exact o_nil) | (with_reducible refine o_cons ?_ ?_)) | (with_reducible rfl) | omega | (rw [H1.1]; done) | (rw [H1.2]; done))))
      · have H1 := dv_2 b0 hz1 hc hl
        try simp only [Nat.add_zero] at hl H1
        repeat' (first | (((with_reducible refine g_id ?_); (conv => arg 3; whnf)); first | (with_reducible refine g_cond lay_ok 400 ?_ ?_ ?_) | (with_reducible refine g_fin ?_ ?_) | (refine g_call lay_ok 400 ?_ ?_ ?_ (f_less ?_ ?_ ?_ ?_) rfl) | (refine g_call lay_ok 400 ?_ ?_ ?_ (f_sub ?_ ?_ ?_ ?_ ?_) rfl) | fail) | ((with_reducible refine o_id ?_); (conv => arg 1; whnf); first | (with_reducible exact o_nil) | (with_reducible refine o_cons ?_ ?_)) | (intro h; ((try simp only [Int.toNat_natCast] at h); repeat (first | replace h := of_decide_eq_true h | replace h := of_decide_eq_false h | replace h := not_t h | replace h := not_f h | fail)); (try (first | contradiction | fail))) | omega | rfl | fail)
        all_goals (refine q_round ⟨z + 1, by omega, by omega, ?_⟩; ((with_reducible refine s_id ?_); (conv => arg 1; whnf); (with_reducible refine s_some ?_); repeat' (first | ((with_reducible refine o_id ?_); (conv => arg 1; whnf); first | (with_reducible exact o_nil) | (with_reducible refine o_cons ?_ ?_)) | (with_reducible rfl) | omega | (rw [H1.1]; exact (wh_e _).symm) | (rw [H1.1]; exact (or_lo _).symm) | (rw [H1.2]; done))))
    · have hc : bit_ a z = 1 := by have q := bit_l (a := a) (z := z) (by omega) hz1; omega
      rw [or_lo (dvr a b z), wh_e (dvr a b z)]
      by_cases hl : 2 * dvr a b z + 1 < b
      · have H1 := dv_1 b0 hz1 hc hl
        try simp only [Nat.add_zero] at hl H1
        repeat' (first | (((with_reducible refine g_id ?_); (conv => arg 3; whnf)); first | (with_reducible refine g_cond lay_ok 400 ?_ ?_ ?_) | (with_reducible refine g_fin ?_ ?_) | (refine g_call lay_ok 400 ?_ ?_ ?_ (f_less ?_ ?_ ?_ ?_) rfl) | fail) | ((with_reducible refine o_id ?_); (conv => arg 1; whnf); first | (with_reducible exact o_nil) | (with_reducible refine o_cons ?_ ?_)) | (intro h; ((try simp only [Int.toNat_natCast] at h); repeat (first | replace h := of_decide_eq_true h | replace h := of_decide_eq_false h | replace h := not_t h | replace h := not_f h | fail)); (try (first | contradiction | fail))) | omega | rfl | fail)
        all_goals (refine q_round ⟨z + 1, by omega, by omega, ?_⟩; ((with_reducible refine s_id ?_); (conv => arg 1; whnf); (with_reducible refine s_some ?_); repeat' (first | ((with_reducible refine o_id ?_); (conv => arg 1; whnf); first | (with_reducible exact o_nil) | (with_reducible refine o_cons ?_ ?_)) | (with_reducible rfl) | omega | (rw [H1.1]; done) | (rw [H1.2]; done))))
      · have H1 := dv_2 b0 hz1 hc hl
        try simp only [Nat.add_zero] at hl H1
        repeat' (first | (((with_reducible refine g_id ?_); (conv => arg 3; whnf)); first | (with_reducible refine g_cond lay_ok 400 ?_ ?_ ?_) | (with_reducible refine g_fin ?_ ?_) | (refine g_call lay_ok 400 ?_ ?_ ?_ (f_less ?_ ?_ ?_ ?_) rfl) | (refine g_call lay_ok 400 ?_ ?_ ?_ (f_sub ?_ ?_ ?_ ?_ ?_) rfl) | fail) | ((with_reducible refine o_id ?_); (conv => arg 1; whnf); first | (with_reducible exact o_nil) | (with_reducible refine o_cons ?_ ?_)) | (intro h; ((try simp only [Int.toNat_natCast] at h); repeat (first | replace h := of_decide_eq_true h | replace h := of_decide_eq_false h | replace h := not_t h | replace h := not_f h | fail)); (try (first | contradiction | fail))) | omega | rfl | fail)
        all_goals (refine q_round ⟨z + 1, by omega, by omega, ?_⟩; ((with_reducible refine s_id ?_); (conv => arg 1; whnf); (with_reducible refine s_some ?_); repeat' (first | ((with_reducible refine o_id ?_); (conv => arg 1; whnf); first | (with_reducible exact o_nil) | (with_reducible refine o_cons ?_ ?_)) | (with_reducible rfl) | omega | (rw [H1.1]; exact (wh_e _).symm) | (rw [H1.1]; exact (or_lo _).symm) | (rw [H1.2]; done))))
    · have hc : bit_ a z = 0 := by have q := bit_l (a := a) (z := z) (by omega) hz1; omega
      by_cases hl : 2 * dvr a b z + 0 < b
      · have H1 := dv_1 b0 hz1 hc hl
        try simp only [Nat.add_zero] at hl H1
        repeat' (first | (((with_reducible refine g_id ?_); (conv => arg 3; whnf)); first | (with_reducible refine g_cond lay_ok 400 ?_ ?_ ?_) | (with_reducible refine g_fin ?_ ?_) | (refine g_call lay_ok 400 ?_ ?_ ?_ (f_less ?_ ?_ ?_ ?_) rfl) | fail) | ((with_reducible refine o_id ?_); (conv => arg 1; whnf); first | (with_reducible exact o_nil) | (with_reducible refine o_cons ?_ ?_)) | (intro h; ((try simp only [Int.toNat_natCast] at h); repeat (first | replace h := of_decide_eq_true h | replace h := of_decide_eq_false h | replace h := not_t h | replace h := not_f h | fail)); (try (first | contradiction | fail))) | omega | rfl | fail)
        all_goals (refine q_round ⟨z + 1, by omega, by omega, ?_⟩; ((with_reducible refine s_id ?_); (conv => arg 1; whnf); (with_reducible refine s_some ?_); repeat' (first | ((with_reducible refine o_id ?_); (conv => arg 1; whnf); first | (with_reducible exact o_nil) | (with_reducible refine o_cons ?_ ?_)) | (with_reducible rfl) | omega | (rw [H1.1]; done) | (rw [H1.2]; done))))
      · have H1 := dv_2 b0 hz1 hc hl
        try simp only [Nat.add_zero] at hl H1
        repeat' (first | (((with_reducible refine g_id ?_); (conv => arg 3; whnf)); first | (with_reducible refine g_cond lay_ok 400 ?_ ?_ ?_) | (with_reducible refine g_fin ?_ ?_) | (refine g_call lay_ok 400 ?_ ?_ ?_ (f_less ?_ ?_ ?_ ?_) rfl) | (refine g_call lay_ok 400 ?_ ?_ ?_ (f_sub ?_ ?_ ?_ ?_ ?_) rfl) | fail) | ((with_reducible refine o_id ?_); (conv => arg 1; whnf); first | (with_reducible exact o_nil) | (with_reducible refine o_cons ?_ ?_)) | (intro h; ((try simp only [Int.toNat_natCast] at h); repeat (first | replace h := of_decide_eq_true h | replace h := of_decide_eq_false h | replace h := not_t h | replace h := not_f h | fail)); (try (first | contradiction | fail))) | omega | rfl | fail)
        all_goals (refine q_round ⟨z + 1, by omega, by omega, ?_⟩; ((with_reducible refine s_id ?_); (conv => arg 1; whnf); (with_reducible refine s_some ?_); repeat' (first | ((with_reducible refine o_id ?_); (conv => arg 1; whnf); first | (with_reducible exact o_nil) | (with_reducible refine o_cons ?_ ?_)) | (with_reducible rfl) | omega | (rw [H1.1]; exact (wh_e _).symm) | (rw [H1.1]; exact (or_lo _).symm) | (rw [H1.2]; done))))
  · have : z = 128 := by omega
    subst this
    rw [j1, j2]
    repeat' (first | (((with_reducible refine g_id ?_); (conv => arg 3; whnf)); first | (with_reducible refine g_cond lay_ok 400 ?_ ?_ ?_) | (with_reducible refine g_fin ?_ ?_) | (refine g_flow 12 lay_ok mixed_ok 400 12 [0, 0, 1, 7] (.q 0 (.q 1 (.e 2 [1] (.e 3 [] (.fin) .stop) .stop))) (by kernel_rfl) ?_ ?_)) | (((with_reducible refine w_id ?_); (conv => arg 4; whnf)); first | (with_reducible refine w_fin ?_ ?_) | (with_reducible refine w_tt ?_) | (with_reducible refine w_eff lay_ok 400 ?_ rfl rfl ?_ ?_)) | (with_reducible refine q_flow ?_ ?_) | ((with_reducible refine h_id ?_); (conv => arg 1; whnf); (with_reducible refine s_some ?_)) | (with_reducible refine q_leave lay_ok 400 ?_) | (with_reducible exact o_nil) | ((with_reducible refine o_id ?_); (conv => arg 1; whnf); first | (with_reducible exact o_nil) | (with_reducible refine o_cons ?_ ?_)) | (intro h; ((try simp only [Int.toNat_natCast] at h); repeat (first | replace h := of_decide_eq_true h | replace h := of_decide_eq_false h | fail)); (try (first | contradiction | fail))) | omega | fail)
    all_goals (((with_reducible refine e_id ?_); (conv => whnf)); refine ⟨(), trivial, ?_⟩; ((with_reducible refine s_id ?_); (conv => arg 1; whnf); (with_reducible refine s_some ?_); repeat' (first | ((with_reducible refine o_id ?_); (conv => arg 1; whnf); first | (with_reducible exact o_nil) | (with_reducible refine o_cons ?_ ?_)) | rfl | fail)))
end Go.Proofs.Ytkageldgmkajbaa
namespace Go.Proofs.Ytkageldgmkajbaa
open Go.RowKit
theorem w_zero {y : Nat} (h : y < 340282366920938463463374607431768211456) : (wh y = 0 ∧ wl y = 0) ↔ y = 0 := by unfold wh wl; omega
theorem gcd_st {x y a b : Nat} (h : Nat.gcd x y = Nat.gcd a b) : Nat.gcd y (x % y) = Nat.gcd a b := by rw [← h, Nat.gcd_comm x y, Nat.gcd_rec y x, Nat.gcd_comm]
theorem ex_nn {I : Nat × Nat → Prop} {m : Nat × Nat → Nat} {n : Nat} {P : Nat × Nat → Prop} (x y : Nat) (hI : I (x, y)) (hm : m (x, y) < n) (hP : P (x, y)) : ∃ z, I z ∧ m z < n ∧ P z := ⟨_, hI, hm, hP⟩
theorem w_small {n : Nat} (h : n ≤ 1152921504606846976) : wh n = 0 ∧ wl n = (n : Int) := by unfold wh wl; omega
theorem w_big {n : Nat} (h : ¬ n ≤ 1152921504606846976) (h2 : n < 340282366920938463463374607431768211456) : 0 < wh n ∨ 1152921504606846976 < wl n := by unfold wh wl; omega
attribute [local irreducible] wh wl bitI
set_option maxHeartbeats 8000000 in
theorem f_gcd (a b : Nat) (ha : a < 170141183460469231731687303715884105728) (hb : b < 170141183460469231731687303715884105728) : Trip Try.prog 65 [.agg [.int .u64 (wh (a)), .int .u64 (wl (a))], .agg [.int .u64 (wh (b)), .int .u64 (wl (b))]] ⟨[], [], 0⟩ (Z := Unit) (fun _ => True) (fun _ => .agg [.int .u64 (wh (Nat.gcd a b)), .int .u64 (wl (Nat.gcd a b))]) (fun _ => ⟨[], [], 0⟩) := by
  refine trip_by (rs := [_]) 1 lay_ok Try.func65 rfl (by kernel_rfl) Try.ntmps65 Try.results65 rfl rfl ?_
  repeat' (first | (((with_reducible refine g_id ?_); (conv => arg 3; whnf)); first | (with_reducible refine g_out lay_ok 1 ?_ ?_) | fail) | (with_reducible exact o_nil) | ((with_reducible refine o_id ?_); (conv => arg 1; whnf); first | (with_reducible exact o_nil) | fail) | fail)
  refine g_loop lay_ok 400 (Z := Nat × Nat) (fun z => z.1 < 170141183460469231731687303715884105728 ∧ z.2 < 170141183460469231731687303715884105728 ∧ Nat.gcd z.1 z.2 = Nat.gcd a b) (fun z => ⟨[(2, .ptr 0 0), (3, .ptr 1 0), (4, .ptr 2 0)], [(0, .cells [.int .u64 (wh (z.1)), .int .u64 (wl (z.1))]), (1, .cells [.int .u64 (wh (z.2)), .int .u64 (wl (z.2))]), (2, .cells [.int .u64 0, .int .u64 0])], 3⟩) (fun z => z.2) ?_ ⟨(a, b), ⟨ha, hb, rfl⟩, ?_⟩ (fun z hz => ?_)
  · repeat' (first | (with_reducible exact o_nil) | fail)
  · ((with_reducible refine s_id ?_); (conv => arg 1; whnf); (with_reducible refine s_some ?_); repeat' (first | ((with_reducible refine o_id ?_); (conv => arg 1; whnf); first | (with_reducible exact o_nil) | (with_reducible refine o_cons ?_ ?_)) | (with_reducible rfl) | fail))
  obtain ⟨x, y⟩ := z
  obtain ⟨h1, h2, h3⟩ := hz
  dsimp only at h1 h2 h3
  dsimp only
  by_cases hy : y = 0
  · have hw : wh y = 0 ∧ wl y = 0 := (w_zero (by omega)).2 hy
    subst hy
    rw [Nat.gcd_zero_right] at h3
    rw [← h3]
    repeat' (first | (((with_reducible refine g_id ?_); (conv => arg 3; whnf)); first | (with_reducible refine g_cond lay_ok 400 ?_ ?_ ?_) | (with_reducible refine g_fin ?_ ?_) | (refine g_ev lay_ok 400 ?_ (e_new rfl rfl rfl) rfl rfl rfl ?_) | fail) | (with_reducible refine q_leave lay_ok 400 ?_) | (with_reducible exact o_nil) | ((with_reducible refine o_id ?_); (conv => arg 1; whnf); first | (with_reducible exact o_nil) | fail) | (intro h; ((try simp only [Int.toNat_natCast] at h); repeat (first | replace h := of_decide_eq_true h | replace h := of_decide_eq_false h | replace h := not_t h | replace h := not_f h | fail)); (try (first | contradiction | fail))) | fail)
    all_goals (((with_reducible refine e_id ?_); (conv => whnf)); refine ⟨(), trivial, ?_⟩; ((with_reducible refine s_id ?_); (conv => arg 1; whnf); (with_reducible refine s_some ?_); repeat' (first | ((with_reducible refine o_id ?_); (conv => arg 1; whnf); first | (with_reducible exact o_nil) | (with_reducible refine o_cons ?_ ?_)) | rfl | fail)))
  · have hw : ¬ (wh y = 0 ∧ wl y = 0) := fun e => hy ((w_zero (by omega)).1 e)
    have h4 := gcd_st h3
    have h5 := Nat.mod_lt x (show 0 < y by omega)
    repeat' (first | (((with_reducible refine g_id ?_); (conv => arg 3; whnf)); first | (with_reducible refine g_cond lay_ok 400 ?_ ?_ ?_) | (with_reducible refine g_fin ?_ ?_) | (refine g_call lay_ok 400 ?_ ?_ ?_ (f_div ?_ ?_ ?_ ?_ ?_) rfl) | (refine g_ev lay_ok 400 ?_ (e_new rfl rfl rfl) rfl rfl rfl ?_) | (refine g_flow 3 lay_ok mixed_ok 400 12 [0, 0, 1, 7] (.q 0 (.q 1 (.e 2 [1] (.e 3 [] (.fin) .stop) .stop))) (by kernel_rfl) ?_ ?_)) | (((with_reducible refine w_id ?_); (conv => arg 4; whnf)); first | (with_reducible refine w_fin ?_ ?_) | (with_reducible refine w_tt ?_) | (with_reducible refine w_eff lay_ok 400 ?_ rfl rfl ?_ ?_) | fail) | (with_reducible refine q_flow ?_ ?_) | ((with_reducible refine h_id ?_); (conv => arg 1; whnf); (with_reducible refine s_some ?_)) | (with_reducible exact o_nil) | ((with_reducible refine o_id ?_); (conv => arg 1; whnf); first | (with_reducible exact o_nil) | (with_reducible refine o_cons ?_ ?_)) | (intro h; ((try simp only [Int.toNat_natCast] at h); repeat (first | replace h := of_decide_eq_true h | replace h := of_decide_eq_false h | replace h := not_t h | replace h := not_f h | fail)); (try (first | contradiction | fail))) | omega | rfl | fail)
    all_goals (refine q_round (ex_nn y (x % y) ⟨by dsimp only; omega, by dsimp only; omega, h4⟩ (by dsimp only; omega) ?_); ((with_reducible refine s_id ?_); (conv => arg 1; whnf); (with_reducible refine s_some ?_); repeat' (first | ((with_reducible refine o_id ?_); (conv => arg 1; whnf); first | (with_reducible exact o_nil) | (with_reducible refine o_cons ?_ ?_)) | (with_reducible rfl) | fail)))
def redF (neg : Bool) (n d : Nat) : Frc :=
  if n = 0 then ⟨0, 1⟩ else if n / Nat.gcd n d ≤ 1152921504606846976 ∧ d / Nat.gcd n d ≤ 1152921504606846976 then ⟨if neg then -((n / Nat.gcd n d : Nat) : Int) else ((n / Nat.gcd n d : Nat) : Int), ((d / Nat.gcd n d : Nat) : Int)⟩ else ⟨0, 0⟩
def redE (n d : Nat) : Int :=
  if n = 0 then 0 else if n / Nat.gcd n d ≤ 1152921504606846976 ∧ d / Nat.gcd n d ≤ 1152921504606846976 then 0 else 4
set_option maxHeartbeats 16000000 in
theorem f_red (neg : Bool) (num den : Nat) (ha : num < 170141183460469231731687303715884105728) (hb : den < 170141183460469231731687303715884105728) : Trip Try.prog 57 [.bool neg, .agg [.int .u64 (wh (num)), .int .u64 (wl (num))], .agg [.int .u64 (wh (den)), .int .u64 (wl (den))]] ⟨[], [], 0⟩ (Z := Unit) (fun _ => True) (fun _ => .tup [.agg [.int .i64 (redF neg num den).num, .int .i64 (redF neg num den).den], .int .i64 (redE num den)]) (fun _ => ⟨[], [], 0⟩) := by
  by_cases hn : num = 0
  · have E : redF neg num den = ⟨0, 1⟩ := if_pos hn
    have E2 : redE num den = 0 := if_pos hn
    rw [E, E2]
    have hw : wh num = 0 ∧ wl num = 0 := (w_zero (by omega)).2 hn
    refine trip_by (rs := [_, _]) 400 lay_ok Try.func57 rfl (by kernel_rfl) Try.ntmps57 Try.results57 rfl rfl ?_
    repeat' (first | (((with_reducible refine g_id ?_); (conv => arg 3; whnf)); first | (with_reducible refine g_cond lay_ok 400 ?_ ?_ ?_) | (with_reducible refine g_fin ?_ ?_) | (refine g_ev lay_ok 400 ?_ (e_eqw rfl rfl rfl) rfl rfl rfl ?_)) | (with_reducible exact o_nil) | ((with_reducible refine o_id ?_); (conv => arg 1; whnf); first | (with_reducible exact o_nil) | fail) | (intro h; ((try simp only [Int.toNat_natCast] at h); repeat (first | replace h := of_decide_eq_true h | replace h := of_decide_eq_false h | fail)); (try (first | contradiction | fail))) | fail)
    all_goals (((with_reducible refine e_id ?_); (conv => whnf)); refine ⟨(), trivial, ?_⟩; ((with_reducible refine s_id ?_); (conv => arg 1; whnf); (with_reducible refine s_some ?_); repeat' (first | ((with_reducible refine o_id ?_); (conv => arg 1; whnf); first | (with_reducible exact o_nil) | (with_reducible refine o_cons ?_ ?_)) | rfl | fail)))
  · have hw : ¬ (wh num = 0 ∧ wl num = 0) := fun e => hn ((w_zero (by omega)).1 e)
    have hg : 0 < Nat.gcd num den := Nat.gcd_pos_of_pos_left _ (by omega)
    have hg2 : Nat.gcd num den ≤ num := Nat.gcd_le_left _ (by omega)
    have q1 := Nat.div_le_self num (Nat.gcd num den)
    have q2 := Nat.div_le_self den (Nat.gcd num den)
    have u1 := wl_bd (num / Nat.gcd num den)
    have u2 := wl_bd (den / Nat.gcd num den)
    by_cases hs : num / Nat.gcd num den ≤ 1152921504606846976 ∧ den / Nat.gcd num den ≤ 1152921504606846976
    · obtain ⟨s1, s2⟩ := hs
      obtain ⟨w1, w2⟩ := w_small s1
      obtain ⟨w3, w4⟩ := w_small s2
      have E2 : redE num den = 0 := by unfold redE; rw [if_neg hn, if_pos ⟨s1, s2⟩]
      rw [E2]
      cases neg
      · have E : redF false num den = ⟨((num / Nat.gcd num den : Nat) : Int), ((den / Nat.gcd num den : Nat) : Int)⟩ := by unfold redF; rw [if_neg hn, if_pos ⟨s1, s2⟩]; rfl
        rw [E]
        refine trip_by (rs := [_, _]) 400 lay_ok Try.func57 rfl (by kernel_rfl) Try.ntmps57 Try.results57 rfl rfl ?_
        repeat' (first | (((with_reducible refine g_id ?_); (conv => arg 3; whnf)); first | (with_reducible refine g_split lay_ok 400 ?_ ?_ ?_) | (with_reducible refine g_cond lay_ok 400 ?_ ?_ ?_) | (with_reducible refine g_fin ?_ ?_) | (refine g_call lay_ok 400 ?_ ?_ ?_ (f_gcd ?_ ?_ ?_ ?_) rfl) | (refine g_call lay_ok 400 ?_ ?_ ?_ (f_div ?_ ?_ ?_ ?_ ?_) rfl) | (refine g_ev lay_ok 400 ?_ (e_eqw rfl rfl rfl) rfl rfl rfl ?_)) | (with_reducible exact o_nil) | ((with_reducible refine o_id ?_); (conv => arg 1; whnf); first | (with_reducible exact o_nil) | (with_reducible refine o_cons ?_ ?_)) | (intro h; ((try simp only [Int.toNat_natCast] at h); repeat (first | replace h := of_decide_eq_true h | replace h := of_decide_eq_false h | fail)); (try (first | contradiction | (exfalso; omega) | fail))) | omega | rfl | fail)
        all_goals (((with_reducible refine e_id ?_); (conv => whnf)); refine ⟨(), trivial, ?_⟩; ((with_reducible refine s_id ?_); (conv => arg 1; whnf); (with_reducible refine s_some ?_); repeat' (first | ((with_reducible refine o_id ?_); (conv => arg 1; whnf); first | (with_reducible exact o_nil) | (with_reducible refine o_cons ?_ ?_)) | rfl | (simp only [List.length_append, List.length_cons, List.length_nil]; omega) | fail)))
      · have E : redF true num den = ⟨-((num / Nat.gcd num den : Nat) : Int), ((den / Nat.gcd num den : Nat) : Int)⟩ := by unfold redF; rw [if_neg hn, if_pos ⟨s1, s2⟩]; rfl
        rw [E]
        refine trip_by (rs := [_, _]) 400 lay_ok Try.func57 rfl (by kernel_rfl) Try.ntmps57 Try.results57 rfl rfl ?_
        repeat' (first | (((with_reducible refine g_id ?_); (conv => arg 3; whnf)); first | (with_reducible refine g_split lay_ok 400 ?_ ?_ ?_) | (with_reducible refine g_cond lay_ok 400 ?_ ?_ ?_) | (with_reducible refine g_fin ?_ ?_) | (refine g_call lay_ok 400 ?_ ?_ ?_ (f_gcd ?_ ?_ ?_ ?_) rfl) | (refine g_call lay_ok 400 ?_ ?_ ?_ (f_div ?_ ?_ ?_ ?_ ?_) rfl) | (refine g_ev lay_ok 400 ?_ (e_eqw rfl rfl rfl) rfl rfl rfl ?_)) | (with_reducible exact o_nil) | ((with_reducible refine o_id ?_); (conv => arg 1; whnf); first | (with_reducible exact o_nil) | (with_reducible refine o_cons ?_ ?_)) | (intro h; ((try simp only [Int.toNat_natCast] at h); repeat (first | replace h := of_decide_eq_true h | replace h := of_decide_eq_false h | fail)); (try (first | contradiction | (exfalso; omega) | fail))) | omega | rfl | fail)
        all_goals (((with_reducible refine e_id ?_); (conv => whnf)); refine ⟨(), trivial, ?_⟩; ((with_reducible refine s_id ?_); (conv => arg 1; whnf); (with_reducible refine s_some ?_); repeat' (first | ((with_reducible refine o_id ?_); (conv => arg 1; whnf); first | (with_reducible exact o_nil) | (with_reducible refine o_cons ?_ ?_)) | rfl | (simp only [List.length_append, List.length_cons, List.length_nil]; omega) | fail)))
    · have E2 : redE num den = 4 := by unfold redE; rw [if_neg hn, if_neg hs]
      have E : redF neg num den = ⟨0, 0⟩ := by unfold redF; rw [if_neg hn, if_neg hs]
      rw [E, E2]
      have hB : 0 < wh (num / Nat.gcd num den) ∨ 0 < wh (den / Nat.gcd num den) ∨ 1152921504606846976 < wl (num / Nat.gcd num den) ∨ 1152921504606846976 < wl (den / Nat.gcd num den) := by
        by_cases c : num / Nat.gcd num den ≤ 1152921504606846976
        · have := w_big (n := den / Nat.gcd num den) (fun e => hs ⟨c, e⟩) (by omega); omega
        · have := w_big c (by omega); omega
      refine trip_by (rs := [_, _]) 400 lay_ok Try.func57 rfl (by kernel_rfl) Try.ntmps57 Try.results57 rfl rfl ?_
      repeat' (first | (((with_reducible refine g_id ?_); (conv => arg 3; whnf)); first | (with_reducible refine g_split lay_ok 400 ?_ ?_ ?_) | (with_reducible refine g_cond lay_ok 400 ?_ ?_ ?_) | (with_reducible refine g_fin ?_ ?_) | (refine g_call lay_ok 400 ?_ ?_ ?_ (f_gcd ?_ ?_ ?_ ?_) rfl) | (refine g_call lay_ok 400 ?_ ?_ ?_ (f_div ?_ ?_ ?_ ?_ ?_) rfl) | (refine g_ev lay_ok 400 ?_ (e_eqw rfl rfl rfl) rfl rfl rfl ?_)) | (with_reducible exact o_nil) | ((with_reducible refine o_id ?_); (conv => arg 1; whnf); first | (with_reducible exact o_nil) | (with_reducible refine o_cons ?_ ?_)) | (intro h; ((try simp only [Int.toNat_natCast] at h); repeat (first | replace h := of_decide_eq_true h | replace h := of_decide_eq_false h | fail)); (try (first | contradiction | (exfalso; omega) | fail))) | omega | rfl | fail)
      all_goals (((with_reducible refine e_id ?_); (conv => whnf)); refine ⟨(), trivial, ?_⟩; ((with_reducible refine s_id ?_); (conv => arg 1; whnf); (with_reducible refine s_some ?_); repeat' (first | ((with_reducible refine o_id ?_); (conv => arg 1; whnf); first | (with_reducible exact o_nil) | (with_reducible refine o_cons ?_ ?_)) | rfl | fail)))
end Go.Proofs.Ytkageldgmkajbaa
