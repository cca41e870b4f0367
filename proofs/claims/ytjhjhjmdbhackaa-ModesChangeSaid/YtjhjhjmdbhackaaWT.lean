/- ModesApart. -/
import Derived.Test.YtjhjhjmdbhackaaWB
import Derived.Test.YtjhjhjmdbhackaaWS
namespace Go.Proofs.Ytjhjhjmdbhackaa
set_option linter.unusedVariables false
set_option linter.unusedSimpArgs false
open Go.RowKit
attribute [local irreducible] hitH beforeJ badH badJ mostI timesI blockJ demJ leastJ leastF MadeJ
def r0 : Release := ⟨0, 0, []⟩
def r4 : Release := ⟨0, 4, []⟩
def r5 : Release := ⟨0, 5, []⟩
theorem off_ex : offJ exJ exA = (5, 0) := by kernel_rfl
theorem rel_ex1 : relJ exJ [r0, r4] 0 100 = 39 := by kernel_rfl
theorem rel_ex2 : relJ exJ [r0, r5] 0 100 = 0 := by kernel_rfl
theorem ex_hp : ∀ u : Nat, u < exJ.length → (0 ≤ (gt (c := .job) exJ u).pd ∧ (gt (c := .job) exJ u).pd ≤ 16777216) ∧ 0 ≤ (gt (c := .job) exJ u).ji ∧ (gt (c := .job) exJ u).ji ≤ 16777216
  | 0, _ => ⟨⟨by show (0 : Int) ≤ 5; omega, by show (5 : Int) ≤ 16777216; omega⟩, by show (0 : Int) ≤ 0; omega, by show (0 : Int) ≤ 16777216; omega⟩
  | 1, _ => ⟨⟨by show (0 : Int) ≤ 20; omega, by show (20 : Int) ≤ 16777216; omega⟩, by show (0 : Int) ≤ 0; omega, by show (0 : Int) ≤ 16777216; omega⟩
  | n + 2, h => absurd h (by show ¬ n + 2 < 2; omega)
theorem all_good {l : List Job} {x : Par} (h : (allJ l x).2 = 0) : goodB l x = true ∧ (∀ k : Nat, k < l.length → (leastJ l x (k : Int)).isSome = true) ∧ (allJ l x).1 = ansTo l x l.length := by
  unfold allJ at h ⊢
  by_cases hg : goodB l x = true
  · rw [if_pos hg] at h ⊢
    by_cases ha : ((List.range l.length).all fun k => (leastJ l x (k : Int)).isSome) = true
    · rw [if_pos ha]
      exact ⟨hg, fun k hk => List.all_eq_true.1 ha k (List.mem_range.2 hk), rfl⟩
    · rw [if_neg ha] at h; cases h
  · rw [if_neg hg] at h; cases h
theorem good_jb {l : List Job} {x : Par} (h : goodB l x = true) : jobsB l = true := by
  unfold goodB at h
  simp only [Bool.and_eq_true] at h
  exact h.1.1
theorem ans_pos {l : List Job} {x : Par} (hg : goodB l x = true) (ha : ∀ k : Nat, k < l.length → (leastJ l x (k : Int)).isSome = true) : ∀ j, j < l.length → 1 ≤ (gt (c := .answer) (ansTo l x l.length) j).re := by
  intro j hj
  have := ansTo_get (l := l) (x := x) hj
  rw [gt_eq (c := .answer) this]
  obtain ⟨r, hr⟩ := Option.isSome_iff_exists.1 (ha j hj)
  obtain ⟨hx, hjo⟩ := rok_of hg
  have := (leastJ_some hx hjo hr).1
  unfold ansAt
  rw [hr]
  exact this
theorem mx_ub {ys : List Answer} : ∀ n j, j < n → (gt (c := .answer) ys j).re ≤ mxTo ys n
  | 0, j, h => absurd h (Nat.not_lt_zero _)
  | n + 1, j, h => by
    rw [mx_succ]
    unfold imax
    rcases Nat.lt_succ_iff_lt_or_eq.1 h with h1 | h1
    · have := mx_ub (ys := ys) n j h1
      split <;> omega
    · subst h1
      split <;> omega
/-- One of them is it. -/
def hitTo (m : Int) (ys : List Answer) : Nat → Bool
  | 0 => false
  | n + 1 => hitTo m ys n || ((gt (c := .answer) ys n).re == m)
theorem hit_of {m : Int} {ys : List Answer} : ∀ {n j : Nat}, j < n → (gt (c := .answer) ys j).re = m → hitTo m ys n = true
  | 0, j, h, _ => absurd h (Nat.not_lt_zero _)
  | n + 1, j, h, e => by
    unfold hitTo
    rcases Nat.lt_succ_iff_lt_or_eq.1 h with h1 | h1
    · rw [hit_of h1 e, Bool.true_or]
    · subst h1; rw [e, beq_self_eq_true, Bool.or_true]
theorem mx_hit {ys : List Answer} : ∀ n, 0 < n → (∀ j, j < n → 1 ≤ (gt (c := .answer) ys j).re) → ∃ j, j < n ∧ (gt (c := .answer) ys j).re = mxTo ys n
  | 0, h, _ => absurd h (Nat.not_lt_zero _)
  | 1, _, hp => ⟨0, Nat.zero_lt_one, by
      have h0 := hp 0 Nat.zero_lt_one
      have e : mxTo ys 1 = imax 0 (gt (c := .answer) ys 0).re := rfl
      rw [e]
      unfold imax
      rw [if_pos (by omega)]⟩
  | n + 2, _, hp => by
    obtain ⟨j, h1, h2⟩ := mx_hit (n + 1) (Nat.succ_pos _) fun j hj => hp j (by omega)
    rw [mx_succ (n := n + 1)]
    unfold imax
    split
    · exact ⟨n + 1, Nat.lt_succ_self _, rfl⟩
    · exact ⟨j, by omega, h2⟩
theorem feas_two {xs ys : List Job} {x : Par} (hx : 0 < xs.length) (h : (allJ xs x).2 = 0) (h2 : (allJ ys x).2 = 0) : ∃ m, feasJ xs ys x = (m, 0) ∧ (∀ j, j < (allJ xs x).1.length → (gt (c := .answer) (allJ xs x).1 j).re ≤ m) ∧ hitTo m (allJ xs x).1 (allJ xs x).1.length = true := by
  obtain ⟨hg, ha, e⟩ := all_good h
  have hl : (allJ xs x).1.length = xs.length := by rw [e, ansTo_len]
  refine ⟨mxTo (allJ xs x).1 (allJ xs x).1.length, ?_, fun j hj => mx_ub _ _ hj, ?_⟩
  · rw [feas_c h h2, off_ok (good_jb hg) hl]
  · obtain ⟨j, h1, h3⟩ := mx_hit (ys := (allJ xs x).1) (allJ xs x).1.length (by omega) fun j hj => by
      have := ans_pos hg ha j (by omega)
      rw [e]; exact this
    exact hit_of h1 h3
theorem c_off_ex : Trip Try.prog 50 [.sl ⟨0, []⟩, .sl ⟨1, []⟩] ⟨[], [(0, .list .tmp .job [⟨5, 5, 0, 2, 2, [], 0⟩, ⟨20, 20, 0, 1, 3, [], 0⟩]), (1, .list .tmp .answer [⟨0, 2⟩, ⟨0, 5⟩])], 2⟩ (Z := Unit) (fun _ => True) (fun _ => .tup [.int .i64 5, .int .i64 0]) (fun _ => ⟨[], [(0, .list .tmp .job [⟨5, 5, 0, 2, 2, [], 0⟩, ⟨20, 20, 0, 1, 3, [], 0⟩]), (1, .list .tmp .answer [⟨0, 2⟩, ⟨0, 5⟩])], 2⟩) := by
  have h := c_off exJ exA ex_small (by decide)
  rw [off_ex] at h
  exact h
attribute [local irreducible] relJ
theorem rel_e1 : relJ [⟨5, 5, 0, 2, 2, [], 0⟩, ⟨20, 20, 0, 1, 3, [], 0⟩] [⟨0, 0, []⟩, ⟨0, 4, []⟩] 0 100 = 39 := rel_ex1
theorem rel_e2 : relJ [⟨5, 5, 0, 2, 2, [], 0⟩, ⟨20, 20, 0, 1, 3, [], 0⟩] [⟨0, 0, []⟩, ⟨0, 5, []⟩] 0 100 = 0 := rel_ex2
theorem c_rel_exv (v : Int) : Trip Try.prog 20 [.sl ⟨0, []⟩, .sl ⟨1, []⟩, .int .i64 0, .int .i64 100] ⟨[], [(0, .list .tmp .job [⟨5, 5, 0, 2, 2, [], 0⟩, ⟨20, 20, 0, 1, 3, [], 0⟩]), (1, .list .tmp .release [⟨0, 0, []⟩, ⟨0, v, []⟩])], 2⟩ (Z := Unit) (fun _ => True) (fun _ => .int .i64 (relJ [⟨5, 5, 0, 2, 2, [], 0⟩, ⟨20, 20, 0, 1, 3, [], 0⟩] [⟨0, 0, []⟩, ⟨0, v, []⟩] 0 100)) (fun _ => ⟨[], [(0, .list .tmp .job [⟨5, 5, 0, 2, 2, [], 0⟩, ⟨20, 20, 0, 1, 3, [], 0⟩]), (1, .list .tmp .release [⟨0, 0, []⟩, ⟨0, v, []⟩])], 2⟩) := c_rel exJ [⟨0, 0, []⟩, ⟨0, v, []⟩] 0 100 (by decide) (by show 2 ≤ 1000; omega) ex_hp
set_option maxHeartbeats 2000000 in
theorem c_awake42  : Trip Try.prog 21 [] ⟨[], [], 0⟩ (Z := Unit) (fun _ => True) (fun _ => .bool true) (fun _ => ⟨[], [], 0⟩) := by
  have E1 := rel_e1
  have E2 := rel_e2
  refine trip_by (rs := [_]) 400 lay_ok Try.func21 rfl (by kernel_rfl) Try.ntmps21 Try.results21 rfl rfl ?_
  repeat' (first | (((with_reducible refine g_id ?_); (conv => arg 3; whnf)); first | (with_reducible refine g_split lay_ok 400 ?_ ?_ ?_) | (with_reducible refine g_cond lay_ok 400 ?_ ?_ ?_) | (with_reducible refine g_out lay_ok 400 ?_ ?_) | (with_reducible refine g_fin ?_ ?_) | (refine g_call lay_ok 400 ?_ ?_ ?_ (c_off_ex) rfl) | (refine g_call lay_ok 400 ?_ ?_ ?_ (c_rel_exv ?_) rfl)) | (with_reducible refine q_leave lay_ok 400 ?_) | (with_reducible refine q_ret lay_ok 400 ?_) | (with_reducible exact o_nil) | (with_reducible refine o_cons ?_ ?_) | ((with_reducible refine o_id ?_); (conv => arg 1; whnf); first | (with_reducible exact o_nil) | (with_reducible refine o_cons ?_ ?_)) | (intro h; ((try simp only [Int.toNat_natCast] at h); repeat (first | replace h := of_decide_eq_true h | replace h := of_decide_eq_false h | replace h := not_t h | replace h := not_f h | replace h := eq_of_beq h)); (try (first | contradiction | (exfalso; omega) | exact Bool.noConfusion (h.symm.trans (by assumption) : true = false) | exact Bool.noConfusion (h.symm.trans (by assumption) : false = true) | exact absurd rfl h | exact absurd (by assumption) h | exact absurd h (by assumption)))) | rfl | omega | assumption | (simp only [List.length_append, List.length_cons, List.length_nil]; omega))
  all_goals (((with_reducible refine e_id ?_); (conv => whnf)); refine ⟨(), trivial, ?_⟩; ((with_reducible refine s_id ?_); (conv => arg 1; whnf); (with_reducible refine s_some ?_); repeat' (first | (with_reducible exact o_nil) | (with_reducible refine o_cons ?_ ?_) | ((with_reducible refine o_id ?_); (conv => arg 1; whnf); first | (with_reducible exact o_nil) | (with_reducible refine o_cons ?_ ?_)) | rfl | omega | assumption | (simp only [List.length_append, List.length_cons, List.length_nil]; omega) | (rw [E1]; rfl) | (rw [E2]; rfl) | (rw [decide_eq_true (by assumption)]))))
theorem hit_t {m : Int} {A : List Answer} {n : Nat} (h : hitTo m A n = true) : hitTo m A (n + 1) = true := by
  show (hitTo m A n || ((gt (c := .answer) A n).re == m)) = true
  rw [h, Bool.true_or]
theorem hit_f {m : Int} {A : List Answer} {n : Nat} (h : hitTo m A n = false) : hitTo m A (n + 1) = decide ((gt (c := .answer) A n).re = m) := by
  show (hitTo m A n || ((gt (c := .answer) A n).re == m)) = _
  rw [h, Bool.false_or]; rfl
attribute [local irreducible] hitTo modI allJ feasJ mxTo offJ jobsB goodB ansTo
set_option maxHeartbeats 8000000 in
theorem l_apart (is : List Int) (hl : is.length ≤ maxLen) : Trip Try.prog 14 [.sl ⟨0, []⟩] ⟨[], [(0, .list .tmp .int is)], 1⟩ (Z := Unit) (fun _ => True) (fun _ => .bool true) (fun _ => ⟨[], [], 1⟩) := by
  refine trip_by (rs := [_]) 400 lay_ok Try.func14 rfl (by kernel_rfl) Try.ntmps14 Try.results14 rfl rfl ?_
  repeat' (first | (((with_reducible refine g_id ?_); (conv => arg 3; whnf)); first | (with_reducible refine g_split lay_ok 400 ?_ ?_ ?_) | (with_reducible refine g_cond lay_ok 400 ?_ ?_ ?_) | (with_reducible refine g_out lay_ok 400 ?_ ?_) | (with_reducible refine g_fin ?_ ?_) | (refine g_call lay_ok 400 ?_ ?_ ?_ (c_new ?_) rfl) | (refine g_call lay_ok 400 ?_ ?_ ?_ (c_next ?_ ?_ ?_ ?_ ?_) rfl) | (refine g_call lay_ok 400 ?_ ?_ ?_ (c_mjobs ?_ ?_ ?_ ?_ ?_) rfl) | (refine g_call lay_ok 400 ?_ ?_ ?_ (c_rates ?_ ?_) rfl)) | (with_reducible refine q_leave lay_ok 400 ?_) | (with_reducible refine q_ret lay_ok 400 ?_) | (with_reducible exact o_nil) | (with_reducible refine o_cons ?_ ?_) | ((with_reducible refine o_id ?_); (conv => arg 1; whnf); first | (with_reducible exact o_nil) | (with_reducible refine o_cons ?_ ?_)) | (intro h; ((try simp only [Int.toNat_natCast] at h); repeat (first | replace h := of_decide_eq_true h | replace h := of_decide_eq_false h | replace h := not_t h | replace h := not_f h | replace h := eq_of_beq h)); (try (first | contradiction | (exfalso; omega) | exact Bool.noConfusion (h.symm.trans (by assumption) : true = false) | exact Bool.noConfusion (h.symm.trans (by assumption) : false = true) | exact absurd rfl h | exact absurd (by assumption) h | exact absurd h (by assumption)))) | rfl | omega | assumption | (simp only [List.length_append, List.length_cons, List.length_nil]; omega))
  rename_i u0 v0 c hc xs hxs d hd ys hys r
  have hx4 : (xs.length : Int) ≤ 4 := by omega
  have hy4 : (ys.length : Int) ≤ 4 := by omega
  have hx0 : 0 < xs.length := by omega
  have hs := made_small hxs.1 hx4
  have hs2 := made_small hys.1 hy4
  have RA := fun (zs : List Job) (h : Small zs) => r_all zs ⟨r.d, r.de, r.p, r.pa, r.wi, r.er, 9, 7⟩ h
  have CF := c_feas xs ys ⟨r.d, r.de, r.p, r.pa, r.wi, r.er, 9, 7⟩ hs hs2
  by_cases e1 : (allJ xs ⟨r.d, r.de, r.p, r.pa, r.wi, r.er, 9, 7⟩).2 = 0
  · by_cases e2 : (allJ ys ⟨r.d, r.de, r.p, r.pa, r.wi, r.er, 9, 7⟩).2 = 0
    · obtain ⟨m, hf, hub, hht⟩ := feas_two hx0 e1 e2
      rw [hf] at CF
      have hA := all_le xs ⟨r.d, r.de, r.p, r.pa, r.wi, r.er, 9, 7⟩
      repeat' (first | (((with_reducible refine g_id ?_); (conv => arg 3; whnf)); first | (with_reducible refine g_split lay_ok 400 ?_ ?_ ?_) | (with_reducible refine g_cond lay_ok 400 ?_ ?_ ?_) | (with_reducible refine g_out lay_ok 400 ?_ ?_) | (with_reducible refine g_fin ?_ ?_) | (refine g_call lay_ok 400 ?_ ?_ ?_ (CF) rfl) | (refine g_call lay_ok 400 ?_ ?_ ?_ (RA ?_ ?_) rfl) | (refine g_call lay_ok 400 ?_ ?_ ?_ (c_awake42) rfl)) | (with_reducible refine q_leave lay_ok 400 ?_) | (with_reducible refine q_ret lay_ok 400 ?_) | (with_reducible exact o_nil) | (with_reducible refine o_cons ?_ ?_) | ((with_reducible refine o_id ?_); (conv => arg 1; whnf); first | (with_reducible exact o_nil) | (with_reducible refine o_cons ?_ ?_)) | (intro h; ((try simp only [Int.toNat_natCast] at h); repeat (first | replace h := of_decide_eq_true h | replace h := of_decide_eq_false h | replace h := not_t h | replace h := not_f h | replace h := eq_of_beq h)); (try (first | contradiction | (exfalso; omega) | exact Bool.noConfusion (h.symm.trans (by assumption) : true = false) | exact Bool.noConfusion (h.symm.trans (by assumption) : false = true) | exact absurd rfl h | exact absurd (by assumption) h | exact absurd h (by assumption) | (simp only [Int.toNat_natCast] at h; exfalso; omega)))) | rfl | omega | assumption | (simp only [List.length_append, List.length_cons, List.length_nil]; omega) | (simp only [Int.toNat_natCast]; omega))
      generalize hAA : (allJ xs ⟨r.d, r.de, r.p, r.pa, r.wi, r.er, 9, 7⟩).1 = A at *
      refine g_loop lay_ok 400 (Z := Nat) (fun n => n ≤ A.length) (fun n => ⟨[(7, .int .i64 m), (8, .int .i64 0), (13, .bool (hitTo m A n)), (64, .sl ⟨1, []⟩), (65, .int .i64 (A.length : Int)), (66, .int .i64 (n : Int))], [(0, .list .tmp .int is), (1, .list .own .answer A)], 2⟩) (fun n => A.length - n) ?_ ⟨0, Nat.zero_le _, ?_⟩ (fun n hn => ?_)
      · repeat' (first | (with_reducible exact o_nil) | (with_reducible refine o_cons ?_ ?_) | ((with_reducible refine o_id ?_); (conv => arg 1; whnf); first | (with_reducible exact o_nil) | (with_reducible refine o_cons ?_ ?_)) | rfl | omega | assumption | (simp only [List.length_append, List.length_cons, List.length_nil]; omega) | (simp only [Int.toNat_natCast]; omega))
      · ((with_reducible refine s_id ?_); (conv => arg 1; whnf); (with_reducible refine s_some ?_); repeat' (first | (with_reducible exact o_nil) | (with_reducible refine o_cons ?_ ?_) | ((with_reducible refine o_id ?_); (conv => arg 1; whnf); first | (with_reducible exact o_nil) | (with_reducible refine o_cons ?_ ?_)) | rfl | omega | assumption | (simp only [List.length_append, List.length_cons, List.length_nil]; omega) | (simp only [Int.toNat_natCast]; omega) | (with_unfolding_all rfl)))
      by_cases hlt : n < A.length
      · have hubn := hub n hlt
        repeat' (first | (((with_reducible refine g_id ?_); (conv => arg 3; whnf)); first | (with_reducible refine g_split lay_ok 400 ?_ ?_ ?_) | (with_reducible refine g_cond lay_ok 400 ?_ ?_ ?_) | (with_reducible refine g_out lay_ok 400 ?_ ?_) | (with_reducible refine g_fin ?_ ?_) | (refine g_call lay_ok 400 ?_ ?_ ?_ (CF) rfl) | (refine g_call lay_ok 400 ?_ ?_ ?_ (RA ?_ ?_) rfl) | (refine g_call lay_ok 400 ?_ ?_ ?_ (c_awake42) rfl)) | (with_reducible refine q_leave lay_ok 400 ?_) | (with_reducible refine q_ret lay_ok 400 ?_) | (with_reducible exact o_nil) | (with_reducible refine o_cons ?_ ?_) | ((with_reducible refine o_id ?_); (conv => arg 1; whnf); first | (with_reducible exact o_nil) | (with_reducible refine o_cons ?_ ?_)) | (intro h; ((try simp only [Int.toNat_natCast] at h); repeat (first | replace h := of_decide_eq_true h | replace h := of_decide_eq_false h | replace h := not_t h | replace h := not_f h | replace h := eq_of_beq h)); (try (first | contradiction | (exfalso; omega) | exact Bool.noConfusion (h.symm.trans (by assumption) : true = false) | exact Bool.noConfusion (h.symm.trans (by assumption) : false = true) | exact absurd rfl h | exact absurd (by assumption) h | exact absurd h (by assumption) | (simp only [Int.toNat_natCast] at h; exfalso; omega)))) | rfl | omega | assumption | (simp only [List.length_append, List.length_cons, List.length_nil]; omega) | (simp only [Int.toNat_natCast]; omega))
        all_goals first | (refine q_round ⟨n + 1, (by omega), (by omega), ?_⟩; ((with_reducible refine s_id ?_); (conv => arg 1; whnf); (with_reducible refine s_some ?_); repeat' (first | (with_reducible exact o_nil) | (with_reducible refine o_cons ?_ ?_) | ((with_reducible refine o_id ?_); (conv => arg 1; whnf); first | (with_reducible exact o_nil) | (with_reducible refine o_cons ?_ ?_)) | rfl | omega | assumption | (simp only [List.length_append, List.length_cons, List.length_nil]; omega) | (simp only [Int.toNat_natCast]; omega) | (exact hit_t (by assumption)) | (exact hit_f (by assumption)) | (simp only [Int.toNat_natCast]; exact hit_t (by assumption)) | (simp only [Int.toNat_natCast]; exact hit_f (by assumption)) | (simp only [Int.toNat_natCast]; exact (hit_t (by assumption)).symm) | (simp only [Int.toNat_natCast]; exact (hit_f (by assumption)).symm))))
      · have e3 : n = A.length := by omega
        subst e3
        repeat' (first | (((with_reducible refine g_id ?_); (conv => arg 3; whnf)); first | (with_reducible refine g_split lay_ok 400 ?_ ?_ ?_) | (with_reducible refine g_cond lay_ok 400 ?_ ?_ ?_) | (with_reducible refine g_out lay_ok 400 ?_ ?_) | (with_reducible refine g_fin ?_ ?_) | (refine g_call lay_ok 400 ?_ ?_ ?_ (CF) rfl) | (refine g_call lay_ok 400 ?_ ?_ ?_ (RA ?_ ?_) rfl) | (refine g_call lay_ok 400 ?_ ?_ ?_ (c_awake42) rfl)) | (with_reducible refine q_leave lay_ok 400 ?_) | (with_reducible refine q_ret lay_ok 400 ?_) | (with_reducible exact o_nil) | (with_reducible refine o_cons ?_ ?_) | ((with_reducible refine o_id ?_); (conv => arg 1; whnf); first | (with_reducible exact o_nil) | (with_reducible refine o_cons ?_ ?_)) | (intro h; ((try simp only [Int.toNat_natCast] at h); repeat (first | replace h := of_decide_eq_true h | replace h := of_decide_eq_false h | replace h := not_t h | replace h := not_f h | replace h := eq_of_beq h)); (try (first | contradiction | (exfalso; omega) | exact Bool.noConfusion (h.symm.trans (by assumption) : true = false) | exact Bool.noConfusion (h.symm.trans (by assumption) : false = true) | exact absurd rfl h | exact absurd (by assumption) h | exact absurd h (by assumption) | (simp only [Int.toNat_natCast] at h; exfalso; omega)))) | rfl | omega | assumption | (simp only [List.length_append, List.length_cons, List.length_nil]; omega) | (simp only [Int.toNat_natCast]; omega))
        all_goals (((with_reducible refine e_id ?_); (conv => whnf)); refine ⟨(), trivial, ?_⟩; ((with_reducible refine s_id ?_); (conv => arg 1; whnf); (with_reducible refine s_some ?_); repeat' (first | (with_reducible exact o_nil) | (with_reducible refine o_cons ?_ ?_) | ((with_reducible refine o_id ?_); (conv => arg 1; whnf); first | (with_reducible exact o_nil) | (with_reducible refine o_cons ?_ ?_)) | rfl | omega | assumption | (simp only [List.length_append, List.length_cons, List.length_nil]; omega) | (rw [hht]; rfl) | exact hht)))
    · rw [feas_b e1 e2] at CF
      repeat' (first | (((with_reducible refine g_id ?_); (conv => arg 3; whnf)); first | (with_reducible refine g_split lay_ok 400 ?_ ?_ ?_) | (with_reducible refine g_cond lay_ok 400 ?_ ?_ ?_) | (with_reducible refine g_out lay_ok 400 ?_ ?_) | (with_reducible refine g_fin ?_ ?_) | (refine g_call lay_ok 400 ?_ ?_ ?_ (CF) rfl) | (refine g_call lay_ok 400 ?_ ?_ ?_ (RA ?_ ?_) rfl) | (refine g_call lay_ok 400 ?_ ?_ ?_ (c_awake42) rfl)) | (with_reducible refine q_leave lay_ok 400 ?_) | (with_reducible refine q_ret lay_ok 400 ?_) | (with_reducible exact o_nil) | (with_reducible refine o_cons ?_ ?_) | ((with_reducible refine o_id ?_); (conv => arg 1; whnf); first | (with_reducible exact o_nil) | (with_reducible refine o_cons ?_ ?_)) | (intro h; ((try simp only [Int.toNat_natCast] at h); repeat (first | replace h := of_decide_eq_true h | replace h := of_decide_eq_false h | replace h := not_t h | replace h := not_f h | replace h := eq_of_beq h)); (try (first | contradiction | (exfalso; omega) | exact Bool.noConfusion (h.symm.trans (by assumption) : true = false) | exact Bool.noConfusion (h.symm.trans (by assumption) : false = true) | exact absurd rfl h | exact absurd (by assumption) h | exact absurd h (by assumption) | (simp only [Int.toNat_natCast] at h; exfalso; omega)))) | rfl | omega | assumption | (simp only [List.length_append, List.length_cons, List.length_nil]; omega) | (simp only [Int.toNat_natCast]; omega))
      all_goals (((with_reducible refine e_id ?_); (conv => whnf)); refine ⟨(), trivial, ?_⟩; ((with_reducible refine s_id ?_); (conv => arg 1; whnf); (with_reducible refine s_some ?_); repeat' (first | (with_reducible exact o_nil) | (with_reducible refine o_cons ?_ ?_) | ((with_reducible refine o_id ?_); (conv => arg 1; whnf); first | (with_reducible exact o_nil) | (with_reducible refine o_cons ?_ ?_)) | rfl | omega | assumption | (simp only [List.length_append, List.length_cons, List.length_nil]; omega) | (rw [decide_eq_true (by assumption)]))))
  · rw [feas_a e1] at CF
    repeat' (first | (((with_reducible refine g_id ?_); (conv => arg 3; whnf)); first | (with_reducible refine g_split lay_ok 400 ?_ ?_ ?_) | (with_reducible refine g_cond lay_ok 400 ?_ ?_ ?_) | (with_reducible refine g_out lay_ok 400 ?_ ?_) | (with_reducible refine g_fin ?_ ?_) | (refine g_call lay_ok 400 ?_ ?_ ?_ (CF) rfl) | (refine g_call lay_ok 400 ?_ ?_ ?_ (RA ?_ ?_) rfl) | (refine g_call lay_ok 400 ?_ ?_ ?_ (c_awake42) rfl)) | (with_reducible refine q_leave lay_ok 400 ?_) | (with_reducible refine q_ret lay_ok 400 ?_) | (with_reducible exact o_nil) | (with_reducible refine o_cons ?_ ?_) | ((with_reducible refine o_id ?_); (conv => arg 1; whnf); first | (with_reducible exact o_nil) | (with_reducible refine o_cons ?_ ?_)) | (intro h; ((try simp only [Int.toNat_natCast] at h); repeat (first | replace h := of_decide_eq_true h | replace h := of_decide_eq_false h | replace h := not_t h | replace h := not_f h | replace h := eq_of_beq h)); (try (first | contradiction | (exfalso; omega) | exact Bool.noConfusion (h.symm.trans (by assumption) : true = false) | exact Bool.noConfusion (h.symm.trans (by assumption) : false = true) | exact absurd rfl h | exact absurd (by assumption) h | exact absurd h (by assumption) | (simp only [Int.toNat_natCast] at h; exfalso; omega)))) | rfl | omega | assumption | (simp only [List.length_append, List.length_cons, List.length_nil]; omega) | (simp only [Int.toNat_natCast]; omega))
    all_goals (((with_reducible refine e_id ?_); (conv => whnf)); refine ⟨(), trivial, ?_⟩; ((with_reducible refine s_id ?_); (conv => arg 1; whnf); (with_reducible refine s_some ?_); repeat' (first | (with_reducible exact o_nil) | (with_reducible refine o_cons ?_ ?_) | ((with_reducible refine o_id ?_); (conv => arg 1; whnf); first | (with_reducible exact o_nil) | (with_reducible refine o_cons ?_ ?_)) | rfl | omega | assumption | (simp only [List.length_append, List.length_cons, List.length_nil]; omega) | (rw [decide_eq_true (by assumption)]))))
end Go.Proofs.Ytjhjhjmdbhackaa
