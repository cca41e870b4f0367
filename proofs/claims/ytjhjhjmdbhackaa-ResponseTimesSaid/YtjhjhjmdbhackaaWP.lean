/- ResponseTimes: the law. -/
import Derived.Test.YtjhjhjmdbhackaaWB
import Derived.Test.YtjhjhjmdbhackaaWO
import Derived.Test.YtjhjhjmdbhackaaWL
import Derived.Test.YtjhjhjmdbhackaaS45P
namespace Go.Proofs.Ytjhjhjmdbhackaa
set_option linter.unusedVariables false
set_option linter.unusedSimpArgs false
open Go.RowKit
attribute [local irreducible] mostI timesI blockJ demJ goodB jobsB leastJ leastF ansTo allJ okJ slackF upJ raiseJ timeJ slackJ MadeJ modI
theorem all_len (l : List Job) (x : Par) : (allJ l x).1.length ≤ l.length := by
  unfold allJ
  split
  · split
    · rw [ansTo_len]; omega
    · exact Nat.zero_le _
  · exact Nat.zero_le _
theorem small_set {l : List Job} {i : Nat} {a j : Job} (h : Small l) (ha : l[i]? = some a) (hj : j.se = a.se) : Small (l.set i j) :=
  ⟨by rw [List.length_set]; exact h.n, fun k hk => by
    rcases List.mem_or_eq_of_mem_set hk with h1 | h1
    · exact h.s k h1
    · subst h1; rw [hj]; exact h.s a (List.mem_of_getElem? ha)⟩
theorem rts_rok {r : Rts} {ins miss : Int} (h : r.Ok) (h1 : 0 ≤ ins) (h2 : ins ≤ 16777216) (h3 : 0 ≤ miss) (h4 : miss ≤ 100) : Rok ⟨r.d, r.de, r.p, r.pa, r.wi, r.er, ins, miss⟩ := by
  obtain ⟨a, b, c, e, f, g, i, j, k, m⟩ := h
  constructor <;> dsimp only <;> omega
theorem same_f {b : Bool} (h : b = false) (g : b = true ↔ True) : False := by rw [g.2 trivial] at h; cases h
theorem made_jok {l : List Job} (h : MadeJ l) (hl : (l.length : Int) ≤ 4) : JobsOk l := jobsOk_of (made_jobs h hl)
set_option maxHeartbeats 8000000 in
theorem l_times (is : List Int) (i ins miss time what : Int) (hl : is.length ≤ maxLen) : Trip Try.prog 13 [.sl ⟨0, []⟩, .int .i64 i, .int .i64 ins, .int .i64 miss, .int .i64 time, .int .i64 what] ⟨[], [(0, .list .tmp .int is)], 1⟩ (Z := Unit) (fun _ => True) (fun _ => .bool true) (fun _ => ⟨[], [], 1⟩) := by
  refine trip_by (rs := [_]) 400 lay_ok Try.func13 rfl (by kernel_rfl) Try.ntmps13 Try.results13 rfl rfl ?_
  repeat' (first | (((with_reducible refine g_id ?_); (conv => arg 3; whnf)); first | (with_reducible refine g_split lay_ok 400 ?_ ?_ ?_) | (with_reducible refine g_cond lay_ok 400 ?_ ?_ ?_) | (with_reducible refine g_out lay_ok 400 ?_ ?_) | (with_reducible refine g_fin ?_ ?_) | (refine g_call lay_ok 400 ?_ ?_ ?_ (c_awake41) rfl) | (refine g_call lay_ok 400 ?_ ?_ ?_ (c_new ?_) rfl) | (refine g_call lay_ok 400 ?_ ?_ ?_ (c_next ?_ ?_ ?_ ?_ ?_) rfl) | (refine g_call lay_ok 400 ?_ ?_ ?_ (c_mod ?_ ?_ ?_ ?_) rfl) | (refine g_call lay_ok 400 ?_ ?_ ?_ (c_mjobs ?_ ?_ ?_ ?_ ?_) rfl) | (refine g_call lay_ok 400 ?_ ?_ ?_ (c_rates ?_ ?_) rfl) | (refine g_draw lay_ok mixed_ok 400 15 [0, 1, 2, 3, 4, 5, 6, 7, 8, 9, 10, 11, 12, 13, 14] rfl (by kernel_rfl) ?_ ?_)) | (((with_reducible refine d_id ?_); (conv => arg 5; whnf)); first | (with_reducible refine d_fin ?_ ?_) | (with_reducible refine d_split lay_ok 400 ?_ ?_ ?_) | (refine d_call lay_ok 400 ?_ ?_ ?_ (c_awake41) rfl rfl) | (refine d_call lay_ok 400 ?_ ?_ ?_ (c_new ?_) rfl rfl) | (refine d_call lay_ok 400 ?_ ?_ ?_ (c_next ?_ ?_ ?_ ?_ ?_) rfl rfl) | (refine d_call lay_ok 400 ?_ ?_ ?_ (c_mod ?_ ?_ ?_ ?_) rfl rfl) | (refine d_call lay_ok 400 ?_ ?_ ?_ (c_mjobs ?_ ?_ ?_ ?_ ?_) rfl rfl) | (refine d_call lay_ok 400 ?_ ?_ ?_ (c_rates ?_ ?_) rfl rfl)) | (with_reducible refine q_leave lay_ok 400 ?_) | (with_reducible refine q_ret lay_ok 400 ?_) | (with_reducible exact o_nil) | (with_reducible refine o_cons ?_ ?_) | ((with_reducible refine o_id ?_); (conv => arg 1; whnf); first | (with_reducible exact o_nil) | (with_reducible refine o_cons ?_ ?_)) | (intro h; ((try simp only [Int.toNat_natCast] at h); repeat (first | replace h := of_decide_eq_true h | replace h := of_decide_eq_false h | replace h := not_t h | replace h := not_f h | replace h := eq_of_beq h)); (try (first | contradiction | (exfalso; omega) | exact Bool.noConfusion (h.symm.trans (by assumption) : true = false) | exact Bool.noConfusion (h.symm.trans (by assumption) : false = true) | exact absurd rfl h | exact absurd (by assumption) h | exact absurd h (by assumption)))) | rfl | omega | assumption | (simp only [List.length_append, List.length_cons, List.length_nil]; omega))
  focus
    rename_i u0 v0 c hc xs hxs r hr n hn m hm u1 v1
    have hl4 : (xs.length : Int) ≤ 4 := by omega
    have h1 := made_small hxs.1 hl4
    obtain ⟨a, ha⟩ : ∃ a, xs[0]? = some a := ⟨_, gt_at (c := .job) (l := xs) (i := 0) (by omega)⟩
    have hga : gt (c := .job) xs 0 = a := gt_eq ha
    have hs := h1
    have hn3 := hs.n
    ((with_reducible refine g_id ?_); (conv => arg 3; whnf))
    refine g_loop lay_ok 400 (Z := List Job × Par × Int) (fun z => Small z.1 ∧ -1 ≤ z.2.2 ∧ z.2.2 ≤ (z.1.length : Int) + 1) (fun z => ⟨[(0, .sl ⟨0, []⟩), (1, .int .i64 i), (4, .int .i64 time), (14, .sl ⟨1, []⟩), (15, .ptr 2 0), (16, .int .i64 z.2.1.ins), (17, .int .i64 z.2.1.miss), (18, .int .i64 z.2.2)], [(0, .list .tmp .int is), (1, .list .own .job z.1), (2, .cells [.int .i64 z.2.1.d, .int .i64 z.2.1.de, .int .i64 z.2.1.p, .int .i64 z.2.1.pa, .int .i64 z.2.1.wi, .int .i64 z.2.1.er])], 3⟩) (fun z => ((z.1.length : Int) + 1 - z.2.2).toNat) ?_ ⟨(xs, ⟨r.d, r.de, r.p, r.pa, r.wi, r.er, ins, m⟩, -1), ⟨hs, by dsimp only; omega, by dsimp only; omega⟩, ?_⟩ (fun z hz => ?_)
    · repeat' (first | (with_reducible exact o_nil) | (with_reducible refine o_cons ?_ ?_) | ((with_reducible refine o_id ?_); (conv => arg 1; whnf); first | (with_reducible exact o_nil) | (with_reducible refine o_cons ?_ ?_)) | rfl | omega | assumption | (simp only [List.length_append, List.length_cons, List.length_nil]; omega))
    · ((with_reducible refine s_id ?_); (conv => arg 1; whnf); (with_reducible refine s_some ?_); repeat' (first | (with_reducible exact o_nil) | (with_reducible refine o_cons ?_ ?_) | ((with_reducible refine o_id ?_); (conv => arg 1; whnf); first | (with_reducible exact o_nil) | (with_reducible refine o_cons ?_ ?_)) | rfl | omega | assumption | (simp only [List.length_append, List.length_cons, List.length_nil]; omega) | (dsimp only [Int.toNat]; rw [hga])))
  rotate_left
  focus
    rename_i u0 v0 c hc xs hxs r hr n hn m hm u1 v1 e1
    have hl4 : (xs.length : Int) ≤ 4 := by omega
    have h1 := made_small hxs.1 hl4
    obtain ⟨a, ha⟩ : ∃ a, xs[0]? = some a := ⟨_, gt_at (c := .job) (l := xs) (i := 0) (by omega)⟩
    have hga : gt (c := .job) xs 0 = a := gt_eq ha
    have hs := h1
    have hn3 := hs.n
    ((with_reducible refine g_id ?_); (conv => arg 3; whnf))
    refine g_loop lay_ok 400 (Z := List Job × Par × Int) (fun z => Small z.1 ∧ -1 ≤ z.2.2 ∧ z.2.2 ≤ (z.1.length : Int) + 1) (fun z => ⟨[(0, .sl ⟨0, []⟩), (1, .int .i64 i), (4, .int .i64 time), (14, .sl ⟨1, []⟩), (15, .ptr 2 0), (16, .int .i64 z.2.1.ins), (17, .int .i64 z.2.1.miss), (18, .int .i64 z.2.2)], [(0, .list .tmp .int is), (1, .list .own .job z.1), (2, .cells [.int .i64 z.2.1.d, .int .i64 z.2.1.de, .int .i64 z.2.1.p, .int .i64 z.2.1.pa, .int .i64 z.2.1.wi, .int .i64 z.2.1.er])], 3⟩) (fun z => ((z.1.length : Int) + 1 - z.2.2).toNat) ?_ ⟨(xs, ⟨r.d, r.de, r.p, r.pa, r.wi, r.er, n, miss⟩, -1), ⟨hs, by dsimp only; omega, by dsimp only; omega⟩, ?_⟩ (fun z hz => ?_)
    · repeat' (first | (with_reducible exact o_nil) | (with_reducible refine o_cons ?_ ?_) | ((with_reducible refine o_id ?_); (conv => arg 1; whnf); first | (with_reducible exact o_nil) | (with_reducible refine o_cons ?_ ?_)) | rfl | omega | assumption | (simp only [List.length_append, List.length_cons, List.length_nil]; omega))
    · ((with_reducible refine s_id ?_); (conv => arg 1; whnf); (with_reducible refine s_some ?_); repeat' (first | (with_reducible exact o_nil) | (with_reducible refine o_cons ?_ ?_) | ((with_reducible refine o_id ?_); (conv => arg 1; whnf); first | (with_reducible exact o_nil) | (with_reducible refine o_cons ?_ ?_)) | rfl | omega | assumption | (simp only [List.length_append, List.length_cons, List.length_nil]; omega) | (dsimp only [Int.toNat]; rw [hga])))
  rotate_left
  focus
    rename_i u0 v0 c hc xs hxs r hr n hn m hm u1 v1 e1 e2
    have hl4 : (xs.length : Int) ≤ 4 := by omega
    have h1 := made_small hxs.1 hl4
    obtain ⟨a, ha⟩ : ∃ a, xs[0]? = some a := ⟨_, gt_at (c := .job) (l := xs) (i := 0) (by omega)⟩
    have hga : gt (c := .job) xs 0 = a := gt_eq ha
    have hs := small_set (j := ⟨0, a.dl, a.ji, a.pr, a.co, a.se, a.ev⟩) h1 ha rfl
    have hn3 := hs.n
    ((with_reducible refine g_id ?_); (conv => arg 3; whnf))
    refine g_loop lay_ok 400 (Z := List Job × Par × Int) (fun z => Small z.1 ∧ -1 ≤ z.2.2 ∧ z.2.2 ≤ (z.1.length : Int) + 1) (fun z => ⟨[(0, .sl ⟨0, []⟩), (1, .int .i64 i), (4, .int .i64 time), (14, .sl ⟨1, []⟩), (15, .ptr 2 0), (16, .int .i64 z.2.1.ins), (17, .int .i64 z.2.1.miss), (18, .int .i64 z.2.2)], [(0, .list .tmp .int is), (1, .list .own .job z.1), (2, .cells [.int .i64 z.2.1.d, .int .i64 z.2.1.de, .int .i64 z.2.1.p, .int .i64 z.2.1.pa, .int .i64 z.2.1.wi, .int .i64 z.2.1.er])], 3⟩) (fun z => ((z.1.length : Int) + 1 - z.2.2).toNat) ?_ ⟨((xs.set 0 ⟨0, a.dl, a.ji, a.pr, a.co, a.se, a.ev⟩), ⟨r.d, r.de, r.p, r.pa, r.wi, r.er, n, m⟩, -1), ⟨hs, by dsimp only; omega, by dsimp only; omega⟩, ?_⟩ (fun z hz => ?_)
    · repeat' (first | (with_reducible exact o_nil) | (with_reducible refine o_cons ?_ ?_) | ((with_reducible refine o_id ?_); (conv => arg 1; whnf); first | (with_reducible exact o_nil) | (with_reducible refine o_cons ?_ ?_)) | rfl | omega | assumption | (simp only [List.length_append, List.length_cons, List.length_nil]; omega))
    · ((with_reducible refine s_id ?_); (conv => arg 1; whnf); (with_reducible refine s_some ?_); repeat' (first | (with_reducible exact o_nil) | (with_reducible refine o_cons ?_ ?_) | ((with_reducible refine o_id ?_); (conv => arg 1; whnf); first | (with_reducible exact o_nil) | (with_reducible refine o_cons ?_ ?_)) | rfl | omega | assumption | (simp only [List.length_append, List.length_cons, List.length_nil]; omega) | (dsimp only [Int.toNat]; rw [hga])))
  rotate_left
  focus
    rename_i u0 v0 c hc xs hxs r hr n hn m hm u1 v1 e1 e2 e3
    have hl4 : (xs.length : Int) ≤ 4 := by omega
    have h1 := made_small hxs.1 hl4
    obtain ⟨a, ha⟩ : ∃ a, xs[0]? = some a := ⟨_, gt_at (c := .job) (l := xs) (i := 0) (by omega)⟩
    have hga : gt (c := .job) xs 0 = a := gt_eq ha
    have hs := h1
    have hn3 := hs.n
    ((with_reducible refine g_id ?_); (conv => arg 3; whnf))
    refine g_loop lay_ok 400 (Z := List Job × Par × Int) (fun z => Small z.1 ∧ -1 ≤ z.2.2 ∧ z.2.2 ≤ (z.1.length : Int) + 1) (fun z => ⟨[(0, .sl ⟨0, []⟩), (1, .int .i64 i), (4, .int .i64 time), (14, .sl ⟨1, []⟩), (15, .ptr 2 0), (16, .int .i64 z.2.1.ins), (17, .int .i64 z.2.1.miss), (18, .int .i64 z.2.2)], [(0, .list .tmp .int is), (1, .list .own .job z.1), (2, .cells [.int .i64 z.2.1.d, .int .i64 z.2.1.de, .int .i64 z.2.1.p, .int .i64 z.2.1.pa, .int .i64 z.2.1.wi, .int .i64 z.2.1.er])], 3⟩) (fun z => ((z.1.length : Int) + 1 - z.2.2).toNat) ?_ ⟨(xs, ⟨r.d, -1, r.p, r.pa, r.wi, r.er, n, m⟩, -1), ⟨hs, by dsimp only; omega, by dsimp only; omega⟩, ?_⟩ (fun z hz => ?_)
    · repeat' (first | (with_reducible exact o_nil) | (with_reducible refine o_cons ?_ ?_) | ((with_reducible refine o_id ?_); (conv => arg 1; whnf); first | (with_reducible exact o_nil) | (with_reducible refine o_cons ?_ ?_)) | rfl | omega | assumption | (simp only [List.length_append, List.length_cons, List.length_nil]; omega))
    · ((with_reducible refine s_id ?_); (conv => arg 1; whnf); (with_reducible refine s_some ?_); repeat' (first | (with_reducible exact o_nil) | (with_reducible refine o_cons ?_ ?_) | ((with_reducible refine o_id ?_); (conv => arg 1; whnf); first | (with_reducible exact o_nil) | (with_reducible refine o_cons ?_ ?_)) | rfl | omega | assumption | (simp only [List.length_append, List.length_cons, List.length_nil]; omega) | (dsimp only [Int.toNat]; rw [hga])))
  rotate_left
  focus
    rename_i u0 v0 c hc xs hxs r hr n hn m hm u1 v1 e1 e2 e3
    have hl4 : (xs.length : Int) ≤ 4 := by omega
    have h1 := made_small hxs.1 hl4
    obtain ⟨a, ha⟩ : ∃ a, xs[0]? = some a := ⟨_, gt_at (c := .job) (l := xs) (i := 0) (by omega)⟩
    have hga : gt (c := .job) xs 0 = a := gt_eq ha
    have hs := h1
    have hn3 := hs.n
    ((with_reducible refine g_id ?_); (conv => arg 3; whnf))
    refine g_loop lay_ok 400 (Z := List Job × Par × Int) (fun z => Small z.1 ∧ -1 ≤ z.2.2 ∧ z.2.2 ≤ (z.1.length : Int) + 1) (fun z => ⟨[(0, .sl ⟨0, []⟩), (1, .int .i64 i), (4, .int .i64 time), (14, .sl ⟨1, []⟩), (15, .ptr 2 0), (16, .int .i64 z.2.1.ins), (17, .int .i64 z.2.1.miss), (18, .int .i64 z.2.2)], [(0, .list .tmp .int is), (1, .list .own .job z.1), (2, .cells [.int .i64 z.2.1.d, .int .i64 z.2.1.de, .int .i64 z.2.1.p, .int .i64 z.2.1.pa, .int .i64 z.2.1.wi, .int .i64 z.2.1.er])], 3⟩) (fun z => ((z.1.length : Int) + 1 - z.2.2).toNat) ?_ ⟨(xs, ⟨r.d, r.de, r.p, r.pa, r.wi, r.er, n, m⟩, -1), ⟨hs, by dsimp only; omega, by dsimp only; omega⟩, ?_⟩ (fun z hz => ?_)
    · repeat' (first | (with_reducible exact o_nil) | (with_reducible refine o_cons ?_ ?_) | ((with_reducible refine o_id ?_); (conv => arg 1; whnf); first | (with_reducible exact o_nil) | (with_reducible refine o_cons ?_ ?_)) | rfl | omega | assumption | (simp only [List.length_append, List.length_cons, List.length_nil]; omega))
    · ((with_reducible refine s_id ?_); (conv => arg 1; whnf); (with_reducible refine s_some ?_); repeat' (first | (with_reducible exact o_nil) | (with_reducible refine o_cons ?_ ?_) | ((with_reducible refine o_id ?_); (conv => arg 1; whnf); first | (with_reducible exact o_nil) | (with_reducible refine o_cons ?_ ?_)) | rfl | omega | assumption | (simp only [List.length_append, List.length_cons, List.length_nil]; omega) | (dsimp only [Int.toNat]; rw [hga])))
  rotate_left
  all_goals (obtain ⟨xs, x, k⟩ := z; obtain ⟨hs, k0, k1⟩ := hz; dsimp only at hs k0 k1; dsimp only; have hsn := hs.n)
  all_goals (repeat' (first | (((with_reducible refine g_id ?_); (conv => arg 3; whnf)); first | (with_reducible refine g_split lay_ok 400 ?_ ?_ ?_) | (with_reducible refine g_cond lay_ok 400 ?_ ?_ ?_) | (with_reducible refine g_out lay_ok 400 ?_ ?_) | (with_reducible refine g_fin ?_ ?_) | (refine g_call lay_ok 400 ?_ ?_ ?_ (c_time ?_ ?_ ?_ ?_) rfl) | (refine g_call lay_ok 400 ?_ ?_ ?_ (r_time ?_ ?_ ?_ ?_) rfl) | (refine g_call lay_ok 400 ?_ ?_ ?_ (c_all ?_ ?_ ?_) rfl) | (refine g_call lay_ok 400 ?_ ?_ ?_ (r_all ?_ ?_ ?_) rfl) | (refine g_call lay_ok 400 ?_ ?_ ?_ (r_same ?_ ?_ ?_ ?_) rfl) | (refine g_call lay_ok 400 ?_ ?_ ?_ (c_new ?_) rfl) | (refine g_call lay_ok 400 ?_ ?_ ?_ (c_next ?_ ?_ ?_ ?_ ?_) rfl) | (refine g_call lay_ok 400 ?_ ?_ ?_ (c_mod ?_ ?_ ?_ ?_) rfl) | (refine g_call lay_ok 400 ?_ ?_ ?_ (c_mjobs ?_ ?_ ?_ ?_ ?_) rfl) | (refine g_call lay_ok 400 ?_ ?_ ?_ (c_rates ?_ ?_) rfl) | (refine g_draw lay_ok mixed_ok 400 15 [0, 1, 2, 3, 4, 5, 6, 7, 8, 9, 10, 11, 12, 13, 14] rfl (by kernel_rfl) ?_ ?_) | (refine g_callF lay_ok 400 ?_ ?_ ?_ (c_slack ?_ ?_ ?_ ?_) rfl) | (refine g_callF lay_ok 400 ?_ ?_ ?_ (r_slack ?_ ?_ ?_ ?_) rfl)) | (((with_reducible refine d_id ?_); (conv => arg 5; whnf)); first | (with_reducible refine d_fin ?_ ?_) | (with_reducible refine d_split lay_ok 400 ?_ ?_ ?_) | (refine d_call lay_ok 400 ?_ ?_ ?_ (c_time ?_ ?_ ?_ ?_) rfl rfl) | (refine d_call lay_ok 400 ?_ ?_ ?_ (r_time ?_ ?_ ?_ ?_) rfl rfl) | (refine d_call lay_ok 400 ?_ ?_ ?_ (c_all ?_ ?_ ?_) rfl rfl) | (refine d_call lay_ok 400 ?_ ?_ ?_ (r_all ?_ ?_ ?_) rfl rfl) | (refine d_call lay_ok 400 ?_ ?_ ?_ (r_same ?_ ?_ ?_ ?_) rfl rfl) | (refine d_call lay_ok 400 ?_ ?_ ?_ (c_new ?_) rfl rfl) | (refine d_call lay_ok 400 ?_ ?_ ?_ (c_next ?_ ?_ ?_ ?_ ?_) rfl rfl) | (refine d_call lay_ok 400 ?_ ?_ ?_ (c_mod ?_ ?_ ?_ ?_) rfl rfl) | (refine d_call lay_ok 400 ?_ ?_ ?_ (c_mjobs ?_ ?_ ?_ ?_ ?_) rfl rfl) | (refine d_call lay_ok 400 ?_ ?_ ?_ (c_rates ?_ ?_) rfl rfl)) | (with_reducible refine q_leave lay_ok 400 ?_) | (with_reducible refine q_ret lay_ok 400 ?_) | (with_reducible exact o_nil) | (with_reducible refine o_cons ?_ ?_) | ((with_reducible refine o_id ?_); (conv => arg 1; whnf); first | (with_reducible exact o_nil) | (with_reducible refine o_cons ?_ ?_)) | (intro h; ((try simp only [Int.toNat_natCast] at h); repeat (first | replace h := of_decide_eq_true h | replace h := of_decide_eq_false h | replace h := not_t h | replace h := not_f h | replace h := eq_of_beq h)); (try (first | contradiction | (exfalso; omega) | exact Bool.noConfusion (h.symm.trans (by assumption) : true = false) | exact Bool.noConfusion (h.symm.trans (by assumption) : false = true) | exact absurd rfl h | exact absurd (by assumption) h | exact absurd h (by assumption) | (exfalso; exact same_f h (by assumption))))) | rfl | omega | assumption | (simp only [List.length_append, List.length_cons, List.length_nil]; omega) | exact Nat.le_trans (all_len _ _) hsn))
  all_goals first | (with_reducible refine d_id ?_) | (refine q_round ⟨(xs, x, k + 1), ⟨hs, by dsimp only; omega, by dsimp only; omega⟩, by dsimp only; omega, ?_⟩; ((with_reducible refine s_id ?_); (conv => arg 1; whnf); (with_reducible refine s_some ?_); repeat' (first | (with_reducible exact o_nil) | (with_reducible refine o_cons ?_ ?_) | ((with_reducible refine o_id ?_); (conv => arg 1; whnf); first | (with_reducible exact o_nil) | (with_reducible refine o_cons ?_ ?_)) | rfl | omega | assumption | (simp only [List.length_append, List.length_cons, List.length_nil]; omega))))
  all_goals (rename_i c2 hc2 ys hys r2 hr2 u2 v2 u3; have hy4 : (ys.length : Int) ≤ 4 := (by omega); have hys2 := made_small hys.1 hy4; have hjo := made_jok hys.1 hy4; have hrk := rts_rok (ins := 9) (miss := 7) hr2 (by omega) (by omega) (by omega) (by omega); have B1 := modI_bd i (k := (ys.length : Int)) (by omega); have B2 := modI_bd time (k := 3000) (by omega); have CD := c_demand ys ⟨r2.d, r2.de, r2.p, r2.pa, r2.wi, r2.er, 9, 7⟩ (modI i (ys.length : Int)) (modI time 3000) hys2 hrk hjo B1.1 B1.2 B2.1 (by omega); have CE := r_demand ys ⟨r2.d, r2.de, r2.p, r2.pa, r2.wi, r2.er, 9, 7⟩ (modI i (ys.length : Int)) (modI time 3000) hys2 hrk hjo B1.1 B1.2 B2.1 (by omega))
  all_goals (repeat' (first | (((with_reducible refine g_id ?_); (conv => arg 3; whnf)); first | (with_reducible refine g_split lay_ok 400 ?_ ?_ ?_) | (with_reducible refine g_cond lay_ok 400 ?_ ?_ ?_) | (with_reducible refine g_out lay_ok 400 ?_ ?_) | (with_reducible refine g_fin ?_ ?_) | (refine g_call lay_ok 400 ?_ ?_ ?_ (CD) rfl) | (refine g_call lay_ok 400 ?_ ?_ ?_ (CE) rfl) | (refine g_call lay_ok 400 ?_ ?_ ?_ (c_awake41) rfl) | (refine g_draw lay_ok mixed_ok 400 15 [0, 1, 2, 3, 4, 5, 6, 7, 8, 9, 10, 11, 12, 13, 14] rfl (by kernel_rfl) ?_ ?_)) | (((with_reducible refine d_id ?_); (conv => arg 5; whnf)); first | (with_reducible refine d_fin ?_ ?_) | (with_reducible refine d_split lay_ok 400 ?_ ?_ ?_) | (refine d_call lay_ok 400 ?_ ?_ ?_ (CD) rfl rfl) | (refine d_call lay_ok 400 ?_ ?_ ?_ (CE) rfl rfl) | (refine d_call lay_ok 400 ?_ ?_ ?_ (c_awake41) rfl rfl)) | (with_reducible refine q_leave lay_ok 400 ?_) | (with_reducible refine q_ret lay_ok 400 ?_) | (with_reducible exact o_nil) | (with_reducible refine o_cons ?_ ?_) | ((with_reducible refine o_id ?_); (conv => arg 1; whnf); first | (with_reducible exact o_nil) | (with_reducible refine o_cons ?_ ?_)) | (intro h; ((try simp only [Int.toNat_natCast] at h); repeat (first | replace h := of_decide_eq_true h | replace h := of_decide_eq_false h | replace h := not_t h | replace h := not_f h | replace h := eq_of_beq h)); (try (first | contradiction | (exfalso; omega) | exact Bool.noConfusion (h.symm.trans (by assumption) : true = false) | exact Bool.noConfusion (h.symm.trans (by assumption) : false = true) | exact absurd rfl h | exact absurd (by assumption) h | exact absurd h (by assumption)))) | rfl | omega | assumption | (simp only [List.length_append, List.length_cons, List.length_nil]; omega)))
  all_goals (((with_reducible refine e_id ?_); (conv => whnf)); refine ⟨(), trivial, ?_⟩; ((with_reducible refine s_id ?_); (conv => arg 1; whnf); (with_reducible refine s_some ?_); repeat' (first | (with_reducible exact o_nil) | (with_reducible refine o_cons ?_ ?_) | ((with_reducible refine o_id ?_); (conv => arg 1; whnf); first | (with_reducible exact o_nil) | (with_reducible refine o_cons ?_ ?_)) | rfl | omega | assumption | (simp only [List.length_append, List.length_cons, List.length_nil]; omega))))
end Go.Proofs.Ytjhjhjmdbhackaa
