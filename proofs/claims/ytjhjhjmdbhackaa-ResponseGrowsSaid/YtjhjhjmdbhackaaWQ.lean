/- ResponseGrows: the law. -/
import Derived.Test.YtjhjhjmdbhackaaWB
import Derived.Test.YtjhjhjmdbhackaaWL
import Derived.Test.YtjhjhjmdbhackaaS45P
import Derived.Test.YtjhjhjmdbhackaaS46P
import Derived.Test.YtjhjhjmdbhackaaVD
namespace Go.Proofs.Ytjhjhjmdbhackaa
set_option linter.unusedVariables false
set_option linter.unusedSimpArgs false
open Go.RowKit
theorem made_bd {xs : List Job} {n z : Int} (h : MadeJ xs ∧ (xs.length : Int) = n) (hz : 0 ≤ z ∧ z < (([] ++ xs).length : Int)) : (0 ≤ (gt (c := .job) ([] ++ xs) z.toNat).co ∧ (gt (c := .job) ([] ++ xs) z.toNat).co ≤ 24) ∧ (0 ≤ (gt (c := .job) ([] ++ xs) z.toNat).ev ∧ (gt (c := .job) ([] ++ xs) z.toNat).ev ≤ 4) ∧ (gt (c := .job) ([] ++ xs) z.toNat).se.length ≤ 2 := by
  have := h.1 _ (mem_gt (c := .job) (l := xs) (i := z.toNat) (by simp only [List.nil_append] at hz; omega))
  exact ⟨this.co, this.ev, this.sn⟩
theorem made_mem {l : List Job} {i : Nat} (h : MadeJ l) (hi : i < l.length) : JobM (gt (c := .job) l i) := h _ (mem_gt (c := .job) hi)
theorem rts_pa {r : Rts} (h : r.Ok) : 0 ≤ r.pa ∧ r.pa ≤ 3 := ⟨h.pa0.1, h.pa0.2.1⟩
theorem imin_up {p q : Int} (h : q ≤ p) : q ≤ imin p (q + 1) := by unfold imin; split <;> omega
theorem small_grow {l : List Job} {n : Nat} {j : Job} (h : Small l) (hj : j.se.length ≤ 1000) : Small (l.set n j) :=
  ⟨by rw [List.length_set]; exact h.n, fun k hk => by
    rcases List.mem_or_eq_of_mem_set hk with h1 | h1
    · exact h.s k h1
    · subst h1; exact hj⟩
theorem alone_ok {j : Job} (h : JobM j) : goodB [⟨j.pd, j.dl, j.ji, j.pr, j.co, [], j.ev⟩] ⟨0, 0, 0, 0, 0, 0, 9, 7⟩ = true := by
  have hm : JobM ⟨j.pd, j.dl, j.ji, j.pr, j.co, [], j.ev⟩ := ⟨h.pd, h.dl, h.ji, h.pr, h.co, h.ev, Nat.zero_le _, fun _ h => absurd h List.not_mem_nil⟩
  refine good_all (made_jobs (l := [⟨j.pd, j.dl, j.ji, j.pr, j.co, [], j.ev⟩]) (fun q hq => ?_) (by show (1 : Int) ≤ 4; omega)) ?_ (by dsimp only; omega) (by dsimp only; omega) (by dsimp only; omega) (by dsimp only; omega)
  · rw [List.mem_singleton] at hq; subst hq; exact hm
  · unfold validR; exact decide_eq_true (by dsimp only; omega)
theorem alone_time {j : Job} (h : JobM j) : timeJ [⟨j.pd, j.dl, j.ji, j.pr, j.co, [], j.ev⟩] ⟨0, 0, 0, 0, 0, 0, 9, 7⟩ 0 = if imax 1 j.co ≤ j.dl - j.ji then (imax 1 j.co, 0) else (0, 38) := by
  have hg := alone_ok h
  obtain ⟨hx, hj⟩ := rok_of hg
  rw [time_in hg (by omega) (by show (0 : Int) < 1; omega), alone_least hx hj]
  by_cases hle : imax 1 j.co ≤ j.dl - j.ji
  · rw [if_pos hle, if_pos hle]
  · rw [if_neg hle, if_neg hle]
attribute [local irreducible] mostI timesI blockJ demJ goodB jobsB leastJ leastF ansTo allJ timeJ MadeJ modI pay
theorem c_mjobsF (is : List Int) (n : Int) (hl : is.length ≤ maxLen) (n0 : 1 ≤ n) (n1 : n ≤ 4) : Trip Try.prog 17 [.ptr 0 0, .int .i64 n] ⟨[], [(0, .deck (.sl ⟨1, []⟩)), (1, .list .tmp .int is)], 2⟩ (Z := List Job) (fun z => MadeJ z ∧ (z.length : Int) = n) (fun z => .sl ⟨2, []⟩) (fun z => ⟨[], [(0, .deck (.sl ⟨1, []⟩)), (1, .list .tmp .int is), (2, .list .fz .job z)], 3⟩) :=
  (c_mjobs is n hl n0 n1).sub fun z hz => by
    ((with_reducible refine s_id ?_); (conv => arg 1; whnf); (with_reducible refine s_some ?_); repeat' (first | (with_reducible exact o_nil) | (with_reducible refine o_cons ?_ ?_) | ((with_reducible refine o_id ?_); (conv => arg 1; whnf); first | (with_reducible exact o_nil) | (with_reducible refine o_cons ?_ ?_)) | rfl | omega | assumption | (simp only [List.length_append, List.length_cons, List.length_nil]; omega)))
set_option maxRecDepth 20000
set_option maxHeartbeats 8000000 in
theorem l_grows (is : List Int) (hl : is.length ≤ maxLen) : Trip Try.prog 10 [.sl ⟨0, []⟩] ⟨[], [(0, .list .tmp .int is)], 1⟩ (Z := Unit) (fun _ => True) (fun _ => .bool true) (fun _ => ⟨[], [], 1⟩) := by
  refine trip_by (rs := [_]) 400 lay_ok Try.func10 rfl (by kernel_rfl) Try.ntmps10 Try.results10 rfl rfl ?_
  repeat' (first | (((with_reducible refine g_id ?_); (conv => arg 3; whnf)); first | (with_reducible refine g_split lay_ok 400 ?_ ?_ ?_) | (with_reducible refine g_cond lay_ok 400 ?_ ?_ ?_) | (with_reducible refine g_out lay_ok 400 ?_ ?_) | (with_reducible refine g_fin ?_ ?_) | (refine g_call lay_ok 400 ?_ ?_ ?_ (c_awake41) rfl) | (refine g_call lay_ok 400 ?_ ?_ ?_ (c_new ?_) rfl) | (refine g_call lay_ok 400 ?_ ?_ ?_ (c_next ?_ ?_ ?_ ?_ ?_) rfl) | (refine g_call lay_ok 400 ?_ ?_ ?_ (c_mjobsF ?_ ?_ ?_ ?_ ?_) rfl) | (refine g_call lay_ok 400 ?_ ?_ ?_ (c_rates ?_ ?_) rfl) | (refine g_draw lay_ok mixed_ok 400 10 [0, 1, 2, 3, 4, 5, 6, 7, 8, 9] rfl (by kernel_rfl) ?_ ?_) | (refine g_draw lay_ok mixed_ok 400 11 [0, 1, 2, 3, 4, 5, 6, 7, 8, 9, 10] rfl (by kernel_rfl) ?_ ?_) | (refine g_storeL lay_ok 400 ?_ rfl rfl ?_ ?_)) | (((with_reducible refine d_id ?_); (conv => arg 5; whnf)); first | (with_reducible refine d_fin ?_ ?_) | (with_reducible refine d_split lay_ok 400 ?_ ?_ ?_) | (refine d_call lay_ok 400 ?_ ?_ ?_ (c_awake41) rfl rfl) | (refine d_call lay_ok 400 ?_ ?_ ?_ (c_new ?_) rfl rfl) | (refine d_call lay_ok 400 ?_ ?_ ?_ (c_next ?_ ?_ ?_ ?_ ?_) rfl rfl) | (refine d_call lay_ok 400 ?_ ?_ ?_ (c_mjobsF ?_ ?_ ?_ ?_ ?_) rfl rfl) | (refine d_call lay_ok 400 ?_ ?_ ?_ (c_rates ?_ ?_) rfl rfl)) | (with_reducible refine q_leave lay_ok 400 ?_) | (with_reducible refine q_ret lay_ok 400 ?_) | (with_reducible exact o_nil) | (with_reducible refine o_cons ?_ ?_) | ((with_reducible refine o_id ?_); (conv => arg 1; whnf); first | (with_reducible exact o_nil) | (with_reducible refine o_cons ?_ ?_)) | (intro h; ((try simp only [Int.toNat_natCast] at h); repeat (first | replace h := of_decide_eq_true h | replace h := of_decide_eq_false h | replace h := not_t h | replace h := not_f h | replace h := eq_of_beq h)); (try (first | contradiction | (exfalso; omega) | exact Bool.noConfusion (h.symm.trans (by assumption) : true = false) | exact Bool.noConfusion (h.symm.trans (by assumption) : false = true) | exact absurd rfl h | exact absurd (by assumption) h | exact absurd h (by assumption)))) | rfl | omega | assumption | (simp only [List.length_append, List.length_cons, List.length_nil]; omega) | (have q := rts_pa (by assumption); omega) | (have q := made_bd (by assumption) (by assumption); omega) | (have q := made_bd (by assumption) (by assumption); simp only [List.nil_append, List.length_append, List.length_cons, List.length_nil] at *; omega))
  focus
    rename_i u0 v0 c hc xs hxs r hr kk hkk sel hsel e1 v
    have hl4 : (xs.length : Int) ≤ 4 := by omega
    have hs := made_small hxs.1 hl4
    have B := made_bd hxs hkk
    simp only [List.nil_append] at B hkk
    obtain ⟨a, ha⟩ : ∃ a, xs[kk.toNat]? = some a := ⟨_, gt_at (c := .job) (l := xs) (i := kk.toNat) (by omega)⟩
    have hga : gt (c := .job) xs kk.toNat = a := gt_eq ha
    rw [hga] at B
    have hg := made_good (ins := 9) (miss := 7) hxs.1 hl4 hr (by omega) (by omega) (by omega) (by omega)
    have hgr : Grow xs (xs.set kk.toNat ⟨a.pd, a.dl, a.ji, a.pr, a.co + v, a.se, a.ev⟩) := grow_set ha rfl rfl rfl rfl (by dsimp only; omega) (Int.le_refl _) (fun h hh => hh)
    have hsy : Small (xs.set kk.toNat ⟨a.pd, a.dl, a.ji, a.pr, a.co + v, a.se, a.ev⟩) := (small_grow hs (by dsimp only; omega))
    have hpy : ∀ t, 0 ≤ t → pay ⟨r.d, r.de, r.p, r.pa, r.wi, r.er, 9, 7⟩ t ≤ pay ⟨r.d, r.de, r.p, r.pa, r.wi, r.er, 9, 7⟩ t := fun t _ => Int.le_refl _
    ((with_reducible refine g_id ?_); (conv => arg 3; whnf))
    refine g_loop lay_ok 400 (Z := List Job × List Job × Par × Par × Nat) (fun z => MadeJ z.1 ∧ 1 ≤ z.1.length ∧ z.1.length ≤ 4 ∧ Small z.1 ∧ Small z.2.1 ∧ Grow z.1 z.2.1 ∧ goodB z.1 z.2.2.1 = true ∧ (∀ t, 0 ≤ t → pay z.2.2.1 t ≤ pay z.2.2.2.1 t) ∧ z.2.2.1.ins = 9 ∧ z.2.2.1.miss = 7 ∧ z.2.2.2.1.ins = 9 ∧ z.2.2.2.1.miss = 7 ∧ z.2.2.2.2 ≤ z.1.length) (fun z => ⟨[(0, .sl ⟨0, []⟩), (4, .sl ⟨1, []⟩), (5, .ptr 2 0), (6, .sl ⟨3, []⟩), (7, .ptr 4 0), (87, .int .i64 (z.1.length : Int)), (88, .int .i64 (z.2.2.2.2 : Int))], [(0, .list .tmp .int is), (1, .list .fz .job z.1), (2, .cells [.int .i64 z.2.2.1.d, .int .i64 z.2.2.1.de, .int .i64 z.2.2.1.p, .int .i64 z.2.2.1.pa, .int .i64 z.2.2.1.wi, .int .i64 z.2.2.1.er]), (3, .list .sh .job z.2.1), (4, .cells [.int .i64 z.2.2.2.1.d, .int .i64 z.2.2.2.1.de, .int .i64 z.2.2.2.1.p, .int .i64 z.2.2.2.1.pa, .int .i64 z.2.2.2.1.wi, .int .i64 z.2.2.2.1.er])], 5⟩) (fun z => z.1.length - z.2.2.2.2) ?_ ⟨(xs, (xs.set kk.toNat ⟨a.pd, a.dl, a.ji, a.pr, a.co + v, a.se, a.ev⟩), ⟨r.d, r.de, r.p, r.pa, r.wi, r.er, 9, 7⟩, ⟨r.d, r.de, r.p, r.pa, r.wi, r.er, 9, 7⟩, 0), ⟨hxs.1, by dsimp only; omega, by dsimp only; omega, hs, hsy, hgr, hg, hpy, rfl, rfl, rfl, rfl, Nat.zero_le _⟩, ?_⟩ (fun z hz => ?_)
    · repeat' (first | (with_reducible exact o_nil) | (with_reducible refine o_cons ?_ ?_) | ((with_reducible refine o_id ?_); (conv => arg 1; whnf); first | (with_reducible exact o_nil) | (with_reducible refine o_cons ?_ ?_)) | rfl | omega | assumption | (simp only [List.length_append, List.length_cons, List.length_nil]; omega) | (have q := rts_pa hr; omega))
    · ((with_reducible refine s_id ?_); (conv => arg 1; whnf); (with_reducible refine s_some ?_); repeat' (first | (with_reducible exact o_nil) | (with_reducible refine o_cons ?_ ?_) | ((with_reducible refine o_id ?_); (conv => arg 1; whnf); first | (with_reducible exact o_nil) | (with_reducible refine o_cons ?_ ?_)) | rfl | omega | assumption | (simp only [List.length_append, List.length_cons, List.length_nil]; omega) | (have q := rts_pa hr; omega) | (simp only [List.nil_append, hga]; done) | (simp only [List.nil_append, hga]; rfl)))
  rotate_left
  focus
    rename_i u0 v0 c hc xs hxs r hr kk hkk sel hsel e1 e2 v
    have hl4 : (xs.length : Int) ≤ 4 := by omega
    have hs := made_small hxs.1 hl4
    have B := made_bd hxs hkk
    simp only [List.nil_append] at B hkk
    obtain ⟨a, ha⟩ : ∃ a, xs[kk.toNat]? = some a := ⟨_, gt_at (c := .job) (l := xs) (i := kk.toNat) (by omega)⟩
    have hga : gt (c := .job) xs kk.toNat = a := gt_eq ha
    rw [hga] at B
    have hg := made_good (ins := 9) (miss := 7) hxs.1 hl4 hr (by omega) (by omega) (by omega) (by omega)
    have hgr : Grow xs (xs.set kk.toNat ⟨a.pd, a.dl, a.ji, a.pr, a.co, a.se, a.ev + v⟩) := grow_set ha rfl rfl rfl rfl (Int.le_refl _) (by dsimp only; omega) (fun h hh => hh)
    have hsy : Small (xs.set kk.toNat ⟨a.pd, a.dl, a.ji, a.pr, a.co, a.se, a.ev + v⟩) := (small_grow hs (by dsimp only; omega))
    have hpy : ∀ t, 0 ≤ t → pay ⟨r.d, r.de, r.p, r.pa, r.wi, r.er, 9, 7⟩ t ≤ pay ⟨r.d, r.de, r.p, r.pa, r.wi, r.er, 9, 7⟩ t := fun t _ => Int.le_refl _
    ((with_reducible refine g_id ?_); (conv => arg 3; whnf))
    refine g_loop lay_ok 400 (Z := List Job × List Job × Par × Par × Nat) (fun z => MadeJ z.1 ∧ 1 ≤ z.1.length ∧ z.1.length ≤ 4 ∧ Small z.1 ∧ Small z.2.1 ∧ Grow z.1 z.2.1 ∧ goodB z.1 z.2.2.1 = true ∧ (∀ t, 0 ≤ t → pay z.2.2.1 t ≤ pay z.2.2.2.1 t) ∧ z.2.2.1.ins = 9 ∧ z.2.2.1.miss = 7 ∧ z.2.2.2.1.ins = 9 ∧ z.2.2.2.1.miss = 7 ∧ z.2.2.2.2 ≤ z.1.length) (fun z => ⟨[(0, .sl ⟨0, []⟩), (4, .sl ⟨1, []⟩), (5, .ptr 2 0), (6, .sl ⟨3, []⟩), (7, .ptr 4 0), (87, .int .i64 (z.1.length : Int)), (88, .int .i64 (z.2.2.2.2 : Int))], [(0, .list .tmp .int is), (1, .list .fz .job z.1), (2, .cells [.int .i64 z.2.2.1.d, .int .i64 z.2.2.1.de, .int .i64 z.2.2.1.p, .int .i64 z.2.2.1.pa, .int .i64 z.2.2.1.wi, .int .i64 z.2.2.1.er]), (3, .list .sh .job z.2.1), (4, .cells [.int .i64 z.2.2.2.1.d, .int .i64 z.2.2.2.1.de, .int .i64 z.2.2.2.1.p, .int .i64 z.2.2.2.1.pa, .int .i64 z.2.2.2.1.wi, .int .i64 z.2.2.2.1.er])], 5⟩) (fun z => z.1.length - z.2.2.2.2) ?_ ⟨(xs, (xs.set kk.toNat ⟨a.pd, a.dl, a.ji, a.pr, a.co, a.se, a.ev + v⟩), ⟨r.d, r.de, r.p, r.pa, r.wi, r.er, 9, 7⟩, ⟨r.d, r.de, r.p, r.pa, r.wi, r.er, 9, 7⟩, 0), ⟨hxs.1, by dsimp only; omega, by dsimp only; omega, hs, hsy, hgr, hg, hpy, rfl, rfl, rfl, rfl, Nat.zero_le _⟩, ?_⟩ (fun z hz => ?_)
    · repeat' (first | (with_reducible exact o_nil) | (with_reducible refine o_cons ?_ ?_) | ((with_reducible refine o_id ?_); (conv => arg 1; whnf); first | (with_reducible exact o_nil) | (with_reducible refine o_cons ?_ ?_)) | rfl | omega | assumption | (simp only [List.length_append, List.length_cons, List.length_nil]; omega) | (have q := rts_pa hr; omega))
    · ((with_reducible refine s_id ?_); (conv => arg 1; whnf); (with_reducible refine s_some ?_); repeat' (first | (with_reducible exact o_nil) | (with_reducible refine o_cons ?_ ?_) | ((with_reducible refine o_id ?_); (conv => arg 1; whnf); first | (with_reducible exact o_nil) | (with_reducible refine o_cons ?_ ?_)) | rfl | omega | assumption | (simp only [List.length_append, List.length_cons, List.length_nil]; omega) | (have q := rts_pa hr; omega) | (simp only [List.nil_append, hga]; done) | (simp only [List.nil_append, hga]; rfl)))
  rotate_left
  focus
    rename_i u0 v0 c hc xs hxs r hr kk hkk sel hsel e1 e2 e3 v
    have hl4 : (xs.length : Int) ≤ 4 := by omega
    have hs := made_small hxs.1 hl4
    have B := made_bd hxs hkk
    simp only [List.nil_append] at B hkk
    obtain ⟨a, ha⟩ : ∃ a, xs[kk.toNat]? = some a := ⟨_, gt_at (c := .job) (l := xs) (i := kk.toNat) (by omega)⟩
    have hga : gt (c := .job) xs kk.toNat = a := gt_eq ha
    rw [hga] at B
    have hg := made_good (ins := 9) (miss := 7) hxs.1 hl4 hr (by omega) (by omega) (by omega) (by omega)
    have hgr : Grow xs (xs.set kk.toNat ⟨a.pd, a.dl, a.ji, a.pr, a.co, (a.se ++ [⟨0, v⟩]), a.ev⟩) := grow_set ha rfl rfl rfl rfl (Int.le_refl _) (Int.le_refl _) (fun h hh => List.mem_append_left _ hh)
    have hsy : Small (xs.set kk.toNat ⟨a.pd, a.dl, a.ji, a.pr, a.co, (a.se ++ [⟨0, v⟩]), a.ev⟩) := (small_grow hs (by simp only [List.length_append, List.length_cons, List.length_nil]; omega))
    have hpy : ∀ t, 0 ≤ t → pay ⟨r.d, r.de, r.p, r.pa, r.wi, r.er, 9, 7⟩ t ≤ pay ⟨r.d, r.de, r.p, r.pa, r.wi, r.er, 9, 7⟩ t := fun t _ => Int.le_refl _
    ((with_reducible refine g_id ?_); (conv => arg 3; whnf))
    refine g_loop lay_ok 400 (Z := List Job × List Job × Par × Par × Nat) (fun z => MadeJ z.1 ∧ 1 ≤ z.1.length ∧ z.1.length ≤ 4 ∧ Small z.1 ∧ Small z.2.1 ∧ Grow z.1 z.2.1 ∧ goodB z.1 z.2.2.1 = true ∧ (∀ t, 0 ≤ t → pay z.2.2.1 t ≤ pay z.2.2.2.1 t) ∧ z.2.2.1.ins = 9 ∧ z.2.2.1.miss = 7 ∧ z.2.2.2.1.ins = 9 ∧ z.2.2.2.1.miss = 7 ∧ z.2.2.2.2 ≤ z.1.length) (fun z => ⟨[(0, .sl ⟨0, []⟩), (4, .sl ⟨1, []⟩), (5, .ptr 2 0), (6, .sl ⟨3, []⟩), (7, .ptr 4 0), (87, .int .i64 (z.1.length : Int)), (88, .int .i64 (z.2.2.2.2 : Int))], [(0, .list .tmp .int is), (1, .list .fz .job z.1), (2, .cells [.int .i64 z.2.2.1.d, .int .i64 z.2.2.1.de, .int .i64 z.2.2.1.p, .int .i64 z.2.2.1.pa, .int .i64 z.2.2.1.wi, .int .i64 z.2.2.1.er]), (3, .list .sh .job z.2.1), (4, .cells [.int .i64 z.2.2.2.1.d, .int .i64 z.2.2.2.1.de, .int .i64 z.2.2.2.1.p, .int .i64 z.2.2.2.1.pa, .int .i64 z.2.2.2.1.wi, .int .i64 z.2.2.2.1.er])], 5⟩) (fun z => z.1.length - z.2.2.2.2) ?_ ⟨(xs, (xs.set kk.toNat ⟨a.pd, a.dl, a.ji, a.pr, a.co, (a.se ++ [⟨0, v⟩]), a.ev⟩), ⟨r.d, r.de, r.p, r.pa, r.wi, r.er, 9, 7⟩, ⟨r.d, r.de, r.p, r.pa, r.wi, r.er, 9, 7⟩, 0), ⟨hxs.1, by dsimp only; omega, by dsimp only; omega, hs, hsy, hgr, hg, hpy, rfl, rfl, rfl, rfl, Nat.zero_le _⟩, ?_⟩ (fun z hz => ?_)
    · repeat' (first | (with_reducible exact o_nil) | (with_reducible refine o_cons ?_ ?_) | ((with_reducible refine o_id ?_); (conv => arg 1; whnf); first | (with_reducible exact o_nil) | (with_reducible refine o_cons ?_ ?_)) | rfl | omega | assumption | (simp only [List.length_append, List.length_cons, List.length_nil]; omega) | (have q := rts_pa hr; omega))
    · ((with_reducible refine s_id ?_); (conv => arg 1; whnf); (with_reducible refine s_some ?_); repeat' (first | (with_reducible exact o_nil) | (with_reducible refine o_cons ?_ ?_) | ((with_reducible refine o_id ?_); (conv => arg 1; whnf); first | (with_reducible exact o_nil) | (with_reducible refine o_cons ?_ ?_)) | rfl | omega | assumption | (simp only [List.length_append, List.length_cons, List.length_nil]; omega) | (have q := rts_pa hr; omega) | (simp only [List.nil_append, hga]; done) | (simp only [List.nil_append, hga]; rfl)))
  rotate_left
  focus
    rename_i u0 v0 c hc xs hxs r hr kk hkk sel hsel e1 e2 e3
    have hl4 : (xs.length : Int) ≤ 4 := by omega
    have hs := made_small hxs.1 hl4
    have B := made_bd hxs hkk
    simp only [List.nil_append] at B hkk
    obtain ⟨a, ha⟩ : ∃ a, xs[kk.toNat]? = some a := ⟨_, gt_at (c := .job) (l := xs) (i := kk.toNat) (by omega)⟩
    have hga : gt (c := .job) xs kk.toNat = a := gt_eq ha
    rw [hga] at B
    have hg := made_good (ins := 9) (miss := 7) hxs.1 hl4 hr (by omega) (by omega) (by omega) (by omega)
    have hgr : Grow xs xs := Grow.refl xs
    have hsy : Small xs := hs
    have hpy : ∀ t, 0 ≤ t → pay ⟨r.d, r.de, r.p, r.pa, r.wi, r.er, 9, 7⟩ t ≤ pay ⟨(⟨r.d, r.de, r.p, imin r.p (r.pa + 1), r.wi, r.er⟩ : Rts).d, (⟨r.d, r.de, r.p, imin r.p (r.pa + 1), r.wi, r.er⟩ : Rts).de, (⟨r.d, r.de, r.p, imin r.p (r.pa + 1), r.wi, r.er⟩ : Rts).p, (⟨r.d, r.de, r.p, imin r.p (r.pa + 1), r.wi, r.er⟩ : Rts).pa, (⟨r.d, r.de, r.p, imin r.p (r.pa + 1), r.wi, r.er⟩ : Rts).wi, (⟨r.d, r.de, r.p, imin r.p (r.pa + 1), r.wi, r.er⟩ : Rts).er, 9, 7⟩ t := fun t ht => pay_pause (x := ⟨r.d, r.de, r.p, r.pa, r.wi, r.er, 9, 7⟩) (pa := imin r.p (r.pa + 1)) (imin_up (by have := hr.pa0; have := hr.p1; dsimp only; omega)) ht
    ((with_reducible refine g_id ?_); (conv => arg 3; whnf))
    refine g_loop lay_ok 400 (Z := List Job × List Job × Par × Par × Nat) (fun z => MadeJ z.1 ∧ 1 ≤ z.1.length ∧ z.1.length ≤ 4 ∧ Small z.1 ∧ Small z.2.1 ∧ Grow z.1 z.2.1 ∧ goodB z.1 z.2.2.1 = true ∧ (∀ t, 0 ≤ t → pay z.2.2.1 t ≤ pay z.2.2.2.1 t) ∧ z.2.2.1.ins = 9 ∧ z.2.2.1.miss = 7 ∧ z.2.2.2.1.ins = 9 ∧ z.2.2.2.1.miss = 7 ∧ z.2.2.2.2 ≤ z.1.length) (fun z => ⟨[(0, .sl ⟨0, []⟩), (4, .sl ⟨1, []⟩), (5, .ptr 2 0), (6, .sl ⟨3, []⟩), (7, .ptr 4 0), (87, .int .i64 (z.1.length : Int)), (88, .int .i64 (z.2.2.2.2 : Int))], [(0, .list .tmp .int is), (1, .list .fz .job z.1), (2, .cells [.int .i64 z.2.2.1.d, .int .i64 z.2.2.1.de, .int .i64 z.2.2.1.p, .int .i64 z.2.2.1.pa, .int .i64 z.2.2.1.wi, .int .i64 z.2.2.1.er]), (3, .list .sh .job z.2.1), (4, .cells [.int .i64 z.2.2.2.1.d, .int .i64 z.2.2.2.1.de, .int .i64 z.2.2.2.1.p, .int .i64 z.2.2.2.1.pa, .int .i64 z.2.2.2.1.wi, .int .i64 z.2.2.2.1.er])], 5⟩) (fun z => z.1.length - z.2.2.2.2) ?_ ⟨(xs, xs, ⟨r.d, r.de, r.p, r.pa, r.wi, r.er, 9, 7⟩, ⟨(⟨r.d, r.de, r.p, imin r.p (r.pa + 1), r.wi, r.er⟩ : Rts).d, (⟨r.d, r.de, r.p, imin r.p (r.pa + 1), r.wi, r.er⟩ : Rts).de, (⟨r.d, r.de, r.p, imin r.p (r.pa + 1), r.wi, r.er⟩ : Rts).p, (⟨r.d, r.de, r.p, imin r.p (r.pa + 1), r.wi, r.er⟩ : Rts).pa, (⟨r.d, r.de, r.p, imin r.p (r.pa + 1), r.wi, r.er⟩ : Rts).wi, (⟨r.d, r.de, r.p, imin r.p (r.pa + 1), r.wi, r.er⟩ : Rts).er, 9, 7⟩, 0), ⟨hxs.1, by dsimp only; omega, by dsimp only; omega, hs, hsy, hgr, hg, hpy, rfl, rfl, rfl, rfl, Nat.zero_le _⟩, ?_⟩ (fun z hz => ?_)
    · repeat' (first | (with_reducible exact o_nil) | (with_reducible refine o_cons ?_ ?_) | ((with_reducible refine o_id ?_); (conv => arg 1; whnf); first | (with_reducible exact o_nil) | (with_reducible refine o_cons ?_ ?_)) | rfl | omega | assumption | (simp only [List.length_append, List.length_cons, List.length_nil]; omega) | (have q := rts_pa hr; omega))
    · ((with_reducible refine s_id ?_); (conv => arg 1; whnf); (with_reducible refine s_some ?_); repeat' (first | (with_reducible exact o_nil) | (with_reducible refine o_cons ?_ ?_) | ((with_reducible refine o_id ?_); (conv => arg 1; whnf); first | (with_reducible exact o_nil) | (with_reducible refine o_cons ?_ ?_)) | rfl | omega | assumption | (simp only [List.length_append, List.length_cons, List.length_nil]; omega) | (have q := rts_pa hr; omega) | (simp only [List.nil_append, hga]; done) | (simp only [List.nil_append, hga]; rfl)))
  rotate_left
  all_goals
    obtain ⟨xs, ys, x, y, k⟩ := z
    obtain ⟨hm, h1, h4, hs, hsy, hgr, hg, hp, i1, i2, i3, i4, hk⟩ := hz
    dsimp only at hm h1 h4 hs hsy hgr hg hp i1 i2 i3 i4 hk
    dsimp only
    by_cases hlt : k < xs.length
    · have G : ¬ (timeJ ys y (k : Int)).2 = 0 ∨ ((timeJ xs x (k : Int)).2 = 0 ∧ (timeJ xs x (k : Int)).1 ≤ (timeJ ys y (k : Int)).1) := by
        by_cases e : (timeJ ys y (k : Int)).2 = 0
        · exact .inr (hgr.time (x := x) (y := y) hg (by rw [i1, i3]) hp (by omega) (by omega) e)
        · exact .inl e
      repeat' (first | (((with_reducible refine g_id ?_); (conv => arg 3; whnf)); first | (with_reducible refine g_split lay_ok 400 ?_ ?_ ?_) | (with_reducible refine g_cond lay_ok 400 ?_ ?_ ?_) | (with_reducible refine g_out lay_ok 400 ?_ ?_) | (with_reducible refine g_fin ?_ ?_) | (refine g_call lay_ok 400 ?_ ?_ ?_ (c_time ?_ ?_ ?_ ?_) rfl) | (refine g_draw lay_ok mixed_ok 400 10 [0, 1, 2, 3, 4, 5, 6, 7, 8, 9] rfl (by kernel_rfl) ?_ ?_) | (refine g_draw lay_ok mixed_ok 400 11 [0, 1, 2, 3, 4, 5, 6, 7, 8, 9, 10] rfl (by kernel_rfl) ?_ ?_)) | (((with_reducible refine d_id ?_); (conv => arg 5; whnf)); first | (with_reducible refine d_fin ?_ ?_) | (with_reducible refine d_split lay_ok 400 ?_ ?_ ?_) | (refine d_call lay_ok 400 ?_ ?_ ?_ (c_time ?_ ?_ ?_ ?_) rfl rfl)) | (with_reducible refine q_leave lay_ok 400 ?_) | (with_reducible refine q_ret lay_ok 400 ?_) | (with_reducible exact o_nil) | (with_reducible refine o_cons ?_ ?_) | ((with_reducible refine o_id ?_); (conv => arg 1; whnf); first | (with_reducible exact o_nil) | (with_reducible refine o_cons ?_ ?_)) | (intro h; ((try simp only [Int.toNat_natCast] at h); repeat (first | replace h := of_decide_eq_true h | replace h := of_decide_eq_false h | replace h := not_t h | replace h := not_f h | replace h := eq_of_beq h)); (try (first | contradiction | (exfalso; omega) | exact Bool.noConfusion (h.symm.trans (by assumption) : true = false) | exact Bool.noConfusion (h.symm.trans (by assumption) : false = true) | exact absurd rfl h | exact absurd (by assumption) h | exact absurd h (by assumption)))) | rfl | omega | assumption | (simp only [List.length_append, List.length_cons, List.length_nil]; omega))
      all_goals (refine q_round ⟨(xs, ys, x, y, k + 1), ⟨hm, h1, h4, hs, hsy, hgr, hg, hp, i1, i2, i3, i4, by dsimp only; omega⟩, by dsimp only; omega, ?_⟩; ((with_reducible refine s_id ?_); (conv => arg 1; whnf); (with_reducible refine s_some ?_); repeat' (first | (with_reducible exact o_nil) | (with_reducible refine o_cons ?_ ?_) | ((with_reducible refine o_id ?_); (conv => arg 1; whnf); first | (with_reducible exact o_nil) | (with_reducible refine o_cons ?_ ?_)) | rfl | omega | assumption | (simp only [List.length_append, List.length_cons, List.length_nil]; omega))))
    · have hj : JobM (gt (c := .job) xs (Int.toNat 0)) := made_mem hm (by show 0 < xs.length; omega)
      have TM := alone_time hj
      have CT := c_time [⟨(gt (c := .job) xs (Int.toNat 0)).pd, (gt (c := .job) xs (Int.toNat 0)).dl, (gt (c := .job) xs (Int.toNat 0)).ji, (gt (c := .job) xs (Int.toNat 0)).pr, (gt (c := .job) xs (Int.toNat 0)).co, [], (gt (c := .job) xs (Int.toNat 0)).ev⟩] ⟨0, 0, 0, 0, 0, 0, 9, 7⟩ 0 ⟨by show 1 ≤ 1000; omega, fun q hq => by rw [List.mem_singleton] at hq; subst hq; exact Nat.zero_le _⟩
      have B1 := hj.co
      have B2 := hj.ji
      have B3 := hj.dl
      have B4 := hj.pd
      have B5 := imax_ge 1 (gt (c := .job) xs (Int.toNat 0)).co
      have B6 : imax 1 (gt (c := .job) xs (Int.toNat 0)).co ≤ 25 := imax_le (by omega) (by omega)
      by_cases hle : imax 1 (gt (c := .job) xs (Int.toNat 0)).co ≤ (gt (c := .job) xs (Int.toNat 0)).dl - (gt (c := .job) xs (Int.toNat 0)).ji
      · rw [if_pos hle] at TM
        rw [TM] at CT
        repeat' (first | (((with_reducible refine g_id ?_); (conv => arg 3; whnf)); first | (with_reducible refine g_split lay_ok 400 ?_ ?_ ?_) | (with_reducible refine g_cond lay_ok 400 ?_ ?_ ?_) | (with_reducible refine g_out lay_ok 400 ?_ ?_) | (with_reducible refine g_fin ?_ ?_) | (refine g_call lay_ok 400 ?_ ?_ ?_ (CT) rfl) | (refine g_call lay_ok 400 ?_ ?_ ?_ (c_awake41) rfl) | (refine g_draw lay_ok mixed_ok 400 10 [0, 1, 2, 3, 4, 5, 6, 7, 8, 9] rfl (by kernel_rfl) ?_ ?_) | (refine g_draw lay_ok mixed_ok 400 11 [0, 1, 2, 3, 4, 5, 6, 7, 8, 9, 10] rfl (by kernel_rfl) ?_ ?_)) | (((with_reducible refine d_id ?_); (conv => arg 5; whnf)); first | (with_reducible refine d_fin ?_ ?_) | (with_reducible refine d_split lay_ok 400 ?_ ?_ ?_) | (refine d_call lay_ok 400 ?_ ?_ ?_ (CT) rfl rfl) | (refine d_call lay_ok 400 ?_ ?_ ?_ (c_awake41) rfl rfl)) | (with_reducible refine q_leave lay_ok 400 ?_) | (with_reducible refine q_ret lay_ok 400 ?_) | (with_reducible exact o_nil) | (with_reducible refine o_cons ?_ ?_) | ((with_reducible refine o_id ?_); (conv => arg 1; whnf); first | (with_reducible exact o_nil) | (with_reducible refine o_cons ?_ ?_)) | (intro h; ((try simp only [Int.toNat_natCast] at h); repeat (first | replace h := of_decide_eq_true h | replace h := of_decide_eq_false h | replace h := not_t h | replace h := not_f h | replace h := eq_of_beq h)); (try (first | contradiction | (exfalso; omega) | exact Bool.noConfusion (h.symm.trans (by assumption) : true = false) | exact Bool.noConfusion (h.symm.trans (by assumption) : false = true) | exact absurd rfl h | exact absurd (by assumption) h | exact absurd h (by assumption)))) | rfl | omega | assumption | (simp only [List.length_append, List.length_cons, List.length_nil]; omega))
        all_goals (((with_reducible refine e_id ?_); (conv => whnf)); refine ⟨(), trivial, ?_⟩; ((with_reducible refine s_id ?_); (conv => arg 1; whnf); (with_reducible refine s_some ?_); repeat' (first | (with_reducible exact o_nil) | (with_reducible refine o_cons ?_ ?_) | ((with_reducible refine o_id ?_); (conv => arg 1; whnf); first | (with_reducible exact o_nil) | (with_reducible refine o_cons ?_ ?_)) | rfl | omega | assumption | (simp only [List.length_append, List.length_cons, List.length_nil]; omega))))
      · rw [if_neg hle] at TM
        rw [TM] at CT
        repeat' (first | (((with_reducible refine g_id ?_); (conv => arg 3; whnf)); first | (with_reducible refine g_split lay_ok 400 ?_ ?_ ?_) | (with_reducible refine g_cond lay_ok 400 ?_ ?_ ?_) | (with_reducible refine g_out lay_ok 400 ?_ ?_) | (with_reducible refine g_fin ?_ ?_) | (refine g_call lay_ok 400 ?_ ?_ ?_ (CT) rfl) | (refine g_call lay_ok 400 ?_ ?_ ?_ (c_awake41) rfl) | (refine g_draw lay_ok mixed_ok 400 10 [0, 1, 2, 3, 4, 5, 6, 7, 8, 9] rfl (by kernel_rfl) ?_ ?_) | (refine g_draw lay_ok mixed_ok 400 11 [0, 1, 2, 3, 4, 5, 6, 7, 8, 9, 10] rfl (by kernel_rfl) ?_ ?_)) | (((with_reducible refine d_id ?_); (conv => arg 5; whnf)); first | (with_reducible refine d_fin ?_ ?_) | (with_reducible refine d_split lay_ok 400 ?_ ?_ ?_) | (refine d_call lay_ok 400 ?_ ?_ ?_ (CT) rfl rfl) | (refine d_call lay_ok 400 ?_ ?_ ?_ (c_awake41) rfl rfl)) | (with_reducible refine q_leave lay_ok 400 ?_) | (with_reducible refine q_ret lay_ok 400 ?_) | (with_reducible exact o_nil) | (with_reducible refine o_cons ?_ ?_) | ((with_reducible refine o_id ?_); (conv => arg 1; whnf); first | (with_reducible exact o_nil) | (with_reducible refine o_cons ?_ ?_)) | (intro h; ((try simp only [Int.toNat_natCast] at h); repeat (first | replace h := of_decide_eq_true h | replace h := of_decide_eq_false h | replace h := not_t h | replace h := not_f h | replace h := eq_of_beq h)); (try (first | contradiction | (exfalso; omega) | exact Bool.noConfusion (h.symm.trans (by assumption) : true = false) | exact Bool.noConfusion (h.symm.trans (by assumption) : false = true) | exact absurd rfl h | exact absurd (by assumption) h | exact absurd h (by assumption)))) | rfl | omega | assumption | (simp only [List.length_append, List.length_cons, List.length_nil]; omega))
        all_goals (((with_reducible refine e_id ?_); (conv => whnf)); refine ⟨(), trivial, ?_⟩; ((with_reducible refine s_id ?_); (conv => arg 1; whnf); (with_reducible refine s_some ?_); repeat' (first | (with_reducible exact o_nil) | (with_reducible refine o_cons ?_ ?_) | ((with_reducible refine o_id ?_); (conv => arg 1; whnf); first | (with_reducible exact o_nil) | (with_reducible refine o_cons ?_ ?_)) | rfl | omega | assumption | (simp only [List.length_append, List.length_cons, List.length_nil]; omega))))
end Go.Proofs.Ytjhjhjmdbhackaa
