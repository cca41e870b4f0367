/- Parts of the proof. No condition. -/
import Derived.Test.YtonjbhdfimcedaaQ6
import Derived.ChangeArms
import Derived.Test.YtonjbhdfimcedaaRows
set_option linter.unusedVariables false
set_option linter.unusedSimpArgs false
set_option linter.unusedSectionVars false
namespace Go.Proofs.Ytonjbhdfimcedaa
open Go.RowKit
theorem c_gone (g : Grf) (R : List Bool) (i : Nat) (hR : R.length = g.blks.length) (hi : i < g.blks.length) (hb : g.blks.length ≤ 1048576) (hnl : (gt (c := .block) g.blks i).next.length ≤ 1048576) : Trip Try.prog 70 [.int .i64 (i : Int), .ptr 0 0, .ptr 1 0] ⟨[], [(0, .cells [.sl ⟨2, []⟩]), (1, .cells [.sl ⟨3, []⟩, .int .i64 g.vars, .int .i64 g.keep, .sl ⟨4, []⟩, .int .i64 g.shared, .sl ⟨5, []⟩, .sl ⟨6, []⟩, .sl ⟨7, []⟩]), (2, .list .tmp .bool R), (3, .list .tmp .input g.inp), (4, .list .tmp .array g.arrs), (5, .list .tmp .block g.blks), (6, .list .tmp .ints g.pts), (7, .list .tmp .head g.hds)], 8⟩ (Z := Unit) (fun _ => True) (fun _ => .bool (!kpt R g.blks i)) (fun _ => ⟨[], [(0, .cells [.sl ⟨2, []⟩]), (1, .cells [.sl ⟨3, []⟩, .int .i64 g.vars, .int .i64 g.keep, .sl ⟨4, []⟩, .int .i64 g.shared, .sl ⟨5, []⟩, .sl ⟨6, []⟩, .sl ⟨7, []⟩]), (2, .list .tmp .bool R), (3, .list .tmp .input g.inp), (4, .list .tmp .array g.arrs), (5, .list .tmp .block g.blks), (6, .list .tmp .ints g.pts), (7, .list .tmp .head g.hds)], 8⟩) := by
  cases hk : kpt R g.blks i
  all_goals (unfold kpt at hk)
  · obtain ⟨k1, k2⟩ := Bool.or_eq_false_iff.1 hk
    have k3 := of_decide_eq_false k2
    have k4 : gt (c := .bool) R i = false := k1
    refine trip_by (rs := [_]) 400 lay_ok Try.func70 rfl (by kernel_rfl) Try.ntmps70 Try.results70 rfl rfl ?_
    repeat' (first | (((with_reducible refine g_id ?_); (conv => arg 3; whnf)); first | (with_reducible refine g_split lay_ok 400 ?_ ?_ ?_) | (with_reducible refine g_fin ?_ ?_)) | ((with_reducible refine o_id ?_); (conv => arg 1; whnf); first | (with_reducible exact o_nil) | (with_reducible refine o_cons ?_ ?_)) | (intro h; ((try simp only [Int.toNat_natCast] at h); repeat (first | replace h := not_t h | replace h := not_f h | fail)); (try (first | exact Bool.noConfusion (h.symm.trans (by assumption) : true = false) | fail))) | omega | fail)
    all_goals (((with_reducible refine e_id ?_); (conv => whnf)); refine ⟨(), trivial, ?_⟩; ((with_reducible refine s_id ?_); (conv => arg 1; whnf); (with_reducible refine s_some ?_); repeat' (first | ((with_reducible refine o_id ?_); (conv => arg 1; whnf); first | (with_reducible exact o_nil) | (with_reducible refine o_cons ?_ ?_)) | rfl | (exact (decide_eq_true (by simp only [Int.toNat_natCast]; omega)).symm) | fail)))
  rcases Bool.or_eq_true_iff.1 hk with k1 | k2
  · have k4 : gt (c := .bool) R i = true := k1
    refine trip_by (rs := [_]) 400 lay_ok Try.func70 rfl (by kernel_rfl) Try.ntmps70 Try.results70 rfl rfl ?_
    repeat' (first | (((with_reducible refine g_id ?_); (conv => arg 3; whnf)); first | (with_reducible refine g_split lay_ok 400 ?_ ?_ ?_) | (with_reducible refine g_fin ?_ ?_)) | ((with_reducible refine o_id ?_); (conv => arg 1; whnf); first | (with_reducible exact o_nil) | (with_reducible refine o_cons ?_ ?_)) | (intro h; ((try simp only [Int.toNat_natCast] at h); repeat (first | replace h := not_t h | replace h := not_f h | fail)); (try (first | exact Bool.noConfusion (h.symm.trans (by assumption) : false = true) | fail))) | omega | fail)
    all_goals (((with_reducible refine e_id ?_); (conv => whnf)); refine ⟨(), trivial, ?_⟩; ((with_reducible refine s_id ?_); (conv => arg 1; whnf); (with_reducible refine s_some ?_); repeat' (first | ((with_reducible refine o_id ?_); (conv => arg 1; whnf); first | (with_reducible exact o_nil) | (with_reducible refine o_cons ?_ ?_)) | rfl | fail)))
  have k3 := of_decide_eq_true k2
  refine trip_by (rs := [_]) 400 lay_ok Try.func70 rfl (by kernel_rfl) Try.ntmps70 Try.results70 rfl rfl ?_
  repeat' (first | (((with_reducible refine g_id ?_); (conv => arg 3; whnf)); first | (with_reducible refine g_split lay_ok 400 ?_ ?_ ?_) | (with_reducible refine g_fin ?_ ?_)) | ((with_reducible refine o_id ?_); (conv => arg 1; whnf); first | (with_reducible exact o_nil) | (with_reducible refine o_cons ?_ ?_)) | (intro h; ((try simp only [Int.toNat_natCast] at h); repeat (first | replace h := not_t h | replace h := not_f h | fail)); (try (first | contradiction | fail))) | omega | fail)
  all_goals (((with_reducible refine e_id ?_); (conv => whnf)); refine ⟨(), trivial, ?_⟩; ((with_reducible refine s_id ?_); (conv => arg 1; whnf); (with_reducible refine s_some ?_); repeat' (first | ((with_reducible refine o_id ?_); (conv => arg 1; whnf); first | (with_reducible exact o_nil) | (with_reducible refine o_cons ?_ ?_)) | rfl | (exact (decide_eq_false (by simp only [Int.toNat_natCast]; omega)).symm) | fail)))
theorem ap_row {L : List (List Int)} {i : Nat} {x y : List Int} {v : Int} (hi : i < L.length) (h : x ++ [v] = y) : (L.set i x).set i ((gt (c := .ints) (L.set i x) i : List Int) ++ [v]) = L.set i y := by
  rw [show gt (c := .ints) (L.set i x) i = x from gt_set (c := .ints) hi, List.set_set, h]
attribute [local irreducible] mapTo rnB rnP rnH rnN rowK plT mmT kB cntN kpt
set_option maxHeartbeats 4000000 in
set_option maxRecDepth 4000 in
theorem c_without (g : Grf) (R : List Bool) (hB : Bnd g) (hR : R.length = g.blks.length) (hn : ∀ x ∈ g.blks, x.next.length ≤ 2 ∧ ∀ n ∈ x.next, 0 ≤ n ∧ n < (g.blks.length : Int)) (hp : ∀ x ∈ g.pts, ∀ n ∈ x, 0 ≤ n ∧ n < (g.blks.length : Int)) (hh : ∀ x ∈ g.hds, 0 ≤ x.block ∧ x.block < (g.blks.length : Int)) : Trip Try.prog 69 [.agg [.sl ⟨0, []⟩, .int .i64 g.vars, .int .i64 g.keep, .sl ⟨1, []⟩, .int .i64 g.shared, .sl ⟨2, []⟩, .sl ⟨3, []⟩, .sl ⟨4, []⟩], .clo 70 [.ptr 5 0, .ptr 6 0]] ⟨[], [(0, .list .fz .input g.inp), (1, .list .fz .array g.arrs), (2, .list .fz .block g.blks), (3, .list .fz .ints g.pts), (4, .list .fz .head g.hds), (5, .cells [.sl ⟨7, []⟩]), (6, .cells [.sl ⟨0, []⟩, .int .i64 g.vars, .int .i64 g.keep, .sl ⟨1, []⟩, .int .i64 g.shared, .sl ⟨2, []⟩, .sl ⟨3, []⟩, .sl ⟨4, []⟩]), (7, .list .tmp .bool R)], 8⟩ (Z := Unit) (fun _ => True) (fun _ => .tup [.agg [.sl ⟨8, []⟩, .int .i64 g.vars, .int .i64 g.keep, .sl ⟨9, []⟩, .int .i64 g.shared, .sl ⟨10, []⟩, .sl ⟨11, []⟩, .sl ⟨12, []⟩], .sl ⟨13, []⟩]) (fun _ => ⟨[], [(0, .list .fz .input g.inp), (1, .list .fz .array g.arrs), (2, .list .fz .block g.blks), (3, .list .fz .ints g.pts), (4, .list .fz .head g.hds), (5, .cells [.sl ⟨7, []⟩]), (6, .cells [.sl ⟨0, []⟩, .int .i64 g.vars, .int .i64 g.keep, .sl ⟨1, []⟩, .int .i64 g.shared, .sl ⟨2, []⟩, .sl ⟨3, []⟩, .sl ⟨4, []⟩]), (7, .list .tmp .bool R), (8, .list .own .input g.inp), (9, .list .own .array g.arrs), (10, .list .own .block (rnm g (plT R g.blks g.blks.length)).blks), (11, .list .own .ints (rnm g (plT R g.blks g.blks.length)).pts), (12, .list .own .head (rnm g (plT R g.blks g.blks.length)).hds), (13, .list .own .ints (mmA R g.blks g.blks.length))], 14⟩) := by
  have hB0 := hB
  obtain ⟨h1, h2, h3, h4, h5, h6, h7, h8, h9⟩ := hB
  have hKl : (kB R g.blks g.blks.length).length = cntN R g.blks g.blks.length := kB_len _
  have hcl := cnt_le (R := R) (l := g.blks) g.blks.length
  refine trip_by (rs := [_, _]) 400 lay_ok Try.func69 rfl (by kernel_rfl) Try.ntmps69 Try.results69 rfl rfl ?_
  repeat' (first | (((with_reducible refine g_id ?_); (conv => arg 3; whnf)); first | (refine g_call lay_ok 400 ?_ ?_ ?_ (c_copy ?_ ?_) rfl) | fail) | ((with_reducible refine o_id ?_); (conv => arg 1; whnf); first | (with_reducible exact o_nil) | (with_reducible refine o_cons ?_ ?_)) | (intro h; ((try simp only [Int.toNat_natCast] at h); repeat (first | replace h := of_decide_eq_true h | fail)); (try (first | contradiction | fail))) | rfl | omega | fail)
  ((with_reducible refine g_id ?_); (conv => arg 3; whnf))
  refine g_loop lay_ok 400 (Z := Nat) (fun z => z ≤ g.blks.length) (fun z => ⟨[(1, .clo 70 [.ptr 5 0, .ptr 6 0]), (2, .ptr 8 0), (4, .ptr 9 0), (6, .ptr 15 0), (7, .sl ⟨16, []⟩), (8, .sl ⟨17, []⟩), (32, .sl ⟨2, []⟩), (33, .int .i64 (g.blks.length : Int)), (34, .int .i64 (z : Int))], [(0, .list .fz .input g.inp), (1, .list .fz .array g.arrs), (2, .list .fz .block g.blks), (3, .list .fz .ints g.pts), (4, .list .fz .head g.hds), (5, .cells [.sl ⟨7, []⟩]), (6, .cells [.sl ⟨0, []⟩, .int .i64 g.vars, .int .i64 g.keep, .sl ⟨1, []⟩, .int .i64 g.shared, .sl ⟨2, []⟩, .sl ⟨3, []⟩, .sl ⟨4, []⟩]), (7, .list .tmp .bool R), (8, .cells [.sl ⟨0, []⟩, .int .i64 g.vars, .int .i64 g.keep, .sl ⟨1, []⟩, .int .i64 g.shared, .sl ⟨2, []⟩, .sl ⟨3, []⟩, .sl ⟨4, []⟩]), (9, .cells [.val (.slice none 0 0), .int .i64 0, .int .i64 0, .val (.slice none 0 0), .int .i64 0, .val (.slice none 0 0), .val (.slice none 0 0), .val (.slice none 0 0)]), (10, .list .own .input g.inp), (11, .list .own .array g.arrs), (12, .list .own .block (kB R g.blks z)), (13, .list .own .ints (g.pts)), (14, .list .own .head (g.hds)), (15, .cells [.sl ⟨10, []⟩, .int .i64 g.vars, .int .i64 g.keep, .sl ⟨11, []⟩, .int .i64 g.shared, .sl ⟨12, []⟩, .sl ⟨13, []⟩, .sl ⟨14, []⟩]), (16, .list .own .int (plT R g.blks z)), (17, .list .own .ints (mmT R g.blks z))], 18⟩) (fun z => g.blks.length - z) ?_ ⟨0, Nat.zero_le _, ?_⟩ (fun z hz => ?_)
  · repeat' (first | ((with_reducible refine o_id ?_); (conv => arg 1; whnf); first | (with_reducible exact o_nil) | (with_reducible refine o_cons ?_ ?_)) | rfl | omega | fail)
  · ((with_reducible refine s_id ?_); (conv => arg 1; whnf); (with_reducible refine s_some ?_); repeat' (first | ((with_reducible refine o_id ?_); (conv => arg 1; whnf); first | (with_reducible exact o_nil) | (with_reducible refine o_cons ?_ ?_)) | rfl | (exact plT_0) | (exact mmT_0) | (exact kB_0) | fail))
  have hrl := kB_len (R := R) (l := g.blks) z
  have hcz := cnt_le (R := R) (l := g.blks) z
  have hpl := plT_len (R := R) hz
  have hml := mmT_len (R := R) hz
  by_cases hlt : z < g.blks.length
  · have hnl := h8 _ (mem_gt (c := .block) hlt)
    have hol := h7 _ (mem_gt (c := .block) hlt)
    have hnx := (hn _ (mem_gt (c := .block) hlt)).1
    have C1 := c_gone g R z hR hlt h3 hnl
    cases hk : kpt R g.blks z
    · rw [hk] at C1
      repeat' (first | (((with_reducible refine g_id ?_); (conv => arg 3; whnf)); first | (with_reducible refine g_cond lay_ok 400 ?_ ?_ ?_) | (with_reducible refine g_fin ?_ ?_) | (refine g_call lay_ok 400 ?_ ?_ ?_ (C1) rfl) | fail) | ((with_reducible refine o_id ?_); (conv => arg 1; whnf); first | (with_reducible exact o_nil) | (with_reducible refine o_cons ?_ ?_)) | (intro h; ((try simp only [Int.toNat_natCast] at h); repeat (first | replace h := of_decide_eq_true h | replace h := of_decide_eq_false h | replace h := not_t h | replace h := not_f h | fail)); (try (first | contradiction | (exfalso; omega) | fail))) | rfl | omega | fail)
      all_goals (refine q_round ⟨z + 1, by omega, by omega, ?_⟩; ((with_reducible refine s_id ?_); (conv => arg 1; whnf); (with_reducible refine s_some ?_); repeat' (first | ((with_reducible refine o_id ?_); (conv => arg 1; whnf); first | (with_reducible exact o_nil) | (with_reducible refine o_cons ?_ ?_)) | rfl | (exact (kB_n hk)) | (exact (plT_n hlt hk).symm) | (exact (mmT_n hlt hk).symm) | fail)))
    rw [hk] at C1
    repeat' (first | (((with_reducible refine g_id ?_); (conv => arg 3; whnf)); first | (with_reducible refine g_cond lay_ok 400 ?_ ?_ ?_) | (with_reducible refine g_fin ?_ ?_) | (refine g_call lay_ok 400 ?_ ?_ ?_ (C1) rfl) | (refine g_call lay_ok 400 ?_ ?_ ?_ (c_cln_op ?_ ?_) rfl) | (refine g_call lay_ok 400 ?_ ?_ ?_ (c_cln_int ?_ ?_) rfl) | (refine g_storeL lay_ok 400 ?_ rfl rfl ?_ ?_) | (refine g_ownT lay_ok 400 .int ?_ rfl rfl ?_ ?_) | (refine g_flow 12 lay_ok mixed_ok 400 23056 [0, 1, 0, 4, 12, 0, 32, 0, 128, 412, 1020, 2044, 4095, 8191, 16383] (.q 0 (.q 1 (.q 2 (.q 3 (.q 5 (.q 6 (.q 7 (.q 8 (.e 4 [0, 1, 5, 6, 7, 8] (.e 9 [0, 1, 5, 6] (.q 10 (.e 11 [0, 1] (.e 12 [] (.q 13 (.e 14 [] (.fin) .stop)) .stop) .stop)) .stop) .stop))))))))) (by kernel_rfl) ?_ ?_) | fail) | (((with_reducible refine w_id ?_); (conv => arg 4; whnf)); first | (with_reducible refine w_fin ?_ ?_) | (with_reducible refine w_tt ?_) | (with_reducible refine w_eff lay_ok 400 ?_ rfl rfl ?_ ?_)) | (with_reducible refine q_flow ?_ ?_) | ((with_reducible refine h_id ?_); (conv => arg 1; whnf); (with_reducible refine s_some ?_)) | (with_reducible exact o_nil) | (with_reducible refine o_cons ?_ ?_) | ((with_reducible refine o_id ?_); (conv => arg 1; whnf); first | (with_reducible exact o_nil) | (with_reducible refine o_cons ?_ ?_)) | (intro h; ((try simp only [Int.toNat_natCast] at h); repeat (first | replace h := of_decide_eq_true h | replace h := of_decide_eq_false h | replace h := not_t h | replace h := not_f h | fail)); (try (first | contradiction | (exfalso; omega) | fail))) | rfl | omega | assumption | (simp only [List.length_append, List.length_cons, List.length_nil]; omega) | (rw [List.length_set, hpl]; omega) | (simp only [List.length_nil, List.length_cons, List.length_append, List.length_take, List.length_set, Int.toNat_natCast, Nat.zero_add]; omega))
    all_goals (refine q_round ⟨z + 1, by omega, by omega, ?_⟩; ((with_reducible refine s_id ?_); (conv => arg 1; whnf); (with_reducible refine s_some ?_); repeat' (first | ((with_reducible refine o_id ?_); (conv => arg 1; whnf); first | (with_reducible exact o_nil) | (with_reducible refine o_cons ?_ ?_)) | rfl | (exact (kB_snoc hk).symm) | (exact (plT_y hlt hk (by rw [hrl])).symm) | (exact (mmT_y hlt hk (by rw [gt_set (c := .int) (by rw [List.length_set, hpl]; exact hlt), hrl])).symm) | fail)))
  have e : z = g.blks.length := by omega
  subst e
  have htl := plT_len (R := R) (Nat.le_refl g.blks.length)
  generalize hK : (kB R g.blks g.blks.length) = K at *
  generalize hTT : (plT R g.blks g.blks.length) = tt at *
  repeat' (first | (((with_reducible refine g_id ?_); (conv => arg 3; whnf)); first | (with_reducible refine g_cond lay_ok 400 ?_ ?_ ?_) | (with_reducible refine g_fin ?_ ?_) | fail) | (with_reducible refine q_leave lay_ok 400 ?_) | (with_reducible exact o_nil) | ((with_reducible refine o_id ?_); (conv => arg 1; whnf); first | (with_reducible exact o_nil) | fail) | (intro h; ((try simp only [Int.toNat_natCast] at h); repeat (first | replace h := of_decide_eq_true h | replace h := of_decide_eq_false h | fail)); (try (first | (exfalso; omega) | fail))) | fail)
  ((with_reducible refine g_id ?_); (conv => arg 3; whnf))
  refine g_loop lay_ok 400 (Z := Nat) (fun z => z ≤ K.length) (fun z => ⟨[(1, .clo 70 [.ptr 5 0, .ptr 6 0]), (2, .ptr 8 0), (4, .ptr 9 0), (6, .ptr 15 0), (7, .sl ⟨16, []⟩), (8, .sl ⟨17, []⟩), (77, .int .i64 (K.length : Int)), (78, .int .i64 (z : Int))], [(0, .list .fz .input g.inp), (1, .list .fz .array g.arrs), (2, .list .fz .block g.blks), (3, .list .fz .ints g.pts), (4, .list .fz .head g.hds), (5, .cells [.sl ⟨7, []⟩]), (6, .cells [.sl ⟨0, []⟩, .int .i64 g.vars, .int .i64 g.keep, .sl ⟨1, []⟩, .int .i64 g.shared, .sl ⟨2, []⟩, .sl ⟨3, []⟩, .sl ⟨4, []⟩]), (7, .list .tmp .bool R), (8, .cells [.sl ⟨0, []⟩, .int .i64 g.vars, .int .i64 g.keep, .sl ⟨1, []⟩, .int .i64 g.shared, .sl ⟨2, []⟩, .sl ⟨3, []⟩, .sl ⟨4, []⟩]), (9, .cells [.val (.slice none 0 0), .int .i64 0, .int .i64 0, .val (.slice none 0 0), .int .i64 0, .val (.slice none 0 0), .val (.slice none 0 0), .val (.slice none 0 0)]), (10, .list .own .input g.inp), (11, .list .own .array g.arrs), (12, .list .own .block (mapTo (c := .block) (tB tt) K z)), (13, .list .own .ints (g.pts)), (14, .list .own .head (g.hds)), (15, .cells [.sl ⟨10, []⟩, .int .i64 g.vars, .int .i64 g.keep, .sl ⟨11, []⟩, .int .i64 g.shared, .sl ⟨12, []⟩, .sl ⟨13, []⟩, .sl ⟨14, []⟩]), (16, .list .own .int (tt)), (17, .list .own .ints (mmT R g.blks g.blks.length))], 18⟩) (fun z => K.length - z) ?_ ⟨0, Nat.zero_le _, ?_⟩ (fun i hi => ?_)
  · repeat' (first | ((with_reducible refine o_id ?_); (conv => arg 1; whnf); first | (with_reducible exact o_nil) | fail) | fail)
  · ((with_reducible refine s_id ?_); (conv => arg 1; whnf); (with_reducible refine s_some ?_); repeat' (first | ((with_reducible refine o_id ?_); (conv => arg 1; whnf); first | (with_reducible exact o_nil) | (with_reducible refine o_cons ?_ ?_)) | rfl | (exact mapTo_zero (c := .block)) | fail))
  have hm := mapTo_len (c := .block) (f := tB tt) (l := K) (i := i)
  by_cases hlt : i < K.length
  · have hxm : gt (c := .block) K i ∈ g.blks := kB_mem (R := R) (Nat.le_refl _) (by rw [hK]; exact mem_gt (c := .block) hlt)
    obtain ⟨n2, hnn⟩ := hn _ hxm
    have hgi := gt_mapTo (c := .block) (f := tB tt) hlt
    repeat' (first | (((with_reducible refine g_id ?_); (conv => arg 3; whnf)); first | (with_reducible refine g_cond lay_ok 400 ?_ ?_ ?_) | fail) | ((with_reducible refine o_id ?_); (conv => arg 1; whnf); first | (with_reducible exact o_nil) | fail) | (intro h; ((try simp only [Int.toNat_natCast] at h); repeat (first | replace h := of_decide_eq_true h | replace h := of_decide_eq_false h | fail)); (try (first | (exfalso; omega) | fail))) | fail)
    ((with_reducible refine g_id ?_); (conv => arg 3; whnf))
    refine g_loop lay_ok 400 (Z := Nat) (fun z => z ≤ (gt (c := .block) K i).next.length) (fun z => ⟨[(1, .clo 70 [.ptr 5 0, .ptr 6 0]), (2, .ptr 8 0), (4, .ptr 9 0), (6, .ptr 15 0), (7, .sl ⟨16, []⟩), (8, .sl ⟨17, []⟩), (11, .int .i64 (i : Int)), (77, .int .i64 (K.length : Int)), (78, .int .i64 (i : Int)), (86, .sl ⟨12, [(i, 2)]⟩), (87, .int .i64 ((gt (c := .block) K i).next.length : Int)), (88, .int .i64 (z : Int))], [(0, .list .fz .input g.inp), (1, .list .fz .array g.arrs), (2, .list .fz .block g.blks), (3, .list .fz .ints g.pts), (4, .list .fz .head g.hds), (5, .cells [.sl ⟨7, []⟩]), (6, .cells [.sl ⟨0, []⟩, .int .i64 g.vars, .int .i64 g.keep, .sl ⟨1, []⟩, .int .i64 g.shared, .sl ⟨2, []⟩, .sl ⟨3, []⟩, .sl ⟨4, []⟩]), (7, .list .tmp .bool R), (8, .cells [.sl ⟨0, []⟩, .int .i64 g.vars, .int .i64 g.keep, .sl ⟨1, []⟩, .int .i64 g.shared, .sl ⟨2, []⟩, .sl ⟨3, []⟩, .sl ⟨4, []⟩]), (9, .cells [.val (.slice none 0 0), .int .i64 0, .int .i64 0, .val (.slice none 0 0), .int .i64 0, .val (.slice none 0 0), .val (.slice none 0 0), .val (.slice none 0 0)]), (10, .list .own .input g.inp), (11, .list .own .array g.arrs), (12, .list .own .block (rowK tt K i z)), (13, .list .own .ints (g.pts)), (14, .list .own .head (g.hds)), (15, .cells [.sl ⟨10, []⟩, .int .i64 g.vars, .int .i64 g.keep, .sl ⟨11, []⟩, .int .i64 g.shared, .sl ⟨12, []⟩, .sl ⟨13, []⟩, .sl ⟨14, []⟩]), (16, .list .own .int (tt)), (17, .list .own .ints (mmT R g.blks g.blks.length))], 18⟩) (fun z => (gt (c := .block) K i).next.length - z) ?_ ⟨0, Nat.zero_le _, ?_⟩ (fun z hz => ?_)
    · repeat' (first | ((with_reducible refine o_id ?_); (conv => arg 1; whnf); first | (with_reducible exact o_nil) | (with_reducible refine o_cons ?_ ?_)) | omega | fail)
    · ((with_reducible refine s_id ?_); (conv => arg 1; whnf); (with_reducible refine s_some ?_); repeat' (first | ((with_reducible refine o_id ?_); (conv => arg 1; whnf); first | (with_reducible exact o_nil) | (with_reducible refine o_cons ?_ ?_)) | rfl | (exact rowK_zero hlt) | (simp only [Int.toNat_natCast, hgi]) | fail))
    have hr := rowK_len (tt := tt) (L := K) (i := i) (z := z)
    have hra := rowK_at (tt := tt) (z := z) hlt
    have hml2 := mapTo_len (c := .int) (f := tI tt) (l := (gt (c := .block) K i).next) (i := z)
    by_cases hk : z < (gt (c := .block) K i).next.length
    · have hgz := gt_mapTo (c := .int) (f := tI tt) hk
      have hv := hnn _ (mem_gt (c := .int) hk)
      have hval : gt (c := .int) (gt (c := .block) (rowK tt K i z) i).next z = gt (c := .int) (gt (c := .block) K i).next z := by rw [hra]; exact hgz
      have hrn : (gt (c := .block) (rowK tt K i z) i).next.length = (gt (c := .block) K i).next.length := by rw [hra]; exact hml2
      repeat' (first | (((with_reducible refine g_id ?_); (conv => arg 3; whnf)); first | (with_reducible refine g_cond lay_ok 400 ?_ ?_ ?_) | (with_reducible refine g_fin ?_ ?_) | (refine g_flow 20 lay_ok mixed_ok 400 4096 [0, 1, 0, 7, 15, 31, 0, 0, 0, 384, 896, 2047, 4095] (.q 0 (.q 1 (.q 2 (.q 3 (.q 4 (.q 5 (.q 6 (.q 7 (.q 8 (.q 9 (.q 10 (.q 11 (.e 12 [] (.fin) .stop))))))))))))) (by kernel_rfl) ?_ ?_) | fail) | (((with_reducible refine w_id ?_); (conv => arg 4; whnf)); first | (with_reducible refine w_fin ?_ ?_) | (with_reducible refine w_tt ?_) | (with_reducible refine w_eff lay_ok 400 ?_ rfl rfl ?_ ?_)) | (with_reducible refine q_flow ?_ ?_) | ((with_reducible refine h_id ?_); (conv => arg 1; whnf); (with_reducible refine s_some ?_)) | (with_reducible exact o_nil) | ((with_reducible refine o_id ?_); (conv => arg 1; whnf); first | (with_reducible exact o_nil) | (with_reducible refine o_cons ?_ ?_)) | (intro h; ((try simp only [Int.toNat_natCast] at h); repeat (first | replace h := of_decide_eq_true h | replace h := of_decide_eq_false h | fail)); (try (first | (exfalso; omega) | fail))) | omega | (simp only [Int.toNat_natCast, hval, htl]; omega) | fail)
      all_goals (refine q_round ⟨z + 1, by omega, by omega, ?_⟩; ((with_reducible refine s_id ?_); (conv => arg 1; whnf); (with_reducible refine s_some ?_); repeat' (first | ((with_reducible refine o_id ?_); (conv => arg 1; whnf); first | (with_reducible exact o_nil) | (with_reducible refine o_cons ?_ ?_)) | rfl | (exact (rowK_s hlt hk (by simp only [Int.toNat_natCast]; rw [hval]; rfl)).symm) | fail)))
    have e : z = (gt (c := .block) K i).next.length := by omega
    subst e
    repeat' (first | (((with_reducible refine g_id ?_); (conv => arg 3; whnf)); first | (with_reducible refine g_cond lay_ok 400 ?_ ?_ ?_) | (with_reducible refine g_fin ?_ ?_) | fail) | (with_reducible refine q_leave lay_ok 400 ?_) | (with_reducible exact o_nil) | ((with_reducible refine o_id ?_); (conv => arg 1; whnf); first | (with_reducible exact o_nil) | (with_reducible refine o_cons ?_ ?_)) | (intro h; ((try simp only [Int.toNat_natCast] at h); repeat (first | replace h := of_decide_eq_true h | replace h := of_decide_eq_false h | fail)); (try (first | (exfalso; omega) | fail))) | omega | fail)
    all_goals (refine q_round ⟨i + 1, by omega, by omega, ?_⟩; ((with_reducible refine s_id ?_); (conv => arg 1; whnf); (with_reducible refine s_some ?_); repeat' (first | ((with_reducible refine o_id ?_); (conv => arg 1; whnf); first | (with_reducible exact o_nil) | (with_reducible refine o_cons ?_ ?_)) | rfl | (exact (rowK_full hlt).symm) | fail)))
  have e : i = K.length := by omega
  subst e
  repeat' (first | (((with_reducible refine g_id ?_); (conv => arg 3; whnf)); first | (with_reducible refine g_cond lay_ok 400 ?_ ?_ ?_) | (with_reducible refine g_fin ?_ ?_) | fail) | (with_reducible refine q_leave lay_ok 400 ?_) | (with_reducible exact o_nil) | ((with_reducible refine o_id ?_); (conv => arg 1; whnf); first | (with_reducible exact o_nil) | fail) | (intro h; ((try simp only [Int.toNat_natCast] at h); repeat (first | replace h := of_decide_eq_true h | replace h := of_decide_eq_false h | fail)); (try (first | (exfalso; omega) | fail))) | fail)
  ((with_reducible refine g_id ?_); (conv => arg 3; whnf))
  refine g_loop lay_ok 400 (Z := Nat) (fun z => z ≤ g.pts.length) (fun z => ⟨[(1, .clo 70 [.ptr 5 0, .ptr 6 0]), (2, .ptr 8 0), (4, .ptr 9 0), (6, .ptr 15 0), (7, .sl ⟨16, []⟩), (8, .sl ⟨17, []⟩), (108, .sl ⟨3, []⟩), (109, .int .i64 (g.pts.length : Int)), (110, .int .i64 (z : Int))], [(0, .list .fz .input g.inp), (1, .list .fz .array g.arrs), (2, .list .fz .block g.blks), (3, .list .fz .ints g.pts), (4, .list .fz .head g.hds), (5, .cells [.sl ⟨7, []⟩]), (6, .cells [.sl ⟨0, []⟩, .int .i64 g.vars, .int .i64 g.keep, .sl ⟨1, []⟩, .int .i64 g.shared, .sl ⟨2, []⟩, .sl ⟨3, []⟩, .sl ⟨4, []⟩]), (7, .list .tmp .bool R), (8, .cells [.sl ⟨0, []⟩, .int .i64 g.vars, .int .i64 g.keep, .sl ⟨1, []⟩, .int .i64 g.shared, .sl ⟨2, []⟩, .sl ⟨3, []⟩, .sl ⟨4, []⟩]), (9, .cells [.val (.slice none 0 0), .int .i64 0, .int .i64 0, .val (.slice none 0 0), .int .i64 0, .val (.slice none 0 0), .val (.slice none 0 0), .val (.slice none 0 0)]), (10, .list .own .input g.inp), (11, .list .own .array g.arrs), (12, .list .own .block (mapTo (c := .block) (tB tt) K K.length)), (13, .list .own .ints (mapTo (c := .ints) (tP tt) g.pts z)), (14, .list .own .head (g.hds)), (15, .cells [.sl ⟨10, []⟩, .int .i64 g.vars, .int .i64 g.keep, .sl ⟨11, []⟩, .int .i64 g.shared, .sl ⟨12, []⟩, .sl ⟨13, []⟩, .sl ⟨14, []⟩]), (16, .list .own .int (tt)), (17, .list .own .ints (mmT R g.blks g.blks.length))], 18⟩) (fun z => g.pts.length - z) ?_ ⟨0, Nat.zero_le _, ?_⟩ (fun i hi2 => ?_)
  · repeat' (first | ((with_reducible refine o_id ?_); (conv => arg 1; whnf); first | (with_reducible exact o_nil) | fail) | fail)
  · ((with_reducible refine s_id ?_); (conv => arg 1; whnf); (with_reducible refine s_some ?_); repeat' (first | ((with_reducible refine o_id ?_); (conv => arg 1; whnf); first | (with_reducible exact o_nil) | (with_reducible refine o_cons ?_ ?_)) | rfl | (exact mapTo_zero (c := .ints)) | fail))
  have hm2 := mapTo_len (c := .ints) (f := tP tt) (l := g.pts) (i := i)
  by_cases hlt2 : i < g.pts.length
  · have hpl2 := h9 _ (mem_gt (c := .ints) hlt2)
    have hpp := hp _ (mem_gt (c := .ints) hlt2)
    repeat' (first | (((with_reducible refine g_id ?_); (conv => arg 3; whnf)); first | (with_reducible refine g_cond lay_ok 400 ?_ ?_ ?_) | (refine g_storeL lay_ok 400 ?_ rfl rfl ?_ ?_) | fail) | (with_reducible refine o_cons ?_ ?_) | ((with_reducible refine o_id ?_); (conv => arg 1; whnf); first | (with_reducible exact o_nil) | (with_reducible refine o_cons ?_ ?_)) | (intro h; ((try simp only [Int.toNat_natCast] at h); repeat (first | replace h := of_decide_eq_true h | replace h := of_decide_eq_false h | fail)); (try (first | (exfalso; omega) | fail))) | omega | fail)
    ((with_reducible refine g_id ?_); (conv => arg 3; whnf))
    refine g_loop lay_ok 400 (Z := Nat) (fun z => z ≤ (gt (c := .ints) g.pts i : List Int).length) (fun z => ⟨[(1, .clo 70 [.ptr 5 0, .ptr 6 0]), (2, .ptr 8 0), (4, .ptr 9 0), (6, .ptr 15 0), (7, .sl ⟨16, []⟩), (8, .sl ⟨17, []⟩), (14, .int .i64 (i : Int)), (108, .sl ⟨3, []⟩), (109, .int .i64 (g.pts.length : Int)), (110, .int .i64 (i : Int)), (119, .sl ⟨3, [(i, 0)]⟩), (120, .int .i64 ((gt (c := .ints) g.pts i : List Int).length : Int)), (121, .int .i64 (z : Int))], [(0, .list .fz .input g.inp), (1, .list .fz .array g.arrs), (2, .list .fz .block g.blks), (3, .list .fz .ints g.pts), (4, .list .fz .head g.hds), (5, .cells [.sl ⟨7, []⟩]), (6, .cells [.sl ⟨0, []⟩, .int .i64 g.vars, .int .i64 g.keep, .sl ⟨1, []⟩, .int .i64 g.shared, .sl ⟨2, []⟩, .sl ⟨3, []⟩, .sl ⟨4, []⟩]), (7, .list .tmp .bool R), (8, .cells [.sl ⟨0, []⟩, .int .i64 g.vars, .int .i64 g.keep, .sl ⟨1, []⟩, .int .i64 g.shared, .sl ⟨2, []⟩, .sl ⟨3, []⟩, .sl ⟨4, []⟩]), (9, .cells [.val (.slice none 0 0), .int .i64 0, .int .i64 0, .val (.slice none 0 0), .int .i64 0, .val (.slice none 0 0), .val (.slice none 0 0), .val (.slice none 0 0)]), (10, .list .own .input g.inp), (11, .list .own .array g.arrs), (12, .list .own .block (mapTo (c := .block) (tB tt) K K.length)), (13, .list .own .ints ((mapTo (c := .ints) (tP tt) g.pts i).set i (rnP tt (gt (c := .ints) g.pts i) z))), (14, .list .own .head (g.hds)), (15, .cells [.sl ⟨10, []⟩, .int .i64 g.vars, .int .i64 g.keep, .sl ⟨11, []⟩, .int .i64 g.shared, .sl ⟨12, []⟩, .sl ⟨13, []⟩, .sl ⟨14, []⟩]), (16, .list .own .int (tt)), (17, .list .own .ints (mmT R g.blks g.blks.length))], 18⟩) (fun z => (gt (c := .ints) g.pts i : List Int).length - z) ?_ ⟨0, Nat.zero_le _, ?_⟩ (fun z hz => ?_)
    · repeat' (first | ((with_reducible refine o_id ?_); (conv => arg 1; whnf); first | (with_reducible exact o_nil) | (with_reducible refine o_cons ?_ ?_)) | omega | fail)
    · ((with_reducible refine s_id ?_); (conv => arg 1; whnf); (with_reducible refine s_some ?_); repeat' (first | ((with_reducible refine o_id ?_); (conv => arg 1; whnf); first | (with_reducible exact o_nil) | (with_reducible refine o_cons ?_ ?_)) | rfl | (exact congrArg _ rnP_zero) | fail))
    have hzl := rnP_len (tt := tt) (l := gt (c := .ints) g.pts i) (z := z)
    have hil : i < (mapTo (c := .ints) (tP tt) g.pts i).length := by rw [hm2]; exact hlt2
    have hgx : gt (c := .ints) ((mapTo (c := .ints) (tP tt) g.pts i).set i (rnP tt (gt (c := .ints) g.pts i) z)) i = rnP tt (gt (c := .ints) g.pts i) z := gt_set (c := .ints) hil
    by_cases hk2 : z < (gt (c := .ints) g.pts i : List Int).length
    · have hv := hpp _ (mem_gt (c := .int) hk2)
      repeat' (first | (((with_reducible refine g_id ?_); (conv => arg 3; whnf)); first | (with_reducible refine g_cond lay_ok 400 ?_ ?_ ?_) | (with_reducible refine g_fin ?_ ?_) | (refine g_drawL lay_ok mixed_ok 400 13 [0, 1, 2, 3, 4, 5, 6, 7, 8, 9, 10, 11, 12] [0, 1, 2] 16 rfl (by kernel_rfl) (by kernel_rfl) ?_ ?_) | fail) | (((with_reducible refine d_id ?_); (conv => arg 5; whnf)); first | (with_reducible refine d_fin ?_ ?_) | fail) | (with_reducible exact o_nil) | (with_reducible refine o_cons ?_ ?_) | ((with_reducible refine o_id ?_); (conv => arg 1; whnf); first | (with_reducible exact o_nil) | (with_reducible refine o_cons ?_ ?_)) | (intro h; ((try simp only [Int.toNat_natCast] at h); repeat (first | replace h := of_decide_eq_true h | replace h := of_decide_eq_false h | fail)); (try (first | (exfalso; omega) | fail))) | rfl | omega | (simp only [Int.toNat_natCast, hgx, List.length_cons, List.length_nil]; omega) | (rw [List.length_set, hm2]; omega) | (refine g_late rfl rfl rfl ?_ rfl rfl ?_ ?_))
      all_goals (refine q_round ⟨z + 1, by omega, by omega, ?_⟩; ((with_reducible refine s_id ?_); (conv => arg 1; whnf); (with_reducible refine s_some ?_); repeat' (first | ((with_reducible refine o_id ?_); (conv => arg 1; whnf); first | (with_reducible exact o_nil) | (with_reducible refine o_cons ?_ ?_)) | rfl | (exact (ap_row hil (rnP_yes hk2 (by assumption))).symm) | (exact (congrArg _ (rnP_no hk2 (by assumption))).symm) | fail)))
    have e : z = (gt (c := .ints) g.pts i : List Int).length := by omega
    subst e
    repeat' (first | (((with_reducible refine g_id ?_); (conv => arg 3; whnf)); first | (with_reducible refine g_cond lay_ok 400 ?_ ?_ ?_) | (with_reducible refine g_fin ?_ ?_) | fail) | (with_reducible refine q_leave lay_ok 400 ?_) | (with_reducible exact o_nil) | ((with_reducible refine o_id ?_); (conv => arg 1; whnf); first | (with_reducible exact o_nil) | (with_reducible refine o_cons ?_ ?_)) | (intro h; ((try simp only [Int.toNat_natCast] at h); repeat (first | replace h := of_decide_eq_true h | replace h := of_decide_eq_false h | fail)); (try (first | (exfalso; omega) | fail))) | omega | fail)
    all_goals (refine q_round ⟨i + 1, by omega, by omega, ?_⟩; ((with_reducible refine s_id ?_); (conv => arg 1; whnf); (with_reducible refine s_some ?_); repeat' (first | ((with_reducible refine o_id ?_); (conv => arg 1; whnf); first | (with_reducible exact o_nil) | (with_reducible refine o_cons ?_ ?_)) | rfl | (rw [rnP_full]; exact (mapTo_set (c := .ints) hlt2).symm) | fail)))
  have e : i = g.pts.length := by omega
  subst e
  repeat' (first | (((with_reducible refine g_id ?_); (conv => arg 3; whnf)); first | (with_reducible refine g_cond lay_ok 400 ?_ ?_ ?_) | (with_reducible refine g_fin ?_ ?_) | fail) | (with_reducible refine q_leave lay_ok 400 ?_) | (with_reducible exact o_nil) | ((with_reducible refine o_id ?_); (conv => arg 1; whnf); first | (with_reducible exact o_nil) | fail) | (intro h; ((try simp only [Int.toNat_natCast] at h); repeat (first | replace h := of_decide_eq_true h | replace h := of_decide_eq_false h | fail)); (try (first | (exfalso; omega) | fail))) | fail)
  ((with_reducible refine g_id ?_); (conv => arg 3; whnf))
  refine g_loop lay_ok 400 (Z := Nat) (fun z => z ≤ g.hds.length) (fun z => ⟨[(1, .clo 70 [.ptr 5 0, .ptr 6 0]), (2, .ptr 8 0), (4, .ptr 9 0), (6, .ptr 15 0), (7, .sl ⟨16, []⟩), (8, .sl ⟨17, []⟩), (149, .sl ⟨4, []⟩), (150, .int .i64 (g.hds.length : Int)), (151, .int .i64 (z : Int))], [(0, .list .fz .input g.inp), (1, .list .fz .array g.arrs), (2, .list .fz .block g.blks), (3, .list .fz .ints g.pts), (4, .list .fz .head g.hds), (5, .cells [.sl ⟨7, []⟩]), (6, .cells [.sl ⟨0, []⟩, .int .i64 g.vars, .int .i64 g.keep, .sl ⟨1, []⟩, .int .i64 g.shared, .sl ⟨2, []⟩, .sl ⟨3, []⟩, .sl ⟨4, []⟩]), (7, .list .tmp .bool R), (8, .cells [.sl ⟨0, []⟩, .int .i64 g.vars, .int .i64 g.keep, .sl ⟨1, []⟩, .int .i64 g.shared, .sl ⟨2, []⟩, .sl ⟨3, []⟩, .sl ⟨4, []⟩]), (9, .cells [.val (.slice none 0 0), .int .i64 0, .int .i64 0, .val (.slice none 0 0), .int .i64 0, .val (.slice none 0 0), .val (.slice none 0 0), .val (.slice none 0 0)]), (10, .list .own .input g.inp), (11, .list .own .array g.arrs), (12, .list .own .block (mapTo (c := .block) (tB tt) K K.length)), (13, .list .own .ints (mapTo (c := .ints) (tP tt) g.pts g.pts.length)), (14, .list .own .head (rnH tt g.hds z)), (15, .cells [.sl ⟨10, []⟩, .int .i64 g.vars, .int .i64 g.keep, .sl ⟨11, []⟩, .int .i64 g.shared, .sl ⟨12, []⟩, .sl ⟨13, []⟩, .sl ⟨14, []⟩]), (16, .list .own .int (tt)), (17, .list .own .ints (mmT R g.blks g.blks.length))], 18⟩) (fun z => g.hds.length - z) ?_ ⟨0, Nat.zero_le _, ?_⟩ (fun z hz => ?_)
  · repeat' (first | ((with_reducible refine o_id ?_); (conv => arg 1; whnf); first | (with_reducible exact o_nil) | fail) | fail)
  · ((with_reducible refine s_id ?_); (conv => arg 1; whnf); (with_reducible refine s_some ?_); repeat' (first | ((with_reducible refine o_id ?_); (conv => arg 1; whnf); first | (with_reducible exact o_nil) | (with_reducible refine o_cons ?_ ?_)) | rfl | (exact rnH_zero) | fail))
  have hzl := rnH_len (tt := tt) (l := g.hds) (z := z)
  by_cases hk : z < g.hds.length
  · have hv := hh _ (mem_gt (c := .head) hk)
    repeat' (first | (((with_reducible refine g_id ?_); (conv => arg 3; whnf)); first | (with_reducible refine g_cond lay_ok 400 ?_ ?_ ?_) | (with_reducible refine g_fin ?_ ?_) | (refine g_flow 39 lay_ok mixed_ok 400 11264 [0, 1, 0, 0, 8, 28, 60, 0, 128, 508, 1020, 2047, 4095, 8191] (.q 0 (.q 1 (.q 2 (.q 3 (.q 4 (.q 5 (.q 6 (.q 7 (.q 8 (.q 9 (.e 10 [0, 1] (.e 11 [] (.q 12 (.e 13 [] (.fin) .stop)) .stop) .stop))))))))))) (by kernel_rfl) ?_ ?_)) | (((with_reducible refine w_id ?_); (conv => arg 4; whnf)); first | (with_reducible refine w_fin ?_ ?_) | (with_reducible refine w_tt ?_) | (with_reducible refine w_eff lay_ok 400 ?_ rfl rfl ?_ ?_)) | (with_reducible refine q_flow ?_ ?_) | ((with_reducible refine h_id ?_); (conv => arg 1; whnf); (with_reducible refine s_some ?_)) | (with_reducible exact o_nil) | ((with_reducible refine o_id ?_); (conv => arg 1; whnf); first | (with_reducible exact o_nil) | (with_reducible refine o_cons ?_ ?_)) | (intro h; ((try simp only [Int.toNat_natCast] at h); repeat (first | replace h := of_decide_eq_true h | replace h := of_decide_eq_false h | fail)); (try (first | (exfalso; omega) | fail))) | omega | (simp only [List.length_append, List.length_cons, List.length_nil]; omega) | (exact hv.1) | (rw [htl]; exact hv.2) | (simp only [Int.toNat_natCast]; omega) | fail)
    all_goals (refine q_round ⟨z + 1, by omega, by omega, ?_⟩; ((with_reducible refine s_id ?_); (conv => arg 1; whnf); (with_reducible refine s_some ?_); repeat' (first | ((with_reducible refine o_id ?_); (conv => arg 1; whnf); first | (with_reducible exact o_nil) | (with_reducible refine o_cons ?_ ?_)) | rfl | (exact (rnH_yes hk (by assumption)).symm) | (exact (rnH_no hk (by assumption)).symm))))
  have e : z = g.hds.length := by omega
  subst e
  have f1 : mapTo (c := .ints) (tP tt) g.pts g.pts.length = (rnm g tt).pts := mapTo_full (c := .ints)
  have f2 : rnH tt g.hds g.hds.length = (rnm g tt).hds := rnH_full
  have f3 : mapTo (c := .block) (tB tt) K K.length = (rnm g tt).blks := by subst hTT hK; exact (mapTo_full (c := .block)).trans (rnB_kB (Nat.le_refl _)).symm
  repeat' (first | (((with_reducible refine g_id ?_); (conv => arg 3; whnf)); first | (with_reducible refine g_cond lay_ok 400 ?_ ?_ ?_) | (with_reducible refine g_fin ?_ ?_) | fail) | (with_reducible refine q_leave lay_ok 400 ?_) | (with_reducible exact o_nil) | ((with_reducible refine o_id ?_); (conv => arg 1; whnf); first | (with_reducible exact o_nil) | fail) | (intro h; ((try simp only [Int.toNat_natCast] at h); repeat (first | replace h := of_decide_eq_true h | replace h := of_decide_eq_false h | fail)); (try (first | (exfalso; omega) | fail))) | fail)
  all_goals (((with_reducible refine e_id ?_); (conv => whnf)); refine ⟨(), trivial, ?_⟩; ((with_reducible refine s_id ?_); (conv => arg 1; whnf); (with_reducible refine s_some ?_); repeat' (first | ((with_reducible refine o_id ?_); (conv => arg 1; whnf); first | (with_reducible exact o_nil) | (with_reducible refine o_cons ?_ ?_)) | rfl | (exact f1.symm) | (exact f2.symm) | (exact f3.symm) | (exact mmT_full.symm))))
end Go.Proofs.Ytonjbhdfimcedaa
namespace Go.Proofs.Ytonjbhdfimcedaa
open Go.RowKit
def fillL (F : List (List Bool)) (i : Nat) : List (List Bool) := F.take i ++ List.replicate (F.length - i) []
theorem fill_len {F : List (List Bool)} {i : Nat} (h : i ≤ F.length) : (fillL F i).length = F.length := by unfold fillL; rw [List.length_append, List.length_take, List.length_replicate]; omega
theorem fill_0 {F : List (List Bool)} {n : Nat} (h : F.length = n) : List.replicate n [] = fillL F 0 := by unfold fillL; rw [h]; rfl
theorem fill_all {F : List (List Bool)} : fillL F F.length = F := by unfold fillL; rw [List.take_length, Nat.sub_self]; exact List.append_nil _
theorem fill_s {F : List (List Bool)} {i : Nat} (h : i < F.length) : (fillL F i).set i (bl F i) = fillL F (i + 1) := by
  have hl := fill_len (i := i) (Nat.le_of_lt h)
  refine gt_ext (c := .bools) (by rw [List.length_set, hl, fill_len h]) fun j hj => ?_
  rw [List.length_set, hl] at hj
  have e1 : ∀ {k : Nat}, j < k → k ≤ F.length → gt (c := .bools) (fillL F k) j = bl F j := fun {k} q _ => by
    unfold fillL
    rw [gt_app1 (c := .bools) (by rw [List.length_take]; omega)]
    exact gt_eq (c := .bools) (by rw [List.getElem?_take, if_pos q]; exact gt_at (c := .bools) hj)
  have e2 : ∀ {k : Nat}, k ≤ j → gt (c := .bools) (fillL F k) j = ([] : List Bool) := fun {k} q => by
    unfold fillL
    rw [gt_app2 (c := .bools) (by rw [List.length_take]; omega)]
    exact gt_eq (c := .bools) (by rw [List.getElem?_replicate, List.length_take, if_pos (by omega)])
  show bl _ j = _
  rw [bl_set (by rw [hl]; exact h)]
  split
  · rename_i e; subst e; exact (e1 (by omega) (by omega)).symm
  · rename_i e
    rcases Nat.lt_or_ge j i with q | q
    · rw [e1 (k := i + 1) (by omega) (by omega)]; exact e1 q (by omega)
    · rw [e2 (k := i + 1) (by omega)]; exact e2 q
theorem nx_lt {x : Int} {n : Nat} (h : 0 ≤ x ∧ x < (n : Int)) : x.toNat < n := by omega
theorem fill_all' {F : List (List Bool)} {n : Nat} (h : F.length = n) : fillL F n = F := by rw [← h]; exact fill_all
theorem rowD_len {L : List (List Bool)} {i n : Nat} {x : List Bool} (hi : i < L.length) (hx : x.length = n) : List.length (gt (c := .bools) (L.set i x) i) = n := by rw [gt_set_eq (c := .bools) hi]; exact hx
theorem zero_set {g : Grf} {i : Nat} (hi : i < g.blks.length) : (fillL (zeroL g) i).set i (List.replicate g.vars.toNat false) = fillL (zeroL g) (i + 1) := by
  have hl : i < (zeroL g).length := by unfold zeroL; rw [List.length_replicate]; exact hi
  rw [← fill_s hl]
  congr 1
  exact (gt_eq (c := .bools) (by unfold zeroL; rw [List.getElem?_replicate, if_pos hi])).symm
theorem base_set {g : Grf} {i : Nat} (hi : i < g.blks.length) : (fillL (g.blks.map (baseE g)) i).set i (baseE g (bk g i)) = fillL (g.blks.map (baseE g)) (i + 1) := by
  have hl : i < (g.blks.map (baseE g)).length := by rw [List.length_map]; exact hi
  rw [← fill_s hl]
  congr 1
  exact (gt_eq (c := .bools) (by rw [List.getElem?_map, gt_at (c := .block) hi]; rfl)).symm
theorem fl_lt {g : Grf} {i : Nat} (hi : i < g.blks.length) : i < (fillL (g.blks.map (baseE g)) i).length := by rw [fill_len (by rw [List.length_map]; omega), List.length_map]; exact hi
theorem fill_2 {g : Grf} {i : Nat} (hi : i < g.blks.length) (h2 : (bk g i).next.length = 2) (hc : 0 ≤ (bk g i).cond ∧ (bk g i).cond < g.vars) :
    ((fillL (g.blks.map (baseE g)) i).set i (List.replicate g.vars.toNat false)).set i (List.set (gt (c := .bools) ((fillL (g.blks.map (baseE g)) i).set i (List.replicate g.vars.toNat false)) i) (bk g i).cond.toNat true) = fillL (g.blks.map (baseE g)) (i + 1) := by
  rw [setB_row (fl_lt hi), base_2 h2 hc, base_set hi]
theorem fill_1 {g : Grf} {i : Nat} (hi : i < g.blks.length) (h0 : ¬ (bk g i).next.length = 0) (h2 : ¬ (bk g i).next.length = 2) :
    (fillL (g.blks.map (baseE g)) i).set i (List.replicate g.vars.toNat false) = fillL (g.blks.map (baseE g)) (i + 1) := by rw [base_1 h0 h2, base_set hi]
theorem fill_k {g : Grf} {i : Nat} (hi : i < g.blks.length) (h0 : (bk g i).next.length = 0) :
    (fillL (g.blks.map (baseE g)) i).set i (keepT g g.keep.toNat) = fillL (g.blks.map (baseE g)) (i + 1) := by rw [base_0 h0, base_set hi]
theorem keep_row {g : Grf} {L : List (List Bool)} {i z : Nat} (hi : i < L.length) (hz : z < g.vars.toNat) : (L.set i (keepT g z)).set i (List.set (gt (c := .bools) (L.set i (keepT g z)) i) z true) = L.set i (keepT g (z + 1)) := by
  rw [setB_row hi, keepT_s hz]
set_option maxHeartbeats 4000000 in
theorem c_live (g : Grf) (H : LvOK g) : Trip Try.prog 71 [.agg [.sl ⟨0, []⟩, .int .i64 g.vars, .int .i64 g.keep, .sl ⟨1, []⟩, .int .i64 g.shared, .sl ⟨2, []⟩, .sl ⟨3, []⟩, .sl ⟨4, []⟩]] ⟨[], [(0, .list .tmp .input g.inp), (1, .list .tmp .array g.arrs), (2, .list .tmp .block g.blks), (3, .list .tmp .ints g.pts), (4, .list .tmp .head g.hds)], 5⟩ (Z := Unit) (fun _ => True) (fun _ => .sl ⟨5, []⟩) (fun _ => ⟨[], [(0, .list .tmp .input g.inp), (1, .list .tmp .array g.arrs), (2, .list .tmp .block g.blks), (3, .list .tmp .ints g.pts), (4, .list .tmp .head g.hds), (5, .list .own .bools (liveL g))], 6⟩) := by
  obtain ⟨hv, hk, hb, hn, hc, ho⟩ := H
  have hE0 : (g.blks.map (baseE g)).length = g.blks.length := List.length_map _
  have hB0 : (zeroL g).length = g.blks.length := List.length_replicate
  refine trip_by (rs := [_]) 6 lay_ok Try.func71 rfl (by kernel_rfl) Try.ntmps71 Try.results71 rfl rfl ?_
  ((with_reducible refine g_id ?_); (conv => arg 3; whnf))
  refine g_scope lay_ok 400 0 (Z := Nat × S2) (fun z => InvB g z.2.2 ∧ InvE g z.2 ∧ cFF z.2.2 + 1 ≤ z.1 ∧ (fixL g z.1 z.2).1 = liveL g) (fun z => ⟨[(1, .ptr 5 0), (3, .sl ⟨6, []⟩), (4, .sl ⟨7, []⟩)], [(0, .list .tmp .input g.inp), (1, .list .tmp .array g.arrs), (2, .list .tmp .block g.blks), (3, .list .tmp .ints g.pts), (4, .list .tmp .head g.hds), (5, .cells [.sl ⟨0, []⟩, .int .i64 g.vars, .int .i64 g.keep, .sl ⟨1, []⟩, .int .i64 g.shared, .sl ⟨2, []⟩, .sl ⟨3, []⟩, .sl ⟨4, []⟩]), (6, .list .own .bools z.2.1), (7, .list .own .bools z.2.2)], 8⟩) (fun z => z.1) ?_ rfl rfl ?_ (fun z hz => ?_)
  · repeat' (first | ((with_reducible refine o_id ?_); (conv => arg 1; whnf); first | (with_reducible exact o_nil) | fail) | fail)
  · ((with_reducible refine g_id ?_); (conv => arg 3; whnf))
    refine g_mid lay_ok 0 400 (Z := Unit) (fun _ => True) (fun _ => ⟨[(1, .ptr 5 0), (3, .sl ⟨6, []⟩), (4, .sl ⟨7, []⟩)], [(0, .list .tmp .input g.inp), (1, .list .tmp .array g.arrs), (2, .list .tmp .block g.blks), (3, .list .tmp .ints g.pts), (4, .list .tmp .head g.hds), (5, .cells [.sl ⟨0, []⟩, .int .i64 g.vars, .int .i64 g.keep, .sl ⟨1, []⟩, .int .i64 g.shared, .sl ⟨2, []⟩, .sl ⟨3, []⟩, .sl ⟨4, []⟩]), (6, .list .own .bools (List.replicate g.blks.length [])), (7, .list .own .bools (List.replicate g.blks.length []))], 8⟩) rfl ?_ (fun _ _ => ?_)
    · repeat' (first | (((with_reducible refine g_id ?_); (conv => arg 3; whnf)); first | (with_reducible refine g_fin ?_ ?_) | (refine g_flow 1 lay_ok mixed_ok 400 136 [0, 1, 3, 7, 0, 16, 48, 112, 15, 511] (.q 0 (.q 1 (.q 2 (.q 4 (.q 5 (.q 6 (.e 3 [4, 5, 6] (.q 8 (.e 7 [0, 1, 2, 8] (.q 9 .fin) .stop)) (.e 7 [0, 1, 2] (.e 3 [4, 5, 6] (.q 8 (.q 9 .fin)) .stop) .stop)))))))) (by kernel_rfl) ?_ ?_) | fail) | (((with_reducible refine w_id ?_); (conv => arg 4; whnf)); first | (with_reducible refine w_fin ?_ ?_) | (with_reducible refine w_tt ?_) | (with_reducible refine w_eff lay_ok 400 ?_ rfl rfl ?_ ?_)) | (with_reducible refine q_flow ?_ ?_) | ((with_reducible refine h_id ?_); (conv => arg 1; whnf); (with_reducible refine s_some ?_)) | (with_reducible exact o_nil) | ((with_reducible refine o_id ?_); (conv => arg 1; whnf); first | (with_reducible exact o_nil) | (with_reducible refine o_cons ?_ ?_)) | rfl | omega | fail)
      all_goals (refine q_round ⟨(), trivial, ?_⟩; ((with_reducible refine s_id ?_); (conv => arg 1; whnf); (with_reducible refine s_some ?_); repeat' (first | ((with_reducible refine o_id ?_); (conv => arg 1; whnf); first | (with_reducible exact o_nil) | (with_reducible refine o_cons ?_ ?_)) | rfl | fail)))
    ((with_reducible refine g_id ?_); (conv => arg 3; whnf))
    refine g_loop lay_ok 400 (Z := Nat) (fun i => i ≤ g.blks.length) (fun i => ⟨[(1, .ptr 5 0), (3, .sl ⟨6, []⟩), (4, .sl ⟨7, []⟩), (26, .sl ⟨2, []⟩), (27, .int .i64 (g.blks.length : Int)), (28, .int .i64 (i : Int))], [(0, .list .tmp .input g.inp), (1, .list .tmp .array g.arrs), (2, .list .tmp .block g.blks), (3, .list .tmp .ints g.pts), (4, .list .tmp .head g.hds), (5, .cells [.sl ⟨0, []⟩, .int .i64 g.vars, .int .i64 g.keep, .sl ⟨1, []⟩, .int .i64 g.shared, .sl ⟨2, []⟩, .sl ⟨3, []⟩, .sl ⟨4, []⟩]), (6, .list .own .bools (fillL (g.blks.map (baseE g)) i)), (7, .list .own .bools (fillL (zeroL g) i))], 8⟩) (fun i => g.blks.length - i) ?_ ⟨0, Nat.zero_le _, ?_⟩ (fun i hi => ?_)
    · repeat' (first | ((with_reducible refine o_id ?_); (conv => arg 1; whnf); first | (with_reducible exact o_nil) | fail) | fail)
    · ((with_reducible refine s_id ?_); (conv => arg 1; whnf); (with_reducible refine s_some ?_); repeat' (first | ((with_reducible refine o_id ?_); (conv => arg 1; whnf); first | (with_reducible exact o_nil) | (with_reducible refine o_cons ?_ ?_)) | rfl | (exact (fill_0 hE0).symm) | (exact (fill_0 hB0).symm) | fail))
    by_cases hlt : i < g.blks.length
    · have hx := mem_gt (c := .block) hlt
      obtain ⟨n2, _⟩ := hn _ hx
      have hcx := hc _ hx
      have hlE := fill_len (F := (g.blks.map (baseE g))) (i := i) (by omega)
      have hlB := fill_len (F := zeroL g) (i := i) (by omega)
      have hrl : List.length (gt (c := .bools) (((fillL (g.blks.map (baseE g)) i).set i (List.replicate g.vars.toNat false))) i) = g.vars.toNat := rowD_len (by omega) List.length_replicate
      repeat' (first | (((with_reducible refine g_id ?_); (conv => arg 3; whnf)); first | (with_reducible refine g_cond lay_ok 400 ?_ ?_ ?_) | fail) | ((with_reducible refine o_id ?_); (conv => arg 1; whnf); first | (with_reducible exact o_nil) | fail) | (intro h; ((try simp only [Int.toNat_natCast] at h); repeat (first | replace h := of_decide_eq_true h | replace h := of_decide_eq_false h | fail)); (try (first | (exfalso; omega) | fail))) | fail)
      refine g_mid lay_ok 0 400 (Z := Unit) (fun _ => True) (fun _ => ⟨[(1, .ptr 5 0), (3, .sl ⟨6, []⟩), (4, .sl ⟨7, []⟩), (26, .sl ⟨2, []⟩), (27, .int .i64 (g.blks.length : Int)), (28, .int .i64 (i : Int)), (5, .int .i64 (i : Int)), (6, .ptr 8 0)], [(0, .list .tmp .input g.inp), (1, .list .tmp .array g.arrs), (2, .list .tmp .block g.blks), (3, .list .tmp .ints g.pts), (4, .list .tmp .head g.hds), (5, .cells [.sl ⟨0, []⟩, .int .i64 g.vars, .int .i64 g.keep, .sl ⟨1, []⟩, .int .i64 g.shared, .sl ⟨2, []⟩, .sl ⟨3, []⟩, .sl ⟨4, []⟩]), (6, .list .own .bools ((fillL (g.blks.map (baseE g)) i).set i (List.replicate g.vars.toNat false))), (7, .list .own .bools (fillL (zeroL g) (i + 1))), (8, .cells [.sl ⟨2, [(i, 0)]⟩, .int .i64 (gt (c := .block) g.blks i).cond, .sl ⟨2, [(i, 2)]⟩])], 9⟩) rfl ?_ (fun _ _ => ?_)
      · repeat' (first | (((with_reducible refine g_id ?_); (conv => arg 3; whnf)); first | (with_reducible refine g_fin ?_ ?_) | (refine g_storeL lay_ok 400 ?_ rfl rfl ?_ ?_) | (refine g_flow 5 lay_ok mixed_ok 400 10816 [0, 0, 0, 0, 0, 16, 48, 0, 128, 384, 115, 1139, 4095, 8191] (.q 0 (.q 1 (.q 2 (.q 3 (.q 4 (.q 5 (.q 7 (.q 8 (.e 6 [0, 1, 2, 3, 7, 8] (.q 10 (.e 9 [0, 1, 2, 3, 4, 5, 10] (.e 11 [2, 3, 7, 8] (.q 12 (.e 13 [] (.fin) .stop)) .stop) (.e 11 [2, 3, 7, 8] (.e 9 [0, 1, 2, 3, 4, 5, 10] (.q 12 (.e 13 [] (.fin) .stop)) .stop) .stop))) (.e 9 [0, 1, 2, 3, 4, 5] (.e 6 [0, 1, 2, 3, 7, 8] (.q 10 (.e 11 [2, 3, 7, 8] (.q 12 (.e 13 [] (.fin) .stop)) .stop)) .stop) .stop)))))))))) (by kernel_rfl) ?_ ?_) | fail) | (((with_reducible refine w_id ?_); (conv => arg 4; whnf)); first | (with_reducible refine w_fin ?_ ?_) | (with_reducible refine w_tt ?_) | (with_reducible refine w_eff lay_ok 400 ?_ rfl rfl ?_ ?_)) | (with_reducible refine q_flow ?_ ?_) | ((with_reducible refine h_id ?_); (conv => arg 1; whnf); (with_reducible refine s_some ?_)) | (with_reducible exact o_nil) | (with_reducible refine o_cons ?_ ?_) | ((with_reducible refine o_id ?_); (conv => arg 1; whnf); first | (with_reducible exact o_nil) | (with_reducible refine o_cons ?_ ?_)) | rfl | omega | (simp only [List.length_nil, List.length_cons, List.length_append, List.length_take, List.length_set, Int.toNat_natCast, Nat.zero_add]; omega))
        all_goals (refine q_round ⟨(), trivial, ?_⟩; ((with_reducible refine s_id ?_); (conv => arg 1; whnf); (with_reducible refine s_some ?_); repeat' (first | ((with_reducible refine o_id ?_); (conv => arg 1; whnf); first | (with_reducible exact o_nil) | (with_reducible refine o_cons ?_ ?_)) | rfl | (exact (zero_set hlt).symm) | fail)))
      by_cases h2 : (gt (c := .block) g.blks i).next.length = 2
      · obtain ⟨c0, c1⟩ : 0 ≤ (gt (c := .block) g.blks i).cond ∧ (gt (c := .block) g.blks i).cond < g.vars := hcx h2
        repeat' (first | (((with_reducible refine g_id ?_); (conv => arg 3; whnf)); first | (with_reducible refine g_split lay_ok 400 ?_ ?_ ?_) | (with_reducible refine g_cond lay_ok 400 ?_ ?_ ?_) | (with_reducible refine g_fin ?_ ?_) | (with_reducible refine g_rounds lay_ok 400 1 ?_ ?_) | (refine g_flow 7 lay_ok mixed_ok 400 128 [0, 0, 3, 7, 0, 16, 63, 127] (.q 0 (.q 1 (.q 2 (.q 3 (.q 4 (.q 5 (.q 6 (.e 7 [] (.fin) .stop)))))))) (by kernel_rfl) ?_ ?_) | fail) | (((with_reducible refine w_id ?_); (conv => arg 4; whnf)); first | (with_reducible refine w_fin ?_ ?_) | (with_reducible refine w_tt ?_) | (with_reducible refine w_eff lay_ok 400 ?_ rfl rfl ?_ ?_)) | (with_reducible refine q_flow ?_ ?_) | ((with_reducible refine h_id ?_); (conv => arg 1; whnf); (with_reducible refine s_some ?_)) | (with_reducible refine q_leave lay_ok 400 ?_) | (with_reducible exact o_nil) | ((with_reducible refine o_id ?_); (conv => arg 1; whnf); first | (with_reducible exact o_nil) | (with_reducible refine o_cons ?_ ?_)) | (intro h; ((try simp only [Int.toNat_natCast] at h); repeat (first | replace h := of_decide_eq_true h | replace h := of_decide_eq_false h | fail)); (try (first | (exfalso; omega) | fail))) | omega | (show (gt (c := .block) g.blks i).cond.toNat < List.length (gt (c := .bools) (((fillL (g.blks.map (baseE g)) i).set i (List.replicate g.vars.toNat false))) i); rw [hrl]; omega) | (show (gt (c := .block) g.blks i).cond < (List.length (gt (c := .bools) (((fillL (g.blks.map (baseE g)) i).set i (List.replicate g.vars.toNat false))) i) : Int); rw [hrl]; omega) | (simp only [List.length_nil, List.length_cons, List.length_append, List.length_take, List.length_set, Int.toNat_natCast, Nat.zero_add]; omega))
        all_goals (refine q_round ⟨i + 1, by omega, by omega, ?_⟩; ((with_reducible refine s_id ?_); (conv => arg 1; whnf); (with_reducible refine s_some ?_); repeat' (first | ((with_reducible refine o_id ?_); (conv => arg 1; whnf); first | (with_reducible exact o_nil) | (with_reducible refine o_cons ?_ ?_)) | rfl | (exact (fill_2 hlt h2 ⟨c0, c1⟩).symm) | fail)))
      by_cases h0 : (gt (c := .block) g.blks i).next.length = 0
      · repeat' (first | (((with_reducible refine g_id ?_); (conv => arg 3; whnf)); first | (with_reducible refine g_cond lay_ok 400 ?_ ?_ ?_) | fail) | ((with_reducible refine o_id ?_); (conv => arg 1; whnf); first | (with_reducible exact o_nil) | (with_reducible refine o_cons ?_ ?_)) | (intro h; ((try simp only [Int.toNat_natCast] at h); repeat (first | replace h := of_decide_eq_true h | replace h := of_decide_eq_false h | fail)); (try (first | (exfalso; omega) | fail))) | omega | fail)
        ((with_reducible refine g_id ?_); (conv => arg 3; whnf))
        refine g_loop lay_ok 400 (Z := Nat) (fun z => (z : Int) ≤ g.keep) (fun z => ⟨[(1, .ptr 5 0), (3, .sl ⟨6, []⟩), (4, .sl ⟨7, []⟩), (26, .sl ⟨2, []⟩), (27, .int .i64 (g.blks.length : Int)), (28, .int .i64 (i : Int)), (5, .int .i64 (i : Int)), (6, .ptr 8 0), (7, .int .i64 (z : Int))], [(0, .list .tmp .input g.inp), (1, .list .tmp .array g.arrs), (2, .list .tmp .block g.blks), (3, .list .tmp .ints g.pts), (4, .list .tmp .head g.hds), (5, .cells [.sl ⟨0, []⟩, .int .i64 g.vars, .int .i64 g.keep, .sl ⟨1, []⟩, .int .i64 g.shared, .sl ⟨2, []⟩, .sl ⟨3, []⟩, .sl ⟨4, []⟩]), (6, .list .own .bools ((fillL (g.blks.map (baseE g)) i).set i (keepT g z))), (7, .list .own .bools (fillL (zeroL g) (i + 1))), (8, .cells [.sl ⟨2, [(i, 0)]⟩, .int .i64 (gt (c := .block) g.blks i).cond, .sl ⟨2, [(i, 2)]⟩])], 9⟩) (fun z => g.keep.toNat - z) ?_ ⟨0, by omega, ?_⟩ (fun z hz => ?_)
        · repeat' (first | ((with_reducible refine o_id ?_); (conv => arg 1; whnf); first | (with_reducible exact o_nil) | fail) | fail)
        · ((with_reducible refine s_id ?_); (conv => arg 1; whnf); (with_reducible refine s_some ?_); repeat' (first | ((with_reducible refine o_id ?_); (conv => arg 1; whnf); first | (with_reducible exact o_nil) | (with_reducible refine o_cons ?_ ?_)) | rfl | (rw [keepT_0]) | fail))
        have hkl : List.length (gt (c := .bools) ((fillL (g.blks.map (baseE g)) i).set i (keepT g z)) i) = g.vars.toNat := rowD_len (by omega) tab_len
        by_cases hlk : (z : Int) < g.keep
        · repeat' (first | (((with_reducible refine g_id ?_); (conv => arg 3; whnf)); first | (with_reducible refine g_split lay_ok 400 ?_ ?_ ?_) | (with_reducible refine g_cond lay_ok 400 ?_ ?_ ?_) | (with_reducible refine g_fin ?_ ?_) | fail) | ((with_reducible refine o_id ?_); (conv => arg 1; whnf); first | (with_reducible exact o_nil) | (with_reducible refine o_cons ?_ ?_)) | (intro h; ((try simp only [Int.toNat_natCast] at h); repeat (first | replace h := of_decide_eq_true h | replace h := of_decide_eq_false h | fail)); (try (first | contradiction | (exfalso; omega) | fail))) | omega | (show z < List.length (gt (c := .bools) (((fillL (g.blks.map (baseE g)) i).set i (keepT g z))) i); rw [hkl]; omega) | (show (z : Int) < (List.length (gt (c := .bools) (((fillL (g.blks.map (baseE g)) i).set i (keepT g z))) i) : Int); rw [hkl]; omega) | (simp only [List.length_nil, List.length_cons, List.length_append, List.length_take, List.length_set, Int.toNat_natCast, Nat.zero_add]; omega))
          all_goals (refine q_round ⟨z + 1, by omega, by omega, ?_⟩; ((with_reducible refine s_id ?_); (conv => arg 1; whnf); (with_reducible refine s_some ?_); repeat' (first | ((with_reducible refine o_id ?_); (conv => arg 1; whnf); first | (with_reducible exact o_nil) | (with_reducible refine o_cons ?_ ?_)) | rfl | (exact (keep_row (by omega) (by omega)).symm) | fail)))
        have hze : z = g.keep.toNat := by omega
        repeat' (first | (((with_reducible refine g_id ?_); (conv => arg 3; whnf)); first | (with_reducible refine g_split lay_ok 400 ?_ ?_ ?_) | (with_reducible refine g_cond lay_ok 400 ?_ ?_ ?_) | (with_reducible refine g_fin ?_ ?_) | fail) | (with_reducible refine q_leave lay_ok 400 ?_) | (with_reducible exact o_nil) | ((with_reducible refine o_id ?_); (conv => arg 1; whnf); first | (with_reducible exact o_nil) | (with_reducible refine o_cons ?_ ?_)) | (intro h; ((try simp only [Int.toNat_natCast] at h); repeat (first | replace h := of_decide_eq_true h | replace h := of_decide_eq_false h | fail)); (try (first | contradiction | (exfalso; omega) | fail))) | omega | fail)
        all_goals (refine q_round ⟨i + 1, by omega, by omega, ?_⟩; ((with_reducible refine s_id ?_); (conv => arg 1; whnf); (with_reducible refine s_some ?_); repeat' (first | ((with_reducible refine o_id ?_); (conv => arg 1; whnf); first | (with_reducible exact o_nil) | (with_reducible refine o_cons ?_ ?_)) | rfl | (rw [hze]; exact (fill_k hlt h0).symm) | fail)))
      repeat' (first | (((with_reducible refine g_id ?_); (conv => arg 3; whnf)); first | (with_reducible refine g_split lay_ok 400 ?_ ?_ ?_) | (with_reducible refine g_cond lay_ok 400 ?_ ?_ ?_) | (with_reducible refine g_fin ?_ ?_) | (with_reducible refine g_rounds lay_ok 400 1 ?_ ?_) | fail) | (with_reducible refine q_leave lay_ok 400 ?_) | ((with_reducible refine o_id ?_); (conv => arg 1; whnf); first | (with_reducible exact o_nil) | (with_reducible refine o_cons ?_ ?_)) | (intro h; ((try simp only [Int.toNat_natCast] at h); repeat (first | replace h := of_decide_eq_true h | replace h := of_decide_eq_false h | fail)); (try (first | (exfalso; omega) | fail))) | omega | fail)
      all_goals (refine q_round ⟨i + 1, by omega, by omega, ?_⟩; ((with_reducible refine s_id ?_); (conv => arg 1; whnf); (with_reducible refine s_some ?_); repeat' (first | ((with_reducible refine o_id ?_); (conv => arg 1; whnf); first | (with_reducible exact o_nil) | (with_reducible refine o_cons ?_ ?_)) | rfl | (exact (fill_1 hlt h0 h2).symm) | fail)))
    have hie : i = g.blks.length := by omega
    repeat' (first | (((with_reducible refine g_id ?_); (conv => arg 3; whnf)); first | (with_reducible refine g_cond lay_ok 400 ?_ ?_ ?_) | (with_reducible refine g_fin ?_ ?_) | fail) | (with_reducible refine q_leave lay_ok 400 ?_) | (with_reducible exact o_nil) | ((with_reducible refine o_id ?_); (conv => arg 1; whnf); first | (with_reducible exact o_nil) | fail) | (intro h; ((try simp only [Int.toNat_natCast] at h); repeat (first | replace h := of_decide_eq_true h | replace h := of_decide_eq_false h | fail)); (try (first | (exfalso; omega) | fail))) | fail)
    all_goals (refine q_round ⟨(cFF (zeroL g) + 1, ((g.blks.map (baseE g)), zeroL g)), ⟨zero_inv, base_inv, Nat.le_refl _, ?_⟩, ?_⟩)
    · exact congrArg Prod.fst (fix_E hE0 hB0)
    · subst hie
      ((with_reducible refine s_id ?_); (conv => arg 1; whnf); (with_reducible refine s_some ?_); repeat' (first | ((with_reducible refine o_id ?_); (conv => arg 1; whnf); first | (with_reducible exact o_nil) | (with_reducible refine o_cons ?_ ?_)) | rfl | (exact (fill_all' hE0).symm) | (exact (fill_all' hB0).symm) | fail))
  obtain ⟨f, E, B⟩ := z
  obtain ⟨hIB, hIE, hf, hfx⟩ := hz
  dsimp only at hIB hIE hf hfx ⊢
  ((with_reducible refine g_id ?_); (conv => arg 3; whnf))
  refine g_loop lay_ok 400 (Z := Nat × S2 × Bool) (fun w => w.1 ≤ g.blks.length ∧ InvB g w.2.1.2 ∧ InvE g w.2.1 ∧ passL g w.1 w.2.1 = passL g g.blks.length (E, B) ∧ LeBB B w.2.1.2 ∧ (w.2.2 = true ↔ ¬ w.2.1.2 = B)) (fun w => ⟨[(1, .ptr 5 0), (3, .sl ⟨6, []⟩), (4, .sl ⟨7, []⟩), (8, .bool w.2.2), (9, .int .i64 ((w.1 : Int) - 1))], [(0, .list .tmp .input g.inp), (1, .list .tmp .array g.arrs), (2, .list .tmp .block g.blks), (3, .list .tmp .ints g.pts), (4, .list .tmp .head g.hds), (5, .cells [.sl ⟨0, []⟩, .int .i64 g.vars, .int .i64 g.keep, .sl ⟨1, []⟩, .int .i64 g.shared, .sl ⟨2, []⟩, .sl ⟨3, []⟩, .sl ⟨4, []⟩]), (6, .list .own .bools w.2.1.1), (7, .list .own .bools w.2.1.2)], 8⟩) (fun w => w.1) ?_ ⟨(g.blks.length, (E, B), false), ⟨Nat.le_refl _, hIB, hIE, rfl, LeBB.refl _, by simp⟩, ?_⟩ (fun w hw => ?_)
  · repeat' (first | ((with_reducible refine o_id ?_); (conv => arg 1; whnf); first | (with_reducible exact o_nil) | (with_reducible refine o_cons ?_ ?_)) | omega | fail)
  · ((with_reducible refine s_id ?_); (conv => arg 1; whnf); (with_reducible refine s_some ?_); repeat' (first | ((with_reducible refine o_id ?_); (conv => arg 1; whnf); first | (with_reducible exact o_nil) | (with_reducible refine o_cons ?_ ?_)) | rfl | fail))
  obtain ⟨k, ⟨E1, B1⟩, c⟩ := w
  obtain ⟨hk1, hB1, hE1, hps, hle, hch⟩ := hw
  dsimp only at hk1 hB1 hE1 hps hle hch ⊢
  rcases k with _ | i
  · have hp0 : (E1, B1) = passL g g.blks.length (E, B) := hps
    repeat' (first | (((with_reducible refine g_id ?_); (conv => arg 3; whnf)); first | (with_reducible refine g_cond lay_ok 400 ?_ ?_ ?_) | (with_reducible refine g_fin ?_ ?_) | (with_reducible refine g_goto lay_ok 400 ?_ ?_) | fail) | (with_reducible refine q_leave lay_ok 400 ?_) | (with_reducible exact o_nil) | ((with_reducible refine o_id ?_); (conv => arg 1; whnf); first | (with_reducible exact o_nil) | fail) | (intro h; ((try simp only [Int.toNat_natCast] at h); repeat (first | replace h := of_decide_eq_true h | replace h := of_decide_eq_false h | fail)); (try (first | contradiction | fail))) | fail)
    · have hne := hch.1 (by assumption)
      have hcn := pass_cnt hIB (g := g) (s := (E, B)) (by rw [← hp0]; exact hne)
      rw [← hp0] at hcn
      dsimp only at hcn
      refine q_jump ⟨(f - 1, (E1, B1)), ⟨hB1, hE1, by dsimp only; omega, by rw [← hfx]; exact congrArg Prod.fst (fix_go (by omega) hp0 hne).symm⟩, by dsimp only; omega, ?_⟩
      ((with_reducible refine s_id ?_); (conv => arg 1; whnf); (with_reducible refine s_some ?_); repeat' (first | ((with_reducible refine o_id ?_); (conv => arg 1; whnf); first | (with_reducible exact o_nil) | (with_reducible refine o_cons ?_ ?_)) | rfl | fail))
    have he : B1 = B := Classical.byContradiction fun q => by have := hch.2 q; simp_all
    have hE1l : E1 = liveL g := by rw [← hfx, fix_end (by omega) hp0 he]
    subst hE1l
    refine q_jret lay_ok 400 ?_
    ((with_reducible refine g_id ?_); (conv => arg 3; whnf))
    with_reducible refine g_fin ?_ ?_
    · repeat' (first | (with_reducible exact o_nil) | fail)
    (((with_reducible refine e_id ?_); (conv => whnf)); refine ⟨(), trivial, ?_⟩; ((with_reducible refine s_id ?_); (conv => arg 1; whnf); (with_reducible refine s_some ?_); repeat' (first | ((with_reducible refine o_id ?_); (conv => arg 1; whnf); first | (with_reducible exact o_nil) | (with_reducible refine o_cons ?_ ?_)) | rfl | fail)))
  have e9 : (((i + 1 : Nat) : Int) - 1) = (i : Int) := by omega
  rw [e9]
  have hlt : i < g.blks.length := hk1
  have hx := mem_gt (c := .block) hlt
  obtain ⟨n2, hnx⟩ := hn _ hx
  obtain ⟨o2, hox⟩ := ho _ hx
  have hEl : E1.length = g.blks.length := hE1.l
  have hBl : B1.length = g.blks.length := hB1.l
  have hEr : List.length (gt (c := .bools) E1 i) = g.vars.toNat := hE1.r i hlt
  have hEi : i < E1.length := by rw [hEl]; exact hlt
  have hBi0 : i < B1.length := by rw [hBl]; exact hlt
  have hnl : ∀ j, j < (gt (c := .block) g.blks i).next.length → 0 ≤ (gt (c := .int) (gt (c := .block) g.blks i).next j : Int) ∧ (gt (c := .int) (gt (c := .block) g.blks i).next j : Int) < (g.blks.length : Int) := fun j hj => hnx _ (mem_gt (c := .int) hj)
  repeat' (first | (((with_reducible refine g_id ?_); (conv => arg 3; whnf)); first | (with_reducible refine g_cond lay_ok 400 ?_ ?_ ?_) | fail) | ((with_reducible refine o_id ?_); (conv => arg 1; whnf); first | (with_reducible exact o_nil) | fail) | (intro h; ((try simp only [Int.toNat_natCast] at h); repeat (first | replace h := of_decide_eq_true h | replace h := of_decide_eq_false h | fail)); (try (first | (exfalso; omega) | fail))) | fail)
  ((with_reducible refine g_id ?_); (conv => arg 3; whnf))
  refine g_mid lay_ok 1 400 (Z := Unit) (fun _ => True) (fun _ => ⟨[(1, .ptr 5 0), (3, .sl ⟨6, []⟩), (4, .sl ⟨7, []⟩), (8, .bool c), (9, .int .i64 (i : Int)), (10, .ptr 8 0)], [(0, .list .tmp .input g.inp), (1, .list .tmp .array g.arrs), (2, .list .tmp .block g.blks), (3, .list .tmp .ints g.pts), (4, .list .tmp .head g.hds), (5, .cells [.sl ⟨0, []⟩, .int .i64 g.vars, .int .i64 g.keep, .sl ⟨1, []⟩, .int .i64 g.shared, .sl ⟨2, []⟩, .sl ⟨3, []⟩, .sl ⟨4, []⟩]), (6, .list .own .bools (E1.set i (freshE g B1 (gt (c := .block) g.blks i)))), (7, .list .own .bools B1), (8, .cells [.sl ⟨2, [(i, 0)]⟩, .int .i64 (gt (c := .block) g.blks i).cond, .sl ⟨2, [(i, 2)]⟩])], 9⟩) rfl ?_ (fun _ _ => ?_)
  · refine g_loop lay_ok 400 (Z := Nat) (fun j => j ≤ (gt (c := .block) g.blks i).next.length) (fun j => ⟨[(1, .ptr 5 0), (3, .sl ⟨6, []⟩), (4, .sl ⟨7, []⟩), (8, .bool c), (9, .int .i64 (i : Int)), (10, .ptr 8 0), (89, .sl ⟨2, [(i, 2)]⟩), (90, .int .i64 ((gt (c := .block) g.blks i).next.length : Int)), (91, .int .i64 (j : Int))], [(0, .list .tmp .input g.inp), (1, .list .tmp .array g.arrs), (2, .list .tmp .block g.blks), (3, .list .tmp .ints g.pts), (4, .list .tmp .head g.hds), (5, .cells [.sl ⟨0, []⟩, .int .i64 g.vars, .int .i64 g.keep, .sl ⟨1, []⟩, .int .i64 g.shared, .sl ⟨2, []⟩, .sl ⟨3, []⟩, .sl ⟨4, []⟩]), (6, .list .own .bools (E1.set i (orNs (gt (c := .bools) E1 i) B1 ((gt (c := .block) g.blks i).next.take j)))), (7, .list .own .bools B1), (8, .cells [.sl ⟨2, [(i, 0)]⟩, .int .i64 (gt (c := .block) g.blks i).cond, .sl ⟨2, [(i, 2)]⟩])], 9⟩) (fun j => (gt (c := .block) g.blks i).next.length - j) ?_ ⟨0, Nat.zero_le _, ?_⟩ (fun j hj => ?_)
    · repeat' (first | ((with_reducible refine o_id ?_); (conv => arg 1; whnf); first | (with_reducible exact o_nil) | (with_reducible refine o_cons ?_ ?_)) | omega | fail)
    · ((with_reducible refine s_id ?_); (conv => arg 1; whnf); (with_reducible refine s_some ?_); repeat' (first | ((with_reducible refine o_id ?_); (conv => arg 1; whnf); first | (with_reducible exact o_nil) | (with_reducible refine o_cons ?_ ?_)) | rfl | (exact set_same (by first | exact hEi | fail)) | fail))
    by_cases hj1 : j < (gt (c := .block) g.blks i).next.length
    · obtain ⟨q0, q1⟩ := hnl j hj1
      have hBr : List.length (gt (c := .bools) B1 (gt (c := .int) (gt (c := .block) g.blks i).next j : Int).toNat) = g.vars.toNat := hB1.r (gt (c := .int) (gt (c := .block) g.blks i).next j : Int).toNat (nx_lt (hnl j hj1))
      repeat' (first | (((with_reducible refine g_id ?_); (conv => arg 3; whnf)); first | (with_reducible refine g_cond lay_ok 400 ?_ ?_ ?_) | fail) | ((with_reducible refine o_id ?_); (conv => arg 1; whnf); first | (with_reducible exact o_nil) | fail) | (intro h; ((try simp only [Int.toNat_natCast] at h); repeat (first | replace h := of_decide_eq_true h | replace h := of_decide_eq_false h | fail)); (try (first | (exfalso; omega) | fail))) | fail)
      ((with_reducible refine g_id ?_); (conv => arg 3; whnf))
      refine g_loop lay_ok 400 (Z := Nat) (fun v => v ≤ List.length (gt (c := .bools) B1 (gt (c := .int) (gt (c := .block) g.blks i).next j : Int).toNat)) (fun v => ⟨[(1, .ptr 5 0), (3, .sl ⟨6, []⟩), (4, .sl ⟨7, []⟩), (8, .bool c), (9, .int .i64 (i : Int)), (10, .ptr 8 0), (89, .sl ⟨2, [(i, 2)]⟩), (90, .int .i64 ((gt (c := .block) g.blks i).next.length : Int)), (91, .int .i64 (j : Int)), (98, .sl ⟨7, [((gt (c := .int) (gt (c := .block) g.blks i).next j : Int).toNat, 0)]⟩), (99, .int .i64 (List.length (gt (c := .bools) B1 (gt (c := .int) (gt (c := .block) g.blks i).next j : Int).toNat) : Int)), (100, .int .i64 (v : Int))], [(0, .list .tmp .input g.inp), (1, .list .tmp .array g.arrs), (2, .list .tmp .block g.blks), (3, .list .tmp .ints g.pts), (4, .list .tmp .head g.hds), (5, .cells [.sl ⟨0, []⟩, .int .i64 g.vars, .int .i64 g.keep, .sl ⟨1, []⟩, .int .i64 g.shared, .sl ⟨2, []⟩, .sl ⟨3, []⟩, .sl ⟨4, []⟩]), (6, .list .own .bools (E1.set i (orT (orNs (gt (c := .bools) E1 i) B1 ((gt (c := .block) g.blks i).next.take j)) (gt (c := .bools) B1 (gt (c := .int) (gt (c := .block) g.blks i).next j : Int).toNat) v))), (7, .list .own .bools B1), (8, .cells [.sl ⟨2, [(i, 0)]⟩, .int .i64 (gt (c := .block) g.blks i).cond, .sl ⟨2, [(i, 2)]⟩])], 9⟩) (fun v => List.length (gt (c := .bools) B1 (gt (c := .int) (gt (c := .block) g.blks i).next j : Int).toNat) - v) ?_ ⟨0, Nat.zero_le _, ?_⟩ (fun v hv => ?_)
      · repeat' (first | ((with_reducible refine o_id ?_); (conv => arg 1; whnf); first | (with_reducible exact o_nil) | (with_reducible refine o_cons ?_ ?_)) | omega | assumption | (rw [hBl]; exact nx_lt (hnl j hj1)) | (rw [hBl]; exact (hnl j hj1).2) | fail)
      · ((with_reducible refine s_id ?_); (conv => arg 1; whnf); (with_reducible refine s_some ?_); repeat' (first | ((with_reducible refine o_id ?_); (conv => arg 1; whnf); first | (with_reducible exact o_nil) | (with_reducible refine o_cons ?_ ?_)) | rfl | (rw [orT_0]) | fail))
      have hrw : List.length (gt (c := .bools) (E1.set i (orT (orNs (gt (c := .bools) E1 i) B1 ((gt (c := .block) g.blks i).next.take j)) (gt (c := .bools) B1 (gt (c := .int) (gt (c := .block) g.blks i).next j : Int).toNat) v)) i) = g.vars.toNat := rowD_len hEi (by rw [orT_len, orNs_len]; exact hEr)
      by_cases hv1 : v < List.length (gt (c := .bools) B1 (gt (c := .int) (gt (c := .block) g.blks i).next j : Int).toNat)
      · repeat' (first | (((with_reducible refine g_id ?_); (conv => arg 3; whnf)); first | (with_reducible refine g_cond lay_ok 400 ?_ ?_ ?_) | (with_reducible refine g_fin ?_ ?_) | (refine g_flow 24 lay_ok mixed_ok 400 65536 [0, 0, 3, 7, 0, 0, 0, 96, 224, 0, 992, 2016, 4064, 8160, 16352, 32767, 65535] (.q 0 (.q 1 (.q 2 (.q 3 (.q 4 (.q 5 (.q 6 (.q 7 (.q 8 (.q 9 (.q 10 (.q 11 (.q 12 (.q 13 (.q 14 (.q 15 (.e 16 [] (.fin) .stop))))))))))))))))) (by kernel_rfl) ?_ ?_)) | (((with_reducible refine w_id ?_); (conv => arg 4; whnf)); first | (with_reducible refine w_fin ?_ ?_) | (with_reducible refine w_split lay_ok 400 ?_ ?_ ?_) | (with_reducible refine w_tt ?_) | (with_reducible refine w_eff lay_ok 400 ?_ rfl rfl ?_ ?_)) | (with_reducible refine q_flow ?_ ?_) | ((with_reducible refine h_id ?_); (conv => arg 1; whnf); (with_reducible refine s_some ?_)) | (with_reducible exact o_nil) | ((with_reducible refine o_id ?_); (conv => arg 1; whnf); first | (with_reducible exact o_nil) | (with_reducible refine o_cons ?_ ?_)) | (intro h; ((try simp only [Int.toNat_natCast] at h); repeat (first | replace h := of_decide_eq_true h | replace h := of_decide_eq_false h | fail)); (try (first | (exfalso; omega) | fail))) | omega | (rw [hBl]; exact nx_lt (hnl j hj1)) | (show v < List.length (gt (c := .bools) (E1.set i (orT (orNs (gt (c := .bools) E1 i) B1 ((gt (c := .block) g.blks i).next.take j)) (gt (c := .bools) B1 (gt (c := .int) (gt (c := .block) g.blks i).next j : Int).toNat) v)) i); rw [hrw]; omega) | (show (v : Int) < (List.length (gt (c := .bools) (E1.set i (orT (orNs (gt (c := .bools) E1 i) B1 ((gt (c := .block) g.blks i).next.take j)) (gt (c := .bools) B1 (gt (c := .int) (gt (c := .block) g.blks i).next j : Int).toNat) v)) i) : Int); rw [hrw]; omega) | (simp only [List.length_nil, List.length_cons, List.length_append, List.length_take, List.length_set, Int.toNat_natCast, Nat.zero_add]; omega))
        all_goals (refine q_round ⟨v + 1, by omega, by omega, ?_⟩; ((with_reducible refine s_id ?_); (conv => arg 1; whnf); (with_reducible refine s_some ?_); repeat' (first | ((with_reducible refine o_id ?_); (conv => arg 1; whnf); first | (with_reducible exact o_nil) | (with_reducible refine o_cons ?_ ?_)) | rfl | (exact (or_row_t hEi (by rw [orNs_len]; omega) (by assumption)).symm) | (exact (or_row_f hEi (by rw [orNs_len]; omega) (by assumption)).symm) | fail)))
      have hve : v = List.length (gt (c := .bools) B1 (gt (c := .int) (gt (c := .block) g.blks i).next j : Int).toNat) := by omega
      subst hve
      repeat' (first | (((with_reducible refine g_id ?_); (conv => arg 3; whnf)); first | (with_reducible refine g_cond lay_ok 400 ?_ ?_ ?_) | (with_reducible refine g_fin ?_ ?_) | fail) | (with_reducible refine q_leave lay_ok 400 ?_) | (with_reducible exact o_nil) | ((with_reducible refine o_id ?_); (conv => arg 1; whnf); first | (with_reducible exact o_nil) | (with_reducible refine o_cons ?_ ?_)) | (intro h; ((try simp only [Int.toNat_natCast] at h); repeat (first | replace h := of_decide_eq_true h | replace h := of_decide_eq_false h | fail)); (try (first | (exfalso; omega) | fail))) | omega | fail)
      all_goals (refine q_round ⟨j + 1, by omega, by omega, ?_⟩; ((with_reducible refine s_id ?_); (conv => arg 1; whnf); (with_reducible refine s_some ?_); repeat' (first | ((with_reducible refine o_id ?_); (conv => arg 1; whnf); first | (with_reducible exact o_nil) | (with_reducible refine o_cons ?_ ?_)) | rfl | (rw [orT_all (by rw [orNs_len]; omega)]; exact congrArg _ (orNs_s hj1).symm) | fail)))
    have hje : j = (gt (c := .block) g.blks i).next.length := by omega
    subst hje
    repeat' (first | (((with_reducible refine g_id ?_); (conv => arg 3; whnf)); first | (with_reducible refine g_cond lay_ok 400 ?_ ?_ ?_) | (with_reducible refine g_fin ?_ ?_) | fail) | (with_reducible refine q_leave lay_ok 400 ?_) | (with_reducible exact o_nil) | ((with_reducible refine o_id ?_); (conv => arg 1; whnf); first | (with_reducible exact o_nil) | fail) | (intro h; ((try simp only [Int.toNat_natCast] at h); repeat (first | replace h := of_decide_eq_true h | replace h := of_decide_eq_false h | fail)); (try (first | (exfalso; omega) | fail))) | fail)
    all_goals (refine q_round ⟨(), trivial, ?_⟩; ((with_reducible refine s_id ?_); (conv => arg 1; whnf); (with_reducible refine s_some ?_); repeat' (first | ((with_reducible refine o_id ?_); (conv => arg 1; whnf); first | (with_reducible exact o_nil) | (with_reducible refine o_cons ?_ ?_)) | rfl | (rw [List.take_length, ← prog_step hE1 hlt]) | fail)))
  ((with_reducible refine g_id ?_); (conv => arg 3; whnf))
  have hset : gt (c := .bools) (E1.set i (freshE g B1 (gt (c := .block) g.blks i))) i = (freshE g B1 (gt (c := .block) g.blks i)) := gt_set_eq (c := .bools) hEi
  have hfl : List.length (gt (c := .bools) (E1.set i (freshE g B1 (gt (c := .block) g.blks i))) i) = g.vars.toNat := rowD_len hEi fresh_len
  have hBi : List.length (gt (c := .bools) B1 i) = g.vars.toNat := hB1.r i hlt
  refine g_mid lay_ok 0 400 (Z := Unit) (fun _ => True) (fun _ => ⟨[(1, .ptr 5 0), (3, .sl ⟨6, []⟩), (4, .sl ⟨7, []⟩), (8, .bool c), (9, .int .i64 (i : Int)), (10, .ptr 8 0), (15, .sl ⟨9, []⟩)], [(0, .list .tmp .input g.inp), (1, .list .tmp .array g.arrs), (2, .list .tmp .block g.blks), (3, .list .tmp .ints g.pts), (4, .list .tmp .head g.hds), (5, .cells [.sl ⟨0, []⟩, .int .i64 g.vars, .int .i64 g.keep, .sl ⟨1, []⟩, .int .i64 g.shared, .sl ⟨2, []⟩, .sl ⟨3, []⟩, .sl ⟨4, []⟩]), (6, .list .own .bools (E1.set i (freshE g B1 (gt (c := .block) g.blks i)))), (7, .list .own .bools B1), (8, .cells [.sl ⟨2, [(i, 0)]⟩, .int .i64 (gt (c := .block) g.blks i).cond, .sl ⟨2, [(i, 2)]⟩]), (9, .list .own .bool (freshE g B1 (gt (c := .block) g.blks i)))], 10⟩) rfl ?_ (fun _ _ => ?_)
  · repeat' (first | (((with_reducible refine g_id ?_); (conv => arg 3; whnf)); first | (with_reducible refine g_fin ?_ ?_) | (refine g_call lay_ok 400 ?_ ?_ ?_ (c_cln_bool ?_ ?_) rfl) | fail) | ((with_reducible refine o_id ?_); (conv => arg 1; whnf); first | (with_reducible exact o_nil) | (with_reducible refine o_cons ?_ ?_)) | (intro h; ((try simp only [Int.toNat_natCast] at h); repeat (first | replace h := of_decide_eq_true h | fail)); (try (first | contradiction | fail))) | rfl | omega | (show List.length (gt (c := .bools) (E1.set i (freshE g B1 (gt (c := .block) g.blks i))) i) ≤ 1048576; rw [hfl]; omega) | (simp only [List.length_nil, List.length_cons, List.length_append, List.length_take, List.length_set, Int.toNat_natCast, Nat.zero_add]; omega))
    all_goals (refine q_round ⟨(), trivial, ?_⟩; ((with_reducible refine s_id ?_); (conv => arg 1; whnf); (with_reducible refine s_some ?_); repeat' (first | ((with_reducible refine o_id ?_); (conv => arg 1; whnf); first | (with_reducible exact o_nil) | (with_reducible refine o_cons ?_ ?_)) | rfl | (exact hset.symm) | fail)))
  ((with_reducible refine g_id ?_); (conv => arg 3; whnf))
  refine g_mid lay_ok 1 400 (Z := Unit) (fun _ => True) (fun _ => ⟨[(1, .ptr 5 0), (3, .sl ⟨6, []⟩), (4, .sl ⟨7, []⟩), (8, .bool c), (9, .int .i64 (i : Int)), (10, .ptr 8 0), (15, .sl ⟨9, []⟩)], [(0, .list .tmp .input g.inp), (1, .list .tmp .array g.arrs), (2, .list .tmp .block g.blks), (3, .list .tmp .ints g.pts), (4, .list .tmp .head g.hds), (5, .cells [.sl ⟨0, []⟩, .int .i64 g.vars, .int .i64 g.keep, .sl ⟨1, []⟩, .int .i64 g.shared, .sl ⟨2, []⟩, .sl ⟨3, []⟩, .sl ⟨4, []⟩]), (6, .list .own .bools (E1.set i (freshE g B1 (gt (c := .block) g.blks i)))), (7, .list .own .bools B1), (8, .cells [.sl ⟨2, [(i, 0)]⟩, .int .i64 (gt (c := .block) g.blks i).cond, .sl ⟨2, [(i, 2)]⟩]), (9, .list .own .bool (bwd (gt (c := .block) g.blks i).ops (freshE g B1 (gt (c := .block) g.blks i))))], 10⟩) rfl ?_ (fun _ _ => ?_)
  · refine g_loop lay_ok 400 (Z := Nat) (fun q => q ≤ List.length (gt (c := .block) g.blks i).ops) (fun q => ⟨[(1, .ptr 5 0), (3, .sl ⟨6, []⟩), (4, .sl ⟨7, []⟩), (8, .bool c), (9, .int .i64 (i : Int)), (10, .ptr 8 0), (15, .sl ⟨9, []⟩), (16, .int .i64 ((q : Int) - 1))], [(0, .list .tmp .input g.inp), (1, .list .tmp .array g.arrs), (2, .list .tmp .block g.blks), (3, .list .tmp .ints g.pts), (4, .list .tmp .head g.hds), (5, .cells [.sl ⟨0, []⟩, .int .i64 g.vars, .int .i64 g.keep, .sl ⟨1, []⟩, .int .i64 g.shared, .sl ⟨2, []⟩, .sl ⟨3, []⟩, .sl ⟨4, []⟩]), (6, .list .own .bools (E1.set i (freshE g B1 (gt (c := .block) g.blks i)))), (7, .list .own .bools B1), (8, .cells [.sl ⟨2, [(i, 0)]⟩, .int .i64 (gt (c := .block) g.blks i).cond, .sl ⟨2, [(i, 2)]⟩]), (9, .list .own .bool (bwd (List.drop q (gt (c := .block) g.blks i).ops) (freshE g B1 (gt (c := .block) g.blks i))))], 10⟩) (fun q => q) ?_ ⟨List.length (gt (c := .block) g.blks i).ops, Nat.le_refl _, ?_⟩ (fun q hq => ?_)
    · repeat' (first | ((with_reducible refine o_id ?_); (conv => arg 1; whnf); first | (with_reducible exact o_nil) | (with_reducible refine o_cons ?_ ?_)) | omega | fail)
    · ((with_reducible refine s_id ?_); (conv => arg 1; whnf); (with_reducible refine s_some ?_); repeat' (first | ((with_reducible refine o_id ?_); (conv => arg 1; whnf); first | (with_reducible exact o_nil) | (with_reducible refine o_cons ?_ ?_)) | rfl | (exact bwd_end) | fail))
    rcases q with _ | q
    · repeat' (first | (((with_reducible refine g_id ?_); (conv => arg 3; whnf)); first | (with_reducible refine g_cond lay_ok 400 ?_ ?_ ?_) | (with_reducible refine g_fin ?_ ?_) | fail) | (with_reducible refine q_leave lay_ok 400 ?_) | (with_reducible exact o_nil) | ((with_reducible refine o_id ?_); (conv => arg 1; whnf); first | (with_reducible exact o_nil) | fail) | (intro h; ((try simp only [Int.toNat_natCast] at h); repeat (first | replace h := of_decide_eq_true h | replace h := of_decide_eq_false h | fail)); (try (first | contradiction | fail))) | fail)
      all_goals (refine q_round ⟨(), trivial, ?_⟩; ((with_reducible refine s_id ?_); (conv => arg 1; whnf); (with_reducible refine s_some ?_); repeat' (first | ((with_reducible refine o_id ?_); (conv => arg 1; whnf); first | (with_reducible exact o_nil) | (with_reducible refine o_cons ?_ ?_)) | rfl | fail)))
    have e8 : (((q + 1 : Nat) : Int) - 1) = (q : Int) := by omega
    rw [e8]
    repeat' (first | (((with_reducible refine g_id ?_); (conv => arg 3; whnf)); first | (with_reducible refine g_cond lay_ok 400 ?_ ?_ ?_) | (with_reducible refine g_fin ?_ ?_) | (refine g_call lay_ok 400 ?_ ?_ ?_ (c_into ?_ ?_ ?_ ?_) rfl) | fail) | ((with_reducible refine o_id ?_); (conv => arg 1; whnf); first | (with_reducible exact o_nil) | (with_reducible refine o_cons ?_ ?_)) | (intro h; ((try simp only [Int.toNat_natCast] at h); repeat (first | replace h := of_decide_eq_true h | replace h := of_decide_eq_false h | fail)); (try (first | (exfalso; omega) | fail))) | rfl | omega | (rw [bwd_len, fresh_len]; omega) | (rw [bwd_len, fresh_len]; exact hox _ (mem_gt (c := .op) (by omega))) | fail)
    all_goals (refine q_round ⟨q, by omega, by omega, ?_⟩; ((with_reducible refine s_id ?_); (conv => arg 1; whnf); (with_reducible refine s_some ?_); repeat' (first | ((with_reducible refine o_id ?_); (conv => arg 1; whnf); first | (with_reducible exact o_nil) | (with_reducible refine o_cons ?_ ?_)) | rfl | (exact (bwd_drop (by omega)).symm) | fail)))
  by_cases hq : bwd (gt (c := .block) g.blks i).ops (freshE g B1 (gt (c := .block) g.blks i)) = gt (c := .bools) B1 i
  · have hs2 : (stepL g (E1, B1) i).2 = B1 := by
      show B1.set i (bwd (gt (c := .block) g.blks i).ops (freshE g B1 (gt (c := .block) g.blks i))) = B1
      rw [hq]; exact set_same (by first | exact hEi | exact hBi0)
    repeat' (first | (((with_reducible refine g_id ?_); (conv => arg 3; whnf)); first | (with_reducible refine g_cond lay_ok 400 ?_ ?_ ?_) | (with_reducible refine g_fin ?_ ?_) | (refine g_call lay_ok 400 ?_ ?_ ?_ (c_eqb ?_ ?_ ?_ ?_) rfl) | fail) | ((with_reducible refine o_id ?_); (conv => arg 1; whnf); first | (with_reducible exact o_nil) | (with_reducible refine o_cons ?_ ?_)) | (intro h; ((try simp only [Int.toNat_natCast] at h); repeat (first | replace h := of_decide_eq_true h | replace h := of_decide_eq_false h | replace h := not_t h | replace h := not_f h | fail)); (try (first | contradiction | fail))) | rfl | omega | (rw [bwd_len, fresh_len]; omega) | (show List.length (gt (c := .bools) B1 i) ≤ 1048576; rw [hBi]; omega) | fail)
    all_goals (refine q_round ⟨(i, stepL g (E1, B1) i, c), ⟨Nat.le_of_lt hlt, step_inv (s := (E1, B1)) hB1 hlt, stepE_inv (s := (E1, B1)) hB1 hE1 hlt, hps, hle.trans (step_le (s := (E1, B1)) hB1 hlt), by dsimp only; rw [hs2]; exact hch⟩, Nat.lt_succ_self _, ?_⟩; ((with_reducible refine s_id ?_); (conv => arg 1; whnf); (with_reducible refine s_some ?_); repeat' (first | ((with_reducible refine o_id ?_); (conv => arg 1; whnf); first | (with_reducible exact o_nil) | (with_reducible refine o_cons ?_ ?_)) | rfl | omega | fail)))
  repeat' (first | (((with_reducible refine g_id ?_); (conv => arg 3; whnf)); first | (with_reducible refine g_cond lay_ok 400 ?_ ?_ ?_) | (with_reducible refine g_fin ?_ ?_) | (refine g_call lay_ok 400 ?_ ?_ ?_ (c_eqb ?_ ?_ ?_ ?_) rfl) | (refine g_storeL lay_ok 400 ?_ rfl rfl ?_ ?_) | fail) | (with_reducible refine o_cons ?_ ?_) | ((with_reducible refine o_id ?_); (conv => arg 1; whnf); first | (with_reducible exact o_nil) | (with_reducible refine o_cons ?_ ?_)) | (intro h; ((try simp only [Int.toNat_natCast] at h); repeat (first | replace h := of_decide_eq_true h | replace h := of_decide_eq_false h | replace h := not_t h | replace h := not_f h | fail)); (try (first | contradiction | fail))) | rfl | omega | (rw [bwd_len, fresh_len]; omega) | (show List.length (gt (c := .bools) B1 i) ≤ 1048576; rw [hBi]; omega) | fail)
  all_goals (refine q_round ⟨(i, stepL g (E1, B1) i, true), ⟨Nat.le_of_lt hlt, step_inv (s := (E1, B1)) hB1 hlt, stepE_inv (s := (E1, B1)) hB1 hE1 hlt, hps, hle.trans (step_le (s := (E1, B1)) hB1 hlt), ⟨fun _ => chg_t hle (step_le (s := (E1, B1)) hB1 hlt) hBi0 hq, fun _ => rfl⟩⟩, Nat.lt_succ_self _, ?_⟩; ((with_reducible refine s_id ?_); (conv => arg 1; whnf); (with_reducible refine s_some ?_); repeat' (first | ((with_reducible refine o_id ?_); (conv => arg 1; whnf); first | (with_reducible exact o_nil) | (with_reducible refine o_cons ?_ ?_)) | rfl | fail)))
end Go.Proofs.Ytonjbhdfimcedaa
namespace Go.Proofs.Ytonjbhdfimcedaa
open Go.RowKit
def usesL (o : Op_) : List Int := if o.kind = 2 ∨ o.kind = 4 then [o.a] else if o.kind = 3 ∨ o.kind = 5 then [o.a, o.b] else []
theorem uses_1 {o : Op_} (h : o.kind = 2 ∨ o.kind = 4) : usesL o = [o.a] := if_pos h
theorem uses_2 {o : Op_} (h : o.kind = 3 ∨ o.kind = 5) : usesL o = [o.a, o.b] := by unfold usesL; rw [if_neg (by omega), if_pos h]
theorem uses_0 {o : Op_} (h : ¬ (o.kind = 2 ∨ o.kind = 4)) (h2 : ¬ (o.kind = 3 ∨ o.kind = 5)) : usesL o = [] := by unfold usesL; rw [if_neg h, if_neg h2]
theorem r_sets (o : Op_) : Trip Try.prog 101 [.agg [.int .i64 o.kind, .int .i64 o.dst, .int .i64 o.a, .int .i64 o.b, .int .i64 o.imm]] ⟨[], [], 0⟩ (Z := Unit) (fun _ => True) (fun _ => .bool (decide (o.kind = 1 ∨ o.kind = 2 ∨ o.kind = 3 ∨ o.kind = 4))) (fun _ => ⟨[], [], 0⟩) := by
  refine trip_by (rs := [_]) 400 lay_ok Try.func101 rfl (by kernel_rfl) Try.ntmps101 Try.results101 rfl rfl ?_
  repeat' (first | (((with_reducible refine g_id ?_); (conv => arg 3; whnf)); first | (with_reducible refine g_split lay_ok 400 ?_ ?_ ?_) | (with_reducible refine g_fin ?_ ?_)) | ((with_reducible refine o_id ?_); (conv => arg 1; whnf); first | (with_reducible exact o_nil) | fail) | (intro h; ((try simp only [Int.toNat_natCast] at h); repeat (first | replace h := of_decide_eq_true h | replace h := of_decide_eq_false h | fail)); (try (first | contradiction | fail))) | fail)
  all_goals (((with_reducible refine e_id ?_); (conv => whnf)); refine ⟨(), trivial, ?_⟩; ((with_reducible refine s_id ?_); (conv => arg 1; whnf); (with_reducible refine s_some ?_); repeat' (first | ((with_reducible refine o_id ?_); (conv => arg 1; whnf); first | (with_reducible exact o_nil) | (with_reducible refine o_cons ?_ ?_)) | (exact decide_eq_false (by omega)) | (exact decide_eq_decide.2 (by omega)) | fail)))
theorem r_uses (o : Op_) : Trip Try.prog 102 [.agg [.int .i64 o.kind, .int .i64 o.dst, .int .i64 o.a, .int .i64 o.b, .int .i64 o.imm]] ⟨[], [], 0⟩ (Z := Unit) (fun _ => True) (fun _ => .sl ⟨0, []⟩) (fun _ => ⟨[], [(0, .list .own .int (usesL o))], 1⟩) := by
  by_cases h1 : o.kind = 2 ∨ o.kind = 4
  · rw [uses_1 h1]
    refine trip_by (rs := [_]) 400 lay_ok Try.func102 rfl (by kernel_rfl) Try.ntmps102 Try.results102 rfl rfl ?_
    repeat' (first | (((with_reducible refine g_id ?_); (conv => arg 3; whnf)); first | (with_reducible refine g_cond lay_ok 400 ?_ ?_ ?_) | (with_reducible refine g_fin ?_ ?_)) | (with_reducible exact o_nil) | ((with_reducible refine o_id ?_); (conv => arg 1; whnf); first | (with_reducible exact o_nil) | fail) | (intro h; ((try simp only [Int.toNat_natCast] at h); repeat (first | replace h := of_decide_eq_true h | replace h := of_decide_eq_false h | fail)); (try (first | contradiction | (exfalso; omega) | fail))) | fail)
    all_goals (((with_reducible refine e_id ?_); (conv => whnf)); refine ⟨(), trivial, ?_⟩; ((with_reducible refine s_id ?_); (conv => arg 1; whnf); (with_reducible refine s_some ?_); repeat' (first | ((with_reducible refine o_id ?_); (conv => arg 1; whnf); first | (with_reducible exact o_nil) | (with_reducible refine o_cons ?_ ?_)) | rfl | fail)))
  by_cases h2 : o.kind = 3 ∨ o.kind = 5
  · rw [uses_2 h2]
    refine trip_by (rs := [_]) 400 lay_ok Try.func102 rfl (by kernel_rfl) Try.ntmps102 Try.results102 rfl rfl ?_
    repeat' (first | (((with_reducible refine g_id ?_); (conv => arg 3; whnf)); first | (with_reducible refine g_cond lay_ok 400 ?_ ?_ ?_) | (with_reducible refine g_fin ?_ ?_)) | (with_reducible exact o_nil) | ((with_reducible refine o_id ?_); (conv => arg 1; whnf); first | (with_reducible exact o_nil) | fail) | (intro h; ((try simp only [Int.toNat_natCast] at h); repeat (first | replace h := of_decide_eq_true h | replace h := of_decide_eq_false h | fail)); (try (first | contradiction | (exfalso; omega) | fail))) | fail)
    all_goals (((with_reducible refine e_id ?_); (conv => whnf)); refine ⟨(), trivial, ?_⟩; ((with_reducible refine s_id ?_); (conv => arg 1; whnf); (with_reducible refine s_some ?_); repeat' (first | ((with_reducible refine o_id ?_); (conv => arg 1; whnf); first | (with_reducible exact o_nil) | (with_reducible refine o_cons ?_ ?_)) | rfl | fail)))
  rw [uses_0 h1 h2]
  refine trip_by (rs := [_]) 400 lay_ok Try.func102 rfl (by kernel_rfl) Try.ntmps102 Try.results102 rfl rfl ?_
  repeat' (first | (((with_reducible refine g_id ?_); (conv => arg 3; whnf)); first | (with_reducible refine g_cond lay_ok 400 ?_ ?_ ?_) | (with_reducible refine g_fin ?_ ?_)) | ((with_reducible refine o_id ?_); (conv => arg 1; whnf); first | (with_reducible exact o_nil) | fail) | (intro h; ((try simp only [Int.toNat_natCast] at h); repeat (first | replace h := of_decide_eq_true h | replace h := of_decide_eq_false h | fail)); (try (first | (exfalso; omega) | fail))) | fail)
  all_goals (((with_reducible refine e_id ?_); (conv => whnf)); refine ⟨(), trivial, ?_⟩; ((with_reducible refine s_id ?_); (conv => arg 1; whnf); (with_reducible refine s_some ?_); repeat' (first | ((with_reducible refine o_id ?_); (conv => arg 1; whnf); first | (with_reducible exact o_nil) | (with_reducible refine o_cons ?_ ?_)) | rfl | fail)))
attribute [local irreducible] intoN
theorem r_step (n : List Bool) (o : Op_) (hn : n.length ≤ 1048576) (ho : OpL n.length o) : Trip Try.prog 76 [.sl ⟨0, []⟩, .agg [.int .i64 o.kind, .int .i64 o.dst, .int .i64 o.a, .int .i64 o.b, .int .i64 o.imm]] ⟨[], [(0, .list .tmp .bool n)], 1⟩ (Z := Unit) (fun _ => True) (fun _ => .sl ⟨1, []⟩) (fun _ => ⟨[], [(0, .list .tmp .bool n), (1, .list .own .bool (intoN n o))], 2⟩) := by
  obtain ⟨o1, o2, o3⟩ := ho
  by_cases k1 : o.kind = 1
  · obtain ⟨d0, d1⟩ := o1 (by omega)
    have U := r_uses o
    rw [uses_0 (by omega) (by omega)] at U
    have W := r_sets o
    rw [decide_eq_true (by omega : (o.kind = 1 ∨ o.kind = 2 ∨ o.kind = 3 ∨ o.kind = 4))] at W
    refine trip_by (rs := [_]) 400 lay_ok Try.func76 rfl (by kernel_rfl) Try.ntmps76 Try.results76 rfl rfl ?_
    repeat' (first | (((with_reducible refine g_id ?_); (conv => arg 3; whnf)); first | (with_reducible refine g_cond lay_ok 400 ?_ ?_ ?_) | (with_reducible refine g_fin ?_ ?_) | (refine g_call lay_ok 400 ?_ ?_ ?_ (W) rfl) | (refine g_call lay_ok 400 ?_ ?_ ?_ (U) rfl) | (with_reducible refine g_rounds lay_ok 400 3 ?_ ?_)) | (with_reducible refine q_leave lay_ok 400 ?_) | (with_reducible exact o_nil) | ((with_reducible refine o_id ?_); (conv => arg 1; whnf); first | (with_reducible exact o_nil) | (with_reducible refine o_cons ?_ ?_)) | (intro h; ((try simp only [Int.toNat_natCast] at h); repeat (first | replace h := of_decide_eq_true h | replace h := of_decide_eq_false h | fail)); (try (first | contradiction | fail))) | rfl | omega | assumption | (simp only [List.length_append, List.length_cons, List.length_nil]; omega) | fail)
    all_goals (((with_reducible refine e_id ?_); (conv => whnf)); refine ⟨(), trivial, ?_⟩; ((with_reducible refine s_id ?_); (conv => arg 1; whnf); (with_reducible refine s_some ?_); repeat' (first | ((with_reducible refine o_id ?_); (conv => arg 1; whnf); first | (with_reducible exact o_nil) | (with_reducible refine o_cons ?_ ?_)) | rfl | (exact (into_1 k1).symm) | fail)))
  by_cases hk : o.kind = 2 ∨ o.kind = 4
  · obtain ⟨d0, d1⟩ := o1 (by omega)
    obtain ⟨a0, a1⟩ := o2 (by omega)
    have U := r_uses o
    rw [uses_1 hk] at U
    have W := r_sets o
    rw [decide_eq_true (by omega : (o.kind = 1 ∨ o.kind = 2 ∨ o.kind = 3 ∨ o.kind = 4))] at W
    refine trip_by (rs := [_]) 400 lay_ok Try.func76 rfl (by kernel_rfl) Try.ntmps76 Try.results76 rfl rfl ?_
    repeat' (first | (((with_reducible refine g_id ?_); (conv => arg 3; whnf)); first | (with_reducible refine g_cond lay_ok 400 ?_ ?_ ?_) | (with_reducible refine g_fin ?_ ?_) | (refine g_call lay_ok 400 ?_ ?_ ?_ (W) rfl) | (refine g_call lay_ok 400 ?_ ?_ ?_ (U) rfl) | (with_reducible refine g_rounds lay_ok 400 3 ?_ ?_)) | (with_reducible refine q_leave lay_ok 400 ?_) | (with_reducible refine q_next ?_) | (with_reducible exact o_nil) | ((with_reducible refine o_id ?_); (conv => arg 1; whnf); first | (with_reducible exact o_nil) | (with_reducible refine o_cons ?_ ?_)) | (intro h; ((try simp only [Int.toNat_natCast] at h); repeat (first | replace h := of_decide_eq_true h | replace h := of_decide_eq_false h | fail)); (try (first | contradiction | (simp only [List.length_cons, List.length_nil] at h; exfalso; omega)))) | rfl | omega | assumption | (simp only [List.length_append, List.length_cons, List.length_nil]; omega) | (show o.a.toNat < _; simp only [List.nil_append, List.length_set]; omega) | (show o.a < _; simp only [List.nil_append, List.length_set]; omega) | fail)
    all_goals (((with_reducible refine e_id ?_); (conv => whnf)); refine ⟨(), trivial, ?_⟩; ((with_reducible refine s_id ?_); (conv => arg 1; whnf); (with_reducible refine s_some ?_); repeat' (first | ((with_reducible refine o_id ?_); (conv => arg 1; whnf); first | (with_reducible exact o_nil) | (with_reducible refine o_cons ?_ ?_)) | rfl | (exact (into_2 hk).symm) | fail)))
  by_cases k3 : o.kind = 3
  · obtain ⟨d0, d1⟩ := o1 (by omega)
    obtain ⟨a0, a1⟩ := o2 (by omega)
    obtain ⟨b0, b1⟩ := o3 (by omega)
    have U := r_uses o
    rw [uses_2 (by omega)] at U
    have W := r_sets o
    rw [decide_eq_true (by omega : (o.kind = 1 ∨ o.kind = 2 ∨ o.kind = 3 ∨ o.kind = 4))] at W
    refine trip_by (rs := [_]) 400 lay_ok Try.func76 rfl (by kernel_rfl) Try.ntmps76 Try.results76 rfl rfl ?_
    repeat' (first | (((with_reducible refine g_id ?_); (conv => arg 3; whnf)); first | (with_reducible refine g_cond lay_ok 400 ?_ ?_ ?_) | (with_reducible refine g_fin ?_ ?_) | (refine g_call lay_ok 400 ?_ ?_ ?_ (W) rfl) | (refine g_call lay_ok 400 ?_ ?_ ?_ (U) rfl) | (with_reducible refine g_rounds lay_ok 400 3 ?_ ?_)) | (with_reducible refine q_leave lay_ok 400 ?_) | (with_reducible refine q_next ?_) | (with_reducible exact o_nil) | ((with_reducible refine o_id ?_); (conv => arg 1; whnf); first | (with_reducible exact o_nil) | (with_reducible refine o_cons ?_ ?_)) | (intro h; ((try simp only [Int.toNat_natCast] at h); repeat (first | replace h := of_decide_eq_true h | replace h := of_decide_eq_false h | fail)); (try (first | contradiction | (simp only [List.length_cons, List.length_nil] at h; exfalso; omega)))) | rfl | omega | assumption | (simp only [List.length_append, List.length_cons, List.length_nil]; omega) | (show o.a.toNat < _; simp only [List.nil_append, List.length_set]; omega) | (show o.b.toNat < _; simp only [List.nil_append, List.length_set]; omega) | (show o.a < _; simp only [List.nil_append, List.length_set]; omega) | (show o.b < _; simp only [List.nil_append, List.length_set]; omega) | fail)
    all_goals (((with_reducible refine e_id ?_); (conv => whnf)); refine ⟨(), trivial, ?_⟩; ((with_reducible refine s_id ?_); (conv => arg 1; whnf); (with_reducible refine s_some ?_); repeat' (first | ((with_reducible refine o_id ?_); (conv => arg 1; whnf); first | (with_reducible exact o_nil) | (with_reducible refine o_cons ?_ ?_)) | rfl | (exact (into_3 k3).symm) | fail)))
  by_cases k5 : o.kind = 5
  · obtain ⟨a0, a1⟩ := o2 (by omega)
    obtain ⟨b0, b1⟩ := o3 (by omega)
    have U := r_uses o
    rw [uses_2 (by omega)] at U
    have W := r_sets o
    rw [decide_eq_false (by omega : ¬ (o.kind = 1 ∨ o.kind = 2 ∨ o.kind = 3 ∨ o.kind = 4))] at W
    refine trip_by (rs := [_]) 400 lay_ok Try.func76 rfl (by kernel_rfl) Try.ntmps76 Try.results76 rfl rfl ?_
    repeat' (first | (((with_reducible refine g_id ?_); (conv => arg 3; whnf)); first | (with_reducible refine g_cond lay_ok 400 ?_ ?_ ?_) | (with_reducible refine g_fin ?_ ?_) | (refine g_call lay_ok 400 ?_ ?_ ?_ (W) rfl) | (refine g_call lay_ok 400 ?_ ?_ ?_ (U) rfl) | (with_reducible refine g_rounds lay_ok 400 3 ?_ ?_)) | (with_reducible refine q_leave lay_ok 400 ?_) | (with_reducible refine q_next ?_) | (with_reducible exact o_nil) | ((with_reducible refine o_id ?_); (conv => arg 1; whnf); first | (with_reducible exact o_nil) | (with_reducible refine o_cons ?_ ?_)) | (intro h; ((try simp only [Int.toNat_natCast] at h); repeat (first | replace h := of_decide_eq_true h | replace h := of_decide_eq_false h | fail)); (try (first | contradiction | (simp only [List.length_cons, List.length_nil] at h; exfalso; omega)))) | rfl | omega | assumption | (simp only [List.length_append, List.length_cons, List.length_nil]; omega) | (show o.a.toNat < _; simp only [List.nil_append, List.length_set]; omega) | (show o.b.toNat < _; simp only [List.nil_append, List.length_set]; omega) | (show o.b < _; simp only [List.nil_append, List.length_set]; omega) | fail)
    all_goals (((with_reducible refine e_id ?_); (conv => whnf)); refine ⟨(), trivial, ?_⟩; ((with_reducible refine s_id ?_); (conv => arg 1; whnf); (with_reducible refine s_some ?_); repeat' (first | ((with_reducible refine o_id ?_); (conv => arg 1; whnf); first | (with_reducible exact o_nil) | (with_reducible refine o_cons ?_ ?_)) | rfl | (exact (into_5 k5).symm) | fail)))
  have k0 : ¬ (1 ≤ o.kind ∧ o.kind ≤ 5) := by omega
  have U := r_uses o
  rw [uses_0 (by omega) (by omega)] at U
  have W := r_sets o
  rw [decide_eq_false (by omega : ¬ (o.kind = 1 ∨ o.kind = 2 ∨ o.kind = 3 ∨ o.kind = 4))] at W
  refine trip_by (rs := [_]) 400 lay_ok Try.func76 rfl (by kernel_rfl) Try.ntmps76 Try.results76 rfl rfl ?_
  repeat' (first | (((with_reducible refine g_id ?_); (conv => arg 3; whnf)); first | (with_reducible refine g_cond lay_ok 400 ?_ ?_ ?_) | (with_reducible refine g_fin ?_ ?_) | (refine g_call lay_ok 400 ?_ ?_ ?_ (W) rfl) | (refine g_call lay_ok 400 ?_ ?_ ?_ (U) rfl) | (with_reducible refine g_rounds lay_ok 400 3 ?_ ?_)) | (with_reducible refine q_leave lay_ok 400 ?_) | (with_reducible exact o_nil) | ((with_reducible refine o_id ?_); (conv => arg 1; whnf); first | (with_reducible exact o_nil) | (with_reducible refine o_cons ?_ ?_)) | (intro h; ((try simp only [Int.toNat_natCast] at h); repeat (first | replace h := of_decide_eq_true h | replace h := of_decide_eq_false h | fail)); (try (first | contradiction | fail))) | rfl | (simp only [List.length_append, List.length_cons, List.length_nil]; omega) | fail)
  all_goals (((with_reducible refine e_id ?_); (conv => whnf)); refine ⟨(), trivial, ?_⟩; ((with_reducible refine s_id ?_); (conv => arg 1; whnf); (with_reducible refine s_some ?_); repeat' (first | ((with_reducible refine o_id ?_); (conv => arg 1; whnf); first | (with_reducible exact o_nil) | (with_reducible refine o_cons ?_ ?_)) | rfl | (exact (into_0 k0).symm) | fail)))
end Go.Proofs.Ytonjbhdfimcedaa
namespace Go.Proofs.Ytonjbhdfimcedaa
open Go.RowKit
def DIF (c : Bool) (X Y : List Bool) (v : Nat) (d : Bool) : Prop := (d = true ↔ (c = true ∨ ∃ u, u < v ∧ ¬ bg X u = bg Y u))
theorem dif_0 {c : Bool} {X Y : List Bool} : DIF c X Y 0 c := ⟨fun h => .inl h, fun h => h.elim id fun ⟨u, hu, _⟩ => absurd hu (Nat.not_lt_zero u)⟩
theorem dif_t {c : Bool} {X Y : List Bool} {v : Nat} (h : DIF c X Y v true) : DIF c X Y (v + 1) true := ⟨fun q => (h.1 q).imp id fun ⟨u, hu, hx⟩ => ⟨u, Nat.lt_succ_of_lt hu, hx⟩, fun _ => rfl⟩
theorem dif_f {c : Bool} {X Y : List Bool} {v : Nat} (h : DIF c X Y v false) : DIF c X Y (v + 1) (!decide (bg X v = bg Y v)) := by
  have h1 : ¬ (c = true ∨ ∃ u, u < v ∧ ¬ bg X u = bg Y u) := fun q => by cases h.2 q
  constructor
  · intro q
    refine .inr ⟨v, Nat.lt_succ_self v, fun e => ?_⟩
    rw [decide_eq_true e] at q
    cases q
  · rintro (q | ⟨u, hu, hx⟩)
    · exact absurd (.inl q) h1
    · rcases Nat.lt_or_ge u v with a | a
      · exact absurd (.inr ⟨u, a, hx⟩) h1
      · have : u = v := by omega
        subst this
        rw [decide_eq_false hx]; rfl
theorem dif_all {c d : Bool} {X Y : List Bool} (hl : X.length = Y.length) (h : DIF c X Y X.length d) : d = true ↔ (c = true ∨ ¬ X = Y) := by
  refine h.trans ⟨fun q => q.imp id fun ⟨u, _, hx⟩ e => hx (by rw [e]), fun q => q.imp id fun hx => Classical.byContradiction fun hn => hx (gt_ext (c := .bool) hl fun u hu => Classical.byContradiction fun hne => hn ⟨u, hu, hne⟩)⟩
theorem flag_d {c d : Bool} {B B1 : List (List Bool)} {i : Nat} {X : List Bool} (hch : c = true ↔ ¬ B1 = B) (hd : d = true ↔ (c = true ∨ ¬ X = gt (c := .bools) B1 i)) (h : LeBB B B1) (h2 : LeBB B1 (B1.set i X)) (hi : i < B1.length) : d = true ↔ ¬ B1.set i X = B := by
  by_cases e : X = gt (c := .bools) B1 i
  · have : B1.set i X = B1 := by rw [e]; exact set_same hi
    rw [this, ← hch]
    exact hd.trans ⟨fun q => q.elim id fun r => absurd e r, fun q => .inl q⟩
  · exact ⟨fun _ => chg_t h h2 hi e, fun _ => hd.2 (.inr e)⟩
theorem kp_0 {g : Grf} {b : Blk} (h : b.next.length = 0) : kpE g b = keepT g g.keep.toNat := by unfold kpE; rw [if_pos h]
theorem kp_1 {g : Grf} {b : Blk} (h : ¬ b.next.length = 0) : kpE g b = List.replicate g.vars.toNat false := by unfold kpE; rw [if_neg h, keepT_0]
theorem doc_2 {g : Grf} {B : List (List Bool)} {b : Blk} (h : b.next.length = 2) (hc : 0 ≤ b.cond ∧ b.cond < g.vars) : (orNs (kpE g b) B b.next).set b.cond.toNat true = freshE g B b := by rw [← doc_step fun _ => hc]; unfold docE; rw [if_pos h]
theorem doc_n {g : Grf} {B : List (List Bool)} {b : Blk} (h : ¬ b.next.length = 2) : orNs (kpE g b) B b.next = freshE g B b := by rw [← doc_step fun q => absurd q h]; unfold docE; rw [if_neg h]
theorem orT_t {e b : List Bool} {v : Nat} (hv : v < e.length) (h : gt (c := .bool) (orT e b v) v = true) : (orT e b v).set v true = orT e b (v + 1) := by
  rw [← orT_s hv]; rw [show bg (orT e b v) v = true from h]; rfl
theorem orT_f {e b : List Bool} {v : Nat} (hv : v < e.length) (h : gt (c := .bool) (orT e b v) v = false) : (orT e b v).set v (gt (c := .bool) b v) = orT e b (v + 1) := by
  rw [← orT_s hv]; rw [show bg (orT e b v) v = false from h]; rfl
set_option maxHeartbeats 4000000 in
theorem r_liveO (g : Grf) (hB : Bnd g) (he : chkG g = 0) (H : LvOK g) : Trip Try.prog 41 [.agg [.sl ⟨0, []⟩, .int .i64 g.vars, .int .i64 g.keep, .sl ⟨1, []⟩, .int .i64 g.shared, .sl ⟨2, []⟩, .sl ⟨3, []⟩, .sl ⟨4, []⟩]] ⟨[], [(0, .list .tmp .input g.inp), (1, .list .tmp .array g.arrs), (2, .list .tmp .block g.blks), (3, .list .tmp .ints g.pts), (4, .list .tmp .head g.hds)], 5⟩ (Z := Unit) (fun _ => True) (fun _ => .tup [.sl ⟨5, []⟩, .int .i64 0]) (fun _ => ⟨[], [(0, .list .tmp .input g.inp), (1, .list .tmp .array g.arrs), (2, .list .tmp .block g.blks), (3, .list .tmp .ints g.pts), (4, .list .tmp .head g.hds), (5, .list .sh .bools (liveL g))], 6⟩) := by
  have C0 := r_check1 g hB
  rw [he] at C0
  obtain ⟨hv, hk, hb, hn, hc, ho⟩ := H
  have hB0 : (zeroL g).length = g.blks.length := List.length_replicate
  refine trip_by (rs := [_, _]) 400 lay_ok Try.func41 rfl (by kernel_rfl) Try.ntmps41 Try.results41 rfl rfl ?_
  repeat' (first | (((with_reducible refine g_id ?_); (conv => arg 3; whnf)); first | (with_reducible refine g_cond lay_ok 400 ?_ ?_ ?_) | (refine g_call lay_ok 400 ?_ ?_ ?_ (C0) rfl) | fail) | ((with_reducible refine o_id ?_); (conv => arg 1; whnf); first | (with_reducible exact o_nil) | (with_reducible refine o_cons ?_ ?_)) | (intro h; ((try simp only [Int.toNat_natCast] at h); repeat (first | replace h := of_decide_eq_true h | replace h := of_decide_eq_false h | replace h := not_t h | replace h := not_f h | fail)); (try (first | contradiction | fail))) | rfl | fail)
  ((with_reducible refine g_id ?_); (conv => arg 3; whnf))
  refine g_mid lay_ok 1 400 (Z := Unit) (fun _ => True) (fun _ => ⟨[(1, .ptr 5 0), (5, .int .i64 (g.blks.length : Int)), (6, .sl ⟨6, []⟩), (7, .sl ⟨7, []⟩)], [(0, .list .tmp .input g.inp), (1, .list .tmp .array g.arrs), (2, .list .tmp .block g.blks), (3, .list .tmp .ints g.pts), (4, .list .tmp .head g.hds), (5, .cells [.sl ⟨0, []⟩, .int .i64 g.vars, .int .i64 g.keep, .sl ⟨1, []⟩, .int .i64 g.shared, .sl ⟨2, []⟩, .sl ⟨3, []⟩, .sl ⟨4, []⟩]), (6, .list .own .bools (zeroL g)), (7, .list .own .bools (zeroL g))], 8⟩) rfl ?_ (fun _ _ => ?_)
  · refine g_loop lay_ok 400 (Z := Nat) (fun i => i ≤ g.blks.length) (fun i => ⟨[(1, .ptr 5 0), (5, .int .i64 (g.blks.length : Int)), (6, .sl ⟨6, []⟩), (7, .sl ⟨7, []⟩), (8, .int .i64 (i : Int))], [(0, .list .tmp .input g.inp), (1, .list .tmp .array g.arrs), (2, .list .tmp .block g.blks), (3, .list .tmp .ints g.pts), (4, .list .tmp .head g.hds), (5, .cells [.sl ⟨0, []⟩, .int .i64 g.vars, .int .i64 g.keep, .sl ⟨1, []⟩, .int .i64 g.shared, .sl ⟨2, []⟩, .sl ⟨3, []⟩, .sl ⟨4, []⟩]), (6, .list .own .bools (fillL (zeroL g) i)), (7, .list .own .bools (fillL (zeroL g) i))], 8⟩) (fun i => g.blks.length - i) ?_ ⟨0, Nat.zero_le _, ?_⟩ (fun i hi => ?_)
    · repeat' (first | ((with_reducible refine o_id ?_); (conv => arg 1; whnf); first | (with_reducible exact o_nil) | (with_reducible refine o_cons ?_ ?_)) | rfl | omega | fail)
    · ((with_reducible refine s_id ?_); (conv => arg 1; whnf); (with_reducible refine s_some ?_); repeat' (first | ((with_reducible refine o_id ?_); (conv => arg 1; whnf); first | (with_reducible exact o_nil) | (with_reducible refine o_cons ?_ ?_)) | rfl | (exact (fill_0 hB0).symm) | fail))
    have hlB := fill_len (F := zeroL g) (i := i) (by omega)
    by_cases hlt : i < g.blks.length
    · repeat' (first | (((with_reducible refine g_id ?_); (conv => arg 3; whnf)); first | (with_reducible refine g_cond lay_ok 400 ?_ ?_ ?_) | (with_reducible refine g_fin ?_ ?_) | (refine g_storeL lay_ok 400 ?_ rfl rfl ?_ ?_) | (refine g_flow 10 lay_ok mixed_ok 400 10816 [0, 0, 0, 0, 0, 16, 48, 0, 128, 384, 115, 1139, 4095, 8191] (.q 0 (.q 1 (.q 2 (.q 3 (.q 4 (.q 5 (.q 7 (.q 8 (.e 6 [0, 1, 2, 3, 7, 8] (.q 10 (.e 9 [0, 1, 2, 3, 4, 5, 10] (.e 11 [2, 3, 7, 8] (.q 12 (.e 13 [] (.fin) .stop)) .stop) (.e 11 [2, 3, 7, 8] (.e 9 [0, 1, 2, 3, 4, 5, 10] (.q 12 (.e 13 [] (.fin) .stop)) .stop) .stop))) (.e 9 [0, 1, 2, 3, 4, 5] (.e 6 [0, 1, 2, 3, 7, 8] (.q 10 (.e 11 [2, 3, 7, 8] (.q 12 (.e 13 [] (.fin) .stop)) .stop)) .stop) .stop)))))))))) (by kernel_rfl) ?_ ?_) | fail) | (((with_reducible refine w_id ?_); (conv => arg 4; whnf)); first | (with_reducible refine w_fin ?_ ?_) | (with_reducible refine w_tt ?_) | (with_reducible refine w_eff lay_ok 400 ?_ rfl rfl ?_ ?_)) | (with_reducible refine q_flow ?_ ?_) | ((with_reducible refine h_id ?_); (conv => arg 1; whnf); (with_reducible refine s_some ?_)) | (with_reducible exact o_nil) | (with_reducible refine o_cons ?_ ?_) | ((with_reducible refine o_id ?_); (conv => arg 1; whnf); first | (with_reducible exact o_nil) | (with_reducible refine o_cons ?_ ?_)) | (intro h; ((try simp only [Int.toNat_natCast] at h); repeat (first | replace h := of_decide_eq_true h | replace h := of_decide_eq_false h | fail)); (try (first | (exfalso; omega) | fail))) | rfl | omega | (simp only [List.length_nil, List.length_cons, List.length_append, List.length_take, List.length_set, Int.toNat_natCast, Nat.zero_add]; omega))
      all_goals (refine q_round ⟨i + 1, by omega, by omega, ?_⟩; ((with_reducible refine s_id ?_); (conv => arg 1; whnf); (with_reducible refine s_some ?_); repeat' (first | ((with_reducible refine o_id ?_); (conv => arg 1; whnf); first | (with_reducible exact o_nil) | (with_reducible refine o_cons ?_ ?_)) | rfl | (exact (zero_set hlt).symm) | fail)))
    have hie : i = g.blks.length := by omega
    repeat' (first | (((with_reducible refine g_id ?_); (conv => arg 3; whnf)); first | (with_reducible refine g_cond lay_ok 400 ?_ ?_ ?_) | (with_reducible refine g_fin ?_ ?_) | fail) | (with_reducible refine q_leave lay_ok 400 ?_) | (with_reducible exact o_nil) | ((with_reducible refine o_id ?_); (conv => arg 1; whnf); first | (with_reducible exact o_nil) | fail) | (intro h; ((try simp only [Int.toNat_natCast] at h); repeat (first | replace h := of_decide_eq_true h | replace h := of_decide_eq_false h | fail)); (try (first | (exfalso; omega) | fail))) | fail)
    subst hie
    all_goals (refine q_round ⟨(), trivial, ?_⟩; ((with_reducible refine s_id ?_); (conv => arg 1; whnf); (with_reducible refine s_some ?_); repeat' (first | ((with_reducible refine o_id ?_); (conv => arg 1; whnf); first | (with_reducible exact o_nil) | (with_reducible refine o_cons ?_ ?_)) | rfl | (exact (fill_all' hB0).symm) | fail)))
  ((with_reducible refine g_id ?_); (conv => arg 3; whnf))
  refine g_loop lay_ok 400 (Z := Nat × S2) (fun z => (0 < z.1 → InvB g z.2.2 ∧ z.2.1.length = g.blks.length ∧ cFF z.2.2 + 1 ≤ z.1 ∧ (fixL g z.1 z.2).1 = liveL g) ∧ (z.1 = 0 → z.2.1 = liveL g)) (fun z => ⟨[(1, .ptr 5 0), (5, .int .i64 (g.blks.length : Int)), (6, .sl ⟨6, []⟩), (7, .sl ⟨7, []⟩), (9, .bool (decide (0 < z.1)))], [(0, .list .tmp .input g.inp), (1, .list .tmp .array g.arrs), (2, .list .tmp .block g.blks), (3, .list .tmp .ints g.pts), (4, .list .tmp .head g.hds), (5, .cells [.sl ⟨0, []⟩, .int .i64 g.vars, .int .i64 g.keep, .sl ⟨1, []⟩, .int .i64 g.shared, .sl ⟨2, []⟩, .sl ⟨3, []⟩, .sl ⟨4, []⟩]), (6, .list .sh .bools z.2.1), (7, .list .sh .bools z.2.2)], 8⟩) (fun z => z.1) ?_ ⟨(cFF (zeroL g) + 1, (zeroL g, zeroL g)), ⟨fun _ => ⟨zero_inv, hB0, Nat.le_refl _, rfl⟩, fun h => by cases h⟩, ?_⟩ (fun z hz => ?_)
  · repeat' (first | ((with_reducible refine o_id ?_); (conv => arg 1; whnf); first | (with_reducible exact o_nil) | fail) | fail)
  · ((with_reducible refine s_id ?_); (conv => arg 1; whnf); (with_reducible refine s_some ?_); repeat' (first | ((with_reducible refine o_id ?_); (conv => arg 1; whnf); first | (with_reducible exact o_nil) | (with_reducible refine o_cons ?_ ?_)) | rfl | fail))
  obtain ⟨f, E, B⟩ := z
  obtain ⟨hz1, hz2⟩ := hz
  dsimp only at hz1 hz2 ⊢
  by_cases hfp : 0 < f
  rotate_left
  · have hE := hz2 (by omega)
    subst hE
    repeat' (first | (((with_reducible refine g_id ?_); (conv => arg 3; whnf)); first | (with_reducible refine g_cond lay_ok 400 ?_ ?_ ?_) | (with_reducible refine g_fin ?_ ?_) | fail) | (with_reducible refine q_leave lay_ok 400 ?_) | (with_reducible exact o_nil) | ((with_reducible refine o_id ?_); (conv => arg 1; whnf); first | (with_reducible exact o_nil) | fail) | (intro h; ((try simp only [Int.toNat_natCast] at h); repeat (first | replace h := of_decide_eq_true h | replace h := of_decide_eq_false h | fail)); (try (first | contradiction | fail))) | fail)
    all_goals (((with_reducible refine e_id ?_); (conv => whnf)); refine ⟨(), trivial, ?_⟩; ((with_reducible refine s_id ?_); (conv => arg 1; whnf); (with_reducible refine s_some ?_); repeat' (first | ((with_reducible refine o_id ?_); (conv => arg 1; whnf); first | (with_reducible exact o_nil) | (with_reducible refine o_cons ?_ ?_)) | rfl | fail)))
  obtain ⟨hIB, hEl0, hf, hfx⟩ := hz1 hfp
  repeat' (first | (((with_reducible refine g_id ?_); (conv => arg 3; whnf)); first | (with_reducible refine g_cond lay_ok 400 ?_ ?_ ?_) | fail) | ((with_reducible refine o_id ?_); (conv => arg 1; whnf); first | (with_reducible exact o_nil) | fail) | (intro h; ((try simp only [Int.toNat_natCast] at h); repeat (first | replace h := of_decide_eq_true h | replace h := of_decide_eq_false h | fail)); (try (first | contradiction | fail))) | fail)
  ((with_reducible refine g_id ?_); (conv => arg 3; whnf))
  refine g_loop lay_ok 400 (Z := Nat × S2 × Bool) (fun w => w.1 ≤ g.blks.length ∧ InvB g w.2.1.2 ∧ w.2.1.1.length = g.blks.length ∧ passL g w.1 w.2.1 = passL g g.blks.length (E, B) ∧ LeBB B w.2.1.2 ∧ (w.2.2 = true ↔ ¬ w.2.1.2 = B)) (fun w => ⟨[(1, .ptr 5 0), (5, .int .i64 (g.blks.length : Int)), (6, .sl ⟨6, []⟩), (7, .sl ⟨7, []⟩), (9, .bool w.2.2), (10, .int .i64 ((w.1 : Int) - 1))], [(0, .list .tmp .input g.inp), (1, .list .tmp .array g.arrs), (2, .list .tmp .block g.blks), (3, .list .tmp .ints g.pts), (4, .list .tmp .head g.hds), (5, .cells [.sl ⟨0, []⟩, .int .i64 g.vars, .int .i64 g.keep, .sl ⟨1, []⟩, .int .i64 g.shared, .sl ⟨2, []⟩, .sl ⟨3, []⟩, .sl ⟨4, []⟩]), (6, .list .sh .bools w.2.1.1), (7, .list .sh .bools w.2.1.2)], 8⟩) (fun w => w.1) ?_ ⟨(g.blks.length, (E, B), false), ⟨Nat.le_refl _, hIB, hEl0, rfl, LeBB.refl _, by simp⟩, ?_⟩ (fun w hw => ?_)
  · repeat' (first | ((with_reducible refine o_id ?_); (conv => arg 1; whnf); first | (with_reducible exact o_nil) | (with_reducible refine o_cons ?_ ?_)) | omega | fail)
  · ((with_reducible refine s_id ?_); (conv => arg 1; whnf); (with_reducible refine s_some ?_); repeat' (first | ((with_reducible refine o_id ?_); (conv => arg 1; whnf); first | (with_reducible exact o_nil) | (with_reducible refine o_cons ?_ ?_)) | rfl | fail))
  obtain ⟨k, ⟨E1, B1⟩, c⟩ := w
  obtain ⟨hk1, hB1, hE1, hps, hle, hch⟩ := hw
  dsimp only at hk1 hB1 hE1 hps hle hch ⊢
  rcases k with _ | i
  · have hp0 : (E1, B1) = passL g g.blks.length (E, B) := hps
    cases c
    · have he1 : B1 = B := Classical.byContradiction fun q => by have := hch.2 q; simp_all
      repeat' (first | (((with_reducible refine g_id ?_); (conv => arg 3; whnf)); first | (with_reducible refine g_cond lay_ok 400 ?_ ?_ ?_) | (with_reducible refine g_fin ?_ ?_) | fail) | (with_reducible refine q_leave lay_ok 400 ?_) | (with_reducible exact o_nil) | ((with_reducible refine o_id ?_); (conv => arg 1; whnf); first | (with_reducible exact o_nil) | fail) | (intro h; ((try simp only [Int.toNat_natCast] at h); repeat (first | replace h := of_decide_eq_true h | replace h := of_decide_eq_false h | fail)); (try (first | contradiction | fail))) | fail)
      all_goals (refine q_round ⟨(0, (E1, B1)), ⟨fun q => absurd q (Nat.lt_irrefl 0), fun _ => by rw [← hfx, fix_end (by omega) hp0 he1]⟩, hfp, ?_⟩; ((with_reducible refine s_id ?_); (conv => arg 1; whnf); (with_reducible refine s_some ?_); repeat' (first | ((with_reducible refine o_id ?_); (conv => arg 1; whnf); first | (with_reducible exact o_nil) | (with_reducible refine o_cons ?_ ?_)) | rfl | fail)))
    have hne := hch.1 rfl
    have hcn := pass_cnt hIB (g := g) (s := (E, B)) (by rw [← hp0]; exact hne)
    rw [← hp0] at hcn
    dsimp only at hcn
    repeat' (first | (((with_reducible refine g_id ?_); (conv => arg 3; whnf)); first | (with_reducible refine g_cond lay_ok 400 ?_ ?_ ?_) | (with_reducible refine g_fin ?_ ?_) | fail) | (with_reducible refine q_leave lay_ok 400 ?_) | (with_reducible exact o_nil) | ((with_reducible refine o_id ?_); (conv => arg 1; whnf); first | (with_reducible exact o_nil) | fail) | (intro h; ((try simp only [Int.toNat_natCast] at h); repeat (first | replace h := of_decide_eq_true h | replace h := of_decide_eq_false h | fail)); (try (first | contradiction | fail))) | fail)
    all_goals (refine q_round ⟨(f - 1, (E1, B1)), ⟨fun _ => ⟨hB1, hE1, by dsimp only; omega, by rw [← hfx]; exact congrArg Prod.fst (fix_go (by omega) hp0 hne).symm⟩, fun q => absurd q (by dsimp only; omega)⟩, by dsimp only; omega, ?_⟩; ((with_reducible refine s_id ?_); (conv => arg 1; whnf); (with_reducible refine s_some ?_); repeat' (first | ((with_reducible refine o_id ?_); (conv => arg 1; whnf); first | (with_reducible exact o_nil) | (with_reducible refine o_cons ?_ ?_)) | rfl | (exact decide_eq_true (by dsimp only; omega)) | fail)))
  have e9 : (((i + 1 : Nat) : Int) - 1) = (i : Int) := by omega
  rw [e9]
  have hlt : i < g.blks.length := hk1
  have hx := mem_gt (c := .block) hlt
  obtain ⟨n2, hnx⟩ := hn _ hx
  obtain ⟨o2, hox⟩ := ho _ hx
  have hcx := hc _ hx
  have hEi : i < E1.length := by rw [hE1]; exact hlt
  have hBl : B1.length = g.blks.length := hB1.l
  have hBi0 : i < B1.length := by rw [hBl]; exact hlt
  have hnl : ∀ j, j < (gt (c := .block) g.blks i).next.length → 0 ≤ (gt (c := .int) (gt (c := .block) g.blks i).next j : Int) ∧ (gt (c := .int) (gt (c := .block) g.blks i).next j : Int) < (g.blks.length : Int) := fun j hj => hnx _ (mem_gt (c := .int) hj)
  have hkl : (kpE g (gt (c := .block) g.blks i)).length = g.vars.toNat := kp_len
  repeat' (first | (((with_reducible refine g_id ?_); (conv => arg 3; whnf)); first | (with_reducible refine g_cond lay_ok 400 ?_ ?_ ?_) | fail) | ((with_reducible refine o_id ?_); (conv => arg 1; whnf); first | (with_reducible exact o_nil) | fail) | (intro h; ((try simp only [Int.toNat_natCast] at h); repeat (first | replace h := of_decide_eq_true h | replace h := of_decide_eq_false h | fail)); (try (first | (exfalso; omega) | fail))) | fail)
  ((with_reducible refine g_id ?_); (conv => arg 3; whnf))
  refine g_mid lay_ok 1 400 (Z := Unit) (fun _ => True) (fun _ => ⟨[(1, .ptr 5 0), (5, .int .i64 (g.blks.length : Int)), (6, .sl ⟨6, []⟩), (7, .sl ⟨7, []⟩), (9, .bool c), (10, .int .i64 (i : Int)), (11, .ptr 8 0), (12, .sl ⟨9, []⟩)], [(0, .list .tmp .input g.inp), (1, .list .tmp .array g.arrs), (2, .list .tmp .block g.blks), (3, .list .tmp .ints g.pts), (4, .list .tmp .head g.hds), (5, .cells [.sl ⟨0, []⟩, .int .i64 g.vars, .int .i64 g.keep, .sl ⟨1, []⟩, .int .i64 g.shared, .sl ⟨2, []⟩, .sl ⟨3, []⟩, .sl ⟨4, []⟩]), (6, .list .sh .bools E1), (7, .list .sh .bools B1), (8, .cells [.sl ⟨2, [(i, 0)]⟩, .int .i64 (gt (c := .block) g.blks i).cond, .sl ⟨2, [(i, 2)]⟩]), (9, .list .own .bool (kpE g (gt (c := .block) g.blks i)))], 10⟩) rfl ?_ (fun _ _ => ?_)
  · by_cases h0 : (gt (c := .block) g.blks i).next.length = 0
    · refine g_loop lay_ok 400 (Z := Nat) (fun z => (z : Int) ≤ g.keep) (fun z => ⟨[(1, .ptr 5 0), (5, .int .i64 (g.blks.length : Int)), (6, .sl ⟨6, []⟩), (7, .sl ⟨7, []⟩), (9, .bool c), (10, .int .i64 (i : Int)), (11, .ptr 8 0), (12, .sl ⟨9, []⟩), (13, .int .i64 (z : Int))], [(0, .list .tmp .input g.inp), (1, .list .tmp .array g.arrs), (2, .list .tmp .block g.blks), (3, .list .tmp .ints g.pts), (4, .list .tmp .head g.hds), (5, .cells [.sl ⟨0, []⟩, .int .i64 g.vars, .int .i64 g.keep, .sl ⟨1, []⟩, .int .i64 g.shared, .sl ⟨2, []⟩, .sl ⟨3, []⟩, .sl ⟨4, []⟩]), (6, .list .sh .bools E1), (7, .list .sh .bools B1), (8, .cells [.sl ⟨2, [(i, 0)]⟩, .int .i64 (gt (c := .block) g.blks i).cond, .sl ⟨2, [(i, 2)]⟩]), (9, .list .own .bool (keepT g z))], 10⟩) (fun z => g.keep.toNat - z) ?_ ⟨0, by omega, ?_⟩ (fun z hz => ?_)
      · repeat' (first | ((with_reducible refine o_id ?_); (conv => arg 1; whnf); first | (with_reducible exact o_nil) | (with_reducible refine o_cons ?_ ?_)) | rfl | omega | fail)
      · ((with_reducible refine s_id ?_); (conv => arg 1; whnf); (with_reducible refine s_some ?_); repeat' (first | ((with_reducible refine o_id ?_); (conv => arg 1; whnf); first | (with_reducible exact o_nil) | (with_reducible refine o_cons ?_ ?_)) | rfl | (exact keepT_0) | fail))
      have hkt : (keepT g z).length = g.vars.toNat := tab_len
      by_cases hlk : (z : Int) < g.keep
      · repeat' (first | (((with_reducible refine g_id ?_); (conv => arg 3; whnf)); first | (with_reducible refine g_split lay_ok 400 ?_ ?_ ?_) | (with_reducible refine g_cond lay_ok 400 ?_ ?_ ?_) | (with_reducible refine g_fin ?_ ?_) | fail) | ((with_reducible refine o_id ?_); (conv => arg 1; whnf); first | (with_reducible exact o_nil) | (with_reducible refine o_cons ?_ ?_)) | (intro h; ((try simp only [Int.toNat_natCast] at h); repeat (first | replace h := of_decide_eq_true h | replace h := of_decide_eq_false h | fail)); (try (first | contradiction | (exfalso; omega) | fail))) | omega | fail)
        all_goals (refine q_round ⟨z + 1, by omega, by omega, ?_⟩; ((with_reducible refine s_id ?_); (conv => arg 1; whnf); (with_reducible refine s_some ?_); repeat' (first | ((with_reducible refine o_id ?_); (conv => arg 1; whnf); first | (with_reducible exact o_nil) | (with_reducible refine o_cons ?_ ?_)) | rfl | (exact (keepT_s (by omega)).symm) | fail)))
      have hze : z = g.keep.toNat := by omega
      repeat' (first | (((with_reducible refine g_id ?_); (conv => arg 3; whnf)); first | (with_reducible refine g_split lay_ok 400 ?_ ?_ ?_) | (with_reducible refine g_fin ?_ ?_) | fail) | (with_reducible refine q_leave lay_ok 400 ?_) | (with_reducible exact o_nil) | ((with_reducible refine o_id ?_); (conv => arg 1; whnf); first | (with_reducible exact o_nil) | fail) | (intro h; ((try simp only [Int.toNat_natCast] at h); repeat (first | replace h := of_decide_eq_true h | replace h := of_decide_eq_false h | fail)); (try (first | contradiction | fail))) | fail)
      all_goals (refine q_round ⟨(), trivial, ?_⟩; ((with_reducible refine s_id ?_); (conv => arg 1; whnf); (with_reducible refine s_some ?_); repeat' (first | ((with_reducible refine o_id ?_); (conv => arg 1; whnf); first | (with_reducible exact o_nil) | (with_reducible refine o_cons ?_ ?_)) | rfl | (rw [hze]; exact kp_0 h0) | fail)))
    repeat' (first | (((with_reducible refine g_id ?_); (conv => arg 3; whnf)); first | (with_reducible refine g_split lay_ok 400 ?_ ?_ ?_) | (with_reducible refine g_cond lay_ok 400 ?_ ?_ ?_) | (with_reducible refine g_fin ?_ ?_) | (with_reducible refine g_rounds lay_ok 400 1 ?_ ?_) | fail) | (with_reducible refine q_leave lay_ok 400 ?_) | (with_reducible exact o_nil) | ((with_reducible refine o_id ?_); (conv => arg 1; whnf); first | (with_reducible exact o_nil) | (with_reducible refine o_cons ?_ ?_)) | (intro h; ((try simp only [Int.toNat_natCast] at h); repeat (first | replace h := of_decide_eq_true h | replace h := of_decide_eq_false h | fail)); (try (first | (exfalso; omega) | fail))) | rfl | omega | fail)
    all_goals (refine q_round ⟨(), trivial, ?_⟩; ((with_reducible refine s_id ?_); (conv => arg 1; whnf); (with_reducible refine s_some ?_); repeat' (first | ((with_reducible refine o_id ?_); (conv => arg 1; whnf); first | (with_reducible exact o_nil) | (with_reducible refine o_cons ?_ ?_)) | rfl | (exact kp_1 h0) | fail)))
  ((with_reducible refine g_id ?_); (conv => arg 3; whnf))
  refine g_mid lay_ok 1 400 (Z := Unit) (fun _ => True) (fun _ => ⟨[(1, .ptr 5 0), (5, .int .i64 (g.blks.length : Int)), (6, .sl ⟨6, []⟩), (7, .sl ⟨7, []⟩), (9, .bool c), (10, .int .i64 (i : Int)), (11, .ptr 8 0), (12, .sl ⟨9, []⟩)], [(0, .list .tmp .input g.inp), (1, .list .tmp .array g.arrs), (2, .list .tmp .block g.blks), (3, .list .tmp .ints g.pts), (4, .list .tmp .head g.hds), (5, .cells [.sl ⟨0, []⟩, .int .i64 g.vars, .int .i64 g.keep, .sl ⟨1, []⟩, .int .i64 g.shared, .sl ⟨2, []⟩, .sl ⟨3, []⟩, .sl ⟨4, []⟩]), (6, .list .sh .bools E1), (7, .list .sh .bools B1), (8, .cells [.sl ⟨2, [(i, 0)]⟩, .int .i64 (gt (c := .block) g.blks i).cond, .sl ⟨2, [(i, 2)]⟩]), (9, .list .own .bool (orNs (kpE g (gt (c := .block) g.blks i)) B1 (gt (c := .block) g.blks i).next))], 10⟩) rfl ?_ (fun _ _ => ?_)
  · refine g_loop lay_ok 400 (Z := Nat) (fun j => j ≤ (gt (c := .block) g.blks i).next.length) (fun j => ⟨[(1, .ptr 5 0), (5, .int .i64 (g.blks.length : Int)), (6, .sl ⟨6, []⟩), (7, .sl ⟨7, []⟩), (9, .bool c), (10, .int .i64 (i : Int)), (11, .ptr 8 0), (12, .sl ⟨9, []⟩), (14, .int .i64 (j : Int))], [(0, .list .tmp .input g.inp), (1, .list .tmp .array g.arrs), (2, .list .tmp .block g.blks), (3, .list .tmp .ints g.pts), (4, .list .tmp .head g.hds), (5, .cells [.sl ⟨0, []⟩, .int .i64 g.vars, .int .i64 g.keep, .sl ⟨1, []⟩, .int .i64 g.shared, .sl ⟨2, []⟩, .sl ⟨3, []⟩, .sl ⟨4, []⟩]), (6, .list .sh .bools E1), (7, .list .sh .bools B1), (8, .cells [.sl ⟨2, [(i, 0)]⟩, .int .i64 (gt (c := .block) g.blks i).cond, .sl ⟨2, [(i, 2)]⟩]), (9, .list .own .bool (orNs (kpE g (gt (c := .block) g.blks i)) B1 ((gt (c := .block) g.blks i).next.take j)))], 10⟩) (fun j => (gt (c := .block) g.blks i).next.length - j) ?_ ⟨0, Nat.zero_le _, ?_⟩ (fun j hj => ?_)
    · repeat' (first | ((with_reducible refine o_id ?_); (conv => arg 1; whnf); first | (with_reducible exact o_nil) | fail) | fail)
    · ((with_reducible refine s_id ?_); (conv => arg 1; whnf); (with_reducible refine s_some ?_); repeat' (first | ((with_reducible refine o_id ?_); (conv => arg 1; whnf); first | (with_reducible exact o_nil) | (with_reducible refine o_cons ?_ ?_)) | rfl | fail))
    by_cases hj1 : j < (gt (c := .block) g.blks i).next.length
    · have hBr : List.length (gt (c := .bools) B1 (gt (c := .int) (gt (c := .block) g.blks i).next j : Int).toNat) = g.vars.toNat := hB1.r (gt (c := .int) (gt (c := .block) g.blks i).next j : Int).toNat (nx_lt (hnl j hj1))
      repeat' (first | (((with_reducible refine g_id ?_); (conv => arg 3; whnf)); first | (with_reducible refine g_cond lay_ok 400 ?_ ?_ ?_) | fail) | ((with_reducible refine o_id ?_); (conv => arg 1; whnf); first | (with_reducible exact o_nil) | (with_reducible refine o_cons ?_ ?_)) | (intro h; ((try simp only [Int.toNat_natCast] at h); repeat (first | replace h := of_decide_eq_true h | replace h := of_decide_eq_false h | fail)); (try (first | (exfalso; omega) | fail))) | omega | fail)
      ((with_reducible refine g_id ?_); (conv => arg 3; whnf))
      refine g_loop lay_ok 400 (Z := Nat) (fun v => v ≤ g.vars.toNat) (fun v => ⟨[(1, .ptr 5 0), (5, .int .i64 (g.blks.length : Int)), (6, .sl ⟨6, []⟩), (7, .sl ⟨7, []⟩), (9, .bool c), (10, .int .i64 (i : Int)), (11, .ptr 8 0), (12, .sl ⟨9, []⟩), (14, .int .i64 (j : Int)), (15, .int .i64 (v : Int))], [(0, .list .tmp .input g.inp), (1, .list .tmp .array g.arrs), (2, .list .tmp .block g.blks), (3, .list .tmp .ints g.pts), (4, .list .tmp .head g.hds), (5, .cells [.sl ⟨0, []⟩, .int .i64 g.vars, .int .i64 g.keep, .sl ⟨1, []⟩, .int .i64 g.shared, .sl ⟨2, []⟩, .sl ⟨3, []⟩, .sl ⟨4, []⟩]), (6, .list .sh .bools E1), (7, .list .sh .bools B1), (8, .cells [.sl ⟨2, [(i, 0)]⟩, .int .i64 (gt (c := .block) g.blks i).cond, .sl ⟨2, [(i, 2)]⟩]), (9, .list .own .bool (orT (orNs (kpE g (gt (c := .block) g.blks i)) B1 ((gt (c := .block) g.blks i).next.take j)) (gt (c := .bools) B1 (gt (c := .int) (gt (c := .block) g.blks i).next j : Int).toNat) v))], 10⟩) (fun v => g.vars.toNat - v) ?_ ⟨0, Nat.zero_le _, ?_⟩ (fun v hv => ?_)
      · repeat' (first | ((with_reducible refine o_id ?_); (conv => arg 1; whnf); first | (with_reducible exact o_nil) | fail) | fail)
      · ((with_reducible refine s_id ?_); (conv => arg 1; whnf); (with_reducible refine s_some ?_); repeat' (first | ((with_reducible refine o_id ?_); (conv => arg 1; whnf); first | (with_reducible exact o_nil) | (with_reducible refine o_cons ?_ ?_)) | rfl | (exact orT_0) | fail))
      have hrw : (orT (orNs (kpE g (gt (c := .block) g.blks i)) B1 ((gt (c := .block) g.blks i).next.take j)) (gt (c := .bools) B1 (gt (c := .int) (gt (c := .block) g.blks i).next j : Int).toNat) v).length = g.vars.toNat := by rw [orT_len, orNs_len]; exact hkl
      by_cases hv1 : v < g.vars.toNat
      · repeat' (first | (((with_reducible refine g_id ?_); (conv => arg 3; whnf)); first | (with_reducible refine g_split lay_ok 400 ?_ ?_ ?_) | (with_reducible refine g_cond lay_ok 400 ?_ ?_ ?_) | (with_reducible refine g_fin ?_ ?_) | fail) | ((with_reducible refine o_id ?_); (conv => arg 1; whnf); first | (with_reducible exact o_nil) | (with_reducible refine o_cons ?_ ?_)) | (intro h; ((try simp only [Int.toNat_natCast] at h); repeat (first | replace h := of_decide_eq_true h | replace h := of_decide_eq_false h | fail)); (try (first | (exfalso; omega) | fail))) | omega | (rw [hBl]; exact nx_lt (hnl j hj1)) | (rw [hBl]; exact (hnl j hj1).2) | (exact (hnl j hj1).1) | (show v < List.length (gt (c := .bools) B1 (gt (c := .int) (gt (c := .block) g.blks i).next j : Int).toNat); rw [hBr]; omega) | (show (v : Int) < (List.length (gt (c := .bools) B1 (gt (c := .int) (gt (c := .block) g.blks i).next j : Int).toNat) : Int); rw [hBr]; omega) | fail)
        all_goals (refine q_round ⟨v + 1, by omega, by omega, ?_⟩; ((with_reducible refine s_id ?_); (conv => arg 1; whnf); (with_reducible refine s_some ?_); repeat' (first | ((with_reducible refine o_id ?_); (conv => arg 1; whnf); first | (with_reducible exact o_nil) | (with_reducible refine o_cons ?_ ?_)) | rfl | (exact (orT_t (by rw [orNs_len]; omega) (by assumption)).symm) | (exact (orT_f (by rw [orNs_len]; omega) (by assumption)).symm) | fail)))
      have hve : v = List.length (gt (c := .bools) B1 (gt (c := .int) (gt (c := .block) g.blks i).next j : Int).toNat) := by omega
      repeat' (first | (((with_reducible refine g_id ?_); (conv => arg 3; whnf)); first | (with_reducible refine g_cond lay_ok 400 ?_ ?_ ?_) | (with_reducible refine g_fin ?_ ?_) | fail) | (with_reducible refine q_leave lay_ok 400 ?_) | (with_reducible exact o_nil) | ((with_reducible refine o_id ?_); (conv => arg 1; whnf); first | (with_reducible exact o_nil) | (with_reducible refine o_cons ?_ ?_)) | (intro h; ((try simp only [Int.toNat_natCast] at h); repeat (first | replace h := of_decide_eq_true h | replace h := of_decide_eq_false h | fail)); (try (first | (exfalso; omega) | fail))) | omega | fail)
      all_goals (refine q_round ⟨j + 1, by omega, by omega, ?_⟩; ((with_reducible refine s_id ?_); (conv => arg 1; whnf); (with_reducible refine s_some ?_); repeat' (first | ((with_reducible refine o_id ?_); (conv => arg 1; whnf); first | (with_reducible exact o_nil) | (with_reducible refine o_cons ?_ ?_)) | rfl | (rw [hve, orT_all (by rw [orNs_len]; omega)]; exact (orNs_s hj1).symm) | fail)))
    have hje : j = (gt (c := .block) g.blks i).next.length := by omega
    subst hje
    repeat' (first | (((with_reducible refine g_id ?_); (conv => arg 3; whnf)); first | (with_reducible refine g_cond lay_ok 400 ?_ ?_ ?_) | (with_reducible refine g_fin ?_ ?_) | fail) | (with_reducible refine q_leave lay_ok 400 ?_) | (with_reducible exact o_nil) | ((with_reducible refine o_id ?_); (conv => arg 1; whnf); first | (with_reducible exact o_nil) | (with_reducible refine o_cons ?_ ?_)) | (intro h; ((try simp only [Int.toNat_natCast] at h); repeat (first | replace h := of_decide_eq_true h | replace h := of_decide_eq_false h | fail)); (try (first | (exfalso; omega) | fail))) | omega | fail)
    all_goals (refine q_round ⟨(), trivial, ?_⟩; ((with_reducible refine s_id ?_); (conv => arg 1; whnf); (with_reducible refine s_some ?_); repeat' (first | ((with_reducible refine o_id ?_); (conv => arg 1; whnf); first | (with_reducible exact o_nil) | (with_reducible refine o_cons ?_ ?_)) | rfl | (rw [List.take_length]) | fail)))
  ((with_reducible refine g_id ?_); (conv => arg 3; whnf))
  have hfl : (orNs (kpE g (gt (c := .block) g.blks i)) B1 (gt (c := .block) g.blks i).next).length = g.vars.toNat := by rw [orNs_len]; exact hkl
  refine g_mid lay_ok 0 400 (Z := Unit) (fun _ => True) (fun _ => ⟨[(1, .ptr 5 0), (5, .int .i64 (g.blks.length : Int)), (6, .sl ⟨6, []⟩), (7, .sl ⟨7, []⟩), (9, .bool c), (10, .int .i64 (i : Int)), (11, .ptr 8 0), (12, .sl ⟨9, []⟩)], [(0, .list .tmp .input g.inp), (1, .list .tmp .array g.arrs), (2, .list .tmp .block g.blks), (3, .list .tmp .ints g.pts), (4, .list .tmp .head g.hds), (5, .cells [.sl ⟨0, []⟩, .int .i64 g.vars, .int .i64 g.keep, .sl ⟨1, []⟩, .int .i64 g.shared, .sl ⟨2, []⟩, .sl ⟨3, []⟩, .sl ⟨4, []⟩]), (6, .list .sh .bools E1), (7, .list .sh .bools B1), (8, .cells [.sl ⟨2, [(i, 0)]⟩, .int .i64 (gt (c := .block) g.blks i).cond, .sl ⟨2, [(i, 2)]⟩]), (9, .list .fz .bool (freshE g B1 (gt (c := .block) g.blks i)))], 10⟩) rfl ?_ (fun _ _ => ?_)
  · by_cases h2 : (gt (c := .block) g.blks i).next.length = 2
    · obtain ⟨c0, c1⟩ := hcx h2
      repeat' (first | (((with_reducible refine g_id ?_); (conv => arg 3; whnf)); first | (with_reducible refine g_cond lay_ok 400 ?_ ?_ ?_) | (with_reducible refine g_fin ?_ ?_) | fail) | ((with_reducible refine o_id ?_); (conv => arg 1; whnf); first | (with_reducible exact o_nil) | (with_reducible refine o_cons ?_ ?_)) | (intro h; ((try simp only [Int.toNat_natCast] at h); repeat (first | replace h := of_decide_eq_true h | replace h := of_decide_eq_false h | fail)); (try (first | (exfalso; omega) | fail))) | omega | fail)
      all_goals (refine q_round ⟨(), trivial, ?_⟩; ((with_reducible refine s_id ?_); (conv => arg 1; whnf); (with_reducible refine s_some ?_); repeat' (first | ((with_reducible refine o_id ?_); (conv => arg 1; whnf); first | (with_reducible exact o_nil) | (with_reducible refine o_cons ?_ ?_)) | rfl | (exact (doc_2 h2 ⟨c0, c1⟩).symm) | fail)))
    repeat' (first | (((with_reducible refine g_id ?_); (conv => arg 3; whnf)); first | (with_reducible refine g_cond lay_ok 400 ?_ ?_ ?_) | (with_reducible refine g_fin ?_ ?_) | fail) | (with_reducible exact o_nil) | ((with_reducible refine o_id ?_); (conv => arg 1; whnf); first | (with_reducible exact o_nil) | (with_reducible refine o_cons ?_ ?_)) | (intro h; ((try simp only [Int.toNat_natCast] at h); repeat (first | replace h := of_decide_eq_true h | replace h := of_decide_eq_false h | fail)); (try (first | (exfalso; omega) | fail))) | omega | fail)
    all_goals (refine q_round ⟨(), trivial, ?_⟩; ((with_reducible refine s_id ?_); (conv => arg 1; whnf); (with_reducible refine s_some ?_); repeat' (first | ((with_reducible refine o_id ?_); (conv => arg 1; whnf); first | (with_reducible exact o_nil) | (with_reducible refine o_cons ?_ ?_)) | rfl | (exact (doc_n h2).symm) | fail)))
  ((with_reducible refine g_id ?_); (conv => arg 3; whnf))
  repeat' (first | (((with_reducible refine g_id ?_); (conv => arg 3; whnf)); first | (refine g_storeL lay_ok 400 ?_ rfl rfl ?_ ?_) | fail) | (with_reducible refine o_cons ?_ ?_) | ((with_reducible refine o_id ?_); (conv => arg 1; whnf); first | (with_reducible exact o_nil) | (with_reducible refine o_cons ?_ ?_)) | omega | fail)
  ((with_reducible refine g_id ?_); (conv => arg 3; whnf))
  refine g_mid lay_ok 1 400 (Z := Unit) (fun _ => True) (fun _ => ⟨[(1, .ptr 5 0), (5, .int .i64 (g.blks.length : Int)), (6, .sl ⟨6, []⟩), (7, .sl ⟨7, []⟩), (9, .bool c), (10, .int .i64 (i : Int)), (11, .ptr 8 0), (12, .sl ⟨9, []⟩)], [(0, .list .tmp .input g.inp), (1, .list .tmp .array g.arrs), (2, .list .tmp .block g.blks), (3, .list .tmp .ints g.pts), (4, .list .tmp .head g.hds), (5, .cells [.sl ⟨0, []⟩, .int .i64 g.vars, .int .i64 g.keep, .sl ⟨1, []⟩, .int .i64 g.shared, .sl ⟨2, []⟩, .sl ⟨3, []⟩, .sl ⟨4, []⟩]), (6, .list .sh .bools (E1.set i (freshE g B1 (gt (c := .block) g.blks i)))), (7, .list .sh .bools B1), (8, .cells [.sl ⟨2, [(i, 0)]⟩, .int .i64 (gt (c := .block) g.blks i).cond, .sl ⟨2, [(i, 2)]⟩]), (9, .list .fz .bool (bwd (gt (c := .block) g.blks i).ops (freshE g B1 (gt (c := .block) g.blks i))))], 10⟩) rfl ?_ (fun _ _ => ?_)
  · refine g_loop lay_ok 400 (Z := Nat) (fun q => q ≤ List.length (gt (c := .block) g.blks i).ops) (fun q => ⟨[(1, .ptr 5 0), (5, .int .i64 (g.blks.length : Int)), (6, .sl ⟨6, []⟩), (7, .sl ⟨7, []⟩), (9, .bool c), (10, .int .i64 (i : Int)), (11, .ptr 8 0), (12, .sl ⟨9, []⟩), (16, .int .i64 ((q : Int) - 1))], [(0, .list .tmp .input g.inp), (1, .list .tmp .array g.arrs), (2, .list .tmp .block g.blks), (3, .list .tmp .ints g.pts), (4, .list .tmp .head g.hds), (5, .cells [.sl ⟨0, []⟩, .int .i64 g.vars, .int .i64 g.keep, .sl ⟨1, []⟩, .int .i64 g.shared, .sl ⟨2, []⟩, .sl ⟨3, []⟩, .sl ⟨4, []⟩]), (6, .list .sh .bools (E1.set i (freshE g B1 (gt (c := .block) g.blks i)))), (7, .list .sh .bools B1), (8, .cells [.sl ⟨2, [(i, 0)]⟩, .int .i64 (gt (c := .block) g.blks i).cond, .sl ⟨2, [(i, 2)]⟩]), (9, .list .fz .bool (bwd (List.drop q (gt (c := .block) g.blks i).ops) (freshE g B1 (gt (c := .block) g.blks i))))], 10⟩) (fun q => q) ?_ ⟨List.length (gt (c := .block) g.blks i).ops, Nat.le_refl _, ?_⟩ (fun q hq => ?_)
    · repeat' (first | ((with_reducible refine o_id ?_); (conv => arg 1; whnf); first | (with_reducible exact o_nil) | (with_reducible refine o_cons ?_ ?_)) | omega | fail)
    · ((with_reducible refine s_id ?_); (conv => arg 1; whnf); (with_reducible refine s_some ?_); repeat' (first | ((with_reducible refine o_id ?_); (conv => arg 1; whnf); first | (with_reducible exact o_nil) | (with_reducible refine o_cons ?_ ?_)) | rfl | (exact bwd_end) | fail))
    rcases q with _ | q
    · repeat' (first | (((with_reducible refine g_id ?_); (conv => arg 3; whnf)); first | (with_reducible refine g_cond lay_ok 400 ?_ ?_ ?_) | (with_reducible refine g_fin ?_ ?_) | fail) | (with_reducible refine q_leave lay_ok 400 ?_) | (with_reducible exact o_nil) | ((with_reducible refine o_id ?_); (conv => arg 1; whnf); first | (with_reducible exact o_nil) | fail) | (intro h; ((try simp only [Int.toNat_natCast] at h); repeat (first | replace h := of_decide_eq_true h | replace h := of_decide_eq_false h | fail)); (try (first | contradiction | fail))) | fail)
      all_goals (refine q_round ⟨(), trivial, ?_⟩; ((with_reducible refine s_id ?_); (conv => arg 1; whnf); (with_reducible refine s_some ?_); repeat' (first | ((with_reducible refine o_id ?_); (conv => arg 1; whnf); first | (with_reducible exact o_nil) | (with_reducible refine o_cons ?_ ?_)) | rfl | fail)))
    have e8 : (((q + 1 : Nat) : Int) - 1) = (q : Int) := by omega
    rw [e8]
    repeat' (first | (((with_reducible refine g_id ?_); (conv => arg 3; whnf)); first | (with_reducible refine g_cond lay_ok 400 ?_ ?_ ?_) | (with_reducible refine g_fin ?_ ?_) | (refine g_call lay_ok 400 ?_ ?_ ?_ (r_step ?_ ?_ ?_ ?_) rfl) | fail) | ((with_reducible refine o_id ?_); (conv => arg 1; whnf); first | (with_reducible exact o_nil) | (with_reducible refine o_cons ?_ ?_)) | (intro h; ((try simp only [Int.toNat_natCast] at h); repeat (first | replace h := of_decide_eq_true h | replace h := of_decide_eq_false h | fail)); (try (first | (exfalso; omega) | fail))) | rfl | omega | (rw [bwd_len, fresh_len]; omega) | (rw [bwd_len, fresh_len]; exact hox _ (mem_gt (c := .op) (by omega))) | fail)
    all_goals (refine q_round ⟨q, by omega, by omega, ?_⟩; ((with_reducible refine s_id ?_); (conv => arg 1; whnf); (with_reducible refine s_some ?_); repeat' (first | ((with_reducible refine o_id ?_); (conv => arg 1; whnf); first | (with_reducible exact o_nil) | (with_reducible refine o_cons ?_ ?_)) | rfl | (exact (bwd_drop (by omega)).symm) | fail)))
  ((with_reducible refine g_id ?_); (conv => arg 3; whnf))
  have hXl : (bwd (gt (c := .block) g.blks i).ops (freshE g B1 (gt (c := .block) g.blks i))).length = g.vars.toNat := by rw [bwd_len, fresh_len]
  have hYl : List.length (gt (c := .bools) B1 i) = g.vars.toNat := hB1.r i hlt
  refine g_mid lay_ok 1 400 (Z := Bool) (fun d => DIF c (bwd (gt (c := .block) g.blks i).ops (freshE g B1 (gt (c := .block) g.blks i))) (gt (c := .bools) B1 i) (bwd (gt (c := .block) g.blks i).ops (freshE g B1 (gt (c := .block) g.blks i))).length d) (fun d => ⟨[(1, .ptr 5 0), (5, .int .i64 (g.blks.length : Int)), (6, .sl ⟨6, []⟩), (7, .sl ⟨7, []⟩), (9, .bool d), (10, .int .i64 (i : Int)), (11, .ptr 8 0), (12, .sl ⟨9, []⟩)], [(0, .list .tmp .input g.inp), (1, .list .tmp .array g.arrs), (2, .list .tmp .block g.blks), (3, .list .tmp .ints g.pts), (4, .list .tmp .head g.hds), (5, .cells [.sl ⟨0, []⟩, .int .i64 g.vars, .int .i64 g.keep, .sl ⟨1, []⟩, .int .i64 g.shared, .sl ⟨2, []⟩, .sl ⟨3, []⟩, .sl ⟨4, []⟩]), (6, .list .sh .bools (E1.set i (freshE g B1 (gt (c := .block) g.blks i)))), (7, .list .sh .bools B1), (8, .cells [.sl ⟨2, [(i, 0)]⟩, .int .i64 (gt (c := .block) g.blks i).cond, .sl ⟨2, [(i, 2)]⟩]), (9, .list .fz .bool (bwd (gt (c := .block) g.blks i).ops (freshE g B1 (gt (c := .block) g.blks i))))], 10⟩) rfl ?_ (fun d hd => ?_)
  · refine g_loop lay_ok 400 (Z := Nat × Bool) (fun y => y.1 ≤ g.vars.toNat ∧ DIF c (bwd (gt (c := .block) g.blks i).ops (freshE g B1 (gt (c := .block) g.blks i))) (gt (c := .bools) B1 i) y.1 y.2) (fun y => ⟨[(1, .ptr 5 0), (5, .int .i64 (g.blks.length : Int)), (6, .sl ⟨6, []⟩), (7, .sl ⟨7, []⟩), (9, .bool y.2), (10, .int .i64 (i : Int)), (11, .ptr 8 0), (12, .sl ⟨9, []⟩), (17, .int .i64 (y.1 : Int))], [(0, .list .tmp .input g.inp), (1, .list .tmp .array g.arrs), (2, .list .tmp .block g.blks), (3, .list .tmp .ints g.pts), (4, .list .tmp .head g.hds), (5, .cells [.sl ⟨0, []⟩, .int .i64 g.vars, .int .i64 g.keep, .sl ⟨1, []⟩, .int .i64 g.shared, .sl ⟨2, []⟩, .sl ⟨3, []⟩, .sl ⟨4, []⟩]), (6, .list .sh .bools (E1.set i (freshE g B1 (gt (c := .block) g.blks i)))), (7, .list .sh .bools B1), (8, .cells [.sl ⟨2, [(i, 0)]⟩, .int .i64 (gt (c := .block) g.blks i).cond, .sl ⟨2, [(i, 2)]⟩]), (9, .list .fz .bool (bwd (gt (c := .block) g.blks i).ops (freshE g B1 (gt (c := .block) g.blks i))))], 10⟩) (fun y => g.vars.toNat - y.1) ?_ ⟨(0, c), ⟨Nat.zero_le _, dif_0⟩, ?_⟩ (fun y hy => ?_)
    · repeat' (first | ((with_reducible refine o_id ?_); (conv => arg 1; whnf); first | (with_reducible exact o_nil) | fail) | fail)
    · ((with_reducible refine s_id ?_); (conv => arg 1; whnf); (with_reducible refine s_some ?_); repeat' (first | ((with_reducible refine o_id ?_); (conv => arg 1; whnf); first | (with_reducible exact o_nil) | (with_reducible refine o_cons ?_ ?_)) | rfl | fail))
    obtain ⟨v, d⟩ := y
    obtain ⟨hv0, hd⟩ := hy
    dsimp only at hv0 hd ⊢
    by_cases hv1 : v < g.vars.toNat
    · cases d
      · repeat' (first | (((with_reducible refine g_id ?_); (conv => arg 3; whnf)); first | (with_reducible refine g_cond lay_ok 400 ?_ ?_ ?_) | (with_reducible refine g_fin ?_ ?_) | (refine g_flow 40 lay_ok mixed_ok 400 32768 [0, 1, 3, 3, 15, 31, 3, 3, 195, 451, 3, 1987, 4035, 8191, 16383, 32767] (.q 0 (.q 1 (.q 2 (.q 3 (.q 4 (.q 5 (.q 6 (.q 7 (.q 8 (.q 9 (.q 10 (.q 11 (.q 12 (.q 13 (.q 14 (.e 15 [] (.fin) .stop)))))))))))))))) (by kernel_rfl) ?_ ?_)) | (((with_reducible refine w_id ?_); (conv => arg 4; whnf)); first | (with_reducible refine w_fin ?_ ?_) | (with_reducible refine w_split lay_ok 400 ?_ ?_ ?_) | (with_reducible refine w_tt ?_) | (with_reducible refine w_eff lay_ok 400 ?_ rfl rfl ?_ ?_)) | (with_reducible refine q_flow ?_ ?_) | ((with_reducible refine h_id ?_); (conv => arg 1; whnf); (with_reducible refine s_some ?_)) | (with_reducible exact o_nil) | ((with_reducible refine o_id ?_); (conv => arg 1; whnf); first | (with_reducible exact o_nil) | (with_reducible refine o_cons ?_ ?_)) | (intro h; ((try simp only [Int.toNat_natCast] at h); repeat (first | replace h := of_decide_eq_true h | replace h := of_decide_eq_false h | fail)); (try (first | contradiction | (exfalso; omega) | fail))) | omega | (show v < List.length (gt (c := .bools) B1 i); rw [hYl]; omega) | (show (v : Int) < (List.length (gt (c := .bools) B1 i) : Int); rw [hYl]; omega) | fail)
        all_goals (refine q_round ⟨(v + 1, !decide (gt (c := .bool) (bwd (gt (c := .block) g.blks i).ops (freshE g B1 (gt (c := .block) g.blks i))) v = gt (c := .bool) (gt (c := .bools) B1 i) v)), ⟨hv1, dif_f hd⟩, by dsimp only; omega, ?_⟩; ((with_reducible refine s_id ?_); (conv => arg 1; whnf); (with_reducible refine s_some ?_); repeat' (first | ((with_reducible refine o_id ?_); (conv => arg 1; whnf); first | (with_reducible exact o_nil) | (with_reducible refine o_cons ?_ ?_)) | rfl | fail)))
      repeat' (first | (((with_reducible refine g_id ?_); (conv => arg 3; whnf)); first | (with_reducible refine g_cond lay_ok 400 ?_ ?_ ?_) | (with_reducible refine g_fin ?_ ?_) | (refine g_flow 40 lay_ok mixed_ok 400 32768 [0, 1, 3, 3, 15, 31, 3, 3, 195, 451, 3, 1987, 4035, 8191, 16383, 32767] (.q 0 (.q 1 (.q 2 (.q 3 (.q 4 (.q 5 (.q 6 (.q 7 (.q 8 (.q 9 (.q 10 (.q 11 (.q 12 (.q 13 (.q 14 (.e 15 [] (.fin) .stop)))))))))))))))) (by kernel_rfl) ?_ ?_)) | (((with_reducible refine w_id ?_); (conv => arg 4; whnf)); first | (with_reducible refine w_fin ?_ ?_) | (with_reducible refine w_split lay_ok 400 ?_ ?_ ?_) | (with_reducible refine w_tt ?_) | (with_reducible refine w_eff lay_ok 400 ?_ rfl rfl ?_ ?_)) | (with_reducible refine q_flow ?_ ?_) | ((with_reducible refine h_id ?_); (conv => arg 1; whnf); (with_reducible refine s_some ?_)) | (with_reducible exact o_nil) | ((with_reducible refine o_id ?_); (conv => arg 1; whnf); first | (with_reducible exact o_nil) | (with_reducible refine o_cons ?_ ?_)) | (intro h; ((try simp only [Int.toNat_natCast] at h); repeat (first | replace h := of_decide_eq_true h | replace h := of_decide_eq_false h | fail)); (try (first | contradiction | (exfalso; omega) | fail))) | omega | fail)
      all_goals (refine q_round ⟨(v + 1, true), ⟨hv1, dif_t hd⟩, by dsimp only; omega, ?_⟩; ((with_reducible refine s_id ?_); (conv => arg 1; whnf); (with_reducible refine s_some ?_); repeat' (first | ((with_reducible refine o_id ?_); (conv => arg 1; whnf); first | (with_reducible exact o_nil) | (with_reducible refine o_cons ?_ ?_)) | rfl | fail)))
    have hve : v = (bwd (gt (c := .block) g.blks i).ops (freshE g B1 (gt (c := .block) g.blks i))).length := by omega
    subst hve
    repeat' (first | (((with_reducible refine g_id ?_); (conv => arg 3; whnf)); first | (with_reducible refine g_cond lay_ok 400 ?_ ?_ ?_) | (with_reducible refine g_fin ?_ ?_) | fail) | (with_reducible refine q_leave lay_ok 400 ?_) | (with_reducible exact o_nil) | ((with_reducible refine o_id ?_); (conv => arg 1; whnf); first | (with_reducible exact o_nil) | fail) | (intro h; ((try simp only [Int.toNat_natCast] at h); repeat (first | replace h := of_decide_eq_true h | replace h := of_decide_eq_false h | fail)); (try (first | (exfalso; omega) | fail))) | fail)
    all_goals (refine q_round ⟨d, hd, ?_⟩; ((with_reducible refine s_id ?_); (conv => arg 1; whnf); (with_reducible refine s_some ?_); repeat' (first | ((with_reducible refine o_id ?_); (conv => arg 1; whnf); first | (with_reducible exact o_nil) | (with_reducible refine o_cons ?_ ?_)) | rfl | fail)))
  ((with_reducible refine g_id ?_); (conv => arg 3; whnf))
  have hfd := flag_d hch (dif_all (by rw [hXl, hYl]) hd) hle (step_le (s := (E1, B1)) hB1 hlt) hBi0
  repeat' (first | (((with_reducible refine g_id ?_); (conv => arg 3; whnf)); first | (with_reducible refine g_fin ?_ ?_) | (refine g_storeL lay_ok 400 ?_ rfl rfl ?_ ?_) | fail) | (with_reducible refine o_cons ?_ ?_) | ((with_reducible refine o_id ?_); (conv => arg 1; whnf); first | (with_reducible exact o_nil) | (with_reducible refine o_cons ?_ ?_)) | omega | fail)
  all_goals (refine q_round ⟨(i, stepL g (E1, B1) i, d), ⟨Nat.le_of_lt hlt, step_inv (s := (E1, B1)) hB1 hlt, by show (E1.set i _).length = _; rw [List.length_set]; exact hE1, hps, hle.trans (step_le (s := (E1, B1)) hB1 hlt), hfd⟩, Nat.lt_succ_self _, ?_⟩; ((with_reducible refine s_id ?_); (conv => arg 1; whnf); (with_reducible refine s_some ?_); repeat' (first | ((with_reducible refine o_id ?_); (conv => arg 1; whnf); first | (with_reducible exact o_nil) | (with_reducible refine o_cons ?_ ?_)) | rfl | fail)))
end Go.Proofs.Ytonjbhdfimcedaa
namespace Go.Proofs.Ytonjbhdfimcedaa
open Go.RowKit
theorem chk_lv {g : Grf} (hB : Bnd g) (h : chkG g = 0) : LvOK g := by
  have w := chk_wf hB h
  unfold chkG at h
  split at h
  · exact absurd h (by decide)
  · rename_i hl
    split at h
    · rename_i ho
      unfold limG at hl
      unfold okG at ho
      simp only [Bool.and_eq_true, decide_eq_true_eq] at ho
      obtain ⟨o1, o2, o3, o4⟩ := ho
      unfold decB at o3
      rw [Bool.and_eq_true] at o3
      have hv := of_decide_eq_true o3.1
      have hn : ((g.vars.toNat : Nat) : Int) = g.vars := Int.toNat_of_nonneg hv.1
      have hw := w.b
      refine ⟨⟨hv.1, by omega⟩, by omega, by omega, w.n, fun b hb => ?_, fun b hb => ⟨hB.o b hb, fun o hb2 => ?_⟩⟩
      · obtain ⟨i, hi, rfl⟩ := mem_at (c := .block) hb
        have h1 := allN_at o1 hi
        unfold blkB at h1
        simp only [Bool.and_eq_true, Bool.or_eq_true, decide_eq_true_eq] at h1
        obtain ⟨⟨h0, _⟩, h3⟩ := h1
        intro h2
        omega
      · obtain ⟨i, hi, rfl⟩ := mem_at (c := .block) hb
        have h1 := allN_at o1 hi
        unfold blkB at h1
        simp only [Bool.and_eq_true, Bool.or_eq_true, decide_eq_true_eq] at h1
        obtain ⟨⟨h0, _⟩, h3⟩ := h1
        obtain ⟨j, hj, rfl⟩ := mem_at (c := .op) hb2
        have h4 := allN_at h0 hj
        unfold opkB at h4
        simp only [Bool.and_eq_true] at h4
        have h5 := of_decide_eq_true h4.1.1
        unfold OpL
        rw [hn]
        omega
    · exact absurd h (by decide)
theorem c_LiveE (g : Grf) (hB : Bnd g) (he : ¬ chkG g = 0) : Trip Try.prog 40 [.agg [.sl ⟨0, []⟩, .int .i64 g.vars, .int .i64 g.keep, .sl ⟨1, []⟩, .int .i64 g.shared, .sl ⟨2, []⟩, .sl ⟨3, []⟩, .sl ⟨4, []⟩]] ⟨[], [(0, .list .tmp .input g.inp), (1, .list .tmp .array g.arrs), (2, .list .tmp .block g.blks), (3, .list .tmp .ints g.pts), (4, .list .tmp .head g.hds)], 5⟩ (Z := Unit) (fun _ => True) (fun _ => .tup [.val (.slice none 0 0), .int .i64 (chkG g)]) (fun _ => ⟨[], [(0, .list .tmp .input g.inp), (1, .list .tmp .array g.arrs), (2, .list .tmp .block g.blks), (3, .list .tmp .ints g.pts), (4, .list .tmp .head g.hds)], 5⟩) := by
  refine trip_by (rs := [_, _]) 400 lay_ok Try.func40 rfl (by kernel_rfl) Try.ntmps40 Try.results40 rfl rfl ?_
  repeat' (first | (((with_reducible refine g_id ?_); (conv => arg 3; whnf)); first | (with_reducible refine g_cond lay_ok 400 ?_ ?_ ?_) | (with_reducible refine g_fin ?_ ?_) | (refine g_call lay_ok 400 ?_ ?_ ?_ (c_check ?_ ?_) rfl) | fail) | ((with_reducible refine o_id ?_); (conv => arg 1; whnf); first | (with_reducible exact o_nil) | (with_reducible refine o_cons ?_ ?_)) | (intro h; ((try simp only [Int.toNat_natCast] at h); repeat (first | replace h := of_decide_eq_true h | replace h := of_decide_eq_false h | replace h := not_t h | replace h := not_f h | fail)); (try (first | contradiction | fail))) | rfl | omega | fail)
  all_goals (((with_reducible refine e_id ?_); (conv => whnf)); refine ⟨(), trivial, ?_⟩; ((with_reducible refine s_id ?_); (conv => arg 1; whnf); (with_reducible refine s_some ?_); repeat' (first | ((with_reducible refine o_id ?_); (conv => arg 1; whnf); first | (with_reducible exact o_nil) | (with_reducible refine o_cons ?_ ?_)) | rfl | fail)))
theorem r_LiveE (g : Grf) (hB : Bnd g) (he : ¬ chkG g = 0) : Trip Try.prog 41 [.agg [.sl ⟨0, []⟩, .int .i64 g.vars, .int .i64 g.keep, .sl ⟨1, []⟩, .int .i64 g.shared, .sl ⟨2, []⟩, .sl ⟨3, []⟩, .sl ⟨4, []⟩]] ⟨[], [(0, .list .tmp .input g.inp), (1, .list .tmp .array g.arrs), (2, .list .tmp .block g.blks), (3, .list .tmp .ints g.pts), (4, .list .tmp .head g.hds)], 5⟩ (Z := Unit) (fun _ => True) (fun _ => .tup [.val (.slice none 0 0), .int .i64 (chkG g)]) (fun _ => ⟨[], [(0, .list .tmp .input g.inp), (1, .list .tmp .array g.arrs), (2, .list .tmp .block g.blks), (3, .list .tmp .ints g.pts), (4, .list .tmp .head g.hds)], 5⟩) := by
  refine trip_by (rs := [_, _]) 400 lay_ok Try.func41 rfl (by kernel_rfl) Try.ntmps41 Try.results41 rfl rfl ?_
  repeat' (first | (((with_reducible refine g_id ?_); (conv => arg 3; whnf)); first | (with_reducible refine g_cond lay_ok 400 ?_ ?_ ?_) | (with_reducible refine g_fin ?_ ?_) | (refine g_call lay_ok 400 ?_ ?_ ?_ (r_check1 ?_ ?_) rfl) | fail) | ((with_reducible refine o_id ?_); (conv => arg 1; whnf); first | (with_reducible exact o_nil) | (with_reducible refine o_cons ?_ ?_)) | (intro h; ((try simp only [Int.toNat_natCast] at h); repeat (first | replace h := of_decide_eq_true h | replace h := of_decide_eq_false h | replace h := not_t h | replace h := not_f h | fail)); (try (first | contradiction | fail))) | rfl | omega | fail)
  all_goals (((with_reducible refine e_id ?_); (conv => whnf)); refine ⟨(), trivial, ?_⟩; ((with_reducible refine s_id ?_); (conv => arg 1; whnf); (with_reducible refine s_some ?_); repeat' (first | ((with_reducible refine o_id ?_); (conv => arg 1; whnf); first | (with_reducible exact o_nil) | (with_reducible refine o_cons ?_ ?_)) | rfl | fail)))
theorem c_LiveO (g : Grf) (hB : Bnd g) (he : chkG g = 0) : Trip Try.prog 40 [.agg [.sl ⟨0, []⟩, .int .i64 g.vars, .int .i64 g.keep, .sl ⟨1, []⟩, .int .i64 g.shared, .sl ⟨2, []⟩, .sl ⟨3, []⟩, .sl ⟨4, []⟩]] ⟨[], [(0, .list .tmp .input g.inp), (1, .list .tmp .array g.arrs), (2, .list .tmp .block g.blks), (3, .list .tmp .ints g.pts), (4, .list .tmp .head g.hds)], 5⟩ (Z := Unit) (fun _ => True) (fun _ => .tup [.sl ⟨5, []⟩, .int .i64 0]) (fun _ => ⟨[], [(0, .list .tmp .input g.inp), (1, .list .tmp .array g.arrs), (2, .list .tmp .block g.blks), (3, .list .tmp .ints g.pts), (4, .list .tmp .head g.hds), (5, .list .own .bools (liveL g))], 6⟩) := by
  have C0 := c_check g hB
  rw [he] at C0
  have C1 := c_live g (chk_lv hB he)
  refine trip_by (rs := [_, _]) 400 lay_ok Try.func40 rfl (by kernel_rfl) Try.ntmps40 Try.results40 rfl rfl ?_
  repeat' (first | (((with_reducible refine g_id ?_); (conv => arg 3; whnf)); first | (with_reducible refine g_cond lay_ok 400 ?_ ?_ ?_) | (with_reducible refine g_fin ?_ ?_) | (refine g_call lay_ok 400 ?_ ?_ ?_ (C0) rfl) | (refine g_call lay_ok 400 ?_ ?_ ?_ (C1) rfl) | fail) | ((with_reducible refine o_id ?_); (conv => arg 1; whnf); first | (with_reducible exact o_nil) | (with_reducible refine o_cons ?_ ?_)) | (intro h; ((try simp only [Int.toNat_natCast] at h); repeat (first | replace h := of_decide_eq_true h | replace h := of_decide_eq_false h | replace h := not_t h | replace h := not_f h | fail)); (try (first | contradiction | fail))) | rfl | fail)
  all_goals (((with_reducible refine e_id ?_); (conv => whnf)); refine ⟨(), trivial, ?_⟩; ((with_reducible refine s_id ?_); (conv => arg 1; whnf); (with_reducible refine s_some ?_); repeat' (first | ((with_reducible refine o_id ?_); (conv => arg 1; whnf); first | (with_reducible exact o_nil) | (with_reducible refine o_cons ?_ ?_)) | rfl | fail)))
end Go.Proofs.Ytonjbhdfimcedaa
namespace Go.Proofs.Ytonjbhdfimcedaa
open Go.RowKit
def RowsV (g : Grf) (E : List (List Bool)) : Prop := E.length = g.blks.length ∧ ∀ i, i < g.blks.length → List.length (gt (c := .bools) E i) = g.vars.toNat
theorem stepR {g : Grf} {s : S2} {i : Nat} (h : RowsV g s.1) (hi : i < g.blks.length) : RowsV g (stepL g s i).1 := by
  refine ⟨by show (s.1.set i _).length = _; rw [List.length_set]; exact h.1, fun j hj => ?_⟩
  show List.length (bl (s.1.set i _) j) = _
  rw [bl_set (h.1 ▸ hi)]
  split
  · exact fresh_len
  · exact h.2 j hj
theorem passR {g : Grf} : ∀ {k : Nat} {s : S2}, RowsV g s.1 → k ≤ g.blks.length → RowsV g (passL g k s).1
  | 0, _, h, _ => h
  | k + 1, s, h, hk => passR (k := k) (stepR h (i := k) (by omega)) (by omega)
theorem fixR {g : Grf} : ∀ {f : Nat} {s : S2}, RowsV g s.1 → RowsV g (fixL g f s).1
  | 0, _, h => h
  | f + 1, s, h => by
    show RowsV g (if _ then _ else _ : S2).1
    split
    · exact passR h (Nat.le_refl _)
    · exact fixR (passR h (Nat.le_refl _))
theorem live_rows {g : Grf} : RowsV g (liveL g) := by
  refine fixR ⟨by unfold zeroL; rw [List.length_replicate], fun i hi => ?_⟩
  rw [gt_eq (c := .bools) (by unfold zeroL; rw [List.getElem?_replicate, if_pos hi]), List.length_replicate]
set_option maxHeartbeats 1000000 in
set_option maxRecDepth 8000 in
theorem l_live15 (g : Grf) (hB : Bnd g) : Trip Try.prog 19 [.agg [.sl ⟨0, []⟩, .int .i64 g.vars, .int .i64 g.keep, .sl ⟨1, []⟩, .int .i64 g.shared, .sl ⟨2, []⟩, .sl ⟨3, []⟩, .sl ⟨4, []⟩]] ⟨[], [(0, .list .fz .input g.inp), (1, .list .fz .array g.arrs), (2, .list .fz .block g.blks), (3, .list .fz .ints g.pts), (4, .list .fz .head g.hds)], 5⟩ (Z := Unit) (fun _ => True) (fun _ => .bool true) (fun _ => ⟨[], [(0, .list .fz .input g.inp), (1, .list .fz .array g.arrs), (2, .list .fz .block g.blks), (3, .list .fz .ints g.pts), (4, .list .fz .head g.hds)], 5⟩) := by
  by_cases he : chkG g = 0
  rotate_left
  · refine trip_by (rs := [_]) 400 lay_ok Try.func19 rfl (by kernel_rfl) Try.ntmps19 Try.results19 rfl rfl ?_
    repeat' (first | (((with_reducible refine g_id ?_); (conv => arg 3; whnf)); first | (with_reducible refine g_split lay_ok 400 ?_ ?_ ?_) | (with_reducible refine g_cond lay_ok 400 ?_ ?_ ?_) | (with_reducible refine g_fin ?_ ?_) | (refine g_call lay_ok 400 ?_ ?_ ?_ (c_LiveE ?_ ?_ ?_) rfl) | (refine g_call lay_ok 400 ?_ ?_ ?_ (r_LiveE ?_ ?_ ?_) rfl) | (with_reducible refine g_rounds lay_ok 400 1 ?_ ?_) | fail) | (with_reducible refine q_leave lay_ok 400 ?_) | (with_reducible exact o_nil) | ((with_reducible refine o_id ?_); (conv => arg 1; whnf); first | (with_reducible exact o_nil) | (with_reducible refine o_cons ?_ ?_)) | (intro h; ((try simp only [Int.toNat_natCast] at h); repeat (first | replace h := of_decide_eq_true h | replace h := of_decide_eq_false h | replace h := not_t h | replace h := not_f h | fail)); (try (first | contradiction | fail))) | rfl | omega | fail)
    all_goals (((with_reducible refine e_id ?_); (conv => whnf)); refine ⟨(), trivial, ?_⟩; ((with_reducible refine s_id ?_); (conv => arg 1; whnf); (with_reducible refine s_some ?_); repeat' (first | ((with_reducible refine o_id ?_); (conv => arg 1; whnf); first | (with_reducible exact o_nil) | (with_reducible refine o_cons ?_ ?_)) | rfl | fail)))
  have H := chk_lv hB he
  obtain ⟨r1, r2⟩ := live_rows (g := g)
  have hb := H.b
  have hv := H.v
  have CA := c_LiveO g hB he
  have CB := r_liveO g hB he H
  generalize liveL g = LL at *
  refine trip_by (rs := [_]) 400 lay_ok Try.func19 rfl (by kernel_rfl) Try.ntmps19 Try.results19 rfl rfl ?_
  repeat' (first | (((with_reducible refine g_id ?_); (conv => arg 3; whnf)); first | (with_reducible refine g_split lay_ok 400 ?_ ?_ ?_) | (with_reducible refine g_cond lay_ok 400 ?_ ?_ ?_) | (refine g_call lay_ok 400 ?_ ?_ ?_ (CA) rfl) | (refine g_call lay_ok 400 ?_ ?_ ?_ (CB) rfl) | fail) | ((with_reducible refine o_id ?_); (conv => arg 1; whnf); first | (with_reducible exact o_nil) | (with_reducible refine o_cons ?_ ?_)) | (intro h; ((try simp only [Int.toNat_natCast] at h); repeat (first | replace h := of_decide_eq_true h | replace h := of_decide_eq_false h | replace h := not_t h | replace h := not_f h | fail)); (try (first | contradiction | fail))) | rfl | fail)
  ((with_reducible refine g_id ?_); (conv => arg 3; whnf))
  refine g_loop lay_ok 400 (Z := Nat) (fun i => i ≤ LL.length) (fun i => ⟨[(3, .sl ⟨5, []⟩), (5, .sl ⟨6, []⟩), (7, .int .i64 (i : Int))], [(0, .list .fz .input g.inp), (1, .list .fz .array g.arrs), (2, .list .fz .block g.blks), (3, .list .fz .ints g.pts), (4, .list .fz .head g.hds), (5, .list .own .bools LL), (6, .list .sh .bools LL)], 7⟩) (fun i => LL.length - i) ?_ ⟨0, Nat.zero_le _, ?_⟩ (fun i hi => ?_)
  · repeat' (first | ((with_reducible refine o_id ?_); (conv => arg 1; whnf); first | (with_reducible exact o_nil) | fail) | fail)
  · ((with_reducible refine s_id ?_); (conv => arg 1; whnf); (with_reducible refine s_some ?_); repeat' (first | ((with_reducible refine o_id ?_); (conv => arg 1; whnf); first | (with_reducible exact o_nil) | (with_reducible refine o_cons ?_ ?_)) | rfl | fail))
  by_cases hlt : i < LL.length
  · repeat' (first | (((with_reducible refine g_id ?_); (conv => arg 3; whnf)); first | (with_reducible refine g_cond lay_ok 400 ?_ ?_ ?_) | (refine g_flow 8 lay_ok mixed_ok 400 0 [0, 0, 3, 7, 15, 0, 0, 96, 224, 480, 1023] (.q 0 (.q 1 (.q 2 (.q 3 (.q 4 (.q 5 (.q 6 (.q 7 (.q 8 (.q 9 (.q 10 .fin))))))))))) (by kernel_rfl) ?_ ?_) | fail) | (((with_reducible refine w_id ?_); (conv => arg 4; whnf)); first | (with_reducible refine w_fin ?_ ?_) | fail) | (with_reducible exact o_nil) | ((with_reducible refine o_id ?_); (conv => arg 1; whnf); first | (with_reducible exact o_nil) | (with_reducible refine o_cons ?_ ?_)) | (intro h; ((try simp only [Int.toNat_natCast] at h); repeat (first | replace h := of_decide_eq_true h | replace h := of_decide_eq_false h | replace h := not_t h | replace h := not_f h | fail)); (try (first | contradiction | (exfalso; omega) | fail))) | omega | fail)
    ((with_reducible refine g_id ?_); (conv => arg 3; whnf))
    have hrl := r2 i (by omega)
    refine g_loop lay_ok 400 (Z := Nat) (fun k => k ≤ List.length (gt (c := .bools) LL i)) (fun k => ⟨[(3, .sl ⟨5, []⟩), (5, .sl ⟨6, []⟩), (7, .int .i64 (i : Int)), (8, .int .i64 (k : Int))], [(0, .list .fz .input g.inp), (1, .list .fz .array g.arrs), (2, .list .fz .block g.blks), (3, .list .fz .ints g.pts), (4, .list .fz .head g.hds), (5, .list .own .bools LL), (6, .list .sh .bools LL)], 7⟩) (fun k => List.length (gt (c := .bools) LL i) - k) ?_ ⟨0, Nat.zero_le _, ?_⟩ (fun k hk => ?_)
    · repeat' (first | ((with_reducible refine o_id ?_); (conv => arg 1; whnf); first | (with_reducible exact o_nil) | fail) | fail)
    · ((with_reducible refine s_id ?_); (conv => arg 1; whnf); (with_reducible refine s_some ?_); repeat' (first | ((with_reducible refine o_id ?_); (conv => arg 1; whnf); first | (with_reducible exact o_nil) | (with_reducible refine o_cons ?_ ?_)) | rfl | fail))
    by_cases hkt : k < List.length (gt (c := .bools) LL i)
    · repeat' (first | (((with_reducible refine g_id ?_); (conv => arg 3; whnf)); first | (with_reducible refine g_cond lay_ok 400 ?_ ?_ ?_) | (with_reducible refine g_fin ?_ ?_) | (refine g_flow 13 lay_ok mixed_ok 400 0 [0, 0, 3, 7, 0, 31, 63, 0, 0, 384, 896, 0, 3968, 8064, 16383] (.q 0 (.q 1 (.q 2 (.q 3 (.q 4 (.q 5 (.q 6 (.q 7 (.q 8 (.q 9 (.q 10 (.q 11 (.q 12 (.q 13 (.q 14 .fin))))))))))))))) (by kernel_rfl) ?_ ?_)) | (((with_reducible refine w_id ?_); (conv => arg 4; whnf)); first | (with_reducible refine w_fin ?_ ?_) | fail) | (with_reducible exact o_nil) | ((with_reducible refine o_id ?_); (conv => arg 1; whnf); first | (with_reducible exact o_nil) | (with_reducible refine o_cons ?_ ?_)) | (intro h; ((try simp only [Int.toNat_natCast] at h); repeat (first | replace h := of_decide_eq_true h | replace h := of_decide_eq_false h | replace h := not_t h | replace h := not_f h | fail)); (try (first | contradiction | (exfalso; omega) | fail))) | omega | assumption | fail)
      all_goals (refine q_round ⟨k + 1, by omega, by omega, ?_⟩; ((with_reducible refine s_id ?_); (conv => arg 1; whnf); (with_reducible refine s_some ?_); repeat' (first | ((with_reducible refine o_id ?_); (conv => arg 1; whnf); first | (with_reducible exact o_nil) | (with_reducible refine o_cons ?_ ?_)) | rfl | fail)))
    repeat' (first | (((with_reducible refine g_id ?_); (conv => arg 3; whnf)); first | (with_reducible refine g_cond lay_ok 400 ?_ ?_ ?_) | (with_reducible refine g_fin ?_ ?_) | fail) | (with_reducible refine q_leave lay_ok 400 ?_) | (with_reducible exact o_nil) | ((with_reducible refine o_id ?_); (conv => arg 1; whnf); first | (with_reducible exact o_nil) | (with_reducible refine o_cons ?_ ?_)) | (intro h; ((try simp only [Int.toNat_natCast] at h); repeat (first | replace h := of_decide_eq_true h | replace h := of_decide_eq_false h | fail)); (try (first | (exfalso; omega) | fail))) | omega | fail)
    all_goals (refine q_round ⟨i + 1, by omega, by omega, ?_⟩; ((with_reducible refine s_id ?_); (conv => arg 1; whnf); (with_reducible refine s_some ?_); repeat' (first | ((with_reducible refine o_id ?_); (conv => arg 1; whnf); first | (with_reducible exact o_nil) | (with_reducible refine o_cons ?_ ?_)) | rfl | fail)))
  repeat' (first | (((with_reducible refine g_id ?_); (conv => arg 3; whnf)); first | (with_reducible refine g_cond lay_ok 400 ?_ ?_ ?_) | (with_reducible refine g_fin ?_ ?_) | fail) | (with_reducible refine q_leave lay_ok 400 ?_) | (with_reducible exact o_nil) | ((with_reducible refine o_id ?_); (conv => arg 1; whnf); first | (with_reducible exact o_nil) | fail) | (intro h; ((try simp only [Int.toNat_natCast] at h); repeat (first | replace h := of_decide_eq_true h | replace h := of_decide_eq_false h | fail)); (try (first | (exfalso; omega) | fail))) | fail)
  all_goals (((with_reducible refine e_id ?_); (conv => whnf)); refine ⟨(), trivial, ?_⟩; ((with_reducible refine s_id ?_); (conv => arg 1; whnf); (with_reducible refine s_some ?_); repeat' (first | ((with_reducible refine o_id ?_); (conv => arg 1; whnf); first | (with_reducible exact o_nil) | (with_reducible refine o_cons ?_ ?_)) | rfl | fail)))
end Go.Proofs.Ytonjbhdfimcedaa
namespace Go.Proofs.Ytonjbhdfimcedaa
open Go.RowKit
inductive FK where
  | int (k : IntKind)
  | bool
  | str
  | sl (e : TypeId)
def flatF (P : Program) (g : TypeId → Option (List FK)) : List Field → Nat → Option (List FK)
  | [], _ => some []
  | f :: l, o => if f.offset = o then (match g f.type, flatF P g l (o + P.cellsOf f.type) with
    | some a, some b => if a.length = P.cellsOf f.type then some (a ++ b) else none
    | _, _ => none) else none
def flatT (P : Program) : Nat → TypeId → Option (List FK)
  | 0, _ => none
  | n + 1, t => match P.underlying t with
    | some (.int k) => some [.int k]
    | some .bool => some [.bool]
    | some .string => some [.str]
    | some (.slice e) => some [.sl e]
    | some (.struct fs) => match flatF P (flatT P n) fs.toList 0 with
      | some ks => if ks.length = P.cellsOf t then some ks else none
      | none => none
    | _ => none
section
variable {H : Type} {enc : TypeId × Value → H} {P : Program} {w : World} {base : Nat} {spare : Nat → Bool} {held : Bool}
def CellK (enc : TypeId × Value → H) (P : Program) (w : World) (base : Nat) (spare : Nat → Bool) (held : Bool) (m : Nat) (v : Value) : FK → Prop
  | .int k => ∃ n, v = .int k n ∧ (Lit.int k n).wf = true
  | .bool => ∃ b, v = .bool b
  | .str => ∃ s : ByteArray, v = .string s ∧ s.size ≤ maxLen
  | .sl e => ∃ t x f, f ≤ m ∧ P.underlying t = some (.slice e) ∧ DataW.trod enc P w base spare held f t [v] = some x
theorem CellK.le {m m' : Nat} (h : m ≤ m') {v : Value} : ∀ {k : FK}, CellK enc P w base spare held m v k → CellK enc P w base spare held m' v k
  | .int _, g => g
  | .bool, g => g
  | .str, g => g
  | .sl _, ⟨t, x, f, h1, h2, h3⟩ => ⟨t, x, f, Nat.le_trans h1 h, h2, h3⟩
theorem flatF_ok {g : TypeId → Option (List FK)} {m : Nat} {cs : List Value}
    (hg : ∀ t ks cs' x, g t = some ks → DataW.trod enc P w base spare held m t cs' = some x → cs'.length = ks.length ∧ ∀ (j : Nat) (k : FK), ks[j]? = some k → ∃ v, cs'[j]? = some v ∧ CellK enc P w base spare held m v k) :
    ∀ (l : List Field) (o : Nat) (ks : List FK), flatF P g l o = some ks → (∀ f ∈ l, ∃ x, DataW.trod enc P w base spare held m f.type ((cs.drop f.offset).take (P.cellsOf f.type)) = some x) →
      ∀ (j : Nat) (k : FK), ks[j]? = some k → ∃ v, cs[o + j]? = some v ∧ CellK enc P w base spare held m v k
  | [], o, ks, h, _, j, k, hj => by
    simp only [flatF, Option.some.injEq] at h; subst h; simp at hj
  | f :: l, o, ks, h, hx, j, k, hj => by
    unfold flatF at h
    split at h
    · rename_i ho
      split at h
      · rename_i a b ha hb
        split at h
        · rename_i hl
          cases h
          obtain ⟨x, hx1⟩ := hx f List.mem_cons_self
          obtain ⟨g1, g2⟩ := hg _ _ _ _ ha hx1
          by_cases hlt : j < a.length
          · rw [List.getElem?_append_left hlt] at hj
            obtain ⟨v, hv, hk⟩ := g2 j k hj
            refine ⟨v, ?_, hk⟩
            rw [List.getElem?_take] at hv
            split at hv
            · rw [List.getElem?_drop, ho] at hv; exact hv
            · cases hv
          · rw [List.getElem?_append_right (by omega)] at hj
            have := flatF_ok hg l _ b hb (fun f' hf' => hx f' (List.mem_cons_of_mem _ hf')) _ k hj
            rw [← hl] at this
            rw [show o + j = o + a.length + (j - a.length) by omega]
            exact this
        · cases h
      · cases h
    · cases h
theorem flat_ok : ∀ (n : Nat) (t : TypeId) (ks : List FK), flatT P n t = some ks → ∀ {fuel : Nat} {cs : List Value} {x : DataW H × List MemPlace}, DataW.trod enc P w base spare held fuel t cs = some x →
    cs.length = ks.length ∧ ∀ (j : Nat) (k : FK), ks[j]? = some k → ∃ v, cs[j]? = some v ∧ CellK enc P w base spare held fuel v k
  | 0, t, ks, h, _, _, _, _ => by simp [flatT] at h
  | n + 1, t, ks, h, fuel, cs, x, hx => by
    have one : ∀ {v : Value} {k : FK}, cs = [v] → ks = [k] → CellK enc P w base spare held fuel v k → cs.length = ks.length ∧ ∀ (j : Nat) (k : FK), ks[j]? = some k → ∃ v, cs[j]? = some v ∧ CellK enc P w base spare held fuel v k := by
      intro v k e1 e2 hk
      subst e1; subst e2
      refine ⟨rfl, fun j k' hj => ?_⟩
      cases j with
      | zero => simp only [List.getElem?_cons_zero, Option.some.injEq] at hj; subst hj; exact ⟨v, rfl, hk⟩
      | succ j => simp at hj
    unfold flatT at h
    split at h
    · rename_i k ht
      cases h
      obtain ⟨n, rfl, rfl, hw⟩ := DataW.trod_int ht hx
      exact one rfl rfl ⟨n, rfl, hw⟩
    · rename_i ht
      cases h
      obtain ⟨b, rfl, rfl⟩ := DataW.trod_bool ht hx
      exact one rfl rfl ⟨b, rfl⟩
    · rename_i ht
      cases h
      obtain ⟨s, rfl, rfl, hs⟩ := DataW.trod_string ht hx
      exact one rfl rfl ⟨s, rfl, hs⟩
    · rename_i e ht
      cases h
      have e1 : ∃ v, cs = [v] := by
        rcases DataW.trod_slice ht hx with ⟨rfl, _⟩ | ⟨a, len, cap, _, _, _, _, rfl, _⟩
        · exact ⟨_, rfl⟩
        · exact ⟨_, rfl⟩
      obtain ⟨v, rfl⟩ := e1
      exact one rfl rfl ⟨t, x, fuel, Nat.le_refl _, ht, hx⟩
    · rename_i fs ht
      split at h
      · rename_i ks' hks
        split at h
        · rename_i hl
          cases h
          obtain ⟨xs, m, rfl, rfl, h1, h2, h3⟩ := DataW.trod_struct ht hx
          refine ⟨by rw [h1, hl], fun j k hj => ?_⟩
          have := flatF_ok (g := flatT P n) (m := m) (cs := cs) (fun t ks cs' x h hx => flat_ok n t ks h hx) fs.toList 0 ks hks (fun f hf => ?_) j k hj
          · obtain ⟨v, hv, hk⟩ := this
            rw [Nat.zero_add] at hv
            exact ⟨v, hv, hk.le (Nat.le_succ _)⟩
          · obtain ⟨i, hi⟩ := List.mem_iff_getElem?.1 hf
            have hi' : fs[i]? = some f := by simpa using hi
            have hlt : i < xs.length := by rw [h2]; exact (Array.getElem?_eq_some_iff.1 hi').1
            exact ⟨xs[i], (h3 i f hi').trans (List.getElem?_eq_getElem hlt)⟩
        · cases h
      · cases h
    · cases h
end
def tyB (a b : Ty) : Bool := (Ty.eq? a b).isSome
theorem tyB_eq {a b : Ty} (h : tyB a b = true) : a = b := by
  unfold tyB at h
  cases e : Ty.eq? a b with
  | none => rw [e] at h; cases h
  | some p => exact p.down
def fkB (codes : List (Nat × Ty)) : FK → CKd → Bool
  | .int k, .int k' => keq k k'
  | .bool, .bool => true
  | .str, .str => true
  | .sl e, .sl c => match find codes e with
    | some c' => tyB c' c
    | none => false
  | _, _ => false
def fksB (codes : List (Nat × Ty)) : List FK → List CKd → Bool
  | [], [] => true
  | a :: l, b :: m => fkB codes a b && fksB codes l m
  | _, _ => false
theorem fksB_get {codes : List (Nat × Ty)} : ∀ {l : List FK} {m : List CKd}, fksB codes l m = true → l.length = m.length ∧ ∀ (j : Nat) (b : CKd), m[j]? = some b → ∃ a, l[j]? = some a ∧ fkB codes a b = true
  | [], [], _ => ⟨rfl, fun j b h => by simp at h⟩
  | [], _ :: _, h => by simp [fksB] at h
  | _ :: _, [], h => by simp [fksB] at h
  | a :: l, b :: m, h => by
    simp only [fksB, Bool.and_eq_true] at h
    obtain ⟨h1, h2⟩ := fksB_get h.2
    refine ⟨by simp [h1], fun j b' hj => ?_⟩
    cases j with
    | zero => simp only [List.getElem?_cons_zero, Option.some.injEq] at hj; subst hj; exact ⟨a, rfl, h.1⟩
    | succ j => simp only [List.getElem?_cons_succ] at hj ⊢; exact h2 j b' hj
def codeB (P : Program) (codes : List (Nat × Ty)) (e : Nat) (c : Ty) : Bool := match flatT P 9 e with
  | some ks => Nat.beq (P.cellsOf e) (wid c) && fksB codes ks (cks c)
  | none => false
def codesB (P : Program) (codes : List (Nat × Ty)) : List (Nat × Ty) → Bool
  | [] => true
  | (e, c) :: l => codeB P codes e c && codesB P codes l
theorem codesB_find {P : Program} {codes : List (Nat × Ty)} {e : Nat} {c : Ty} : ∀ {l : List (Nat × Ty)}, codesB P codes l = true → find l e = some c → codeB P codes e c = true
  | [], _, h => by simp [find] at h
  | (e', c') :: l, hb, h => by
    simp only [codesB, Bool.and_eq_true] at hb
    rw [find_cons] at h
    split at h
    · rename_i he; subst he; cases h; exact hb.1
    · exact codesB_find hb.2 h
theorem mkc_ex {c : Ty} {ts : List TC} (h : ts.map ckOf = cks c) : ∃ x, mkc c ts = some x := by
  cases c
  all_goals (simp only [cks, List.map_eq_cons_iff, List.map_eq_nil_iff] at h)
  all_goals (repeat (obtain ⟨t, r, rfl, hk, h⟩ := h; cases t <;> cases hk))
  all_goals (subst h; exact ⟨_, rfl⟩)
def cellLoc (w : World) (L : Loc) (d : Nat) : Loc := match L.a with
  | some a => match w.cell? ⟨a.block, a.off + d, none⟩ with
    | some (.slice a' n m) => ⟨a', n, m⟩
    | _ => ⟨none, 0, 0⟩
  | none => ⟨none, 0, 0⟩
def vloc (w : World) : Ty → Loc → Path → Loc
  | _, L, [] => L
  | c, L, (i, j) :: p => match (cks c)[j]? with
    | some (.sl c') => vloc w c' (cellLoc w L (i * wid c + j)) p
    | _ => ⟨none, 0, 0⟩
def wfT : TC → Prop
  | .int k n => (Lit.int k n).wf = true
  | .str s => s.size ≤ maxLen
  | _ => True
def OpenL (w : World) (c : Ty) (L : Loc) (l : List (El c)) : Prop :=
  ∀ (p : Path) (c' : Ty) (l' : List (El c')), desc c l p = some ⟨c', l'⟩ → (vloc w c L p).len = l'.length ∧ l'.length ≤ (vloc w c L p).cap ∧ (vloc w c L p).cap ≤ maxLen ∧
    ∀ i x, l'[i]? = some x → ∀ j d, (tcells c' x)[j]? = some d → wfT d ∧ ∃ a, (vloc w c L p).a = some a ∧ a.spot = none ∧ w.cell? ⟨a.block, a.off + (i * wid c' + j), none⟩ = some (match d with | .int k n => .int k n | .bool b => .bool b | .str s => .string s | .sl _ _ => (vloc w c L (p ++ [(i, j)])).hd)
theorem exists_list {α : Type} {Q : Nat → α → Prop} : ∀ (n : Nat), (∀ i, i < n → ∃ y, Q i y) → ∃ l : List α, l.length = n ∧ ∀ i y, l[i]? = some y → Q i y
  | 0, _ => ⟨[], rfl, fun i y h => by simp at h⟩
  | n + 1, h => by
    obtain ⟨l, h1, h2⟩ := exists_list n fun i hi => h i (by omega)
    obtain ⟨y, hy⟩ := h n (by omega)
    refine ⟨l ++ [y], by simp [h1], fun i z hz => ?_⟩
    by_cases hi : i < l.length
    · rw [List.getElem?_append_left hi] at hz; exact h2 i z hz
    · rw [List.getElem?_append_right (by omega)] at hz
      have : i = n := by
        have := (List.getElem?_eq_some_iff.1 hz).1
        simp at this; omega
      subst this
      rw [h1, Nat.sub_self] at hz
      simp at hz; subst hz; exact hy
theorem tcells_kind {c : Ty} {x : El c} {j : Nat} {d : TC} (h : (tcells c x)[j]? = some d) : (cks c)[j]? = some (ckOf d) := by
  rw [← tcells_ck c x, List.getElem?_map, h]; rfl
theorem vloc_sl {w : World} {c c' : Ty} {L : Loc} {i j : Nat} {p : Path} (h : (cks c)[j]? = some (.sl c')) : vloc w c L ((i, j) :: p) = vloc w c' (cellLoc w L (i * wid c + j)) p := by
  simp only [vloc, h]
section
variable {H : Type} {enc : TypeId × Value → H} {P : Program} {w : World} {base : Nat} {spare : Nat → Bool} {held : Bool} {codes : List (Nat × Ty)}
def CellD (w : World) (v : Value) (d : TC) : Prop := wfT d ∧ match d with
  | .int k n => v = .int k n
  | .bool b => v = .bool b
  | .str s => v = .string s
  | .sl c l => ∃ L : Loc, v = L.hd ∧ OpenL w c L l
theorem open_list (hc : codesB P codes codes = true) : ∀ (N fuel : Nat), fuel ≤ N → ∀ {t e : TypeId} {c : Ty} {v : Value} {x : DataW H × List MemPlace}, P.underlying t = some (.slice e) → find codes e = some c → DataW.trod enc P w base spare held fuel t [v] = some x →
    ∃ (L : Loc) (l : List (El c)), v = L.hd ∧ OpenL w c L l := by
  intro N
  induction N with
  | zero =>
    intro fuel hN t e c v x ht he hx
    have : fuel = 0 := by omega
    subst this
    simp [DataW.trod] at hx
  | succ N ih =>
    intro fuel hN t e c v x ht he hx
    rcases DataW.trod_slice ht hx with ⟨hcs, _⟩ | ⟨a, len, cap, elems, rest, n, rfl, hcs, _, hb, hl, hm, hlen, hel, _⟩
    · simp only [List.cons.injEq, and_true] at hcs
      subst hcs
      refine ⟨⟨none, 0, 0⟩, [], rfl, fun p c' l' hd => ?_⟩
      obtain ⟨rfl, e2⟩ := desc_nil hd
      cases e2
      exact ⟨rfl, Nat.le_refl _, Nat.zero_le _, fun i x h => by simp at h⟩
    · simp only [List.cons.injEq, and_true] at hcs
      subst hcs
      have hcb := codesB_find hc he
      unfold codeB at hcb
      split at hcb
      · rename_i ks hks
        simp only [Bool.and_eq_true] at hcb
        obtain ⟨hw0, hfk⟩ := hcb
        have hw := Nat.eq_of_beq_eq_true hw0
        obtain ⟨f1, f2⟩ := fksB_get hfk
        -- one row
        have row : ∀ i, i < len → ∃ y : El c, ∀ j d, (tcells c y)[j]? = some d → ∃ v, w.cell? ((a.add (i * wid c)).add j) = some v ∧ CellD w v d := by
          intro i hi
          have h1 := hel i hi
          rw [hw] at h1
          have hlt : i < elems.length := by omega
          rw [List.getElem?_eq_getElem hlt] at h1
          obtain ⟨cs, hcs, htr⟩ := Option.bind_eq_some_iff.1 h1
          obtain ⟨g1, g2⟩ := flat_ok 9 e ks hks htr
          obtain ⟨_, hlc, hcell⟩ := World.cells?_some hcs
          have cell : ∀ j, j < wid c → ∃ d : TC, (cks c)[j]? = some (ckOf d) ∧ ∃ v, w.cell? ((a.add (i * wid c)).add j) = some v ∧ CellD w v d := by
            intro j hj
            have hjk : j < (cks c).length := by rw [cks_len]; exact hj
            obtain ⟨fk, h2, h3⟩ := f2 j _ (List.getElem?_eq_getElem hjk)
            obtain ⟨v, h4, h5⟩ := g2 j fk h2
            have h6 : w.cell? ((a.add (i * wid c)).add j) = some v := by rw [hcell j hj, h4]
            rw [List.getElem?_eq_getElem hjk]
            cases hck : (cks c)[j] with
            | int k =>
              rw [hck] at h3
              cases fk <;> simp only [fkB, Bool.false_eq_true] at h3
              have := keq_eq h3
              subst this
              obtain ⟨n, rfl, hwf⟩ := h5
              exact ⟨.int _ n, rfl, _, h6, hwf, rfl⟩
            | bool =>
              rw [hck] at h3
              cases fk <;> simp only [fkB, Bool.false_eq_true] at h3
              obtain ⟨b, rfl⟩ := h5
              exact ⟨.bool b, rfl, _, h6, trivial, rfl⟩
            | str =>
              rw [hck] at h3
              cases fk <;> simp only [fkB, Bool.false_eq_true] at h3
              obtain ⟨s, rfl, hs⟩ := h5
              exact ⟨.str s, rfl, _, h6, hs, rfl⟩
            | sl c1 =>
              rw [hck] at h3
              cases fk <;> simp only [fkB, Bool.false_eq_true] at h3
              rename_i e1
              split at h3
              · rename_i c2 hf
                have := tyB_eq h3
                subst this
                obtain ⟨t', x', f', y1, y2, y3⟩ := h5
                obtain ⟨L', l', rfl, ho⟩ := ih f' (by omega) y2 hf y3
                exact ⟨.sl _ l', rfl, _, h6, trivial, L', rfl, ho⟩
              · cases h3
          obtain ⟨ts, t1, t2⟩ := exists_list (wid c) cell
          have hk : ts.map ckOf = cks c := by
            apply List.ext_getElem?
            intro j
            by_cases hj : j < ts.length
            · rw [List.getElem?_map, List.getElem?_eq_getElem hj, (t2 j _ (List.getElem?_eq_getElem hj)).1]; rfl
            · rw [List.getElem?_eq_none (by simpa using hj), List.getElem?_eq_none (by rw [cks_len]; omega)]
          obtain ⟨y, hy⟩ := mkc_ex hk
          refine ⟨y, fun j d hd => ?_⟩
          rw [mkc_cells hy] at hd
          exact (t2 j d hd).2
        obtain ⟨l, l1, l2⟩ := exists_list len row
        refine ⟨⟨some a, len, cap⟩, l, rfl, ?_⟩
        have at_ : ∀ i y, l[i]? = some y → ∀ j d, (tcells c y)[j]? = some d → a.spot = none ∧ ∃ v, w.cell? ⟨a.block, a.off + (i * wid c + j), none⟩ = some v ∧ CellD w v d := by
          intro i y hi j d hj
          obtain ⟨v, h1, h2⟩ := l2 i y hi j d hj
          have hi0 : 0 < l.length := Nat.lt_of_le_of_lt (Nat.zero_le _) (List.getElem?_eq_some_iff.1 hi).1
          have hj0 : 0 < (tcells c l[0]).length := by rw [tcells_len]; exact wid_pos c
          obtain ⟨v0, h3, _⟩ := l2 0 _ (List.getElem?_eq_getElem hi0) 0 _ (List.getElem?_eq_getElem hj0)
          have sp : a.spot = none := by
            rw [Nat.zero_mul, show (a.add 0).add 0 = a from rfl] at h3
            unfold World.cell? at h3
            split at h3
            · cases hs : a.spot with
              | some s => rw [hs] at h3; simp at h3
              | none => rfl
            · cases h3
          refine ⟨sp, v, ?_, h2⟩
          obtain ⟨b, o, s⟩ := a
          simp only at sp
          subst sp
          rw [Addr.add_mid, Addr.add_mid, Nat.add_assoc] at h1
          exact h1
        have loc : ∀ i y, l[i]? = some y → ∀ j c1 l1', (tcells c y)[j]? = some (.sl c1 l1') → ∃ L' : Loc, OpenL w c1 L' l1' ∧ cellLoc w ⟨some a, len, cap⟩ (i * wid c + j) = L' ∧ w.cell? ⟨a.block, a.off + (i * wid c + j), none⟩ = some L'.hd := by
          intro i y hi j c1 l1' hj
          obtain ⟨_, v, h1, _, L', rfl, h2⟩ := at_ i y hi j _ hj
          refine ⟨L', h2, ?_, h1⟩
          simp only [cellLoc, h1, Loc.hd]
        intro p c' l' hd
        cases p with
        | nil =>
          simp only [desc, Option.some.injEq] at hd
          cases hd
          refine ⟨l1.symm, by rw [l1]; exact hl, hm, fun i y hi j d hj => ?_⟩
          obtain ⟨sp, v, h1, h2, h3⟩ := at_ i y hi j d hj
          refine ⟨h2, a, rfl, sp, h1.trans ?_⟩
          cases d with
          | int k n => simp only at h3; rw [h3]
          | bool b => simp only at h3; rw [h3]
          | str s => simp only at h3; rw [h3]
          | sl c1 l1' =>
            obtain ⟨L', _, h4, h5⟩ := loc i y hi j c1 l1' hj
            have hk := tcells_kind hj
            simp only [ckOf] at hk
            simp only [List.nil_append]
            rw [vloc_sl hk, h4]
            rw [h1] at h5
            exact h5
        | cons ij p =>
          obtain ⟨i, j⟩ := ij
          simp only [desc] at hd
          split at hd
          · cases hd
          · rename_i y hy
            split at hd
            · rename_i c1 l1' hj
              obtain ⟨L', h2, h4, h5⟩ := loc i y hy j c1 l1' hj
              have hk := tcells_kind hj
              simp only [ckOf] at hk
              have := h2 p c' l' hd
              simp only [vloc_sl hk, h4, List.cons_append]
              exact this
            · cases hd
      · cases hcb
end
structure Arg where
  c : Ty
  L : Loc
  l : List (El c)
def argV (w : World) (avs : List Arg) : Vl := fun r => match avs[r.k]? with
  | some a => vloc w a.c a.L r.p
  | none => ⟨none, 0, 0⟩
def getsL : List Value → Nat → List Value → Prop
  | _, _, [] => True
  | l, k, v :: vs => l[k]? = some v ∧ getsL l (k + 1) vs
theorem getsL_at {l : List Value} : ∀ {vs : List Value} {k : Nat}, getsL l k vs → ∀ j v, vs[j]? = some v → l[k + j]? = some v
  | [], _, _, j, v, h => by simp at h
  | x :: vs, k, ⟨h1, h2⟩, j, v, h => by
    cases j with
    | zero => simp only [List.getElem?_cons_zero, Option.some.injEq] at h; subst h; exact h1
    | succ j =>
      simp only [List.getElem?_cons_succ] at h
      rw [show k + (j + 1) = k + 1 + j by omega]
      exact getsL_at h2 j v h
theorem arr_of {cs : Array Value} {vs : List Value} {n : Nat} (h : cs.toList.length = n) (hg : getsL cs.toList 0 vs) (hn : vs.length = n := by rfl) : cs = vs.toArray := by
  apply Array.ext'
  apply List.ext_getElem?
  intro j
  by_cases hj : j < vs.length
  · have := getsL_at hg j vs[j] (List.getElem?_eq_getElem hj)
    rw [Nat.zero_add] at this
    rw [this]; simp [List.getElem?_eq_getElem hj]
  · rw [List.getElem?_eq_none (by omega), List.getElem?_eq_none (by simpa using hj)]
theorem OpenL.max {w : World} {c : Ty} {L : Loc} {l : List (El c)} (h : OpenL w c L l) : l.length ≤ maxLen := by
  obtain ⟨_, h2, h3, _⟩ := h [] c l rfl
  exact Nat.le_trans h2 h3
theorem OpenL.wf {w : World} {c : Ty} {L : Loc} {l : List (El c)} (h : OpenL w c L l) {x : El c} (hx : x ∈ l) {d : TC} (hd : d ∈ tcells c x) : wfT d := by
  obtain ⟨_, _, _, h4⟩ := h [] c l rfl
  obtain ⟨i, hi⟩ := List.mem_iff_getElem?.1 hx
  obtain ⟨j, hj⟩ := List.mem_iff_getElem?.1 hd
  exact (h4 i x hi j d hj).1
theorem OpenL.sub {w : World} {c : Ty} {L : Loc} {l : List (El c)} (h : OpenL w c L l) {x : El c} (hx : x ∈ l) {c1 : Ty} {l1 : List (El c1)} (hd : .sl c1 l1 ∈ tcells c x) : ∃ L1, OpenL w c1 L1 l1 := by
  obtain ⟨i, hi⟩ := List.mem_iff_getElem?.1 hx
  obtain ⟨j, hj⟩ := List.mem_iff_getElem?.1 hd
  have hk := tcells_kind hj
  simp only [ckOf] at hk
  refine ⟨cellLoc w L (i * wid c + j), fun p c' l' hp => ?_⟩
  have hd' : desc c l ((i, j) :: p) = some ⟨c', l'⟩ := by simp only [desc, hi, hj]; exact hp
  have := h _ c' l' hd'
  simp only [vloc_sl hk, List.cons_append] at this
  exact this
end Go.Proofs.Ytonjbhdfimcedaa
namespace Go.Proofs.Ytonjbhdfimcedaa
open Go.RowKit
theorem bk_one {H : Type} (d : DataW H) : 1 ≤ Rows.uptoBulk d := by
  cases d with
  | lit l => cases l <;> simp [Rows.uptoBulk]
  | nil => simp [Rows.uptoBulk]
  | ptr d => simp [Rows.uptoBulk]
  | slice elems spare => simp [Rows.uptoBulk]
  | agg parts => simp [Rows.uptoBulk]
  | iface t d => simp [Rows.uptoBulk]
  | map entries => simp [Rows.uptoBulk]
  | held h => simp [Rows.uptoBulk]
theorem bk_app {H : Type} (l r : List (DataW H)) : Rows.uptoBulkAll (l ++ r) = Rows.uptoBulkAll l + Rows.uptoBulkAll r := by
  induction l with
  | nil => simp [Rows.uptoBulkAll]
  | cons x l ih => simp only [List.cons_append, Rows.uptoBulkAll, ih]; omega
theorem bk_len {H : Type} (l : List (DataW H)) : l.length ≤ Rows.uptoBulkAll l := by
  induction l with
  | nil => simp [Rows.uptoBulkAll]
  | cons x r ih => have := bk_one x; simp only [Rows.uptoBulkAll, List.length_cons]; omega
theorem bk_part {H : Type} {d : DataW H} {l : List (DataW H)} (h : d ∈ l) : Rows.uptoBulk d ≤ Rows.uptoBulkAll l := by
  induction l with
  | nil => cases h
  | cons x r ih =>
    simp only [Rows.uptoBulkAll]
    cases List.mem_cons.1 h with
    | inl e => subst e; omega
    | inr e => have := ih e; omega
theorem bk_small {H : Type} {l : List (DataW H)} (hk : Rows.uptoSmall H l = true) : Rows.uptoBulkAll l ≤ 1048576 := of_decide_eq_true hk
section
variable {H : Type} {enc : TypeId × Value → H} {P : Program} {w : World} {base : Nat} {spare : Nat → Bool} {held : Bool}
def CellB (enc : TypeId × Value → H) (P : Program) (w : World) (base : Nat) (spare : Nat → Bool) (held : Bool) (m : Nat) (v : Value) (d : DataW H) : FK → Prop
  | .sl e => ∃ t x f, f ≤ m ∧ P.underlying t = some (.slice e) ∧ DataW.trod enc P w base spare held f t [v] = some x ∧ d = x.1
  | _ => True
theorem CellB.le {m m' : Nat} (h : m ≤ m') {v : Value} {d : DataW H} : ∀ {k : FK}, CellB enc P w base spare held m v d k → CellB enc P w base spare held m' v d k
  | .int _, _ => trivial
  | .bool, _ => trivial
  | .str, _ => trivial
  | .sl _, ⟨t, x, f, h1, h2⟩ => ⟨t, x, f, Nat.le_trans h1 h, h2⟩
theorem flatF_bulk {g : TypeId → Option (List FK)} {m : Nat} {cs : List Value}
    (hg : ∀ t ks cs' x, g t = some ks → DataW.trod enc P w base spare held m t cs' = some x → ∃ ds : List (DataW H), ds.length = ks.length ∧ Rows.uptoBulkAll ds ≤ Rows.uptoBulk x.1 ∧ ∀ (j : Nat) (k : FK), ks[j]? = some k → ∃ v d, cs'[j]? = some v ∧ ds[j]? = some d ∧ CellB enc P w base spare held m v d k) :
    ∀ (l : List Field) (o : Nat) (ks : List FK), flatF P g l o = some ks → ∀ (xs : List (DataW H × List MemPlace)), xs.length = l.length → (∀ (i : Nat) (f : Field), l[i]? = some f → DataW.trod enc P w base spare held m f.type ((cs.drop f.offset).take (P.cellsOf f.type)) = xs[i]?) →
      ∃ ds : List (DataW H), ds.length = ks.length ∧ Rows.uptoBulkAll ds ≤ Rows.uptoBulkAll (xs.map (·.1)) ∧ ∀ (j : Nat) (k : FK), ks[j]? = some k → ∃ v d, cs[o + j]? = some v ∧ ds[j]? = some d ∧ CellB enc P w base spare held m v d k
  | [], o, ks, h, xs, hxs, _ => by
    simp only [flatF, Option.some.injEq] at h
    subst h
    exact ⟨[], rfl, by simp [Rows.uptoBulkAll], fun j k hj => by simp at hj⟩
  | f :: l, o, ks, h, [], hxs, _ => by simp at hxs
  | f :: l, o, ks, h, x :: xs, hxs, hx => by
    unfold flatF at h
    split at h
    · rename_i ho
      split at h
      · rename_i a b ha hb
        split at h
        · rename_i hl
          cases h
          have hx1 := hx 0 f rfl
          simp only [List.getElem?_cons_zero] at hx1
          obtain ⟨d1, g1, g2, g3⟩ := hg _ _ _ _ ha hx1
          obtain ⟨d2, k1, k2, k3⟩ := flatF_bulk hg l _ b hb xs (by simpa using hxs) (fun i f' hi => by have := hx (i + 1) f' (by simpa using hi); simpa using this)
          refine ⟨d1 ++ d2, by rw [List.length_append, List.length_append, g1, k1], by rw [bk_app]; simp only [List.map_cons, Rows.uptoBulkAll]; omega, fun j k hj => ?_⟩
          by_cases hlt : j < a.length
          · rw [List.getElem?_append_left hlt] at hj
            obtain ⟨v, d, hv, hd, hk⟩ := g3 j k hj
            refine ⟨v, d, ?_, by rw [List.getElem?_append_left (by omega)]; exact hd, hk⟩
            rw [List.getElem?_take] at hv
            split at hv
            · rw [List.getElem?_drop, ho] at hv; exact hv
            · cases hv
          · rw [List.getElem?_append_right (by omega)] at hj
            obtain ⟨v, d, hv, hd, hk⟩ := k3 _ k hj
            rw [← hl] at hv
            rw [show o + j = o + a.length + (j - a.length) by omega]
            exact ⟨v, d, hv, by rw [List.getElem?_append_right (by omega), g1]; exact hd, hk⟩
        · cases h
      · cases h
    · cases h
theorem flat_bulk : ∀ (n : Nat) (t : TypeId) (ks : List FK), flatT P n t = some ks → ∀ {fuel : Nat} {cs : List Value} {x : DataW H × List MemPlace}, DataW.trod enc P w base spare held fuel t cs = some x →
    ∃ ds : List (DataW H), ds.length = ks.length ∧ Rows.uptoBulkAll ds ≤ Rows.uptoBulk x.1 ∧ ∀ (j : Nat) (k : FK), ks[j]? = some k → ∃ v d, cs[j]? = some v ∧ ds[j]? = some d ∧ CellB enc P w base spare held fuel v d k
  | 0, t, ks, h, _, _, _, _ => by simp [flatT] at h
  | n + 1, t, ks, h, fuel, cs, x, hx => by
    have one : ∀ {v : Value} {k : FK}, cs = [v] → ks = [k] → CellB enc P w base spare held fuel v x.1 k → ∃ ds : List (DataW H), ds.length = ks.length ∧ Rows.uptoBulkAll ds ≤ Rows.uptoBulk x.1 ∧ ∀ (j : Nat) (k : FK), ks[j]? = some k → ∃ v d, cs[j]? = some v ∧ ds[j]? = some d ∧ CellB enc P w base spare held fuel v d k := by
      intro v k e1 e2 hk
      subst e1; subst e2
      refine ⟨[x.1], rfl, by simp [Rows.uptoBulkAll], fun j k' hj => ?_⟩
      cases j with
      | zero => simp only [List.getElem?_cons_zero, Option.some.injEq] at hj; subst hj; exact ⟨v, x.1, rfl, rfl, hk⟩
      | succ j => simp at hj
    unfold flatT at h
    split at h
    · rename_i k ht
      cases h
      obtain ⟨n, rfl, _, hw⟩ := DataW.trod_int ht hx
      exact one rfl rfl trivial
    · rename_i ht
      cases h
      obtain ⟨b, rfl, _⟩ := DataW.trod_bool ht hx
      exact one rfl rfl trivial
    · rename_i ht
      cases h
      obtain ⟨s, rfl, _, hs⟩ := DataW.trod_string ht hx
      exact one rfl rfl trivial
    · rename_i e ht
      cases h
      have e1 : ∃ v, cs = [v] := by
        rcases DataW.trod_slice ht hx with ⟨rfl, _⟩ | ⟨a, len, cap, _, _, _, _, rfl, _⟩
        · exact ⟨_, rfl⟩
        · exact ⟨_, rfl⟩
      obtain ⟨v, rfl⟩ := e1
      exact one rfl rfl ⟨t, x, fuel, Nat.le_refl _, ht, hx, rfl⟩
    · rename_i fs ht
      split at h
      · rename_i ks' hks
        split at h
        · rename_i hl
          cases h
          obtain ⟨xs, m, rfl, rfl, h1, h2, h3⟩ := DataW.trod_struct ht hx
          obtain ⟨ds, g1, g2, g3⟩ := flatF_bulk (g := flatT P n) (m := m) (cs := cs) (fun t ks cs' x h hx => flat_bulk n t ks h hx) fs.toList 0 ks hks xs (by rw [h2]; simp) (fun i f hf => h3 i f (by simpa using hf))
          refine ⟨ds, g1, by simp only [Rows.uptoBulk]; omega, fun j k hj => ?_⟩
          obtain ⟨v, d, hv, hd, hk⟩ := g3 j k hj
          rw [Nat.zero_add] at hv
          exact ⟨v, d, hv, hd, hk.le (Nat.le_succ _)⟩
        · cases h
      · cases h
    · cases h
theorem slice_bulk {fuel : Nat} {t e : TypeId} {L : Loc} {x : DataW H × List MemPlace} (ht : P.underlying t = some (.slice e)) (hx : DataW.trod enc P w base spare held fuel t [L.hd] = some x) : L.len + 1 ≤ Rows.uptoBulk x.1 := by
  rcases DataW.trod_slice ht hx with ⟨hcs, rfl⟩ | ⟨a, len, cap, elems, rest, n, rfl, hcs, rfl, hb, hl, hm, hlen, hel, _⟩
  · simp only [List.cons.injEq, and_true, Loc.hd, Value.slice.injEq] at hcs
    simp only [Rows.uptoBulk]
    omega
  · simp only [List.cons.injEq, and_true, Loc.hd, Value.slice.injEq] at hcs
    have := bk_len (elems.map (·.1))
    rw [List.length_map] at this
    simp only [Rows.uptoBulk]
    omega
def tsz : List TC → Nat
  | [] => 0
  | .sl _ l :: r => l.length + tsz r
  | _ :: r => tsz r
def lsum (c : Ty) : List (El c) → Nat
  | [] => 0
  | x :: l => tsz (tcells c x) + lsum c l
theorem tsz_le : ∀ {ts : List TC} {ds : List (DataW H)}, ds.length = ts.length → (∀ (j : Nat) (c : Ty) (l : List (El c)) (d : DataW H), ts[j]? = some (.sl c l) → ds[j]? = some d → l.length + 1 ≤ Rows.uptoBulk d) → tsz ts + ts.length ≤ Rows.uptoBulkAll ds
  | [], ds, hl, _ => by simp [tsz]
  | t :: ts, [], hl, _ => by simp at hl
  | t :: ts, d :: ds, hl, h => by
    have ih := tsz_le (ts := ts) (ds := ds) (by simpa using hl) (fun j c l d' h1 h2 => h (j + 1) c l d' (by simpa using h1) (by simpa using h2))
    have h1 := bk_one d
    cases t with
    | sl c l => have := h 0 c l d rfl rfl; simp only [tsz, List.length_cons, Rows.uptoBulkAll]; omega
    | int k n => simp only [tsz, List.length_cons, Rows.uptoBulkAll]; omega
    | bool b => simp only [tsz, List.length_cons, Rows.uptoBulkAll]; omega
    | str s => simp only [tsz, List.length_cons, Rows.uptoBulkAll]; omega
theorem rows_le {c : Ty} : ∀ {l : List (El c)} {xs : List (DataW H × List MemPlace)}, xs.length = l.length → (∀ (i : Nat) (y : El c) (x : DataW H × List MemPlace), l[i]? = some y → xs[i]? = some x → tsz (tcells c y) + 1 ≤ Rows.uptoBulk x.1) → l.length + lsum c l ≤ Rows.uptoBulkAll (xs.map (·.1))
  | [], xs, _, _ => by simp [lsum]
  | y :: l, [], hl, _ => by simp at hl
  | y :: l, x :: xs, hl, h => by
    have ih := rows_le (l := l) (xs := xs) (by simpa using hl) (fun i y' x' h1 h2 => h (i + 1) y' x' (by simpa using h1) (by simpa using h2))
    have h1 := h 0 y x rfl rfl
    simp only [List.length_cons, lsum, List.map_cons, Rows.uptoBulkAll]
    omega
theorem list_bulk {codes : List (Nat × Ty)} (hc : codesB P codes codes = true) {fuel : Nat} {t e : TypeId} {c : Ty} {L : Loc} {l : List (El c)} {x : DataW H × List MemPlace} (ht : P.underlying t = some (.slice e)) (he : find codes e = some c) (hx : DataW.trod enc P w base spare held fuel t [L.hd] = some x) (ho : OpenL w c L l) : l.length + lsum c l ≤ Rows.uptoBulk x.1 := by
  obtain ⟨q1, q2, q3, q4⟩ := ho [] c l rfl
  simp only [vloc] at q1 q2 q3 q4
  rcases DataW.trod_slice ht hx with ⟨hcs, rfl⟩ | ⟨a, len, cap, elems, rest, n, rfl, hcs, rfl, hb, hl, hm, hlen, hel, _⟩
  · simp only [List.cons.injEq, and_true, Loc.hd, Value.slice.injEq] at hcs
    have : l = [] := List.eq_nil_of_length_eq_zero (by omega)
    subst this
    simp [lsum, Rows.uptoBulk]
  · simp only [List.cons.injEq, and_true, Loc.hd, Value.slice.injEq] at hcs
    obtain ⟨hla, hll, hlc⟩ := hcs
    have hcb := codesB_find hc he
    unfold codeB at hcb
    split at hcb
    · rename_i ks hks
      simp only [Bool.and_eq_true] at hcb
      obtain ⟨hw0, hfk⟩ := hcb
      have hw := Nat.eq_of_beq_eq_true hw0
      obtain ⟨f1, f2⟩ := fksB_get hfk
      have hr := rows_le (c := c) (l := l) (xs := elems) (by omega) (fun i y xi hy hxi => by
        have hi : i < l.length := (List.getElem?_eq_some_iff.1 hy).1
        have h1 := hel i (by omega)
        rw [hw, hxi] at h1
        obtain ⟨cs, hcs, htr⟩ := Option.bind_eq_some_iff.1 h1
        obtain ⟨ds, g1, g2, g3⟩ := flat_bulk 9 e ks hks htr
        obtain ⟨_, hlc', hcell⟩ := World.cells?_some hcs
        have hlen2 : ds.length = (tcells c y).length := by rw [g1, f1, cks_len, tcells_len]
        have hts := tsz_le (ts := tcells c y) (ds := ds) hlen2 (fun j c' l' d hj hd => by
          have hk := tcells_kind hj
          simp only [ckOf] at hk
          obtain ⟨fk, h2, h3⟩ := f2 j _ hk
          obtain ⟨v, d', h4, h5, h6⟩ := g3 j fk h2
          rw [hd] at h5
          cases h5
          cases fk <;> simp only [fkB, Bool.false_eq_true] at h3
          obtain ⟨t', x', f', _, ht', hx', rfl⟩ := h6
          have hjw : j < wid c := by have := (List.getElem?_eq_some_iff.1 hj).1; rw [tcells_len] at this; exact this
          obtain ⟨_, a', ha', hsp, hc'⟩ := q4 i y hy j _ hj
          rw [hla] at ha'
          cases ha'
          simp only [List.nil_append] at hc'
          have hcv := hcell j hjw
          rw [h4] at hcv
          have hadd : (a.add (i * wid c)).add j = ⟨a.block, a.off + (i * wid c + j), none⟩ := by
            obtain ⟨b0, o0, s0⟩ := a
            simp only at hsp
            subst hsp
            rw [Addr.add_mid, Addr.add_mid, Nat.add_assoc]
          rw [hadd, hc'] at hcv
          simp only [Option.some.injEq] at hcv
          rw [← hcv] at hx'
          have hb' := slice_bulk ht' hx'
          obtain ⟨z1, _⟩ := ho [(i, j)] c' l' (by simp only [desc, hy, hj])
          omega)
        have hwp := wid_pos c
        rw [tcells_len] at hts
        omega)
      simp only [Rows.uptoBulk]
      omega
    · cases hcb
end
def argMemF : Nat → List Arg → List (Nat × MB)
  | _, [] => []
  | k, a :: r => (k, .list .fz a.c a.l) :: argMemF (k + 1) r
theorem argMemF_find : ∀ {ars : List Arg} {k r : Nat} {m : MB}, find (argMemF k ars) r = some m → k ≤ r ∧ ∃ a, ars[r - k]? = some a ∧ m = .list .fz a.c a.l
  | [], k, r, m, h => by simp [argMemF, find] at h
  | a :: ars, k, r, m, h => by
    simp only [argMemF, find_cons] at h
    split at h
    · rename_i e; subst e; cases h; exact ⟨Nat.le_refl _, a, by simp, rfl⟩
    · obtain ⟨h1, b, h2, h3⟩ := argMemF_find h
      refine ⟨by omega, b, ?_, h3⟩
      rw [show r - k = (r - (k + 1)) + 1 by omega]
      simpa using h2
theorem argsF_cont {ars : List Arg} {r : Rid} {b : AB} (h : cont (argMemF 0 ars) r = some b) : ∃ a c' l', ars[r.k]? = some a ∧ desc a.c a.l r.p = some ⟨c', l'⟩ ∧ b = .list .fz c' l' := by
  obtain ⟨m, h1, h2⟩ := cont_iff.1 h
  obtain ⟨_, a, h3, rfl⟩ := argMemF_find h1
  rw [Nat.sub_zero] at h3
  simp only [contB] at h2
  split at h2
  · rename_i c' l' hd
    cases h2
    exact ⟨a, c', l', h3, hd, by simp only [Md.at]⟩
  · cases h2
theorem argsF_ents {w : World} {ars : List Arg} (h : ∀ a ∈ ars, OpenL w a.c a.L a.l) : Ents (fun _ => False) (argV w ars) ⟨[], argMemF 0 ars, ars.length⟩ w := by
  refine ⟨fun k m hk => ?_, fun r b hb => ?_, fun r r' b b' hb hb' _ _ hk _ => ?_, fun r b hb _ hk hd => hd⟩
  · obtain ⟨_, a, h1, rfl⟩ := argMemF_find hk
    exact ⟨by have := (List.getElem?_eq_some_iff.1 h1).1; simpa using this, rfl⟩
  · obtain ⟨a, c', l', h1, h2, rfl⟩ := argsF_cont hb
    obtain ⟨g1, g2, _, g3⟩ := h a (List.mem_of_getElem? h1) r.p c' l' h2
    have hv : ∀ p, argV w ars ⟨r.k, p⟩ = vloc w a.c a.L p := fun p => by simp only [argV, h1]
    have hr : argV w ars r = vloc w a.c a.L r.p := hv r.p
    refine ⟨by rw [hr]; exact g1, by rw [hr]; exact g2, (fun e => by cases e), fun i x hx j d hd => ?_⟩
    obtain ⟨_, ad, k1, k2, k3⟩ := g3 i x hx j d hd
    refine ⟨ad, by rw [hr]; exact k1, k2, k3.trans ?_⟩
    cases d <;> simp only [denT]
    simp only [Rid.ch, hv]
  · obtain ⟨a, c', l', h1, h2, rfl⟩ := argsF_cont hb
    cases hk
theorem argsF_dl {V : Vl} {ars : List Arg} {b : Nat} : ¬ Dl V (argMemF 0 ars) b := by
  rintro ⟨r, y, hc, _, hk, _⟩
  obtain ⟨a, c', l', h1, h2, rfl⟩ := argsF_cont hc
  cases hk
theorem law_ofF {P : Program} {g : Nat} {svs : List SV} {vs : List Value} {w : World} (ars : List Arg) (n : Nat) (hn : ars.length = n) (h : ∀ a ∈ ars, OpenL w a.c a.L a.l)
    (T : Trip P g svs ⟨[], argMemF 0 ars, n⟩ (Z := Unit) (fun _ => True) (fun _ => .bool true) (fun _ => ⟨[], argMemF 0 ars, n⟩))
    (hvs : denL (argV w ars) svs = vs) : Calls P g vs.toArray w fun e w' => e = .returned (.bool true) ∧ Below w.heap.size w w' := by
  subst hn
  have hT := T.runs (argV w ars) (fun _ => False) w (argsF_ents h) (fun b hb => hb.elim)
  rw [hvs] at hT
  exact hT.mono fun e w' ⟨z, V', _, he, _, _, _, _, hfr, _⟩ => ⟨he, hfr.2.2.os, hfr.2.2.tape, hfr.2.2.output, hfr.1, fun k hk => hfr.2.1 k hk argsF_dl⟩
end Go.Proofs.Ytonjbhdfimcedaa
namespace Go.Proofs.Ytonjbhdfimcedaa
open Go.RowKit
theorem lsum_mem {c : Ty} {l : List (El c)} {x : El c} (h : x ∈ l) : tsz (tcells c x) ≤ lsum c l := by
  induction l with
  | nil => cases h
  | cons y l ih =>
    simp only [lsum]
    rcases List.mem_cons.1 h with rfl | h
    · omega
    · have := ih h; omega
theorem osum_lsum : ∀ {l : List Blk}, osum l ≤ lsum .block l
  | [] => Nat.le_refl _
  | x :: l => by
    have := osum_lsum (l := l)
    show x.ops.length + osum l ≤ tsz [.sl .op x.ops, .int .i64 x.cond, .sl .int x.next] + lsum .block l
    simp only [tsz]; omega
theorem grf_bnd {g : Grf} (h0 : g.inp.length + lsum .input g.inp ≤ 1048576) (h3 : g.arrs.length + lsum .array g.arrs ≤ 1048576) (h5 : g.blks.length + lsum .block g.blks ≤ 1048576) (h6 : g.pts.length + lsum .ints g.pts ≤ 1048576) (h7 : g.hds.length + lsum .head g.hds ≤ 1048576) : Bnd g := by
  have ho := osum_lsum (l := g.blks)
  refine ⟨by omega, by omega, by omega, by omega, by omega, by rw [opsN_sum]; omega, fun x hx => ?_, fun x hx => ?_, fun x hx => ?_⟩
  · have h := lsum_mem (c := .block) hx
    have e : tsz (tcells .block x) = x.ops.length + (x.next.length + 0) := rfl
    omega
  · have h := lsum_mem (c := .block) hx
    have e : tsz (tcells .block x) = x.ops.length + (x.next.length + 0) := rfl
    omega
  · have h := lsum_mem (c := .ints) hx
    have e : tsz (tcells .ints x) = x.length + 0 := rfl
    omega
end Go.Proofs.Ytonjbhdfimcedaa
namespace Go.Proofs.Ytonjbhdfimcedaa
open Go.RowKit
def codes : List (Nat × Ty) := [(3, .int), (4, .bool), (5, .u8), (38, .ints), (76, .bools), (42, .op), (40, .block), (33, .input), (35, .array), (57, .head)]
theorem codes_ok : codesB Try.prog codes codes = true := by kernel_rfl
end Go.Proofs.Ytonjbhdfimcedaa
