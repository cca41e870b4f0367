/- Merged graphs: the document. -/
import Derived.Test.YtonjbhdfimcedaaMZ
namespace Go.Proofs.Ytonjbhdfimcedaa
set_option linter.unusedVariables false
set_option linter.unusedSimpArgs false
open Go.RowKit
def atL (n z : Nat) : List Int := (List.range z).map (fun (i : Nat) => (i : Int)) ++ List.replicate (n - z) (0 : Int)
theorem atL_zero {n : Nat} : atL n 0 = List.replicate n (dflt .int) := rfl
theorem atL_len {n z : Nat} (h : z ≤ n) : (atL n z).length = n := by unfold atL; rw [List.length_append, List.length_map, List.length_range, List.length_replicate]; omega
theorem atL_set {n z : Nat} (h : z < n) : (atL n z).set z (z : Int) = atL n (z + 1) := by
  unfold atL
  have hl : ((List.range z).map (fun (i : Nat) => (i : Int))).length = z := by rw [List.length_map, List.length_range]
  have e : n - z = (n - (z + 1)) + 1 := by omega
  rw [List.set_append_right _ _ (by omega), hl, Nat.sub_self, e, List.replicate_succ, List.set_cons_zero, List.range_succ, List.map_append, List.append_assoc]
  rfl
theorem atL_full {n : Nat} : atL n n = idL n := by unfold atL idL; rw [Nat.sub_self, List.replicate_zero, List.append_nil]
theorem at_step {g : Grf} {a b' : Nat} (t : Tk g a b') {m : List Int} {z : Nat} (h : z < m.length) (hv : 0 ≤ (gt (c := .int) m z : Int) ∧ (gt (c := .int) m z : Int) < g.blks.length) : (mapTo (c := .int) (mvI a (nxt g a)) m z).set z (gt (c := .int) (oneT g a b') (Int.toNat (gt (c := .int) (mapTo (c := .int) (mvI a (nxt g a)) m z) z))) = mapTo (c := .int) (mvI a (nxt g a)) m (z + 1) := by
  rw [t.eq]
  generalize hb : b' = b at t ⊢
  have e1 := gt_mapTo (c := .int) (f := mvI a b) h
  rw [e1]
  have e2 := one_mv t hv
  rw [show (gt (c := .int) (oneT g a b) (Int.toNat (gt (c := .int) m z)) : Int) = mvI a b (gt (c := .int) m z) from e2]
  exact mapTo_set (c := .int) h
theorem at_full {m : List Int} {a b : Int} : mapTo (c := .int) (mvI a b) m m.length = m.map (mvJ a b) := mapTo_full (c := .int)
theorem rows_snoc {m : List Int} {z : Nat} (h : z < m.length) : rowsL (m.take z) ++ [[(gt (c := .int) m z : Int)]] = rowsL (m.take (z + 1)) := by
  unfold rowsL; rw [take_snoc (c := .int) h, List.map_append]; rfl
theorem rows_zero {m : List Int} : rowsL (m.take 0) = [] := by unfold rowsL; rw [List.take_zero]; rfl
theorem rows_full {m : List Int} : rowsL (m.take m.length) = rowsL m := by rw [List.take_length]
theorem rows_len {m : List Int} {z : Nat} : (rowsL (m.take z)).length ≤ z := by rw [rowsL_len, List.length_take]; omega
attribute [local irreducible] mapTo mrgF mrgG tkB befG befI jn rowsL idL chkG rnm x1G oneT toL atL
set_option maxHeartbeats 4000000 in
theorem r_mergeE (g : Grf) (hB : Bnd g) (he : ¬ chkG g = 0) : Trip Try.prog 43 [.agg [.sl ⟨0, []⟩, .int .i64 g.vars, .int .i64 g.keep, .sl ⟨1, []⟩, .int .i64 g.shared, .sl ⟨2, []⟩, .sl ⟨3, []⟩, .sl ⟨4, []⟩]] ⟨[], [(0, .list .tmp .input g.inp), (1, .list .tmp .array g.arrs), (2, .list .tmp .block g.blks), (3, .list .tmp .ints g.pts), (4, .list .tmp .head g.hds)], 5⟩ (Z := Unit) (fun _ => True) (fun _ => .tup [.agg [.val (.slice none 0 0), .int .i64 0, .int .i64 0, .val (.slice none 0 0), .int .i64 0, .val (.slice none 0 0), .val (.slice none 0 0), .val (.slice none 0 0)], .val (.slice none 0 0), .int .i64 (chkG g)]) (fun _ => ⟨[], [(0, .list .tmp .input g.inp), (1, .list .tmp .array g.arrs), (2, .list .tmp .block g.blks), (3, .list .tmp .ints g.pts), (4, .list .tmp .head g.hds)], 5⟩) := by
  refine trip_by (rs := [_, _, _]) 400 lay_ok Try.func43 rfl (by kernel_rfl) Try.ntmps43 Try.results43 rfl rfl ?_
  repeat' (first | (((with_reducible refine g_id ?_); (conv => arg 3; whnf)); first | (with_reducible refine g_cond lay_ok 400 ?_ ?_ ?_) | (with_reducible refine g_fin ?_ ?_) | (refine g_call lay_ok 400 ?_ ?_ ?_ (r_check1 ?_ ?_) rfl)) | ((with_reducible refine o_id ?_); (conv => arg 1; whnf); first | (with_reducible exact o_nil) | (with_reducible refine o_cons ?_ ?_)) | (intro h; ((try simp only [Int.toNat_natCast] at h); repeat (first | replace h := of_decide_eq_true h | replace h := of_decide_eq_false h | replace h := not_t h | replace h := not_f h)); (try (first | contradiction))) | rfl | omega)
  all_goals (((with_reducible refine e_id ?_); (conv => whnf)); refine ⟨(), trivial, ?_⟩; ((with_reducible refine s_id ?_); (conv => arg 1; whnf); (with_reducible refine s_some ?_); repeat' (first | ((with_reducible refine o_id ?_); (conv => arg 1; whnf); first | (with_reducible exact o_nil) | (with_reducible refine o_cons ?_ ?_)) | rfl)))
set_option maxHeartbeats 4000000 in
set_option maxRecDepth 8000 in
theorem r_mergeO (g : Grf) (hB : Bnd g) (he : chkG g = 0) : Trip Try.prog 43 [.agg [.sl ⟨0, []⟩, .int .i64 g.vars, .int .i64 g.keep, .sl ⟨1, []⟩, .int .i64 g.shared, .sl ⟨2, []⟩, .sl ⟨3, []⟩, .sl ⟨4, []⟩]] ⟨[], [(0, .list .tmp .input g.inp), (1, .list .tmp .array g.arrs), (2, .list .tmp .block g.blks), (3, .list .tmp .ints g.pts), (4, .list .tmp .head g.hds)], 5⟩ (Z := Unit) (fun _ => True) (fun _ => .tup [.agg [.sl ⟨5, []⟩, .int .i64 (mrgG g).1.vars, .int .i64 (mrgG g).1.keep, .sl ⟨6, []⟩, .int .i64 (mrgG g).1.shared, .sl ⟨7, []⟩, .sl ⟨8, []⟩, .sl ⟨9, []⟩], .sl ⟨10, []⟩, .int .i64 0]) (fun _ => ⟨[], [(0, .list .tmp .input g.inp), (1, .list .tmp .array g.arrs), (2, .list .tmp .block g.blks), (3, .list .tmp .ints g.pts), (4, .list .tmp .head g.hds), (5, .list .own .input (mrgG g).1.inp), (6, .list .own .array (mrgG g).1.arrs), (7, .list .own .block (mrgG g).1.blks), (8, .list .own .ints (mrgG g).1.pts), (9, .list .own .head (mrgG g).1.hds), (10, .list .own .ints (rowsL (mrgG g).2))], 11⟩) := by
  have w := chk_wf hB he
  have hb0 := w.b
  refine trip_by (rs := [_, _, _]) 400 lay_ok Try.func43 rfl (by kernel_rfl) Try.ntmps43 Try.results43 rfl rfl ?_
  repeat' (first | (((with_reducible refine g_id ?_); (conv => arg 3; whnf)); first | (with_reducible refine g_cond lay_ok 400 ?_ ?_ ?_) | (refine g_call lay_ok 400 ?_ ?_ ?_ (r_check1 ?_ ?_) rfl) | (refine g_call lay_ok 400 ?_ ?_ ?_ (r_copy ?_ ?_) rfl)) | ((with_reducible refine o_id ?_); (conv => arg 1; whnf); first | (with_reducible exact o_nil) | (with_reducible refine o_cons ?_ ?_)) | (intro h; ((try simp only [Int.toNat_natCast] at h); repeat (first | replace h := of_decide_eq_true h | replace h := of_decide_eq_false h | replace h := not_t h | replace h := not_f h)); (try (first | contradiction))) | rfl | omega)
  refine g_loop lay_ok 400 (Z := Nat) (fun z => z ≤ g.blks.length) (fun z => ⟨[(2, .ptr 6 0), (6, .ptr 7 0), (7, .sl ⟨13, []⟩), (8, .int .i64 (z : Int))], [(0, .list .tmp .input g.inp), (1, .list .tmp .array g.arrs), (2, .list .tmp .block g.blks), (3, .list .tmp .ints g.pts), (4, .list .tmp .head g.hds), (6, .cells [.val (.slice none 0 0), .int .i64 0, .int .i64 0, .val (.slice none 0 0), .int .i64 0, .val (.slice none 0 0), .val (.slice none 0 0), .val (.slice none 0 0)]), (7, .cells [.sl ⟨8, []⟩, .int .i64 g.vars, .int .i64 g.keep, .sl ⟨9, []⟩, .int .i64 g.shared, .sl ⟨10, []⟩, .sl ⟨11, []⟩, .sl ⟨12, []⟩]), (8, .list .own .input g.inp), (9, .list .own .array g.arrs), (10, .list .own .block g.blks), (11, .list .own .ints g.pts), (12, .list .own .head g.hds), (13, .list .own .int (atL g.blks.length z))], 14⟩) (fun z => g.blks.length - z) ?_ ⟨0, Nat.zero_le _, ?_⟩ (fun z hz => ?_)
  · repeat' (first | ((with_reducible refine o_id ?_); (conv => arg 1; whnf); first | (with_reducible exact o_nil) | (with_reducible refine o_cons ?_ ?_)) | rfl | omega)
  · ((with_reducible refine s_id ?_); (conv => arg 1; whnf); (with_reducible refine s_some ?_); repeat' (first | ((with_reducible refine o_id ?_); (conv => arg 1; whnf); first | (with_reducible exact o_nil) | (with_reducible refine o_cons ?_ ?_)) | rfl | (exact atL_zero)))
  have hal := atL_len hz
  by_cases hk : z < g.blks.length
  · repeat' (first | (((with_reducible refine g_id ?_); (conv => arg 3; whnf)); first | (with_reducible refine g_cond lay_ok 400 ?_ ?_ ?_) | (with_reducible refine g_fin ?_ ?_)) | ((with_reducible refine o_id ?_); (conv => arg 1; whnf); first | (with_reducible exact o_nil) | (with_reducible refine o_cons ?_ ?_)) | (intro h; ((try simp only [Int.toNat_natCast] at h); repeat (first | replace h := of_decide_eq_true h | replace h := of_decide_eq_false h)); (try (first | (exfalso; omega)))) | omega)
    all_goals (refine q_round ⟨z + 1, by omega, by omega, ?_⟩; ((with_reducible refine s_id ?_); (conv => arg 1; whnf); (with_reducible refine s_some ?_); repeat' (first | ((with_reducible refine o_id ?_); (conv => arg 1; whnf); first | (with_reducible exact o_nil) | (with_reducible refine o_cons ?_ ?_)) | rfl | (exact (atL_set hk).symm))))
  have e : z = g.blks.length := by omega
  subst e
  rw [atL_full] at hal
  rw [atL_full]
  clear hk
  clear hz
  repeat' (first | (((with_reducible refine g_id ?_); (conv => arg 3; whnf)); first | (with_reducible refine g_cond lay_ok 400 ?_ ?_ ?_) | (with_reducible refine g_fin ?_ ?_)) | (with_reducible refine q_leave lay_ok 400 ?_) | (with_reducible exact o_nil) | ((with_reducible refine o_id ?_); (conv => arg 1; whnf); first | (with_reducible exact o_nil)) | (intro h; ((try simp only [Int.toNat_natCast] at h); repeat (first | replace h := of_decide_eq_true h | replace h := of_decide_eq_false h)); (try (first | (exfalso; omega)))))
  refine g_loop lay_ok 400 (Z := (Nat × Grf × Nat × List Int)) (fun z => Mi g z) (fun z => ⟨[(2, .ptr 6 0), (6, .ptr 7 0), (7, .sl ⟨13, []⟩), (9, .int .i64 (z.2.2.1 : Int))], [(0, .list .tmp .input g.inp), (1, .list .tmp .array g.arrs), (2, .list .tmp .block g.blks), (3, .list .tmp .ints g.pts), (4, .list .tmp .head g.hds), (6, .cells [.val (.slice none 0 0), .int .i64 0, .int .i64 0, .val (.slice none 0 0), .int .i64 0, .val (.slice none 0 0), .val (.slice none 0 0), .val (.slice none 0 0)]), (7, .cells [.sl ⟨8, []⟩, .int .i64 z.2.1.vars, .int .i64 z.2.1.keep, .sl ⟨9, []⟩, .int .i64 z.2.1.shared, .sl ⟨10, []⟩, .sl ⟨11, []⟩, .sl ⟨12, []⟩]), (8, .list .own .input z.2.1.inp), (9, .list .own .array z.2.1.arrs), (10, .list .own .block z.2.1.blks), (11, .list .own .ints z.2.1.pts), (12, .list .own .head z.2.1.hds), (13, .list .own .int (z.2.2.2))], 14⟩) (fun z => z.1) ?_ ⟨(g.blks.length * 66 + 1, g, 0, idL g.blks.length), mi_start w, ?_⟩ (fun z hz => ?_)
  · repeat' (first | ((with_reducible refine o_id ?_); (conv => arg 1; whnf); first | (with_reducible exact o_nil)))
  · ((with_reducible refine s_id ?_); (conv => arg 1; whnf); (with_reducible refine s_some ?_); repeat' (first | ((with_reducible refine o_id ?_); (conv => arg 1; whnf); first | (with_reducible exact o_nil) | (with_reducible refine o_cons ?_ ?_)) | rfl))
  obtain ⟨fu, g', a, m⟩ := z
  have hw : Wf g' := hz.w
  have hbn := hw.bnd
  have hbl := hw.b
  have hm : m.length ≤ 64 ∧ ∀ x ∈ m, 0 ≤ x ∧ x < g'.blks.length := hz.m
  dsimp only
  by_cases ha : a < g'.blks.length
  · cases ht : tkB g' (befG g'.blks) a with
    | false =>
      obtain ⟨f', rfl, hn⟩ := mi_next hz ha ht
      repeat' (first | (((with_reducible refine g_id ?_); (conv => arg 3; whnf)); first | (with_reducible refine g_cond lay_ok 400 ?_ ?_ ?_) | (with_reducible refine g_fin ?_ ?_) | (refine g_call lay_ok 400 ?_ ?_ ?_ (r_bef g' ?_) rfl) | (refine g_call lay_ok 400 ?_ ?_ ?_ (r_tk g' (befG g'.blks) a ?_ ?_ ?_ ?_) rfl) | (refine g_flow 12 lay_ok mixed_ok 400 20 [0, 0, 2, 0, 15, 31, 63, 63, 127, 511] (.q 0 (.q 1 (.q 3 (.e 2 [0, 3] (.e 4 [] (.q 5 (.q 6 (.q 7 (.q 8 (.q 9 .fin))))) .stop) .stop)))) (by kernel_rfl) ?_ ?_)) | (((with_reducible refine w_id ?_); (conv => arg 4; whnf)); first | (with_reducible refine w_fin ?_ ?_) | (with_reducible refine w_tt ?_) | (with_reducible refine w_eff lay_ok 400 ?_ rfl rfl ?_ ?_)) | (with_reducible refine q_flow ?_ ?_) | ((with_reducible refine h_id ?_); (conv => arg 1; whnf); (with_reducible refine s_some ?_)) | (with_reducible exact o_nil) | ((with_reducible refine o_id ?_); (conv => arg 1; whnf); first | (with_reducible exact o_nil) | (with_reducible refine o_cons ?_ ?_)) | (intro h; ((try simp only [Int.toNat_natCast] at h); repeat (first | replace h := of_decide_eq_true h | replace h := of_decide_eq_false h | replace h := not_t h | replace h := not_f h)); (try (first | (exfalso; omega) | exact Bool.noConfusion (h.symm.trans (by assumption) : true = false)))) | rfl | omega | (exact befG_len) | (exact tk_in hw ha h))
      all_goals (refine q_round ⟨(f', g', a + 1, m), hn, Nat.lt_succ_self _, ?_⟩; ((with_reducible refine s_id ?_); (conv => arg 1; whnf); (with_reducible refine s_some ?_); repeat' (first | ((with_reducible refine o_id ?_); (conv => arg 1; whnf); first | (with_reducible exact o_nil) | (with_reducible refine o_cons ?_ ?_)) | rfl)))
    | true =>
      obtain ⟨f', rfl, hn⟩ := mi_join hz ha ht
      have t := tk_of hw ha ht
      have hta := t.ha
      have htb := t.hb
      have hte := t.eq
      have hX := x1_bnd hw t
      have hxn := x1_next hw t
      have hxp := x1_pts hw t
      have hrj := rn_jn hw t
      have hos : opsN g'.blks g'.blks.length ≤ 600 := by rw [opsN_sum]; have := hw.s; omega
      have hol := one_len (g := g') (a := a) (b := (nxt g' a).toNat)
      repeat' (first | (((with_reducible refine g_id ?_); (conv => arg 3; whnf)); first | (with_reducible refine g_cond lay_ok 400 ?_ ?_ ?_) | (with_reducible refine g_fin ?_ ?_) | (refine g_call lay_ok 400 ?_ ?_ ?_ (r_bef g' ?_) rfl) | (refine g_call lay_ok 400 ?_ ?_ ?_ (r_tk g' (befG g'.blks) a ?_ ?_ ?_ ?_) rfl) | (refine g_call lay_ok 400 ?_ ?_ ?_ (r_one g' a (nxt g' a).toNat ?_ ?_ ?_ ?_ ?_ ?_ ?_ ?_ ?_ ?_) rfl) | (refine g_flow 12 lay_ok mixed_ok 400 20 [0, 0, 2, 0, 15, 31, 63, 63, 127, 511] (.q 0 (.q 1 (.q 3 (.e 2 [0, 3] (.e 4 [] (.q 5 (.q 6 (.q 7 (.q 8 (.q 9 .fin))))) .stop) .stop)))) (by kernel_rfl) ?_ ?_)) | (((with_reducible refine w_id ?_); (conv => arg 4; whnf)); first | (with_reducible refine w_fin ?_ ?_) | (with_reducible refine w_tt ?_) | (with_reducible refine w_eff lay_ok 400 ?_ rfl rfl ?_ ?_)) | (with_reducible refine q_flow ?_ ?_) | ((with_reducible refine h_id ?_); (conv => arg 1; whnf); (with_reducible refine s_some ?_)) | (with_reducible exact o_nil) | ((with_reducible refine o_id ?_); (conv => arg 1; whnf); first | (with_reducible exact o_nil) | (with_reducible refine o_cons ?_ ?_)) | (intro h; ((try simp only [Int.toNat_natCast] at h); repeat (first | replace h := of_decide_eq_true h | replace h := of_decide_eq_false h | replace h := not_t h | replace h := not_f h)); (try (first | (exfalso; omega) | exact Bool.noConfusion (h.symm.trans (by assumption) : false = true)))) | rfl | omega | (exact befG_len) | (exact t.ne h) | (exact hxn _ (by assumption) _ (by assumption)) | (exact hxp _ (by assumption) _ (by assumption)) | (exact (hw.q _ (by assumption)).2 _ (by assumption)) | (exact hw.k _ (by assumption)) | (simp only [ht, true_implies, forall_const] at *; omega) | (rw [hrj]))
      refine g_loop lay_ok 400 (Z := Nat) (fun z => z ≤ m.length) (fun z => ⟨[(2, .ptr 6 0), (6, .ptr 7 0), (7, .sl ⟨13, []⟩), (13, .sl ⟨14, []⟩), (14, .int .i64 (z : Int))], [(0, .list .tmp .input g.inp), (1, .list .tmp .array g.arrs), (2, .list .tmp .block g.blks), (3, .list .tmp .ints g.pts), (4, .list .tmp .head g.hds), (6, .cells [.val (.slice none 0 0), .int .i64 0, .int .i64 0, .val (.slice none 0 0), .int .i64 0, .val (.slice none 0 0), .val (.slice none 0 0), .val (.slice none 0 0)]), (7, .cells [.sl ⟨8, []⟩, .int .i64 (jn g' a (nxt g' a).toNat).vars, .int .i64 (jn g' a (nxt g' a).toNat).keep, .sl ⟨9, []⟩, .int .i64 (jn g' a (nxt g' a).toNat).shared, .sl ⟨10, []⟩, .sl ⟨11, []⟩, .sl ⟨12, []⟩]), (8, .list .own .input (jn g' a (nxt g' a).toNat).inp), (9, .list .own .array (jn g' a (nxt g' a).toNat).arrs), (10, .list .own .block (jn g' a (nxt g' a).toNat).blks), (11, .list .own .ints (jn g' a (nxt g' a).toNat).pts), (12, .list .own .head (jn g' a (nxt g' a).toNat).hds), (13, .list .own .int (mapTo (c := .int) (mvI a (nxt g' a)) m z)), (14, .list .own .int (oneT g' a (nxt g' a).toNat))], 15⟩) (fun z => m.length - z) ?_ ⟨0, Nat.zero_le _, ?_⟩ (fun z hz => ?_)
      · repeat' (first | ((with_reducible refine o_id ?_); (conv => arg 1; whnf); first | (with_reducible exact o_nil)))
      · ((with_reducible refine s_id ?_); (conv => arg 1; whnf); (with_reducible refine s_some ?_); repeat' (first | ((with_reducible refine o_id ?_); (conv => arg 1; whnf); first | (with_reducible exact o_nil) | (with_reducible refine o_cons ?_ ?_)) | rfl | (exact jn_f.1) | (exact jn_f.2.1) | (exact jn_f.2.2.1) | (exact jn_f.2.2.2.1) | (exact jn_f.2.2.2.2) | (exact mapTo_zero (c := .int))))
      have hml := mapTo_len (c := .int) (f := mvI a (nxt g' a)) (l := m) (i := z)
      by_cases hk : z < m.length
      · have hv := hm.2 _ (mem_gt (c := .int) hk)
        have hgz := gt_mapTo (c := .int) (f := mvI a (nxt g' a)) hk
        repeat' (first | (((with_reducible refine g_id ?_); (conv => arg 3; whnf)); first | (with_reducible refine g_cond lay_ok 400 ?_ ?_ ?_) | (with_reducible refine g_fin ?_ ?_)) | ((with_reducible refine o_id ?_); (conv => arg 1; whnf); first | (with_reducible exact o_nil) | (with_reducible refine o_cons ?_ ?_)) | (intro h; ((try simp only [Int.toNat_natCast] at h); repeat (first | replace h := of_decide_eq_true h | replace h := of_decide_eq_false h)); (try (first | (exfalso; omega)))) | omega | (simp only [Int.toNat_natCast, hgz]; exact hv.1) | (simp only [Int.toNat_natCast, hgz, hol]; exact hv.2) | (simp only [Int.toNat_natCast, hgz, hol]; exact toNat_lt2 hv))
        all_goals (refine q_round ⟨z + 1, by omega, by omega, ?_⟩; ((with_reducible refine s_id ?_); (conv => arg 1; whnf); (with_reducible refine s_some ?_); repeat' (first | ((with_reducible refine o_id ?_); (conv => arg 1; whnf); first | (with_reducible exact o_nil) | (with_reducible refine o_cons ?_ ?_)) | rfl | (exact (at_step t hk hv).symm))))
      · have e : z = m.length := by omega
        subst e
        rw [at_full]
        repeat' (first | (((with_reducible refine g_id ?_); (conv => arg 3; whnf)); first | (with_reducible refine g_cond lay_ok 400 ?_ ?_ ?_) | (with_reducible refine g_fin ?_ ?_)) | (with_reducible refine q_leave lay_ok 400 ?_) | (with_reducible exact o_nil) | ((with_reducible refine o_id ?_); (conv => arg 1; whnf); first | (with_reducible exact o_nil)) | (intro h; ((try simp only [Int.toNat_natCast] at h); repeat (first | replace h := of_decide_eq_true h | replace h := of_decide_eq_false h)); (try (first | (rw [List.length_map] at h; exfalso; omega)))))
        all_goals (refine q_round ⟨(f', jn g' a (nxt g' a).toNat, 0, m.map (mvJ a (nxt g' a))), hn, Nat.lt_succ_self _, ?_⟩; ((with_reducible refine s_id ?_); (conv => arg 1; whnf); (with_reducible refine s_some ?_); repeat' (first | ((with_reducible refine o_id ?_); (conv => arg 1; whnf); first | (with_reducible exact o_nil) | (with_reducible refine o_cons ?_ ?_)) | rfl)))
  · have e : mrgF fu g' a m = mrgG g := hz.e
    rw [mrg_end ha] at e
    have e1 : g' = (mrgG g).1 := congrArg (·.1) e
    have e2 : m = (mrgG g).2 := congrArg (·.2) e
    subst e2
    subst e1
    repeat' (first | (((with_reducible refine g_id ?_); (conv => arg 3; whnf)); first | (with_reducible refine g_cond lay_ok 400 ?_ ?_ ?_) | (with_reducible refine g_fin ?_ ?_)) | (with_reducible refine q_leave lay_ok 400 ?_) | (with_reducible exact o_nil) | ((with_reducible refine o_id ?_); (conv => arg 1; whnf); first | (with_reducible exact o_nil)) | (intro h; ((try simp only [Int.toNat_natCast] at h); repeat (first | replace h := of_decide_eq_true h | replace h := of_decide_eq_false h)); (try (first | (exfalso; omega)))))
    refine g_loop lay_ok 400 (Z := Nat) (fun z => z ≤ (mrgG g).2.length) (fun z => ⟨[(2, .ptr 6 0), (6, .ptr 7 0), (7, .sl ⟨13, []⟩), (15, .sl ⟨14, []⟩), (16, .int .i64 (z : Int))], [(0, .list .tmp .input g.inp), (1, .list .tmp .array g.arrs), (2, .list .tmp .block g.blks), (3, .list .tmp .ints g.pts), (4, .list .tmp .head g.hds), (6, .cells [.val (.slice none 0 0), .int .i64 0, .int .i64 0, .val (.slice none 0 0), .int .i64 0, .val (.slice none 0 0), .val (.slice none 0 0), .val (.slice none 0 0)]), (7, .cells [.sl ⟨8, []⟩, .int .i64 (mrgG g).1.vars, .int .i64 (mrgG g).1.keep, .sl ⟨9, []⟩, .int .i64 (mrgG g).1.shared, .sl ⟨10, []⟩, .sl ⟨11, []⟩, .sl ⟨12, []⟩]), (8, .list .own .input (mrgG g).1.inp), (9, .list .own .array (mrgG g).1.arrs), (10, .list .own .block (mrgG g).1.blks), (11, .list .own .ints (mrgG g).1.pts), (12, .list .own .head (mrgG g).1.hds), (13, .list .own .int ((mrgG g).2)), (14, .list .own .ints (rowsL ((mrgG g).2.take z)))], 15⟩) (fun z => (mrgG g).2.length - z) ?_ ⟨0, Nat.zero_le _, ?_⟩ (fun z hz => ?_)
    · repeat' (first | ((with_reducible refine o_id ?_); (conv => arg 1; whnf); first | (with_reducible exact o_nil)))
    · ((with_reducible refine s_id ?_); (conv => arg 1; whnf); (with_reducible refine s_some ?_); repeat' (first | ((with_reducible refine o_id ?_); (conv => arg 1; whnf); first | (with_reducible exact o_nil) | (with_reducible refine o_cons ?_ ?_)) | rfl | (exact rows_zero)))
    have hrl := rows_len (m := (mrgG g).2) (z := z)
    by_cases hk : z < (mrgG g).2.length
    · repeat' (first | (((with_reducible refine g_id ?_); (conv => arg 3; whnf)); first | (with_reducible refine g_cond lay_ok 400 ?_ ?_ ?_) | (with_reducible refine g_fin ?_ ?_) | (refine g_ownA lay_ok 400 0 .int ?_ rfl rfl rfl ?_ ?_)) | ((with_reducible refine o_id ?_); (conv => arg 1; whnf); first | (with_reducible exact o_nil) | (with_reducible refine o_cons ?_ ?_)) | (intro h; ((try simp only [Int.toNat_natCast] at h); repeat (first | replace h := of_decide_eq_true h | replace h := of_decide_eq_false h)); (try (first | (exfalso; omega)))) | omega | (simp only [List.length_append, List.length_cons, List.length_nil]; omega))
      all_goals (refine q_round ⟨z + 1, by omega, by omega, ?_⟩; ((with_reducible refine s_id ?_); (conv => arg 1; whnf); (with_reducible refine s_some ?_); repeat' (first | ((with_reducible refine o_id ?_); (conv => arg 1; whnf); first | (with_reducible exact o_nil) | (with_reducible refine o_cons ?_ ?_)) | rfl | (exact (rows_snoc hk).symm))))
    · have e : z = (mrgG g).2.length := by omega
      subst e
      rw [rows_full]
      repeat' (first | (((with_reducible refine g_id ?_); (conv => arg 3; whnf)); first | (with_reducible refine g_cond lay_ok 400 ?_ ?_ ?_) | (with_reducible refine g_fin ?_ ?_)) | (with_reducible refine q_leave lay_ok 400 ?_) | (with_reducible exact o_nil) | ((with_reducible refine o_id ?_); (conv => arg 1; whnf); first | (with_reducible exact o_nil)) | (intro h; ((try simp only [Int.toNat_natCast] at h); repeat (first | replace h := of_decide_eq_true h | replace h := of_decide_eq_false h)); (try (first | (exfalso; omega)))))
      all_goals (((with_reducible refine e_id ?_); (conv => whnf)); refine ⟨(), trivial, ?_⟩; ((with_reducible refine s_id ?_); (conv => arg 1; whnf); (with_reducible refine s_some ?_); repeat' (first | ((with_reducible refine o_id ?_); (conv => arg 1; whnf); first | (with_reducible exact o_nil) | (with_reducible refine o_cons ?_ ?_)) | rfl)))
end Go.Proofs.Ytonjbhdfimcedaa
