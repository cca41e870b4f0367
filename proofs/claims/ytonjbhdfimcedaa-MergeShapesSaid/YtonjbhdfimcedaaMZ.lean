/- Merged graphs: the program. -/
import Derived.Test.YtonjbhdfimcedaaMY
namespace Go.Proofs.Ytonjbhdfimcedaa
set_option linter.unusedVariables false
set_option linter.unusedSimpArgs false
open Go.RowKit
def rowsL (m : List Int) : List (List Int) := m.map fun x => [x]
theorem rowsL_len {m : List Int} : (rowsL m).length = m.length := List.length_map _
theorem rowsL_at {m : List Int} {i : Nat} (h : i < m.length) : gt (c := .ints) (rowsL m) i = [(gt (c := .int) m i : Int)] := by
  refine gt_eq (c := .ints) ?_
  unfold rowsL
  rw [List.getElem?_map, gt_at (c := .int) h]; rfl
theorem rowsL_mv {a b : Int} {m : List Int} : (rowsL m : List (El .ints)).map (jP a b) = rowsL (m.map (mvJ a b)) := by
  unfold rowsL
  rw [List.map_map, List.map_map]; rfl
theorem rowsL_step {a b : Int} {m : List Int} {i : Nat} (h : i < m.length) : (mapTo (c := .ints) (jP a b) (rowsL m) i).set i ((gt (c := .ints) (mapTo (c := .ints) (jP a b) (rowsL m) i) i : List Int).set 0 (mvJ a b (gt (c := .int) (gt (c := .ints) (mapTo (c := .ints) (jP a b) (rowsL m) i) i) 0))) = mapTo (c := .ints) (jP a b) (rowsL m) (i + 1) := by
  have hl : i < (rowsL m).length := by rw [rowsL_len]; exact h
  rw [gt_mapTo (c := .ints) hl, ← mapTo_set (c := .ints) hl, rowsL_at h]
  rfl
theorem rowsL_zero {m : List Int} {a b : Int} : mapTo (c := .ints) (jP a b) (rowsL m) 0 = rowsL m := mapTo_zero (c := .ints)
theorem rowsL_full {m : List Int} {a b : Int} : mapTo (c := .ints) (jP a b) (rowsL m) m.length = rowsL (m.map (mvJ a b)) := by
  rw [← rowsL_mv, ← mapTo_full (c := .ints), rowsL_len]
theorem idM_rows {n : Nat} : idM n = rowsL (idL n) := idL_rows.symm
/-- What holds while a graph is merged. -/
structure Mi (g0 : Grf) (z : Nat × Grf × Nat × List Int) : Prop where
  e : mrgF z.1 z.2.1 z.2.2.1 z.2.2.2 = mrgG g0
  f : z.2.1.blks.length * 65 + z.2.1.blks.length < z.1 + z.2.2.1
  w : Wf z.2.1
  a : z.2.2.1 ≤ z.2.1.blks.length
  m : z.2.2.2.length ≤ 64 ∧ ∀ x ∈ z.2.2.2, 0 ≤ x ∧ x < z.2.1.blks.length
theorem mi_start {g : Grf} (w : Wf g) : Mi g (g.blks.length * 66 + 1, g, 0, idL g.blks.length) :=
  ⟨rfl, by simp only; omega, w, Nat.zero_le _, by rw [idL_len]; exact w.b.2, idL_in⟩
theorem mi_next {g0 g : Grf} {f a : Nat} {m : List Int} (h : Mi g0 (f, g, a, m)) (ha : a < g.blks.length) (ht : tkB g (befG g.blks) a = false) : ∃ f', f = f' + 1 ∧ Mi g0 (f', g, a + 1, m) := by
  have h2 := h.f
  simp only at h2
  obtain ⟨f', rfl⟩ : ∃ f', f = f' + 1 := ⟨f - 1, by omega⟩
  refine ⟨f', rfl, ⟨by have := h.e; simp only at this ⊢; rw [mrg_next ha ht] at this; exact this, by simp only; omega, h.w, ha, h.m⟩⟩
theorem mi_join {g0 g : Grf} {f a : Nat} {m : List Int} (h : Mi g0 (f, g, a, m)) (ha : a < g.blks.length) (ht : tkB g (befG g.blks) a = true) : ∃ f', f = f' + 1 ∧ Mi g0 (f', jn g a (nxt g a).toNat, 0, m.map (mvJ a (nxt g a))) := by
  have h2 := h.f
  have hw : Wf g := h.w
  simp only at h2
  obtain ⟨f', rfl⟩ : ∃ f', f = f' + 1 := ⟨f - 1, by omega⟩
  have t := tk_of hw ha ht
  have hl := jn_len (a := a) t.hb
  have hb := hw.b
  have he : nxt g a = (((nxt g a).toNat : Nat) : Int) := t.eq
  have hm := h.m
  simp only at hm
  refine ⟨f', rfl, ⟨by have := h.e; simp only at this ⊢; rw [mrg_join ha ht] at this; exact this, by simp only; rw [hl]; omega, jn_wf hw t, Nat.zero_le _, by simp only; rw [List.length_map]; exact hm.1, fun x hx => ?_⟩⟩
  simp only at hx ⊢
  obtain ⟨y, hy, rfl⟩ := List.mem_map.1 hx
  rw [hl, he]
  exact mv_bd t.ha t.hb t.ne (hm.2 y hy)
theorem jn_f {g : Grf} {a b : Nat} : (jn g a b).vars = g.vars ∧ (jn g a b).keep = g.keep ∧ (jn g a b).shared = g.shared ∧ (jn g a b).inp = g.inp ∧ (jn g a b).arrs = g.arrs := ⟨rfl, rfl, rfl, rfl, rfl⟩
theorem jo_ops {g : Grf} (w : Wf g) {a b : Nat} (t : Tk g a b) : (gt (c := .block) g.blks a).ops.length + (gt (c := .block) g.blks b).ops.length ≤ 1048576 := by
  have h1 := osum_mem (mem_gt (c := .block) t.ha)
  have h2 := osum_mem (mem_gt (c := .block) t.hb)
  have h3 := w.s
  omega
theorem jo_n {g : Grf} (w : Wf g) : ∀ x ∈ g.blks, ∀ n ∈ x.next, 0 ≤ n ∧ n ≤ 1048576 := fun x hx n hn => by have h1 := (w.n x hx).2 n hn; have h2 := w.b; omega
theorem jo_p {g : Grf} (w : Wf g) : ∀ x ∈ g.pts, ∀ n ∈ x, 0 ≤ n ∧ n ≤ 1048576 := fun x hx n hn => by have h1 := (w.q x hx).2 n hn; have h2 := w.b; omega
theorem jo_h {g : Grf} (w : Wf g) : ∀ x ∈ g.hds, 0 ≤ x.block ∧ x.block ≤ 1048576 := fun x hx => by have h1 := w.k x hx; have h2 := w.b; omega
attribute [local irreducible] mapTo mrgF mrgG tkB befG befI jn rowsL idL chkG
set_option maxHeartbeats 4000000 in
theorem c_mergeE (g : Grf) (hB : Bnd g) (he : ¬ chkG g = 0) : Trip Try.prog 42 [.agg [.sl ⟨0, []⟩, .int .i64 g.vars, .int .i64 g.keep, .sl ⟨1, []⟩, .int .i64 g.shared, .sl ⟨2, []⟩, .sl ⟨3, []⟩, .sl ⟨4, []⟩]] ⟨[], [(0, .list .fz .input g.inp), (1, .list .fz .array g.arrs), (2, .list .fz .block g.blks), (3, .list .fz .ints g.pts), (4, .list .fz .head g.hds)], 5⟩ (Z := Unit) (fun _ => True) (fun _ => .tup [.agg [.val (.slice none 0 0), .int .i64 0, .int .i64 0, .val (.slice none 0 0), .int .i64 0, .val (.slice none 0 0), .val (.slice none 0 0), .val (.slice none 0 0)], .val (.slice none 0 0), .int .i64 (chkG g)]) (fun _ => ⟨[], [(0, .list .fz .input g.inp), (1, .list .fz .array g.arrs), (2, .list .fz .block g.blks), (3, .list .fz .ints g.pts), (4, .list .fz .head g.hds)], 5⟩) := by
  refine trip_by (rs := [_, _, _]) 400 lay_ok Try.func42 rfl (by kernel_rfl) Try.ntmps42 Try.results42 rfl rfl ?_
  repeat' (first | (((with_reducible refine g_id ?_); (conv => arg 3; whnf)); first | (with_reducible refine g_cond lay_ok 400 ?_ ?_ ?_) | (with_reducible refine g_fin ?_ ?_) | (refine g_call lay_ok 400 ?_ ?_ ?_ (c_check ?_ ?_) rfl)) | ((with_reducible refine o_id ?_); (conv => arg 1; whnf); first | (with_reducible exact o_nil) | (with_reducible refine o_cons ?_ ?_)) | (intro h; ((try simp only [Int.toNat_natCast] at h); repeat (first | replace h := of_decide_eq_true h | replace h := of_decide_eq_false h | replace h := not_t h | replace h := not_f h)); (try (first | contradiction))) | rfl | omega)
  all_goals (((with_reducible refine e_id ?_); (conv => whnf)); refine ⟨(), trivial, ?_⟩; ((with_reducible refine s_id ?_); (conv => arg 1; whnf); (with_reducible refine s_some ?_); repeat' (first | ((with_reducible refine o_id ?_); (conv => arg 1; whnf); first | (with_reducible exact o_nil) | (with_reducible refine o_cons ?_ ?_)) | rfl)))
set_option maxHeartbeats 4000000 in
set_option maxRecDepth 8000 in
theorem c_mergeO (g : Grf) (hB : Bnd g) (he : chkG g = 0) : Trip Try.prog 42 [.agg [.sl ⟨0, []⟩, .int .i64 g.vars, .int .i64 g.keep, .sl ⟨1, []⟩, .int .i64 g.shared, .sl ⟨2, []⟩, .sl ⟨3, []⟩, .sl ⟨4, []⟩]] ⟨[], [(0, .list .fz .input g.inp), (1, .list .fz .array g.arrs), (2, .list .fz .block g.blks), (3, .list .fz .ints g.pts), (4, .list .fz .head g.hds)], 5⟩ (Z := Unit) (fun _ => True) (fun _ => .tup [.agg [.sl ⟨5, []⟩, .int .i64 (mrgG g).1.vars, .int .i64 (mrgG g).1.keep, .sl ⟨6, []⟩, .int .i64 (mrgG g).1.shared, .sl ⟨7, []⟩, .sl ⟨8, []⟩, .sl ⟨9, []⟩], .sl ⟨10, []⟩, .int .i64 0]) (fun _ => ⟨[], [(0, .list .fz .input g.inp), (1, .list .fz .array g.arrs), (2, .list .fz .block g.blks), (3, .list .fz .ints g.pts), (4, .list .fz .head g.hds), (5, .list .own .input (mrgG g).1.inp), (6, .list .own .array (mrgG g).1.arrs), (7, .list .own .block (mrgG g).1.blks), (8, .list .own .ints (mrgG g).1.pts), (9, .list .own .head (mrgG g).1.hds), (10, .list .own .ints (rowsL (mrgG g).2))], 11⟩) := by
  have w := chk_wf hB he
  have hb0 := w.b
  refine trip_by (rs := [_, _, _]) 400 lay_ok Try.func42 rfl (by kernel_rfl) Try.ntmps42 Try.results42 rfl rfl ?_
  repeat' (first | (((with_reducible refine g_id ?_); (conv => arg 3; whnf)); first | (with_reducible refine g_cond lay_ok 400 ?_ ?_ ?_) | (refine g_call lay_ok 400 ?_ ?_ ?_ (c_check ?_ ?_) rfl) | (refine g_call lay_ok 400 ?_ ?_ ?_ (c_copy ?_ ?_) rfl) | (refine g_call lay_ok 400 ?_ ?_ ?_ (c_ident ?_ ?_) rfl)) | ((with_reducible refine o_id ?_); (conv => arg 1; whnf); first | (with_reducible exact o_nil) | (with_reducible refine o_cons ?_ ?_)) | (intro h; ((try simp only [Int.toNat_natCast] at h); repeat (first | replace h := of_decide_eq_true h | replace h := of_decide_eq_false h | replace h := not_t h | replace h := not_f h)); (try (first | contradiction))) | rfl | omega)
  refine g_loop lay_ok 400 (Z := (Nat × Grf × Nat × List Int)) (fun z => Mi g z) (fun z => ⟨[(2, .ptr 6 0), (6, .ptr 7 0), (7, .sl ⟨13, []⟩), (8, .int .i64 (z.2.2.1 : Int))], [(0, .list .fz .input g.inp), (1, .list .fz .array g.arrs), (2, .list .fz .block g.blks), (3, .list .fz .ints g.pts), (4, .list .fz .head g.hds), (6, .cells [.val (.slice none 0 0), .int .i64 0, .int .i64 0, .val (.slice none 0 0), .int .i64 0, .val (.slice none 0 0), .val (.slice none 0 0), .val (.slice none 0 0)]), (7, .cells [.sl ⟨8, []⟩, .int .i64 z.2.1.vars, .int .i64 z.2.1.keep, .sl ⟨9, []⟩, .int .i64 z.2.1.shared, .sl ⟨10, []⟩, .sl ⟨11, []⟩, .sl ⟨12, []⟩]), (8, .list .own .input z.2.1.inp), (9, .list .own .array z.2.1.arrs), (10, .list .own .block z.2.1.blks), (11, .list .own .ints z.2.1.pts), (12, .list .own .head z.2.1.hds), (13, .list .own .ints (rowsL z.2.2.2))], 14⟩) (fun z => z.1) ?_ ⟨(g.blks.length * 66 + 1, g, 0, idL g.blks.length), mi_start w, ?_⟩ (fun z hz => ?_)
  · repeat' (first | ((with_reducible refine o_id ?_); (conv => arg 1; whnf); first | (with_reducible exact o_nil)))
  · ((with_reducible refine s_id ?_); (conv => arg 1; whnf); (with_reducible refine s_some ?_); repeat' (first | ((with_reducible refine o_id ?_); (conv => arg 1; whnf); first | (with_reducible exact o_nil) | (with_reducible refine o_cons ?_ ?_)) | rfl | (exact idM_rows.symm)))
  obtain ⟨fu, g', a, m⟩ := z
  have hw : Wf g' := hz.w
  have hbn := hw.bnd
  have hbl := hw.b
  have hm : m.length ≤ 64 ∧ ∀ x ∈ m, 0 ≤ x ∧ x < g'.blks.length := hz.m
  dsimp only
  by_cases ha : a < g'.blks.length
  · cases ht : tkB g' (befG g'.blks) a with
    | false =>
      obtain ⟨f', rfl, hn⟩ := mi_next hz ha ht
      repeat' (first | (((with_reducible refine g_id ?_); (conv => arg 3; whnf)); first | (with_reducible refine g_cond lay_ok 400 ?_ ?_ ?_) | (with_reducible refine g_fin ?_ ?_) | (refine g_call lay_ok 400 ?_ ?_ ?_ (c_bef g' ?_) rfl) | (refine g_call lay_ok 400 ?_ ?_ ?_ (c_tk g' (befG g'.blks) a ?_ ?_ ?_ ?_) rfl) | (refine g_flow 8 lay_ok mixed_ok 400 20 [0, 0, 2, 0, 15, 31, 63, 63, 127, 511] (.q 0 (.q 1 (.q 3 (.e 2 [0, 3] (.e 4 [] (.q 5 (.q 6 (.q 7 (.q 8 (.q 9 .fin))))) .stop) .stop)))) (by kernel_rfl) ?_ ?_)) | (((with_reducible refine w_id ?_); (conv => arg 4; whnf)); first | (with_reducible refine w_fin ?_ ?_) | (with_reducible refine w_tt ?_) | (with_reducible refine w_eff lay_ok 400 ?_ rfl rfl ?_ ?_)) | (with_reducible refine q_flow ?_ ?_) | ((with_reducible refine h_id ?_); (conv => arg 1; whnf); (with_reducible refine s_some ?_)) | (with_reducible exact o_nil) | ((with_reducible refine o_id ?_); (conv => arg 1; whnf); first | (with_reducible exact o_nil) | (with_reducible refine o_cons ?_ ?_)) | (intro h; ((try simp only [Int.toNat_natCast] at h); repeat (first | replace h := of_decide_eq_true h | replace h := of_decide_eq_false h | replace h := not_t h | replace h := not_f h)); (try (first | (exfalso; omega) | exact Bool.noConfusion (h.symm.trans (by assumption) : true = false)))) | rfl | omega | (exact befG_len) | (exact tk_in hw ha h))
      all_goals (refine q_round ⟨(f', g', a + 1, m), hn, Nat.lt_succ_self _, ?_⟩; ((with_reducible refine s_id ?_); (conv => arg 1; whnf); (with_reducible refine s_some ?_); repeat' (first | ((with_reducible refine o_id ?_); (conv => arg 1; whnf); first | (with_reducible exact o_nil) | (with_reducible refine o_cons ?_ ?_)) | rfl)))
    | true =>
      obtain ⟨f', rfl, hn⟩ := mi_join hz ha ht
      have t := tk_of hw ha ht
      have hta := t.ha
      have htb := t.hb
      have hte := t.eq
      have hj := jo_ops hw t
      have hnn := jo_n hw
      have hpp := jo_p hw
      have hhh := jo_h hw
      repeat' (first | (((with_reducible refine g_id ?_); (conv => arg 3; whnf)); first | (with_reducible refine g_cond lay_ok 400 ?_ ?_ ?_) | (with_reducible refine g_fin ?_ ?_) | (refine g_call lay_ok 400 ?_ ?_ ?_ (c_bef g' ?_) rfl) | (refine g_call lay_ok 400 ?_ ?_ ?_ (c_tk g' (befG g'.blks) a ?_ ?_ ?_ ?_) rfl) | (refine g_call lay_ok 400 ?_ ?_ ?_ (c_join g' a (nxt g' a).toNat ?_ ?_ ?_ ?_ ?_ ?_ ?_ ?_) rfl) | (refine g_flow 8 lay_ok mixed_ok 400 20 [0, 0, 2, 0, 15, 31, 63, 63, 127, 511] (.q 0 (.q 1 (.q 3 (.e 2 [0, 3] (.e 4 [] (.q 5 (.q 6 (.q 7 (.q 8 (.q 9 .fin))))) .stop) .stop)))) (by kernel_rfl) ?_ ?_)) | (((with_reducible refine w_id ?_); (conv => arg 4; whnf)); first | (with_reducible refine w_fin ?_ ?_) | (with_reducible refine w_tt ?_) | (with_reducible refine w_eff lay_ok 400 ?_ rfl rfl ?_ ?_)) | (with_reducible refine q_flow ?_ ?_) | ((with_reducible refine h_id ?_); (conv => arg 1; whnf); (with_reducible refine s_some ?_)) | (with_reducible exact o_nil) | ((with_reducible refine o_id ?_); (conv => arg 1; whnf); first | (with_reducible exact o_nil) | (with_reducible refine o_cons ?_ ?_)) | (intro h; ((try simp only [Int.toNat_natCast] at h); repeat (first | replace h := of_decide_eq_true h | replace h := of_decide_eq_false h | replace h := not_t h | replace h := not_f h)); (try (first | (exfalso; omega) | exact Bool.noConfusion (h.symm.trans (by assumption) : false = true)))) | rfl | omega | (exact befG_len) | (exact t.ne h) | (exact hnn _ (by assumption) _ (by assumption)) | (exact hpp _ (by assumption) _ (by assumption)) | (exact hhh _ (by assumption)) | (simp only [ht, true_implies, forall_const] at *; omega))
      refine g_loop lay_ok 400 (Z := Nat) (fun z => z ≤ m.length) (fun z => ⟨[(2, .ptr 6 0), (6, .ptr 7 0), (7, .sl ⟨13, []⟩), (11, .clo 109 [.ptr 15 0, .ptr 14 0]), (46, .int .i64 (m.length : Int)), (47, .int .i64 (z : Int))], [(0, .list .fz .input g.inp), (1, .list .fz .array g.arrs), (2, .list .fz .block g.blks), (3, .list .fz .ints g.pts), (4, .list .fz .head g.hds), (6, .cells [.val (.slice none 0 0), .int .i64 0, .int .i64 0, .val (.slice none 0 0), .int .i64 0, .val (.slice none 0 0), .val (.slice none 0 0), .val (.slice none 0 0)]), (7, .cells [.sl ⟨8, []⟩, .int .i64 (jn g' a (nxt g' a).toNat).vars, .int .i64 (jn g' a (nxt g' a).toNat).keep, .sl ⟨9, []⟩, .int .i64 (jn g' a (nxt g' a).toNat).shared, .sl ⟨10, []⟩, .sl ⟨11, []⟩, .sl ⟨12, []⟩]), (8, .list .own .input (jn g' a (nxt g' a).toNat).inp), (9, .list .own .array (jn g' a (nxt g' a).toNat).arrs), (10, .list .own .block (jn g' a (nxt g' a).toNat).blks), (11, .list .own .ints (jn g' a (nxt g' a).toNat).pts), (12, .list .own .head (jn g' a (nxt g' a).toNat).hds), (13, .list .own .ints (mapTo (c := .ints) (jP a (nxt g' a)) (rowsL m) z)), (14, .cells [.int .i64 (a : Int)]), (15, .cells [.int .i64 (nxt g' a)])], 16⟩) (fun z => m.length - z) ?_ ⟨0, Nat.zero_le _, ?_⟩ (fun z hz => ?_)
      · repeat' (first | ((with_reducible refine o_id ?_); (conv => arg 1; whnf); first | (with_reducible exact o_nil)))
      · ((with_reducible refine s_id ?_); (conv => arg 1; whnf); (with_reducible refine s_some ?_); repeat' (first | ((with_reducible refine o_id ?_); (conv => arg 1; whnf); first | (with_reducible exact o_nil) | (with_reducible refine o_cons ?_ ?_)) | rfl | omega | (rw [rowsL_len]) | (exact jn_f.1) | (exact jn_f.2.1) | (exact jn_f.2.2.1) | (exact jn_f.2.2.2.1) | (exact jn_f.2.2.2.2) | (exact rowsL_zero)))
      have hml := mapTo_len (c := .ints) (f := jP a (nxt g' a)) (l := rowsL m) (i := z)
      rw [rowsL_len] at hml
      by_cases hk : z < m.length
      · have hv := hm.2 _ (mem_gt (c := .int) hk)
        have hgz := gt_mapTo (c := .ints) (f := jP a (nxt g' a)) (l := rowsL m) (i := z) (by rw [rowsL_len]; exact hk)
        rw [rowsL_at hk] at hgz
        have hvv : (0 : Int) ≤ gt (c := .int) [(gt (c := .int) m z : Int)] 0 ∧ (gt (c := .int) [(gt (c := .int) m z : Int)] 0 : Int) ≤ 1048576 := ⟨hv.1, Int.le_trans (Int.le_of_lt hv.2) (by omega)⟩
        repeat' (first | (((with_reducible refine g_id ?_); (conv => arg 3; whnf)); first | (with_reducible refine g_cond lay_ok 400 ?_ ?_ ?_) | (with_reducible refine g_fin ?_ ?_) | (refine g_call lay_ok 400 ?_ ?_ ?_ (c_mv ?_ ?_ ?_ ?_ ?_ ?_) rfl) | (refine g_flow 15 lay_ok mixed_ok 400 10240 [0, 0, 3, 7, 0, 0, 0, 96, 224, 480, 992, 2032, 4095, 8191] (.q 0 (.q 1 (.q 2 (.q 3 (.q 4 (.q 5 (.q 6 (.q 7 (.q 8 (.q 9 (.q 10 (.e 11 [0, 1, 2, 3] (.q 12 (.e 13 [] (.fin) .stop)) .stop)))))))))))) (by kernel_rfl) ?_ ?_)) | (((with_reducible refine w_id ?_); (conv => arg 4; whnf)); first | (with_reducible refine w_fin ?_ ?_) | (with_reducible refine w_tt ?_) | (with_reducible refine w_eff lay_ok 400 ?_ rfl rfl ?_ ?_)) | (with_reducible refine q_flow ?_ ?_) | ((with_reducible refine h_id ?_); (conv => arg 1; whnf); (with_reducible refine s_some ?_)) | (with_reducible exact o_nil) | ((with_reducible refine o_id ?_); (conv => arg 1; whnf); first | (with_reducible exact o_nil) | (with_reducible refine o_cons ?_ ?_)) | (intro h; ((try simp only [Int.toNat_natCast] at h); repeat (first | replace h := of_decide_eq_true h | replace h := of_decide_eq_false h)); (try (first | (exfalso; omega)))) | rfl | omega | (simp only [Int.toNat_natCast, hgz, List.length_cons, List.length_nil]; omega) | (simp only [Int.toNat_natCast, hgz]; exact hvv))
        all_goals (refine q_round ⟨z + 1, by omega, by omega, ?_⟩; ((with_reducible refine s_id ?_); (conv => arg 1; whnf); (with_reducible refine s_some ?_); repeat' (first | ((with_reducible refine o_id ?_); (conv => arg 1; whnf); first | (with_reducible exact o_nil) | (with_reducible refine o_cons ?_ ?_)) | rfl | (exact (rowsL_step hk).symm))))
      · have e : z = m.length := by omega
        subst e
        rw [rowsL_full]
        repeat' (first | (((with_reducible refine g_id ?_); (conv => arg 3; whnf)); first | (with_reducible refine g_cond lay_ok 400 ?_ ?_ ?_) | (with_reducible refine g_fin ?_ ?_)) | (with_reducible refine q_leave lay_ok 400 ?_) | (with_reducible exact o_nil) | ((with_reducible refine o_id ?_); (conv => arg 1; whnf); first | (with_reducible exact o_nil)) | (intro h; ((try simp only [Int.toNat_natCast] at h); repeat (first | replace h := of_decide_eq_true h | replace h := of_decide_eq_false h)); (try (first | (exfalso; omega)))))
        all_goals (refine q_round ⟨(f', jn g' a (nxt g' a).toNat, 0, m.map (mvJ a (nxt g' a))), hn, Nat.lt_succ_self _, ?_⟩; ((with_reducible refine s_id ?_); (conv => arg 1; whnf); (with_reducible refine s_some ?_); repeat' (first | ((with_reducible refine o_id ?_); (conv => arg 1; whnf); first | (with_reducible exact o_nil) | (with_reducible refine o_cons ?_ ?_)) | rfl)))
  · have e : mrgF fu g' a m = mrgG g := hz.e
    rw [mrg_end ha] at e
    have e1 : g' = (mrgG g).1 := congrArg (·.1) e
    have e2 : m = (mrgG g).2 := congrArg (·.2) e
    subst e2
    subst e1
    repeat' (first | (((with_reducible refine g_id ?_); (conv => arg 3; whnf)); first | (with_reducible refine g_cond lay_ok 400 ?_ ?_ ?_) | (with_reducible refine g_fin ?_ ?_)) | (with_reducible refine q_leave lay_ok 400 ?_) | (with_reducible exact o_nil) | ((with_reducible refine o_id ?_); (conv => arg 1; whnf); first | (with_reducible exact o_nil)) | (intro h; ((try simp only [Int.toNat_natCast] at h); repeat (first | replace h := of_decide_eq_true h | replace h := of_decide_eq_false h)); (try (first | (exfalso; omega)))))
    all_goals (((with_reducible refine e_id ?_); (conv => whnf)); refine ⟨(), trivial, ?_⟩; ((with_reducible refine s_id ?_); (conv => arg 1; whnf); (with_reducible refine s_some ?_); repeat' (first | ((with_reducible refine o_id ?_); (conv => arg 1; whnf); first | (with_reducible exact o_nil) | (with_reducible refine o_cons ?_ ?_)) | rfl)))
end Go.Proofs.Ytonjbhdfimcedaa
