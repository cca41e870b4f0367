/- Parts of the proof. No condition. -/
import Derived.Test.YtonjbhdfimcedaaQ5
set_option linter.unusedVariables false
set_option linter.unusedSimpArgs false
set_option linter.unusedSectionVars false
namespace Go.Proofs.Ytonjbhdfimcedaa
open Go.RowKit
theorem rch_0 {g : Grf} (hb : 0 < g.blks.length) : InvP g ((List.replicate g.blks.length false).set 0 true) [0] := by
  have hi : 0 < (List.replicate g.blks.length false).length := by rw [List.length_replicate]; exact hb
  have hf : ∀ b, ¬ bg (List.replicate g.blks.length false) b = true := fun b q => by
    have h1 := bg_lt q
    rw [List.length_replicate] at h1
    rw [show bg (List.replicate g.blks.length false) b = false from gt_eq (c := .bool) (by rw [List.getElem?_replicate, if_pos h1])] at q
    cases q
  refine ⟨by rw [List.length_set, List.length_replicate], fun b h => ?_, (bg_setT hi).2 (.inl rfl), fun y hy => ?_, fun b h => ?_⟩
  · rcases (bg_setT hi).1 h with e | e
    · rw [e]; exact .z
    · exact absurd e (hf b)
  · simp only [List.mem_cons, List.not_mem_nil, or_false] at hy
    subst hy
    exact ⟨by omega, by omega, (bg_setT hi).2 (.inl rfl)⟩
  · rcases (bg_setT hi).1 h with e | e
    · subst e; exact .inl (by simp)
    · exact absurd e (hf b)
theorem cF_rep : ∀ n : Nat, cF (List.replicate n false) = n
  | 0 => rfl
  | n + 1 => by show cF (List.replicate n false) + 1 = _; rw [cF_rep n]
theorem rch_c {g : Grf} (hb : 0 < g.blks.length) : ([0] : List Int).length + cF ((List.replicate g.blks.length false).set 0 true) ≤ g.blks.length := by
  have h := cF_set (l := List.replicate g.blks.length false) (i := 0) (by rw [List.length_replicate]; exact hb) (gt_eq (c := .bool) (by rw [List.getElem?_replicate, if_pos hb]))
  rw [cF_rep] at h
  show 1 + _ ≤ _
  omega
set_option maxHeartbeats 4000000 in
set_option maxRecDepth 8000 in
theorem c_reach (g : Grf) (hb : 0 < g.blks.length ∧ g.blks.length ≤ 1048576) (hn : ∀ y ∈ g.blks, ∀ n ∈ y.next, 0 ≤ n ∧ n < (g.blks.length : Int)) (hl : ∀ y ∈ g.blks, y.next.length ≤ 2) : Trip Try.prog 95 [.agg [.sl ⟨0, []⟩, .int .i64 g.vars, .int .i64 g.keep, .sl ⟨1, []⟩, .int .i64 g.shared, .sl ⟨2, []⟩, .sl ⟨3, []⟩, .sl ⟨4, []⟩], .int .i64 (-1)] ⟨[], [(0, .list .tmp .input g.inp), (1, .list .tmp .array g.arrs), (2, .list .tmp .block g.blks), (3, .list .tmp .ints g.pts), (4, .list .tmp .head g.hds)], 5⟩ (Z := List Bool) (RchL g) (fun _ => .sl ⟨5, []⟩) (fun R => ⟨[], [(0, .list .tmp .input g.inp), (1, .list .tmp .array g.arrs), (2, .list .tmp .block g.blks), (3, .list .tmp .ints g.pts), (4, .list .tmp .head g.hds), (5, .list .own .bool R)], 6⟩) := by
  obtain ⟨hb, hb1⟩ := hb
  refine trip_by (rs := [_]) 400 lay_ok Try.func95 rfl (by kernel_rfl) Try.ntmps95 Try.results95 rfl rfl ?_
  repeat' (first | (((with_reducible refine g_id ?_); (conv => arg 3; whnf)); first | (with_reducible refine g_split lay_ok 400 ?_ ?_ ?_) | (with_reducible refine g_cond lay_ok 400 ?_ ?_ ?_) | fail) | ((with_reducible refine o_id ?_); (conv => arg 1; whnf); first | (with_reducible exact o_nil) | (with_reducible refine o_cons ?_ ?_)) | (intro h; ((try simp only [Int.toNat_natCast] at h); repeat (first | replace h := of_decide_eq_true h | replace h := of_decide_eq_false h | fail)); (try (first | contradiction | (simp only [List.length_replicate, Int.toNat_natCast] at h; exfalso; omega)))) | rfl | omega | fail)
  ((with_reducible refine g_id ?_); (conv => arg 3; whnf))
  refine g_loop lay_ok 400 (Z := List Bool × List Int) (fun z => InvP g z.1 z.2 ∧ z.2.length + cF z.1 ≤ g.blks.length) (fun z => ⟨[(1, .int .i64 (-1)), (2, .ptr 5 0), (5, .sl ⟨6, []⟩), (6, .sl ⟨7, []⟩)], [(0, .list .tmp .input g.inp), (1, .list .tmp .array g.arrs), (2, .list .tmp .block g.blks), (3, .list .tmp .ints g.pts), (4, .list .tmp .head g.hds), (5, .cells [.sl ⟨0, []⟩, .int .i64 g.vars, .int .i64 g.keep, .sl ⟨1, []⟩, .int .i64 g.shared, .sl ⟨2, []⟩, .sl ⟨3, []⟩, .sl ⟨4, []⟩]), (6, .list .own .bool z.1), (7, .list .own .int z.2)], 8⟩) (fun z => 3 * cF z.1 + z.2.length) ?_ ⟨((List.replicate g.blks.length false).set 0 true, [0]), ⟨rch_0 hb, rch_c hb⟩, ?_⟩ (fun z hz => ?_)
  · repeat' (first | ((with_reducible refine o_id ?_); (conv => arg 1; whnf); first | (with_reducible exact o_nil) | (with_reducible refine o_cons ?_ ?_)) | omega | (simp only [List.length_replicate, Int.toNat_natCast]; omega) | fail)
  · ((with_reducible refine s_id ?_); (conv => arg 1; whnf); (with_reducible refine s_some ?_); repeat' (first | ((with_reducible refine o_id ?_); (conv => arg 1; whnf); first | (with_reducible exact o_nil) | (with_reducible refine o_cons ?_ ?_)) | rfl | fail))
  obtain ⟨R, T⟩ := z
  obtain ⟨hP, hT⟩ := hz
  dsimp only at hP hT ⊢
  have hRl := hP.l
  rcases T with _ | ⟨x, T⟩
  · repeat' (first | (((with_reducible refine g_id ?_); (conv => arg 3; whnf)); first | (with_reducible refine g_cond lay_ok 400 ?_ ?_ ?_) | (with_reducible refine g_fin ?_ ?_) | fail) | (with_reducible refine q_leave lay_ok 400 ?_) | (with_reducible exact o_nil) | ((with_reducible refine o_id ?_); (conv => arg 1; whnf); first | (with_reducible exact o_nil) | fail) | (intro h; ((try simp only [Int.toNat_natCast] at h); repeat (first | replace h := of_decide_eq_true h | replace h := of_decide_eq_false h | fail)); (try (first | contradiction | fail))) | fail)
    all_goals (((with_reducible refine e_id ?_); (conv => whnf)); refine ⟨R, hP.fin, ?_⟩; ((with_reducible refine s_id ?_); (conv => arg 1; whnf); (with_reducible refine s_some ?_); repeat' (first | ((with_reducible refine o_id ?_); (conv => arg 1; whnf); first | (with_reducible exact o_nil) | (with_reducible refine o_cons ?_ ?_)) | rfl | fail)))
  obtain ⟨x0, x1, xr⟩ := hP.t x List.mem_cons_self
  have hQ := hP.pop
  rw [List.length_cons] at hT
  repeat' (first | (((with_reducible refine g_id ?_); (conv => arg 3; whnf)); first | (with_reducible refine g_cond lay_ok 400 ?_ ?_ ?_) | (with_reducible refine g_fin ?_ ?_) | (refine g_flow 7 lay_ok mixed_ok 400 384 [0, 1, 0, 4, 12, 31, 63, 0, 255] (.q 0 (.q 1 (.q 2 (.q 3 (.q 4 (.q 5 (.q 6 (.e 7 [0, 1, 2, 3, 4, 5, 6] (.e 8 [] (.fin) .stop) .stop)))))))) (by kernel_rfl) ?_ ?_)) | (((with_reducible refine w_id ?_); (conv => arg 4; whnf)); first | (with_reducible refine w_fin ?_ ?_) | (with_reducible refine w_tt ?_) | (with_reducible refine w_eff lay_ok 400 ?_ rfl rfl ?_ ?_)) | (with_reducible refine q_flow ?_ ?_) | ((with_reducible refine h_id ?_); (conv => arg 1; whnf); (with_reducible refine s_some ?_)) | (with_reducible exact o_nil) | ((with_reducible refine o_id ?_); (conv => arg 1; whnf); first | (with_reducible exact o_nil) | (with_reducible refine o_cons ?_ ?_)) | (intro h; ((try simp only [Int.toNat_natCast] at h); repeat (first | replace h := of_decide_eq_true h | replace h := of_decide_eq_false h | fail)); (try (first | (simp only [List.length_cons] at h; exfalso; omega)))) | rfl | omega | assumption | (show x.toNat < _; omega) | fail)
  ((with_reducible refine g_id ?_); (conv => arg 3; whnf))
  refine g_tailC lay_ok 400 6 ?_ rfl ?_ ?_
  · repeat' (first | ((with_reducible refine o_id ?_); (conv => arg 1; whnf); first | (with_reducible exact o_nil) | (with_reducible refine o_cons ?_ ?_)) | omega | assumption | (show x.toNat < _; omega) | fail)
  · repeat' (first | (with_reducible exact o_nil) | (with_reducible refine o_cons ?_ ?_) | (show 1 + (T.length + 1 - 1) = T.length + 1; omega) | fail)
  ((with_reducible refine g_id ?_); (conv => arg 3; whnf))
  refine g_loop lay_ok 400 (Z := Nat × List Bool × List Int) (fun y => y.1 ≤ (gt (c := .block) g.blks x.toNat).next.length ∧ InvQ g x.toNat y.1 y.2.1 y.2.2 ∧ y.2.2.length + cF y.2.1 ≤ g.blks.length ∧ 3 * cF y.2.1 + y.2.2.length ≤ 3 * cF R + T.length) (fun y => ⟨[(1, .int .i64 (-1)), (2, .ptr 5 0), (5, .sl ⟨6, []⟩), (6, .sl ⟨7, []⟩), (38, .sl ⟨2, [(x.toNat, 2)]⟩), (39, .int .i64 ((gt (c := .block) g.blks x.toNat).next.length : Int)), (40, .int .i64 (y.1 : Int))], [(0, .list .tmp .input g.inp), (1, .list .tmp .array g.arrs), (2, .list .tmp .block g.blks), (3, .list .tmp .ints g.pts), (4, .list .tmp .head g.hds), (5, .cells [.sl ⟨0, []⟩, .int .i64 g.vars, .int .i64 g.keep, .sl ⟨1, []⟩, .int .i64 g.shared, .sl ⟨2, []⟩, .sl ⟨3, []⟩, .sl ⟨4, []⟩]), (6, .list .own .bool y.2.1), (7, .list .own .int y.2.2)], 8⟩) (fun y => (gt (c := .block) g.blks x.toNat).next.length - y.1) ?_ ⟨(0, R, T), ⟨Nat.zero_le _, hQ, by dsimp only; omega, Nat.le_refl _⟩, ?_⟩ (fun y hy => ?_)
  · repeat' (first | (with_reducible exact o_nil) | fail)
  · ((with_reducible refine s_id ?_); (conv => arg 1; whnf); (with_reducible refine s_some ?_); repeat' (first | ((with_reducible refine o_id ?_); (conv => arg 1; whnf); first | (with_reducible exact o_nil) | (with_reducible refine o_cons ?_ ?_)) | rfl | fail))
  obtain ⟨k, R1, T1⟩ := y
  obtain ⟨hk1, hQ1, hT1, hM1⟩ := hy
  dsimp only at hk1 hQ1 hT1 hM1 ⊢
  have hRl1 := hQ1.l
  have hxb := hQ1.w.2
  have hn2 := hl _ (mem_gt (c := .block) hxb)
  by_cases hkt : k < (gt (c := .block) g.blks x.toNat).next.length
  · obtain ⟨q0, q1⟩ := hn _ (mem_gt (c := .block) hxb) _ (mem_gt (c := .int) hkt)
    cases hmk : bg R1 (gt (c := .int) (gt (c := .block) g.blks x.toNat).next k : Int).toNat
    · have hcs := cF_set (l := R1) (i := (gt (c := .int) (gt (c := .block) g.blks x.toNat).next k : Int).toNat) (by omega) hmk
      repeat' (first | (((with_reducible refine g_id ?_); (conv => arg 3; whnf)); first | (with_reducible refine g_split lay_ok 400 ?_ ?_ ?_) | (with_reducible refine g_cond lay_ok 400 ?_ ?_ ?_) | (with_reducible refine g_fin ?_ ?_) | (refine g_call lay_ok 400 ?_ ?_ ?_ (c_between ?_ ?_ ?_) rfl) | fail) | ((with_reducible refine o_id ?_); (conv => arg 1; whnf); first | (with_reducible exact o_nil) | (with_reducible refine o_cons ?_ ?_)) | (intro h; ((try simp only [Int.toNat_natCast] at h); repeat (first | replace h := of_decide_eq_true h | replace h := of_decide_eq_false h | replace h := not_t h | replace h := not_f h | fail)); (try (first | (exfalso; omega) | exact Bool.noConfusion (h.symm.trans (by assumption) : true = false) | fail))) | rfl | omega | assumption | (simp only [List.length_append, List.length_cons, List.length_nil]; omega) | (simp only [Int.toNat_natCast]; omega) | fail)
      all_goals (refine q_round ⟨(k + 1, R1.set (gt (c := .int) (gt (c := .block) g.blks x.toNat).next k : Int).toNat true, T1 ++ [gt (c := .int) (gt (c := .block) g.blks x.toNat).next k]), ⟨hkt, hQ1.mark hn hkt, by dsimp only; rw [List.length_append, List.length_cons, List.length_nil]; omega, by dsimp only; rw [List.length_append, List.length_cons, List.length_nil]; omega⟩, by dsimp only; omega, ?_⟩; ((with_reducible refine s_id ?_); (conv => arg 1; whnf); (with_reducible refine s_some ?_); repeat' (first | ((with_reducible refine o_id ?_); (conv => arg 1; whnf); first | (with_reducible exact o_nil) | (with_reducible refine o_cons ?_ ?_)) | rfl | fail)))
    repeat' (first | (((with_reducible refine g_id ?_); (conv => arg 3; whnf)); first | (with_reducible refine g_split lay_ok 400 ?_ ?_ ?_) | (with_reducible refine g_cond lay_ok 400 ?_ ?_ ?_) | (with_reducible refine g_fin ?_ ?_) | (refine g_call lay_ok 400 ?_ ?_ ?_ (c_between ?_ ?_ ?_) rfl) | fail) | ((with_reducible refine o_id ?_); (conv => arg 1; whnf); first | (with_reducible exact o_nil) | (with_reducible refine o_cons ?_ ?_)) | (intro h; ((try simp only [Int.toNat_natCast] at h); repeat (first | replace h := of_decide_eq_true h | replace h := of_decide_eq_false h | replace h := not_t h | replace h := not_f h | fail)); (try (first | (exfalso; omega) | exact Bool.noConfusion (h.symm.trans (by assumption) : false = true) | fail))) | rfl | omega | assumption | (simp only [Int.toNat_natCast]; omega) | fail)
    all_goals (refine q_round ⟨(k + 1, R1, T1), ⟨hkt, hQ1.skip hkt hmk, hT1, hM1⟩, by dsimp only; omega, ?_⟩; ((with_reducible refine s_id ?_); (conv => arg 1; whnf); (with_reducible refine s_some ?_); repeat' (first | ((with_reducible refine o_id ?_); (conv => arg 1; whnf); first | (with_reducible exact o_nil) | (with_reducible refine o_cons ?_ ?_)) | rfl | fail)))
  have hke : k = (gt (c := .block) g.blks x.toNat).next.length := by omega
  subst hke
  repeat' (first | (((with_reducible refine g_id ?_); (conv => arg 3; whnf)); first | (with_reducible refine g_cond lay_ok 400 ?_ ?_ ?_) | (with_reducible refine g_fin ?_ ?_) | fail) | (with_reducible refine q_leave lay_ok 400 ?_) | (with_reducible exact o_nil) | ((with_reducible refine o_id ?_); (conv => arg 1; whnf); first | (with_reducible exact o_nil) | fail) | (intro h; ((try simp only [Int.toNat_natCast] at h); repeat (first | replace h := of_decide_eq_true h | replace h := of_decide_eq_false h | fail)); (try (first | (exfalso; omega) | fail))) | fail)
  all_goals (refine q_round ⟨(R1, T1), ⟨hQ1.done, hT1⟩, by dsimp only; rw [List.length_cons]; omega, ?_⟩; ((with_reducible refine s_id ?_); (conv => arg 1; whnf); (with_reducible refine s_some ?_); repeat' (first | ((with_reducible refine o_id ?_); (conv => arg 1; whnf); first | (with_reducible exact o_nil) | (with_reducible refine o_cons ?_ ?_)) | rfl | fail)))
end Go.Proofs.Ytonjbhdfimcedaa
namespace Go.Proofs.Ytonjbhdfimcedaa
open Go.RowKit
theorem rep_f {n b : Nat} : bg (List.replicate n false) b = false := by
  cases h : bg (List.replicate n false) b
  · rfl
  · have h1 := bg_lt h
    rw [List.length_replicate] at h1
    rw [show bg (List.replicate n false) b = false from gt_eq (c := .bool) (by rw [List.getElem?_replicate, if_pos h1])] at h
    cases h
set_option maxHeartbeats 4000000 in
theorem r_without (g : Grf) (hb : 0 < g.blks.length ∧ g.blks.length ≤ 1048576) (hn : ∀ y ∈ g.blks, ∀ n ∈ y.next, 0 ≤ n ∧ n < (g.blks.length : Int)) (hl : ∀ y ∈ g.blks, y.next.length ≤ 2) : Trip Try.prog 100 [.agg [.sl ⟨0, []⟩, .int .i64 g.vars, .int .i64 g.keep, .sl ⟨1, []⟩, .int .i64 g.shared, .sl ⟨2, []⟩, .sl ⟨3, []⟩, .sl ⟨4, []⟩], .int .i64 0, .int .i64 (-1)] ⟨[], [(0, .list .tmp .input g.inp), (1, .list .tmp .array g.arrs), (2, .list .tmp .block g.blks), (3, .list .tmp .ints g.pts), (4, .list .tmp .head g.hds)], 5⟩ (Z := List Bool) (RchL g) (fun _ => .sl ⟨5, []⟩) (fun R => ⟨[], [(0, .list .tmp .input g.inp), (1, .list .tmp .array g.arrs), (2, .list .tmp .block g.blks), (3, .list .tmp .ints g.pts), (4, .list .tmp .head g.hds), (5, .list .own .bool R)], 6⟩) := by
  obtain ⟨hb, hb1⟩ := hb
  refine trip_by (rs := [_]) 400 lay_ok Try.func100 rfl (by kernel_rfl) Try.ntmps100 Try.results100 rfl rfl ?_
  repeat' (first | (((with_reducible refine g_id ?_); (conv => arg 3; whnf)); first | (with_reducible refine g_split lay_ok 400 ?_ ?_ ?_) | fail) | fail)
  ((with_reducible refine g_id ?_); (conv => arg 3; whnf))
  refine g_loop lay_ok 18 (Z := List Bool × List Int) (fun z => InvD g z.1 z.2 ∧ z.2.length + 2 * cF z.1 ≤ 1 + 2 * g.blks.length) (fun z => ⟨[(1, .int .i64 0), (2, .int .i64 (-1)), (3, .ptr 5 0), (7, .sl ⟨6, []⟩), (8, .sl ⟨7, []⟩)], [(0, .list .tmp .input g.inp), (1, .list .tmp .array g.arrs), (2, .list .tmp .block g.blks), (3, .list .tmp .ints g.pts), (4, .list .tmp .head g.hds), (5, .cells [.sl ⟨0, []⟩, .int .i64 g.vars, .int .i64 g.keep, .sl ⟨1, []⟩, .int .i64 g.shared, .sl ⟨2, []⟩, .sl ⟨3, []⟩, .sl ⟨4, []⟩]), (6, .list .own .bool z.1), (7, .list .own .int z.2)], 8⟩) (fun z => 3 * cF z.1 + z.2.length) ?_ ⟨(List.replicate g.blks.length false, [0]), ⟨InvD.start List.length_replicate hb fun _ => rep_f, by dsimp only; rw [cF_rep]; show 1 + _ ≤ _; omega⟩, ?_⟩ (fun z hz => ?_)
  · repeat' (first | ((with_reducible refine o_id ?_); (conv => arg 1; whnf); first | (with_reducible exact o_nil) | (with_reducible refine o_cons ?_ ?_)) | rfl | omega | fail)
  · ((with_reducible refine s_id ?_); (conv => arg 1; whnf); (with_reducible refine s_some ?_); repeat' (first | ((with_reducible refine o_id ?_); (conv => arg 1; whnf); first | (with_reducible exact o_nil) | (with_reducible refine o_cons ?_ ?_)) | rfl | fail))
  obtain ⟨R, T⟩ := z
  obtain ⟨hD, hT⟩ := hz
  dsimp only at hD hT ⊢
  have hRl := hD.l
  rcases T with _ | ⟨x, T⟩
  · repeat' (first | (((with_reducible refine g_id ?_); (conv => arg 3; whnf)); first | (with_reducible refine g_cond lay_ok 400 ?_ ?_ ?_) | (with_reducible refine g_fin ?_ ?_) | fail) | (with_reducible refine q_leave lay_ok 400 ?_) | (with_reducible exact o_nil) | ((with_reducible refine o_id ?_); (conv => arg 1; whnf); first | (with_reducible exact o_nil) | fail) | (intro h; ((try simp only [Int.toNat_natCast] at h); repeat (first | replace h := of_decide_eq_true h | replace h := of_decide_eq_false h | fail)); (try (first | contradiction | fail))) | fail)
    all_goals (((with_reducible refine e_id ?_); (conv => whnf)); refine ⟨R, hD.fin, ?_⟩; ((with_reducible refine s_id ?_); (conv => arg 1; whnf); (with_reducible refine s_some ?_); repeat' (first | ((with_reducible refine o_id ?_); (conv => arg 1; whnf); first | (with_reducible exact o_nil) | (with_reducible refine o_cons ?_ ?_)) | rfl | fail)))
  obtain ⟨x0, x1, xr⟩ := hD.t x List.mem_cons_self
  rw [List.length_cons] at hT
  have hxb : x.toNat < g.blks.length := by omega
  have hn2 := hl _ (mem_gt (c := .block) hxb)
  ((with_reducible refine g_id ?_); (conv => arg 3; whnf))
  refine g_cond lay_ok 18 ?_ ?_ ?_
  · repeat' (first | ((with_reducible refine o_id ?_); (conv => arg 1; whnf); first | (with_reducible exact o_nil) | fail) | fail)
  rotate_left
  · intro h; replace h := of_decide_eq_false h; (simp only [List.length_cons] at h; exfalso; omega)
  intro h
  ((with_reducible refine g_id ?_); (conv => arg 3; whnf))
  refine g_tailM lay_ok 400 8 ?_ rfl ?_ ?_
  · repeat' (first | ((with_reducible refine o_id ?_); (conv => arg 1; whnf); first | (with_reducible exact o_nil) | (with_reducible refine o_cons ?_ ?_)) | omega | (simp only [List.length_append, List.length_cons, List.length_nil]; omega) | (show (1 : Int) ≤ ((T.length + 1 : Nat) : Int); omega) | fail)
  · repeat' (first | (with_reducible exact o_nil) | (with_reducible refine o_cons ?_ ?_) | (show 1 + (T.length + 1 - 1) = T.length + 1; omega) | fail)
  cases hmk : bg R x.toNat
  · have hcs := cF_set (l := R) (i := x.toNat) (by omega) hmk
    repeat' (first | (((with_reducible refine g_id ?_); (conv => arg 3; whnf)); first | (with_reducible refine g_split lay_ok 400 ?_ ?_ ?_) | (with_reducible refine g_cond lay_ok 400 ?_ ?_ ?_) | (with_reducible refine g_fin ?_ ?_) | (refine g_call lay_ok 400 ?_ ?_ ?_ (r_in ?_ ?_) rfl) | fail) | ((with_reducible refine o_id ?_); (conv => arg 1; whnf); first | (with_reducible exact o_nil) | (with_reducible refine o_cons ?_ ?_)) | (intro h; ((try simp only [Int.toNat_natCast] at h); repeat (first | replace h := of_decide_eq_true h | replace h := of_decide_eq_false h | replace h := not_t h | replace h := not_f h | fail)); (try (first | (exfalso; omega) | exact Bool.noConfusion (h.symm.trans (by assumption) : true = false) | (exact absurd (And.intro x0 (show x < (R.length : Int) by omega)) h)))) | rfl | omega | (show (T.length + List.length (gt (c := .block) g.blks x.toNat).next) * 8 ≤ 140737488355328; omega) | fail)
    all_goals (refine q_round ⟨(R.set x.toNat true, T ++ (gt (c := .block) g.blks x.toNat).next), ⟨hD.take hn, by dsimp only; rw [List.length_append]; omega⟩, by dsimp only; rw [List.length_append, List.length_cons]; omega, ?_⟩; ((with_reducible refine s_id ?_); (conv => arg 1; whnf); (with_reducible refine s_some ?_); repeat' (first | ((with_reducible refine o_id ?_); (conv => arg 1; whnf); first | (with_reducible exact o_nil) | (with_reducible refine o_cons ?_ ?_)) | rfl | fail)))
  repeat' (first | (((with_reducible refine g_id ?_); (conv => arg 3; whnf)); first | (with_reducible refine g_split lay_ok 400 ?_ ?_ ?_) | (with_reducible refine g_fin ?_ ?_) | (refine g_call lay_ok 400 ?_ ?_ ?_ (r_in ?_ ?_) rfl) | fail) | ((with_reducible refine o_id ?_); (conv => arg 1; whnf); first | (with_reducible exact o_nil) | (with_reducible refine o_cons ?_ ?_)) | (intro h; ((try simp only [Int.toNat_natCast] at h); repeat (first | replace h := of_decide_eq_true h | replace h := of_decide_eq_false h | replace h := not_t h | replace h := not_f h | fail)); (try (first | exact Bool.noConfusion (h.symm.trans (by assumption) : false = true) | fail))) | rfl | omega | fail)
  all_goals (refine q_round ⟨(R, T), ⟨hD.skip hmk, by dsimp only; omega⟩, by dsimp only; rw [List.length_cons]; omega, ?_⟩; ((with_reducible refine s_id ?_); (conv => arg 1; whnf); (with_reducible refine s_some ?_); repeat' (first | ((with_reducible refine o_id ?_); (conv => arg 1; whnf); first | (with_reducible exact o_nil) | (with_reducible refine o_cons ?_ ?_)) | rfl | fail)))
theorem c_Reached (g : Grf) (hb : 0 < g.blks.length ∧ g.blks.length ≤ 1048576) (hn : ∀ y ∈ g.blks, ∀ n ∈ y.next, 0 ≤ n ∧ n < (g.blks.length : Int)) (hl : ∀ y ∈ g.blks, y.next.length ≤ 2) : Trip Try.prog 68 [.agg [.sl ⟨0, []⟩, .int .i64 g.vars, .int .i64 g.keep, .sl ⟨1, []⟩, .int .i64 g.shared, .sl ⟨2, []⟩, .sl ⟨3, []⟩, .sl ⟨4, []⟩]] ⟨[], [(0, .list .tmp .input g.inp), (1, .list .tmp .array g.arrs), (2, .list .tmp .block g.blks), (3, .list .tmp .ints g.pts), (4, .list .tmp .head g.hds)], 5⟩ (Z := List Bool) (RchL g) (fun _ => .sl ⟨5, []⟩) (fun R => ⟨[], [(0, .list .tmp .input g.inp), (1, .list .tmp .array g.arrs), (2, .list .tmp .block g.blks), (3, .list .tmp .ints g.pts), (4, .list .tmp .head g.hds), (5, .list .own .bool R)], 6⟩) := by
  have C0 := c_reach g hb hn hl
  refine trip_by (rs := [_]) 400 lay_ok Try.func68 rfl (by kernel_rfl) Try.ntmps68 Try.results68 rfl rfl ?_
  repeat' (first | (((with_reducible refine g_id ?_); (conv => arg 3; whnf)); first | (with_reducible refine g_fin ?_ ?_) | (refine g_call lay_ok 400 ?_ ?_ ?_ (C0) rfl) | fail) | ((with_reducible refine o_id ?_); (conv => arg 1; whnf); first | (with_reducible exact o_nil) | (with_reducible refine o_cons ?_ ?_)) | (intro h; ((try simp only [Int.toNat_natCast] at h); repeat (first | replace h := of_decide_eq_true h | fail)); (try (first | contradiction | fail))) | rfl | fail)
  all_goals (rename_i z; ((with_reducible refine e_id ?_); (conv => whnf)); refine ⟨z, h, ?_⟩; ((with_reducible refine s_id ?_); (conv => arg 1; whnf); (with_reducible refine s_some ?_); repeat' (first | ((with_reducible refine o_id ?_); (conv => arg 1; whnf); first | (with_reducible exact o_nil) | (with_reducible refine o_cons ?_ ?_)) | rfl | fail)))
theorem r_Reached (g : Grf) (hb : 0 < g.blks.length ∧ g.blks.length ≤ 1048576) (hn : ∀ y ∈ g.blks, ∀ n ∈ y.next, 0 ≤ n ∧ n < (g.blks.length : Int)) (hl : ∀ y ∈ g.blks, y.next.length ≤ 2) : Trip Try.prog 73 [.agg [.sl ⟨0, []⟩, .int .i64 g.vars, .int .i64 g.keep, .sl ⟨1, []⟩, .int .i64 g.shared, .sl ⟨2, []⟩, .sl ⟨3, []⟩, .sl ⟨4, []⟩]] ⟨[], [(0, .list .tmp .input g.inp), (1, .list .tmp .array g.arrs), (2, .list .tmp .block g.blks), (3, .list .tmp .ints g.pts), (4, .list .tmp .head g.hds)], 5⟩ (Z := List Bool) (RchL g) (fun _ => .sl ⟨5, []⟩) (fun R => ⟨[], [(0, .list .tmp .input g.inp), (1, .list .tmp .array g.arrs), (2, .list .tmp .block g.blks), (3, .list .tmp .ints g.pts), (4, .list .tmp .head g.hds), (5, .list .own .bool R)], 6⟩) := by
  have C0 := r_without g hb hn hl
  refine trip_by (rs := [_]) 400 lay_ok Try.func73 rfl (by kernel_rfl) Try.ntmps73 Try.results73 rfl rfl ?_
  repeat' (first | (((with_reducible refine g_id ?_); (conv => arg 3; whnf)); first | (with_reducible refine g_fin ?_ ?_) | (refine g_call lay_ok 400 ?_ ?_ ?_ (C0) rfl) | fail) | ((with_reducible refine o_id ?_); (conv => arg 1; whnf); first | (with_reducible exact o_nil) | (with_reducible refine o_cons ?_ ?_)) | (intro h; ((try simp only [Int.toNat_natCast] at h); repeat (first | replace h := of_decide_eq_true h | fail)); (try (first | contradiction | fail))) | rfl | fail)
  all_goals (rename_i z; ((with_reducible refine e_id ?_); (conv => whnf)); refine ⟨z, h, ?_⟩; ((with_reducible refine s_id ?_); (conv => arg 1; whnf); (with_reducible refine s_some ?_); repeat' (first | ((with_reducible refine o_id ?_); (conv => arg 1; whnf); first | (with_reducible exact o_nil) | (with_reducible refine o_cons ?_ ?_)) | rfl | fail)))
end Go.Proofs.Ytonjbhdfimcedaa
namespace Go.Proofs.Ytonjbhdfimcedaa
open Go.RowKit
theorem set_gt {c : Ty} {l : List (El c)} {z : Nat} (h : z < l.length) : l.set z (gt l z) = l := by
  rw [gt_eq (List.getElem?_eq_getElem h)]; exact List.set_getElem_self h
theorem gt_set {c : Ty} {l : List (El c)} {z : Nat} {x : El c} (h : z < l.length) : gt (l.set z x) z = x := gt_eq (by rw [List.getElem?_set_self h])
theorem blk_back {l : List Blk} {z : Nat} (h : z < l.length) : (l.set z ⟨(gt (c := .block) l z).ops, (gt (c := .block) l z).cond, (gt (c := .block) l z).next⟩).set z ⟨(gt (c := .block) (l.set z ⟨(gt (c := .block) l z).ops, (gt (c := .block) l z).cond, (gt (c := .block) l z).next⟩) z).ops, (gt (c := .block) (l.set z ⟨(gt (c := .block) l z).ops, (gt (c := .block) l z).cond, (gt (c := .block) l z).next⟩) z).cond, (gt (c := .block) l z).next⟩ = l := by
  rw [gt_set (c := .block) h, List.set_set]; exact set_gt (c := .block) h
theorem pts_back {l : List (List Int)} {z : Nat} (h : z < l.length) : l.set z (gt (c := .ints) l z) = l := set_gt (c := .ints) h
set_option maxHeartbeats 4000000 in
theorem c_copy (g : Grf) (hB : Bnd g) : Trip Try.prog 27 [.agg [.sl ⟨0, []⟩, .int .i64 g.vars, .int .i64 g.keep, .sl ⟨1, []⟩, .int .i64 g.shared, .sl ⟨2, []⟩, .sl ⟨3, []⟩, .sl ⟨4, []⟩]] ⟨[], [(0, .list .fz .input g.inp), (1, .list .fz .array g.arrs), (2, .list .fz .block g.blks), (3, .list .fz .ints g.pts), (4, .list .fz .head g.hds)], 5⟩ (Z := Unit) (fun _ => True) (fun _ => .agg [.sl ⟨5, []⟩, .int .i64 g.vars, .int .i64 g.keep, .sl ⟨6, []⟩, .int .i64 g.shared, .sl ⟨7, []⟩, .sl ⟨8, []⟩, .sl ⟨9, []⟩]) (fun _ => ⟨[], [(0, .list .fz .input g.inp), (1, .list .fz .array g.arrs), (2, .list .fz .block g.blks), (3, .list .fz .ints g.pts), (4, .list .fz .head g.hds), (5, .list .own .input g.inp), (6, .list .own .array g.arrs), (7, .list .own .block g.blks), (8, .list .own .ints g.pts), (9, .list .own .head g.hds)], 10⟩) := by
  obtain ⟨h1, h2, h3, h4, h5, h6, h7, h8, h9⟩ := hB
  refine trip_by (rs := [_]) 400 lay_ok Try.func27 rfl (by kernel_rfl) Try.ntmps27 Try.results27 rfl rfl ?_
  repeat' (first | (((with_reducible refine g_id ?_); (conv => arg 3; whnf)); first | (with_reducible refine g_fin ?_ ?_) | (refine g_call lay_ok 400 ?_ ?_ ?_ (c_cln_inp ?_ ?_) rfl) | (refine g_call lay_ok 400 ?_ ?_ ?_ (c_cln_arr ?_ ?_) rfl) | (refine g_call lay_ok 400 ?_ ?_ ?_ (c_cln_hd ?_ ?_) rfl) | (refine g_call lay_ok 400 ?_ ?_ ?_ (c_cln_blk ?_ ?_) rfl) | (refine g_call lay_ok 400 ?_ ?_ ?_ (c_cln_pts ?_ ?_) rfl) | (refine g_flow 1 lay_ok mixed_ok 400 21796 [0, 1, 3, 0, 8, 31, 0, 64, 255, 223, 1023, 2047, 4095, 8191, 16383] (.q 0 (.q 1 (.q 3 (.q 4 (.q 6 (.q 7 (.e 2 [3, 4, 6, 7] (.q 9 (.e 5 [6, 7, 9] (.e 8 [9] (.e 10 [] (.q 11 (.e 12 [] (.q 13 (.e 14 [] (.fin) .stop)) .stop)) .stop) .stop) .stop)) .stop))))))) (by kernel_rfl) ?_ ?_) | (refine g_flow 2 lay_ok mixed_ok 400 676 [0, 1, 3, 0, 8, 31, 31, 127, 255, 511] (.q 0 (.q 1 (.q 3 (.q 4 (.e 2 [3, 4] (.q 6 (.e 5 [6] (.e 7 [] (.q 8 (.e 9 [] (.fin) .stop)) .stop) .stop)) .stop))))) (by kernel_rfl) ?_ ?_)) | (((with_reducible refine w_id ?_); (conv => arg 4; whnf)); first | (with_reducible refine w_fin ?_ ?_) | (with_reducible refine w_tt ?_) | (with_reducible refine w_eff lay_ok 400 ?_ rfl rfl ?_ ?_)) | (with_reducible refine q_flow ?_ ?_) | ((with_reducible refine h_id ?_); (conv => arg 1; whnf); (with_reducible refine s_some ?_)) | (with_reducible exact o_nil) | ((with_reducible refine o_id ?_); (conv => arg 1; whnf); first | (with_reducible exact o_nil) | (with_reducible refine o_cons ?_ ?_)) | (intro h; ((try simp only [Int.toNat_natCast] at h); repeat (first | replace h := of_decide_eq_true h)); (try (first | contradiction))) | rfl | omega)
  refine g_loop lay_ok 400 (Z := Nat) (fun z => z ≤ g.blks.length) (fun z => ⟨[(1, .ptr 5 0), (2, .ptr 6 0), (28, .sl ⟨10, []⟩), (29, .int .i64 (g.blks.length : Int)), (30, .int .i64 (z : Int))], [(0, .list .fz .input g.inp), (1, .list .fz .array g.arrs), (2, .list .fz .block g.blks), (3, .list .fz .ints g.pts), (4, .list .fz .head g.hds), (5, .cells [.sl ⟨7, []⟩, .int .i64 g.vars, .int .i64 g.keep, .sl ⟨8, []⟩, .int .i64 g.shared, .sl ⟨10, []⟩, .sl ⟨11, []⟩, .sl ⟨9, []⟩]), (6, .cells [.val (.slice none 0 0), .int .i64 0, .int .i64 0, .val (.slice none 0 0), .int .i64 0, .val (.slice none 0 0), .val (.slice none 0 0), .val (.slice none 0 0)]), (7, .list .own .input g.inp), (8, .list .own .array g.arrs), (9, .list .own .head g.hds), (10, .list (.pt z 0) .block g.blks), (11, .list .sh .ints g.pts)], 12⟩) (fun z => g.blks.length - z) ?_ ⟨0, Nat.zero_le _, ?_⟩ (fun z hz => ?_)
  · repeat' (first | ((with_reducible refine o_id ?_); (conv => arg 1; whnf); first | (with_reducible exact o_nil)))
  · ((with_reducible refine s_id ?_); (conv => arg 1; whnf); (with_reducible refine s_some ?_); repeat' (first | ((with_reducible refine o_id ?_); (conv => arg 1; whnf); first | (with_reducible exact o_nil) | (with_reducible refine o_cons ?_ ?_)) | rfl))
  by_cases hlt : z < g.blks.length
  · have ho := h7 _ (mem_gt (c := .block) hlt)
    have hn := h8 _ (mem_gt (c := .block) hlt)
    repeat' (first | (((with_reducible refine g_id ?_); (conv => arg 3; whnf)); first | (with_reducible refine g_cond lay_ok 400 ?_ ?_ ?_) | (with_reducible refine g_fin ?_ ?_) | (refine g_call lay_ok 400 ?_ ?_ ?_ (c_cln_op ?_ ?_) rfl) | (refine g_call lay_ok 400 ?_ ?_ ?_ (c_cln_int ?_ ?_) rfl) | (refine g_storeP lay_ok 400 ?_ rfl rfl ?_ ?_) | (refine g_flow 6 lay_ok mixed_ok 400 149760 [0, 1, 0, 0, 8, 0, 0, 64, 192, 0, 512, 1984, 4039, 8135, 16327, 32767, 65535, 131071] (.q 0 (.q 1 (.q 2 (.q 3 (.q 4 (.q 5 (.q 6 (.q 7 (.q 9 (.q 10 (.e 8 [0, 1, 2, 3, 4, 5, 9, 10] (.e 11 [0, 1, 2, 3, 4, 5] (.q 12 (.q 13 (.e 14 [3, 4, 5] (.q 15 (.q 16 (.e 17 [] (.fin) .stop))) .stop))) .stop) .stop))))))))))) (by kernel_rfl) ?_ ?_)) | (((with_reducible refine w_id ?_); (conv => arg 4; whnf)); first | (with_reducible refine w_fin ?_ ?_) | (with_reducible refine w_tt ?_) | (with_reducible refine w_eff lay_ok 400 ?_ rfl rfl ?_ ?_)) | (with_reducible refine q_flow ?_ ?_) | ((with_reducible refine h_id ?_); (conv => arg 1; whnf); (with_reducible refine s_some ?_)) | (with_reducible exact o_nil) | (with_reducible refine o_cons ?_ ?_) | ((with_reducible refine o_id ?_); (conv => arg 1; whnf); first | (with_reducible exact o_nil) | (with_reducible refine o_cons ?_ ?_)) | (intro h; ((try simp only [Int.toNat_natCast] at h); repeat (first | replace h := of_decide_eq_true h | replace h := of_decide_eq_false h)); (try (first | (exfalso; omega)))) | rfl | omega | assumption | (simp only [List.length_set, Int.toNat_natCast]; omega))
    all_goals (refine q_round ⟨z + 1, by omega, by omega, ?_⟩; ((with_reducible refine s_id ?_); (conv => arg 1; whnf); (with_reducible refine s_some ?_); repeat' (first | ((with_reducible refine o_id ?_); (conv => arg 1; whnf); first | (with_reducible exact o_nil) | (with_reducible refine o_cons ?_ ?_)) | rfl | (show PtLe 3 (z + 1) 0 z 3; unfold PtLe; intros; omega) | (exact (blk_back hlt).symm))))
  · have e : z = g.blks.length := by omega
    subst e
    repeat' (first | (((with_reducible refine g_id ?_); (conv => arg 3; whnf)); first | (with_reducible refine g_cond lay_ok 400 ?_ ?_ ?_) | (with_reducible refine g_fin ?_ ?_)) | (with_reducible refine q_leave lay_ok 400 ?_) | (with_reducible exact o_nil) | ((with_reducible refine o_id ?_); (conv => arg 1; whnf); first | (with_reducible exact o_nil)) | (intro h; ((try simp only [Int.toNat_natCast] at h); repeat (first | replace h := of_decide_eq_true h | replace h := of_decide_eq_false h)); (try (first | (exfalso; omega)))))
    refine g_loop lay_ok 400 (Z := Nat) (fun z => z ≤ g.pts.length) (fun z => ⟨[(1, .ptr 5 0), (2, .ptr 6 0), (53, .sl ⟨11, []⟩), (54, .int .i64 (g.pts.length : Int)), (55, .int .i64 (z : Int))], [(0, .list .fz .input g.inp), (1, .list .fz .array g.arrs), (2, .list .fz .block g.blks), (3, .list .fz .ints g.pts), (4, .list .fz .head g.hds), (5, .cells [.sl ⟨7, []⟩, .int .i64 g.vars, .int .i64 g.keep, .sl ⟨8, []⟩, .int .i64 g.shared, .sl ⟨10, []⟩, .sl ⟨11, []⟩, .sl ⟨9, []⟩]), (6, .cells [.val (.slice none 0 0), .int .i64 0, .int .i64 0, .val (.slice none 0 0), .int .i64 0, .val (.slice none 0 0), .val (.slice none 0 0), .val (.slice none 0 0)]), (7, .list .own .input g.inp), (8, .list .own .array g.arrs), (9, .list .own .head g.hds), (10, .list .own .block g.blks), (11, .list (.pt z 0) .ints g.pts)], 12⟩) (fun z => g.pts.length - z) ?_ ⟨0, Nat.zero_le _, ?_⟩ (fun z hz => ?_)
    · repeat' (first | ((with_reducible refine o_id ?_); (conv => arg 1; whnf); first | (with_reducible exact o_nil)))
    · ((with_reducible refine s_id ?_); (conv => arg 1; whnf); (with_reducible refine s_some ?_); repeat' (first | ((with_reducible refine o_id ?_); (conv => arg 1; whnf); first | (with_reducible exact o_nil) | (with_reducible refine o_cons ?_ ?_)) | rfl | omega))
    by_cases hlt : z < g.pts.length
    · have hn := h9 _ (mem_gt (c := .ints) hlt)
      repeat' (first | (((with_reducible refine g_id ?_); (conv => arg 3; whnf)); first | (with_reducible refine g_cond lay_ok 400 ?_ ?_ ?_) | (with_reducible refine g_fin ?_ ?_) | (refine g_call lay_ok 400 ?_ ?_ ?_ (c_cln_int ?_ ?_) rfl) | (refine g_storeP lay_ok 400 ?_ rfl rfl ?_ ?_) | (refine g_flow 11 lay_ok mixed_ok 400 80 [0, 1, 0, 0, 8, 31, 63] (.q 0 (.q 1 (.q 2 (.q 3 (.e 4 [0, 1, 2] (.q 5 (.e 6 [] (.fin) .stop)) .stop))))) (by kernel_rfl) ?_ ?_)) | (((with_reducible refine w_id ?_); (conv => arg 4; whnf)); first | (with_reducible refine w_fin ?_ ?_) | (with_reducible refine w_tt ?_) | (with_reducible refine w_eff lay_ok 400 ?_ rfl rfl ?_ ?_)) | (with_reducible refine q_flow ?_ ?_) | ((with_reducible refine h_id ?_); (conv => arg 1; whnf); (with_reducible refine s_some ?_)) | (with_reducible exact o_nil) | (with_reducible refine o_cons ?_ ?_) | ((with_reducible refine o_id ?_); (conv => arg 1; whnf); first | (with_reducible exact o_nil) | (with_reducible refine o_cons ?_ ?_)) | (intro h; ((try simp only [Int.toNat_natCast] at h); repeat (first | replace h := of_decide_eq_true h | replace h := of_decide_eq_false h)); (try (first | (exfalso; omega)))) | rfl | omega | assumption)
      all_goals (refine q_round ⟨z + 1, by omega, by omega, ?_⟩; ((with_reducible refine s_id ?_); (conv => arg 1; whnf); (with_reducible refine s_some ?_); repeat' (first | ((with_reducible refine o_id ?_); (conv => arg 1; whnf); first | (with_reducible exact o_nil) | (with_reducible refine o_cons ?_ ?_)) | rfl | (show PtLe 1 (z + 1) 0 z 1; unfold PtLe; intros; omega) | (exact (pts_back hlt).symm))))
    · have e : z = g.pts.length := by omega
      subst e
      repeat' (first | (((with_reducible refine g_id ?_); (conv => arg 3; whnf)); first | (with_reducible refine g_cond lay_ok 400 ?_ ?_ ?_) | (with_reducible refine g_fin ?_ ?_)) | (with_reducible refine q_leave lay_ok 400 ?_) | (with_reducible exact o_nil) | ((with_reducible refine o_id ?_); (conv => arg 1; whnf); first | (with_reducible exact o_nil)) | (intro h; ((try simp only [Int.toNat_natCast] at h); repeat (first | replace h := of_decide_eq_true h | replace h := of_decide_eq_false h)); (try (first | (exfalso; omega)))))
      all_goals (((with_reducible refine e_id ?_); (conv => whnf)); refine ⟨(), trivial, ?_⟩; ((with_reducible refine s_id ?_); (conv => arg 1; whnf); (with_reducible refine s_some ?_); repeat' (first | ((with_reducible refine o_id ?_); (conv => arg 1; whnf); first | (with_reducible exact o_nil) | (with_reducible refine o_cons ?_ ?_)) | rfl | omega)))
end Go.Proofs.Ytonjbhdfimcedaa
namespace Go.Proofs.Ytonjbhdfimcedaa
open Go.RowKit
theorem blk_snoc {l : List Blk} {n : Nat} (h : n < l.length) : l.take n ++ [⟨(gt (c := .block) l n).ops, (gt (c := .block) l n).cond, (gt (c := .block) l n).next⟩] = l.take (n + 1) := (take_snoc (c := .block) h).symm
theorem pts_snoc {l : List (List Int)} {n : Nat} (h : n < l.length) : l.take n ++ [gt (c := .ints) l n] = l.take (n + 1) := (take_snoc (c := .ints) h).symm
set_option maxHeartbeats 4000000 in
theorem r_copy (g : Grf) (hB : Bnd g) : Trip Try.prog 44 [.agg [.sl ⟨0, []⟩, .int .i64 g.vars, .int .i64 g.keep, .sl ⟨1, []⟩, .int .i64 g.shared, .sl ⟨2, []⟩, .sl ⟨3, []⟩, .sl ⟨4, []⟩]] ⟨[], [(0, .list .tmp .input g.inp), (1, .list .tmp .array g.arrs), (2, .list .tmp .block g.blks), (3, .list .tmp .ints g.pts), (4, .list .tmp .head g.hds)], 5⟩ (Z := Unit) (fun _ => True) (fun _ => .agg [.sl ⟨5, []⟩, .int .i64 g.vars, .int .i64 g.keep, .sl ⟨6, []⟩, .int .i64 g.shared, .sl ⟨7, []⟩, .sl ⟨8, []⟩, .sl ⟨9, []⟩]) (fun _ => ⟨[], [(0, .list .tmp .input g.inp), (1, .list .tmp .array g.arrs), (2, .list .tmp .block g.blks), (3, .list .tmp .ints g.pts), (4, .list .tmp .head g.hds), (5, .list .own .input g.inp), (6, .list .own .array g.arrs), (7, .list .own .block g.blks), (8, .list .own .ints g.pts), (9, .list .own .head g.hds)], 10⟩) := by
  obtain ⟨h1, h2, h3, h4, h5, h6, h7, h8, h9⟩ := hB
  refine trip_by (rs := [_]) 400 lay_ok Try.func44 rfl (by kernel_rfl) Try.ntmps44 Try.results44 rfl rfl ?_
  repeat' (first | (((with_reducible refine g_id ?_); (conv => arg 3; whnf)); first | (with_reducible refine g_split lay_ok 400 ?_ ?_ ?_)))
  refine g_loop lay_ok 400 (Z := Nat) (fun z => z ≤ g.blks.length) (fun z => ⟨[(1, .ptr 5 0), (2, .ptr 6 0), (3, .sl ⟨10, []⟩), (4, .int .i64 (z : Int))], [(0, .list .tmp .input g.inp), (1, .list .tmp .array g.arrs), (2, .list .tmp .block g.blks), (3, .list .tmp .ints g.pts), (4, .list .tmp .head g.hds), (5, .cells [.sl ⟨7, []⟩, .int .i64 g.vars, .int .i64 g.keep, .sl ⟨8, []⟩, .int .i64 g.shared, .sl ⟨2, []⟩, .sl ⟨3, []⟩, .sl ⟨9, []⟩]), (6, .cells [.val (.slice none 0 0), .int .i64 0, .int .i64 0, .val (.slice none 0 0), .int .i64 0, .val (.slice none 0 0), .val (.slice none 0 0), .val (.slice none 0 0)]), (7, .list .own .input g.inp), (8, .list .own .array g.arrs), (9, .list .own .head g.hds), (10, .list .own .block (g.blks.take z))], 11⟩) (fun z => g.blks.length - z) ?_ ⟨0, Nat.zero_le _, ?_⟩ (fun z hz => ?_)
  · repeat' (first | ((with_reducible refine o_id ?_); (conv => arg 1; whnf); first | (with_reducible exact o_nil) | (with_reducible refine o_cons ?_ ?_)) | (simp only [List.length_append, List.length_cons, List.length_nil]; omega))
  · ((with_reducible refine s_id ?_); (conv => arg 1; whnf); (with_reducible refine s_some ?_); repeat' (first | ((with_reducible refine o_id ?_); (conv => arg 1; whnf); first | (with_reducible exact o_nil) | (with_reducible refine o_cons ?_ ?_)) | rfl))
  by_cases hlt : z < g.blks.length
  · have ho := h7 _ (mem_gt (c := .block) hlt)
    have hn := h8 _ (mem_gt (c := .block) hlt)
    repeat' (first | (((with_reducible refine g_id ?_); (conv => arg 3; whnf)); first | (with_reducible refine g_cond lay_ok 400 ?_ ?_ ?_) | (with_reducible refine g_fin ?_ ?_)) | ((with_reducible refine o_id ?_); (conv => arg 1; whnf); first | (with_reducible exact o_nil) | (with_reducible refine o_cons ?_ ?_)) | (intro h; ((try simp only [Int.toNat_natCast] at h); repeat (first | replace h := of_decide_eq_true h | replace h := of_decide_eq_false h)); (try (first | (exfalso; omega)))) | omega | (simp only [List.length_nil, List.length_cons, List.length_append, List.length_take, List.length_set, Int.toNat_natCast, Nat.zero_add]; omega))
    all_goals (refine q_round ⟨z + 1, by omega, by omega, ?_⟩; ((with_reducible refine s_id ?_); (conv => arg 1; whnf); (with_reducible refine s_some ?_); repeat' (first | ((with_reducible refine o_id ?_); (conv => arg 1; whnf); first | (with_reducible exact o_nil) | (with_reducible refine o_cons ?_ ?_)) | rfl | (exact (blk_snoc hlt).symm))))
  · have e : z = g.blks.length := by omega
    subst e
    repeat' (first | (((with_reducible refine g_id ?_); (conv => arg 3; whnf)); first | (with_reducible refine g_cond lay_ok 400 ?_ ?_ ?_) | (with_reducible refine g_fin ?_ ?_)) | (with_reducible refine q_leave lay_ok 400 ?_) | (with_reducible exact o_nil) | ((with_reducible refine o_id ?_); (conv => arg 1; whnf); first | (with_reducible exact o_nil)) | (intro h; ((try simp only [Int.toNat_natCast] at h); repeat (first | replace h := of_decide_eq_true h | replace h := of_decide_eq_false h)); (try (first | (exfalso; omega)))))
    refine g_loop lay_ok 400 (Z := Nat) (fun z => z ≤ g.pts.length) (fun z => ⟨[(1, .ptr 5 0), (2, .ptr 6 0), (6, .sl ⟨11, []⟩), (7, .int .i64 (z : Int))], [(0, .list .tmp .input g.inp), (1, .list .tmp .array g.arrs), (2, .list .tmp .block g.blks), (3, .list .tmp .ints g.pts), (4, .list .tmp .head g.hds), (5, .cells [.sl ⟨7, []⟩, .int .i64 g.vars, .int .i64 g.keep, .sl ⟨8, []⟩, .int .i64 g.shared, .sl ⟨10, []⟩, .sl ⟨3, []⟩, .sl ⟨9, []⟩]), (6, .cells [.val (.slice none 0 0), .int .i64 0, .int .i64 0, .val (.slice none 0 0), .int .i64 0, .val (.slice none 0 0), .val (.slice none 0 0), .val (.slice none 0 0)]), (7, .list .own .input g.inp), (8, .list .own .array g.arrs), (9, .list .own .head g.hds), (10, .list .own .block g.blks), (11, .list .own .ints (g.pts.take z))], 12⟩) (fun z => g.pts.length - z) ?_ ⟨0, Nat.zero_le _, ?_⟩ (fun z hz => ?_)
    · repeat' (first | ((with_reducible refine o_id ?_); (conv => arg 1; whnf); first | (with_reducible exact o_nil)))
    · ((with_reducible refine s_id ?_); (conv => arg 1; whnf); (with_reducible refine s_some ?_); repeat' (first | ((with_reducible refine o_id ?_); (conv => arg 1; whnf); first | (with_reducible exact o_nil) | (with_reducible refine o_cons ?_ ?_)) | rfl | (exact (List.take_of_length_le (by omega)).symm)))
    by_cases hlt : z < g.pts.length
    · have hn := h9 _ (mem_gt (c := .ints) hlt)
      repeat' (first | (((with_reducible refine g_id ?_); (conv => arg 3; whnf)); first | (with_reducible refine g_cond lay_ok 400 ?_ ?_ ?_) | (with_reducible refine g_fin ?_ ?_)) | ((with_reducible refine o_id ?_); (conv => arg 1; whnf); first | (with_reducible exact o_nil) | (with_reducible refine o_cons ?_ ?_)) | (intro h; ((try simp only [Int.toNat_natCast] at h); repeat (first | replace h := of_decide_eq_true h | replace h := of_decide_eq_false h)); (try (first | (exfalso; omega)))) | omega | (simp only [List.length_nil, List.length_cons, List.length_append, List.length_take, List.length_set, Int.toNat_natCast, Nat.zero_add]; omega))
      all_goals (refine q_round ⟨z + 1, by omega, by omega, ?_⟩; ((with_reducible refine s_id ?_); (conv => arg 1; whnf); (with_reducible refine s_some ?_); repeat' (first | ((with_reducible refine o_id ?_); (conv => arg 1; whnf); first | (with_reducible exact o_nil) | (with_reducible refine o_cons ?_ ?_)) | rfl | (exact (pts_snoc hlt).symm))))
    · have e : z = g.pts.length := by omega
      subst e
      repeat' (first | (((with_reducible refine g_id ?_); (conv => arg 3; whnf)); first | (with_reducible refine g_cond lay_ok 400 ?_ ?_ ?_) | (with_reducible refine g_fin ?_ ?_)) | (with_reducible refine q_leave lay_ok 400 ?_) | (with_reducible exact o_nil) | ((with_reducible refine o_id ?_); (conv => arg 1; whnf); first | (with_reducible exact o_nil)) | (intro h; ((try simp only [Int.toNat_natCast] at h); repeat (first | replace h := of_decide_eq_true h | replace h := of_decide_eq_false h)); (try (first | (exfalso; omega)))))
      all_goals (((with_reducible refine e_id ?_); (conv => whnf)); refine ⟨(), trivial, ?_⟩; ((with_reducible refine s_id ?_); (conv => arg 1; whnf); (with_reducible refine s_some ?_); repeat' (first | ((with_reducible refine o_id ?_); (conv => arg 1; whnf); first | (with_reducible exact o_nil) | (with_reducible refine o_cons ?_ ?_)) | rfl | (exact (List.take_of_length_le (by omega)).symm))))
end Go.Proofs.Ytonjbhdfimcedaa
namespace Go.Proofs.Ytonjbhdfimcedaa
open Go.RowKit
set_option maxHeartbeats 20000000 in
theorem neOp_run (p0 : Int) (p1 : Int) (p2 : Int) (p3 : Int) (p4 : Int) (V : Vl) (y z : Operand) (w : World) : (do eqGuard .neq 42 y z (den V (.agg [.int .i64 p0, .int .i64 p1, .int .i64 p2, .int .i64 p3, .int .i64 p4])) (den V (.agg [.int .i64 p0, .int .i64 p1, .int .i64 p2, .int .i64 p3, .int .i64 p4])); binOp .neq 42 (den V (.agg [.int .i64 p0, .int .i64 p1, .int .i64 p2, .int .i64 p3, .int .i64 p4])) (den V (.agg [.int .i64 p0, .int .i64 p1, .int .i64 p2, .int .i64 p3, .int .i64 p4])) : Sem Value).run Try.prog w = .ok (den V (.tf false)) w := by
  simp only [den, denL]
  simp (config := { maxSteps := 3000000 }) [go_sem]
theorem e_neOp {x : Cx} {s : St} {T' : TypeId} {a b : Operand} {p0 : Int} {p1 : Int} {p2 : Int} {p3 : Int} {p4 : Int} (ha : s.get a = some (.agg [.int .i64 p0, .int .i64 p1, .int .i64 p2, .int .i64 p3, .int .i64 p4])) (hb : s.get b = some (.agg [.int .i64 p0, .int .i64 p1, .int .i64 p2, .int .i64 p3, .int .i64 p4])) (hP : x.P = Try.prog) : EvTo x s (.binOp .neq 42 a b T') (.tf false) :=
  e_cmp (fun V y z w => by rw [hP]; exact neOp_run p0 p1 p2 p3 p4 V y z w) ha hb
set_option maxHeartbeats 20000000 in
theorem neIn_run (p0 : ByteArray) (p1 : Int) (p2 : Int) (V : Vl) (y z : Operand) (w : World) : (do eqGuard .neq 33 y z (den V (.agg [.str p0, .int .i64 p1, .int .i64 p2])) (den V (.agg [.str p0, .int .i64 p1, .int .i64 p2])); binOp .neq 33 (den V (.agg [.str p0, .int .i64 p1, .int .i64 p2])) (den V (.agg [.str p0, .int .i64 p1, .int .i64 p2])) : Sem Value).run Try.prog w = .ok (den V (.tf false)) w := by
  simp only [den, denL]
  simp (config := { maxSteps := 3000000 }) [go_sem]
theorem e_neIn {x : Cx} {s : St} {T' : TypeId} {a b : Operand} {p0 : ByteArray} {p1 : Int} {p2 : Int} (ha : s.get a = some (.agg [.str p0, .int .i64 p1, .int .i64 p2])) (hb : s.get b = some (.agg [.str p0, .int .i64 p1, .int .i64 p2])) (hP : x.P = Try.prog) : EvTo x s (.binOp .neq 33 a b T') (.tf false) :=
  e_cmp (fun V y z w => by rw [hP]; exact neIn_run p0 p1 p2 V y z w) ha hb
set_option maxHeartbeats 20000000 in
theorem neAr_run (p0 : ByteArray) (p1 : Int) (V : Vl) (y z : Operand) (w : World) : (do eqGuard .neq 35 y z (den V (.agg [.str p0, .int .i64 p1])) (den V (.agg [.str p0, .int .i64 p1])); binOp .neq 35 (den V (.agg [.str p0, .int .i64 p1])) (den V (.agg [.str p0, .int .i64 p1])) : Sem Value).run Try.prog w = .ok (den V (.tf false)) w := by
  simp only [den, denL]
  simp (config := { maxSteps := 3000000 }) [go_sem]
theorem e_neAr {x : Cx} {s : St} {T' : TypeId} {a b : Operand} {p0 : ByteArray} {p1 : Int} (ha : s.get a = some (.agg [.str p0, .int .i64 p1])) (hb : s.get b = some (.agg [.str p0, .int .i64 p1])) (hP : x.P = Try.prog) : EvTo x s (.binOp .neq 35 a b T') (.tf false) :=
  e_cmp (fun V y z w => by rw [hP]; exact neAr_run p0 p1 V y z w) ha hb
set_option maxHeartbeats 20000000 in
theorem neHe_run (p0 : Int) (p1 : Int) (V : Vl) (y z : Operand) (w : World) : (do eqGuard .neq 57 y z (den V (.agg [.int .i64 p0, .int .i64 p1])) (den V (.agg [.int .i64 p0, .int .i64 p1])); binOp .neq 57 (den V (.agg [.int .i64 p0, .int .i64 p1])) (den V (.agg [.int .i64 p0, .int .i64 p1])) : Sem Value).run Try.prog w = .ok (den V (.tf false)) w := by
  simp only [den, denL]
  simp (config := { maxSteps := 3000000 }) [go_sem]
theorem e_neHe {x : Cx} {s : St} {T' : TypeId} {a b : Operand} {p0 : Int} {p1 : Int} (ha : s.get a = some (.agg [.int .i64 p0, .int .i64 p1])) (hb : s.get b = some (.agg [.int .i64 p0, .int .i64 p1])) (hP : x.P = Try.prog) : EvTo x s (.binOp .neq 57 a b T') (.tf false) :=
  e_cmp (fun V y z w => by rw [hP]; exact neHe_run p0 p1 V y z w) ha hb
set_option maxHeartbeats 4000000 in
theorem r_sameI (l : List Int) (hl : l.length ≤ 1048576) : Trip Try.prog 37 [.sl ⟨0, []⟩, .sl ⟨1, []⟩] ⟨[], [(0, .list .tmp .int l), (1, .list .tmp .int l)], 2⟩ (Z := Unit) (fun _ => True) (fun _ => .tf true) (fun _ => ⟨[], [(0, .list .tmp .int l), (1, .list .tmp .int l)], 2⟩) := by
  refine trip_by (rs := [_]) 400 lay_ok Try.func37 rfl (by kernel_rfl) Try.ntmps37 Try.results37 rfl rfl ?_
  repeat' (first | (((with_reducible refine g_id ?_); (conv => arg 3; whnf)); first | (with_reducible refine g_cond lay_ok 400 ?_ ?_ ?_)) | ((with_reducible refine o_id ?_); (conv => arg 1; whnf); first | (with_reducible exact o_nil)) | (intro h; ((try simp only [Int.toNat_natCast] at h); repeat (first | replace h := of_decide_eq_true h | replace h := of_decide_eq_false h | replace h := not_t h | replace h := not_f h)); (try (first | contradiction))))
  refine g_loop lay_ok 400 (Z := Nat) (fun z => z ≤ l.length) (fun z => ⟨[(0, .sl ⟨0, []⟩), (1, .sl ⟨1, []⟩), (5, .int .i64 (z : Int))], [(0, .list .tmp .int l), (1, .list .tmp .int l)], 2⟩) (fun z => l.length - z) ?_ ⟨0, Nat.zero_le _, ?_⟩ (fun z hz => ?_)
  · repeat' (first | ((with_reducible refine o_id ?_); (conv => arg 1; whnf); first | (with_reducible exact o_nil)))
  · ((with_reducible refine s_id ?_); (conv => arg 1; whnf); (with_reducible refine s_some ?_); repeat' (first | ((with_reducible refine o_id ?_); (conv => arg 1; whnf); first | (with_reducible exact o_nil) | (with_reducible refine o_cons ?_ ?_)) | rfl))
  by_cases hlt : z < l.length
  · repeat' (first | (((with_reducible refine g_id ?_); (conv => arg 3; whnf)); first | (with_reducible refine g_cond lay_ok 400 ?_ ?_ ?_) | (with_reducible refine g_fin ?_ ?_) | (refine g_flow 6 lay_ok mixed_ok 400 0 [0, 0, 3, 7, 0, 0, 48, 112, 255] (.q 0 (.q 1 (.q 2 (.q 3 (.q 4 (.q 5 (.q 6 (.q 7 (.q 8 .fin))))))))) (by kernel_rfl) ?_ ?_)) | (((with_reducible refine w_id ?_); (conv => arg 4; whnf)); first | (with_reducible refine w_fin ?_ ?_)) | (with_reducible exact o_nil) | ((with_reducible refine o_id ?_); (conv => arg 1; whnf); first | (with_reducible exact o_nil) | (with_reducible refine o_cons ?_ ?_)) | (intro h; ((try simp only [Int.toNat_natCast] at h); repeat (first | replace h := of_decide_eq_true h | replace h := of_decide_eq_false h | replace h := not_t h | replace h := not_f h)); (try (first | contradiction | (exfalso; omega)))) | omega)
    all_goals (refine q_round ⟨z + 1, by omega, by omega, ?_⟩; ((with_reducible refine s_id ?_); (conv => arg 1; whnf); (with_reducible refine s_some ?_); repeat' (first | ((with_reducible refine o_id ?_); (conv => arg 1; whnf); first | (with_reducible exact o_nil) | (with_reducible refine o_cons ?_ ?_)) | rfl)))
  · have e : z = l.length := by omega
    subst e
    repeat' (first | (((with_reducible refine g_id ?_); (conv => arg 3; whnf)); first | (with_reducible refine g_cond lay_ok 400 ?_ ?_ ?_) | (with_reducible refine g_fin ?_ ?_)) | (with_reducible refine q_leave lay_ok 400 ?_) | (with_reducible exact o_nil) | ((with_reducible refine o_id ?_); (conv => arg 1; whnf); first | (with_reducible exact o_nil)) | (intro h; ((try simp only [Int.toNat_natCast] at h); repeat (first | replace h := of_decide_eq_true h | replace h := of_decide_eq_false h)); (try (first | (exfalso; omega)))))
    all_goals (((with_reducible refine e_id ?_); (conv => whnf)); refine ⟨(), trivial, ?_⟩; ((with_reducible refine s_id ?_); (conv => arg 1; whnf); (with_reducible refine s_some ?_); repeat' (first | ((with_reducible refine o_id ?_); (conv => arg 1; whnf); first | (with_reducible exact o_nil) | (with_reducible refine o_cons ?_ ?_)) | rfl)))
set_option maxHeartbeats 4000000 in
theorem r_sameL (l : List (List Int)) (hl : l.length ≤ 1048576) (h2 : ∀ x ∈ l, x.length ≤ 1048576) : Trip Try.prog 25 [.sl ⟨0, []⟩, .sl ⟨1, []⟩] ⟨[], [(0, .list .tmp .ints l), (1, .list .tmp .ints l)], 2⟩ (Z := Unit) (fun _ => True) (fun _ => .tf true) (fun _ => ⟨[], [(0, .list .tmp .ints l), (1, .list .tmp .ints l)], 2⟩) := by
  refine trip_by (rs := [_]) 400 lay_ok Try.func25 rfl (by kernel_rfl) Try.ntmps25 Try.results25 rfl rfl ?_
  repeat' (first | (((with_reducible refine g_id ?_); (conv => arg 3; whnf)); first | (with_reducible refine g_cond lay_ok 400 ?_ ?_ ?_)) | ((with_reducible refine o_id ?_); (conv => arg 1; whnf); first | (with_reducible exact o_nil)) | (intro h; ((try simp only [Int.toNat_natCast] at h); repeat (first | replace h := of_decide_eq_true h | replace h := of_decide_eq_false h | replace h := not_t h | replace h := not_f h)); (try (first | contradiction))))
  refine g_loop lay_ok 400 (Z := Nat) (fun z => z ≤ l.length) (fun z => ⟨[(0, .sl ⟨0, []⟩), (1, .sl ⟨1, []⟩), (5, .int .i64 (z : Int))], [(0, .list .tmp .ints l), (1, .list .tmp .ints l)], 2⟩) (fun z => l.length - z) ?_ ⟨0, Nat.zero_le _, ?_⟩ (fun z hz => ?_)
  · repeat' (first | ((with_reducible refine o_id ?_); (conv => arg 1; whnf); first | (with_reducible exact o_nil)))
  · ((with_reducible refine s_id ?_); (conv => arg 1; whnf); (with_reducible refine s_some ?_); repeat' (first | ((with_reducible refine o_id ?_); (conv => arg 1; whnf); first | (with_reducible exact o_nil) | (with_reducible refine o_cons ?_ ?_)) | rfl))
  by_cases hlt : z < l.length
  · have hn := h2 _ (mem_gt (c := .ints) hlt)
    repeat' (first | (((with_reducible refine g_id ?_); (conv => arg 3; whnf)); first | (with_reducible refine g_cond lay_ok 400 ?_ ?_ ?_) | (with_reducible refine g_fin ?_ ?_) | (refine g_call lay_ok 400 ?_ ?_ ?_ (r_sameI ?_ ?_) rfl) | (refine g_flow 6 lay_ok mixed_ok 400 256 [0, 0, 3, 7, 0, 0, 48, 112, 255, 511] (.q 0 (.q 1 (.q 2 (.q 3 (.q 4 (.q 5 (.q 6 (.q 7 (.e 8 [] (.q 9 .fin) .stop))))))))) (by kernel_rfl) ?_ ?_)) | (((with_reducible refine w_id ?_); (conv => arg 4; whnf)); first | (with_reducible refine w_fin ?_ ?_) | (with_reducible refine w_tt ?_) | (with_reducible refine w_eff lay_ok 400 ?_ rfl rfl ?_ ?_)) | (with_reducible refine q_flow ?_ ?_) | ((with_reducible refine h_id ?_); (conv => arg 1; whnf); (with_reducible refine s_some ?_)) | (with_reducible exact o_nil) | ((with_reducible refine o_id ?_); (conv => arg 1; whnf); first | (with_reducible exact o_nil) | (with_reducible refine o_cons ?_ ?_)) | (intro h; ((try simp only [Int.toNat_natCast] at h); repeat (first | replace h := of_decide_eq_true h | replace h := of_decide_eq_false h)); (try (first | (exfalso; omega)))) | rfl | omega | assumption)
    all_goals (refine q_round ⟨z + 1, by omega, by omega, ?_⟩; ((with_reducible refine s_id ?_); (conv => arg 1; whnf); (with_reducible refine s_some ?_); repeat' (first | ((with_reducible refine o_id ?_); (conv => arg 1; whnf); first | (with_reducible exact o_nil) | (with_reducible refine o_cons ?_ ?_)) | rfl)))
  · have e : z = l.length := by omega
    subst e
    repeat' (first | (((with_reducible refine g_id ?_); (conv => arg 3; whnf)); first | (with_reducible refine g_cond lay_ok 400 ?_ ?_ ?_) | (with_reducible refine g_fin ?_ ?_)) | (with_reducible refine q_leave lay_ok 400 ?_) | (with_reducible exact o_nil) | ((with_reducible refine o_id ?_); (conv => arg 1; whnf); first | (with_reducible exact o_nil)) | (intro h; ((try simp only [Int.toNat_natCast] at h); repeat (first | replace h := of_decide_eq_true h | replace h := of_decide_eq_false h)); (try (first | (exfalso; omega)))))
    all_goals (((with_reducible refine e_id ?_); (conv => whnf)); refine ⟨(), trivial, ?_⟩; ((with_reducible refine s_id ?_); (conv => arg 1; whnf); (with_reducible refine s_some ?_); repeat' (first | ((with_reducible refine o_id ?_); (conv => arg 1; whnf); first | (with_reducible exact o_nil) | (with_reducible refine o_cons ?_ ?_)) | rfl)))
set_option maxHeartbeats 4000000 in
theorem r_same (g : Grf) (hB : Bnd g) : Trip Try.prog 16 [.agg [.sl ⟨0, []⟩, .int .i64 g.vars, .int .i64 g.keep, .sl ⟨1, []⟩, .int .i64 g.shared, .sl ⟨2, []⟩, .sl ⟨3, []⟩, .sl ⟨4, []⟩], .agg [.sl ⟨5, []⟩, .int .i64 g.vars, .int .i64 g.keep, .sl ⟨6, []⟩, .int .i64 g.shared, .sl ⟨7, []⟩, .sl ⟨8, []⟩, .sl ⟨9, []⟩]] ⟨[], [(0, .list .tmp .input g.inp), (1, .list .tmp .array g.arrs), (2, .list .tmp .block g.blks), (3, .list .tmp .ints g.pts), (4, .list .tmp .head g.hds), (5, .list .tmp .input g.inp), (6, .list .tmp .array g.arrs), (7, .list .tmp .block g.blks), (8, .list .tmp .ints g.pts), (9, .list .tmp .head g.hds)], 10⟩ (Z := Unit) (fun _ => True) (fun _ => .tf true) (fun _ => ⟨[], [(0, .list .tmp .input g.inp), (1, .list .tmp .array g.arrs), (2, .list .tmp .block g.blks), (3, .list .tmp .ints g.pts), (4, .list .tmp .head g.hds), (5, .list .tmp .input g.inp), (6, .list .tmp .array g.arrs), (7, .list .tmp .block g.blks), (8, .list .tmp .ints g.pts), (9, .list .tmp .head g.hds)], 10⟩) := by
  obtain ⟨h1, h2, h3, h4, h5, h6, h7, h8, h9⟩ := hB
  refine trip_by (rs := [_]) 400 lay_ok Try.func16 rfl (by kernel_rfl) Try.ntmps16 Try.results16 rfl rfl ?_
  repeat' (first | (((with_reducible refine g_id ?_); (conv => arg 3; whnf)); first | (with_reducible refine g_split lay_ok 400 ?_ ?_ ?_) | (refine g_call lay_ok 400 ?_ ?_ ?_ (r_sameL ?_ ?_ ?_) rfl)) | ((with_reducible refine o_id ?_); (conv => arg 1; whnf); first | (with_reducible exact o_nil) | (with_reducible refine o_cons ?_ ?_)) | (intro h; ((try simp only [Int.toNat_natCast] at h); repeat (first | replace h := of_decide_eq_true h | replace h := of_decide_eq_false h | replace h := not_t h | replace h := not_f h)); (try (first | contradiction))) | rfl | omega | (exact h9 _ (by assumption)))
  refine g_loop lay_ok 400 (Z := Nat) (fun z => z ≤ g.inp.length) (fun z => ⟨[(2, .ptr 10 0), (3, .ptr 11 0), (5, .int .i64 (z : Int))], [(0, .list .tmp .input g.inp), (1, .list .tmp .array g.arrs), (2, .list .tmp .block g.blks), (3, .list .tmp .ints g.pts), (4, .list .tmp .head g.hds), (5, .list .tmp .input g.inp), (6, .list .tmp .array g.arrs), (7, .list .tmp .block g.blks), (8, .list .tmp .ints g.pts), (9, .list .tmp .head g.hds), (10, .cells [.sl ⟨0, []⟩, .int .i64 g.vars, .int .i64 g.keep, .sl ⟨1, []⟩, .int .i64 g.shared, .sl ⟨2, []⟩, .sl ⟨3, []⟩, .sl ⟨4, []⟩]), (11, .cells [.sl ⟨5, []⟩, .int .i64 g.vars, .int .i64 g.keep, .sl ⟨6, []⟩, .int .i64 g.shared, .sl ⟨7, []⟩, .sl ⟨8, []⟩, .sl ⟨9, []⟩])], 12⟩) (fun z => g.inp.length - z) ?_ ⟨0, Nat.zero_le _, ?_⟩ (fun z hz => ?_)
  · repeat' (first | ((with_reducible refine o_id ?_); (conv => arg 1; whnf); first | (with_reducible exact o_nil)))
  · ((with_reducible refine s_id ?_); (conv => arg 1; whnf); (with_reducible refine s_some ?_); repeat' (first | ((with_reducible refine o_id ?_); (conv => arg 1; whnf); first | (with_reducible exact o_nil) | (with_reducible refine o_cons ?_ ?_)) | rfl))
  by_cases hlt : z < g.inp.length
  · repeat' (first | (((with_reducible refine g_id ?_); (conv => arg 3; whnf)); first | (with_reducible refine g_cond lay_ok 400 ?_ ?_ ?_) | (with_reducible refine g_fin ?_ ?_) | (refine g_flow 6 lay_ok mixed_ok 400 0 [0, 1, 0, 7, 15, 0, 32, 0, 224, 480, 1023] (.q 0 (.q 1 (.q 2 (.q 3 (.q 4 (.q 5 (.q 6 (.q 7 (.q 8 (.q 9 (.q 10 .fin))))))))))) (by kernel_rfl) ?_ ?_)) | (((with_reducible refine w_id ?_); (conv => arg 4; whnf)); first | (with_reducible refine w_fin ?_ ?_) | (refine w_ev lay_ok 400 ?_ rfl (e_neIn rfl rfl rfl) rfl rfl rfl ?_)) | (with_reducible exact o_nil) | ((with_reducible refine o_id ?_); (conv => arg 1; whnf); first | (with_reducible exact o_nil) | (with_reducible refine o_cons ?_ ?_)) | (intro h; ((try simp only [Int.toNat_natCast] at h); repeat (first | replace h := of_decide_eq_true h | replace h := of_decide_eq_false h)); (try (first | (exfalso; omega)))) | omega)
    all_goals (refine q_round ⟨z + 1, by omega, by omega, ?_⟩; ((with_reducible refine s_id ?_); (conv => arg 1; whnf); (with_reducible refine s_some ?_); repeat' (first | ((with_reducible refine o_id ?_); (conv => arg 1; whnf); first | (with_reducible exact o_nil) | (with_reducible refine o_cons ?_ ?_)) | rfl)))
  have e : z = g.inp.length := by omega
  subst e
  clear hlt
  repeat' (first | (((with_reducible refine g_id ?_); (conv => arg 3; whnf)); first | (with_reducible refine g_cond lay_ok 400 ?_ ?_ ?_) | (with_reducible refine g_fin ?_ ?_)) | (with_reducible refine q_leave lay_ok 400 ?_) | (with_reducible exact o_nil) | ((with_reducible refine o_id ?_); (conv => arg 1; whnf); first | (with_reducible exact o_nil)) | (intro h; ((try simp only [Int.toNat_natCast] at h); repeat (first | replace h := of_decide_eq_true h | replace h := of_decide_eq_false h)); (try (first | (exfalso; omega)))))
  refine g_loop lay_ok 400 (Z := Nat) (fun z => z ≤ g.arrs.length) (fun z => ⟨[(2, .ptr 10 0), (3, .ptr 11 0), (6, .int .i64 (z : Int))], [(0, .list .tmp .input g.inp), (1, .list .tmp .array g.arrs), (2, .list .tmp .block g.blks), (3, .list .tmp .ints g.pts), (4, .list .tmp .head g.hds), (5, .list .tmp .input g.inp), (6, .list .tmp .array g.arrs), (7, .list .tmp .block g.blks), (8, .list .tmp .ints g.pts), (9, .list .tmp .head g.hds), (10, .cells [.sl ⟨0, []⟩, .int .i64 g.vars, .int .i64 g.keep, .sl ⟨1, []⟩, .int .i64 g.shared, .sl ⟨2, []⟩, .sl ⟨3, []⟩, .sl ⟨4, []⟩]), (11, .cells [.sl ⟨5, []⟩, .int .i64 g.vars, .int .i64 g.keep, .sl ⟨6, []⟩, .int .i64 g.shared, .sl ⟨7, []⟩, .sl ⟨8, []⟩, .sl ⟨9, []⟩])], 12⟩) (fun z => g.arrs.length - z) ?_ ⟨0, Nat.zero_le _, ?_⟩ (fun z hz => ?_)
  · repeat' (first | ((with_reducible refine o_id ?_); (conv => arg 1; whnf); first | (with_reducible exact o_nil)))
  · ((with_reducible refine s_id ?_); (conv => arg 1; whnf); (with_reducible refine s_some ?_); repeat' (first | ((with_reducible refine o_id ?_); (conv => arg 1; whnf); first | (with_reducible exact o_nil) | (with_reducible refine o_cons ?_ ?_)) | rfl))
  by_cases hlt : z < g.arrs.length
  · repeat' (first | (((with_reducible refine g_id ?_); (conv => arg 3; whnf)); first | (with_reducible refine g_cond lay_ok 400 ?_ ?_ ?_) | (with_reducible refine g_fin ?_ ?_) | (refine g_flow 11 lay_ok mixed_ok 400 0 [0, 1, 0, 7, 15, 0, 32, 0, 224, 480, 1023] (.q 0 (.q 1 (.q 2 (.q 3 (.q 4 (.q 5 (.q 6 (.q 7 (.q 8 (.q 9 (.q 10 .fin))))))))))) (by kernel_rfl) ?_ ?_)) | (((with_reducible refine w_id ?_); (conv => arg 4; whnf)); first | (with_reducible refine w_fin ?_ ?_) | (refine w_ev lay_ok 400 ?_ rfl (e_neAr rfl rfl rfl) rfl rfl rfl ?_)) | (with_reducible exact o_nil) | ((with_reducible refine o_id ?_); (conv => arg 1; whnf); first | (with_reducible exact o_nil) | (with_reducible refine o_cons ?_ ?_)) | (intro h; ((try simp only [Int.toNat_natCast] at h); repeat (first | replace h := of_decide_eq_true h | replace h := of_decide_eq_false h)); (try (first | (exfalso; omega)))) | omega)
    all_goals (refine q_round ⟨z + 1, by omega, by omega, ?_⟩; ((with_reducible refine s_id ?_); (conv => arg 1; whnf); (with_reducible refine s_some ?_); repeat' (first | ((with_reducible refine o_id ?_); (conv => arg 1; whnf); first | (with_reducible exact o_nil) | (with_reducible refine o_cons ?_ ?_)) | rfl)))
  have e : z = g.arrs.length := by omega
  subst e
  clear hlt
  repeat' (first | (((with_reducible refine g_id ?_); (conv => arg 3; whnf)); first | (with_reducible refine g_cond lay_ok 400 ?_ ?_ ?_) | (with_reducible refine g_fin ?_ ?_)) | (with_reducible refine q_leave lay_ok 400 ?_) | (with_reducible exact o_nil) | ((with_reducible refine o_id ?_); (conv => arg 1; whnf); first | (with_reducible exact o_nil)) | (intro h; ((try simp only [Int.toNat_natCast] at h); repeat (first | replace h := of_decide_eq_true h | replace h := of_decide_eq_false h)); (try (first | (exfalso; omega)))))
  refine g_loop lay_ok 400 (Z := Nat) (fun z => z ≤ g.hds.length) (fun z => ⟨[(2, .ptr 10 0), (3, .ptr 11 0), (7, .int .i64 (z : Int))], [(0, .list .tmp .input g.inp), (1, .list .tmp .array g.arrs), (2, .list .tmp .block g.blks), (3, .list .tmp .ints g.pts), (4, .list .tmp .head g.hds), (5, .list .tmp .input g.inp), (6, .list .tmp .array g.arrs), (7, .list .tmp .block g.blks), (8, .list .tmp .ints g.pts), (9, .list .tmp .head g.hds), (10, .cells [.sl ⟨0, []⟩, .int .i64 g.vars, .int .i64 g.keep, .sl ⟨1, []⟩, .int .i64 g.shared, .sl ⟨2, []⟩, .sl ⟨3, []⟩, .sl ⟨4, []⟩]), (11, .cells [.sl ⟨5, []⟩, .int .i64 g.vars, .int .i64 g.keep, .sl ⟨6, []⟩, .int .i64 g.shared, .sl ⟨7, []⟩, .sl ⟨8, []⟩, .sl ⟨9, []⟩])], 12⟩) (fun z => g.hds.length - z) ?_ ⟨0, Nat.zero_le _, ?_⟩ (fun z hz => ?_)
  · repeat' (first | ((with_reducible refine o_id ?_); (conv => arg 1; whnf); first | (with_reducible exact o_nil)))
  · ((with_reducible refine s_id ?_); (conv => arg 1; whnf); (with_reducible refine s_some ?_); repeat' (first | ((with_reducible refine o_id ?_); (conv => arg 1; whnf); first | (with_reducible exact o_nil) | (with_reducible refine o_cons ?_ ?_)) | rfl))
  by_cases hlt : z < g.hds.length
  · repeat' (first | (((with_reducible refine g_id ?_); (conv => arg 3; whnf)); first | (with_reducible refine g_cond lay_ok 400 ?_ ?_ ?_) | (with_reducible refine g_fin ?_ ?_) | (refine g_flow 16 lay_ok mixed_ok 400 0 [0, 1, 0, 7, 15, 0, 32, 0, 224, 480, 1023] (.q 0 (.q 1 (.q 2 (.q 3 (.q 4 (.q 5 (.q 6 (.q 7 (.q 8 (.q 9 (.q 10 .fin))))))))))) (by kernel_rfl) ?_ ?_)) | (((with_reducible refine w_id ?_); (conv => arg 4; whnf)); first | (with_reducible refine w_fin ?_ ?_) | (refine w_ev lay_ok 400 ?_ rfl (e_neHe rfl rfl rfl) rfl rfl rfl ?_)) | (with_reducible exact o_nil) | ((with_reducible refine o_id ?_); (conv => arg 1; whnf); first | (with_reducible exact o_nil) | (with_reducible refine o_cons ?_ ?_)) | (intro h; ((try simp only [Int.toNat_natCast] at h); repeat (first | replace h := of_decide_eq_true h | replace h := of_decide_eq_false h)); (try (first | (exfalso; omega)))) | omega)
    all_goals (refine q_round ⟨z + 1, by omega, by omega, ?_⟩; ((with_reducible refine s_id ?_); (conv => arg 1; whnf); (with_reducible refine s_some ?_); repeat' (first | ((with_reducible refine o_id ?_); (conv => arg 1; whnf); first | (with_reducible exact o_nil) | (with_reducible refine o_cons ?_ ?_)) | rfl)))
  have e : z = g.hds.length := by omega
  subst e
  clear hlt
  repeat' (first | (((with_reducible refine g_id ?_); (conv => arg 3; whnf)); first | (with_reducible refine g_cond lay_ok 400 ?_ ?_ ?_) | (with_reducible refine g_fin ?_ ?_)) | (with_reducible refine q_leave lay_ok 400 ?_) | (with_reducible exact o_nil) | ((with_reducible refine o_id ?_); (conv => arg 1; whnf); first | (with_reducible exact o_nil)) | (intro h; ((try simp only [Int.toNat_natCast] at h); repeat (first | replace h := of_decide_eq_true h | replace h := of_decide_eq_false h)); (try (first | (exfalso; omega)))))
  refine g_loop lay_ok 400 (Z := Nat) (fun z => z ≤ g.blks.length) (fun z => ⟨[(2, .ptr 10 0), (3, .ptr 11 0), (8, .int .i64 (z : Int))], [(0, .list .tmp .input g.inp), (1, .list .tmp .array g.arrs), (2, .list .tmp .block g.blks), (3, .list .tmp .ints g.pts), (4, .list .tmp .head g.hds), (5, .list .tmp .input g.inp), (6, .list .tmp .array g.arrs), (7, .list .tmp .block g.blks), (8, .list .tmp .ints g.pts), (9, .list .tmp .head g.hds), (10, .cells [.sl ⟨0, []⟩, .int .i64 g.vars, .int .i64 g.keep, .sl ⟨1, []⟩, .int .i64 g.shared, .sl ⟨2, []⟩, .sl ⟨3, []⟩, .sl ⟨4, []⟩]), (11, .cells [.sl ⟨5, []⟩, .int .i64 g.vars, .int .i64 g.keep, .sl ⟨6, []⟩, .int .i64 g.shared, .sl ⟨7, []⟩, .sl ⟨8, []⟩, .sl ⟨9, []⟩])], 12⟩) (fun z => g.blks.length - z) ?_ ⟨0, Nat.zero_le _, ?_⟩ (fun i hi => ?_)
  · repeat' (first | ((with_reducible refine o_id ?_); (conv => arg 1; whnf); first | (with_reducible exact o_nil)))
  · ((with_reducible refine s_id ?_); (conv => arg 1; whnf); (with_reducible refine s_some ?_); repeat' (first | ((with_reducible refine o_id ?_); (conv => arg 1; whnf); first | (with_reducible exact o_nil) | (with_reducible refine o_cons ?_ ?_)) | rfl))
  by_cases hlt : i < g.blks.length
  · have ho := h7 _ (mem_gt (c := .block) hlt)
    have hn := h8 _ (mem_gt (c := .block) hlt)
    repeat' (first | (((with_reducible refine g_id ?_); (conv => arg 3; whnf)); first | (with_reducible refine g_split lay_ok 400 ?_ ?_ ?_) | (with_reducible refine g_cond lay_ok 400 ?_ ?_ ?_) | (with_reducible refine g_fin ?_ ?_) | (refine g_call lay_ok 400 ?_ ?_ ?_ (r_sameI ?_ ?_) rfl) | (refine g_flow 21 lay_ok mixed_ok 400 15360 [0, 1, 0, 7, 15, 0, 32, 0, 224, 480, 0, 0, 3103, 8191] (.q 0 (.q 1 (.q 2 (.q 3 (.q 4 (.q 5 (.q 6 (.q 7 (.q 8 (.q 9 (.e 10 [0, 1, 2, 3, 4, 5, 6, 7, 8, 9] (.e 11 [0, 1, 2, 3, 4, 5, 6, 7, 8, 9] (.e 12 [5, 6, 7, 8, 9] (.e 13 [] (.fin) .stop) .stop) .stop) (.e 11 [0, 1, 2, 3, 4, 5, 6, 7, 8, 9] (.e 10 [0, 1, 2, 3, 4, 5, 6, 7, 8, 9] (.e 12 [5, 6, 7, 8, 9] (.e 13 [] (.fin) .stop) .stop) .stop) .stop)))))))))))) (by kernel_rfl) ?_ ?_)) | (((with_reducible refine w_id ?_); (conv => arg 4; whnf)); first | (with_reducible refine w_fin ?_ ?_) | (with_reducible refine w_tt ?_) | (with_reducible refine w_eff lay_ok 400 ?_ rfl rfl ?_ ?_)) | (with_reducible refine q_flow ?_ ?_) | ((with_reducible refine h_id ?_); (conv => arg 1; whnf); (with_reducible refine s_some ?_)) | (with_reducible exact o_nil) | ((with_reducible refine o_id ?_); (conv => arg 1; whnf); first | (with_reducible exact o_nil) | (with_reducible refine o_cons ?_ ?_)) | (intro h; ((try simp only [Int.toNat_natCast] at h); repeat (first | replace h := of_decide_eq_true h | replace h := of_decide_eq_false h | replace h := not_t h | replace h := not_f h)); (try (first | contradiction | (exfalso; omega)))) | rfl | omega | assumption)
    all_goals
      refine g_loop lay_ok 400 (Z := Nat) (fun z => z ≤ (gt (c := .block) g.blks i).ops.length) (fun z => ⟨[(2, .ptr 10 0), (3, .ptr 11 0), (8, .int .i64 (i : Int)), (9, .ptr 12 0), (10, .ptr 13 0), (11, .int .i64 (z : Int))], [(0, .list .tmp .input g.inp), (1, .list .tmp .array g.arrs), (2, .list .tmp .block g.blks), (3, .list .tmp .ints g.pts), (4, .list .tmp .head g.hds), (5, .list .tmp .input g.inp), (6, .list .tmp .array g.arrs), (7, .list .tmp .block g.blks), (8, .list .tmp .ints g.pts), (9, .list .tmp .head g.hds), (10, .cells [.sl ⟨0, []⟩, .int .i64 g.vars, .int .i64 g.keep, .sl ⟨1, []⟩, .int .i64 g.shared, .sl ⟨2, []⟩, .sl ⟨3, []⟩, .sl ⟨4, []⟩]), (11, .cells [.sl ⟨5, []⟩, .int .i64 g.vars, .int .i64 g.keep, .sl ⟨6, []⟩, .int .i64 g.shared, .sl ⟨7, []⟩, .sl ⟨8, []⟩, .sl ⟨9, []⟩]), (12, .cells [.sl ⟨2, [(i, 0)]⟩, .int .i64 (gt (c := .block) g.blks i).cond, .sl ⟨2, [(i, 2)]⟩]), (13, .cells [.sl ⟨7, [(i, 0)]⟩, .int .i64 (gt (c := .block) g.blks i).cond, .sl ⟨7, [(i, 2)]⟩])], 14⟩) (fun z => (gt (c := .block) g.blks i).ops.length - z) ?_ ⟨0, Nat.zero_le _, ?_⟩ (fun z hz => ?_)
      · repeat' (first | ((with_reducible refine o_id ?_); (conv => arg 1; whnf); first | (with_reducible exact o_nil)))
      · ((with_reducible refine s_id ?_); (conv => arg 1; whnf); (with_reducible refine s_some ?_); repeat' (first | ((with_reducible refine o_id ?_); (conv => arg 1; whnf); first | (with_reducible exact o_nil) | (with_reducible refine o_cons ?_ ?_)) | rfl))
      by_cases hk : z < (gt (c := .block) g.blks i).ops.length
      · repeat' (first | (((with_reducible refine g_id ?_); (conv => arg 3; whnf)); first | (with_reducible refine g_cond lay_ok 400 ?_ ?_ ?_) | (with_reducible refine g_fin ?_ ?_) | (refine g_flow 27 lay_ok mixed_ok 400 0 [0, 1, 0, 7, 15, 0, 32, 0, 224, 480, 1023] (.q 0 (.q 1 (.q 2 (.q 3 (.q 4 (.q 5 (.q 6 (.q 7 (.q 8 (.q 9 (.q 10 .fin))))))))))) (by kernel_rfl) ?_ ?_)) | (((with_reducible refine w_id ?_); (conv => arg 4; whnf)); first | (with_reducible refine w_fin ?_ ?_) | (refine w_ev lay_ok 400 ?_ rfl (e_neOp rfl rfl rfl) rfl rfl rfl ?_)) | (with_reducible exact o_nil) | ((with_reducible refine o_id ?_); (conv => arg 1; whnf); first | (with_reducible exact o_nil) | (with_reducible refine o_cons ?_ ?_)) | (intro h; ((try simp only [Int.toNat_natCast] at h); repeat (first | replace h := of_decide_eq_true h | replace h := of_decide_eq_false h)); (try (first | (exfalso; omega)))) | omega)
        all_goals (refine q_round ⟨z + 1, by omega, by omega, ?_⟩; ((with_reducible refine s_id ?_); (conv => arg 1; whnf); (with_reducible refine s_some ?_); repeat' (first | ((with_reducible refine o_id ?_); (conv => arg 1; whnf); first | (with_reducible exact o_nil) | (with_reducible refine o_cons ?_ ?_)) | rfl)))
      · have e : z = (gt (c := .block) g.blks i).ops.length := by omega
        repeat' (first | (((with_reducible refine g_id ?_); (conv => arg 3; whnf)); first | (with_reducible refine g_cond lay_ok 400 ?_ ?_ ?_) | (with_reducible refine g_fin ?_ ?_)) | (with_reducible refine q_leave lay_ok 400 ?_) | (with_reducible exact o_nil) | ((with_reducible refine o_id ?_); (conv => arg 1; whnf); first | (with_reducible exact o_nil) | (with_reducible refine o_cons ?_ ?_)) | (intro h; ((try simp only [Int.toNat_natCast] at h); repeat (first | replace h := of_decide_eq_true h | replace h := of_decide_eq_false h)); (try (first | (exfalso; omega)))) | omega)
        all_goals (refine q_round ⟨i + 1, by omega, by omega, ?_⟩; ((with_reducible refine s_id ?_); (conv => arg 1; whnf); (with_reducible refine s_some ?_); repeat' (first | ((with_reducible refine o_id ?_); (conv => arg 1; whnf); first | (with_reducible exact o_nil) | (with_reducible refine o_cons ?_ ?_)) | rfl)))
  · have e : i = g.blks.length := by omega
    subst e
    repeat' (first | (((with_reducible refine g_id ?_); (conv => arg 3; whnf)); first | (with_reducible refine g_cond lay_ok 400 ?_ ?_ ?_) | (with_reducible refine g_fin ?_ ?_)) | (with_reducible refine q_leave lay_ok 400 ?_) | (with_reducible exact o_nil) | ((with_reducible refine o_id ?_); (conv => arg 1; whnf); first | (with_reducible exact o_nil)) | (intro h; ((try simp only [Int.toNat_natCast] at h); repeat (first | replace h := of_decide_eq_true h | replace h := of_decide_eq_false h)); (try (first | (exfalso; omega)))))
    all_goals (((with_reducible refine e_id ?_); (conv => whnf)); refine ⟨(), trivial, ?_⟩; ((with_reducible refine s_id ?_); (conv => arg 1; whnf); (with_reducible refine s_some ?_); repeat' (first | ((with_reducible refine o_id ?_); (conv => arg 1; whnf); first | (with_reducible exact o_nil) | (with_reducible refine o_cons ?_ ?_)) | rfl)))
end Go.Proofs.Ytonjbhdfimcedaa
namespace Go.Proofs.Ytonjbhdfimcedaa
open Go.RowKit
section
variable {x : Cx} {Q : Exit → St → Prop} {obs : List Prop} {K : List Kf} {all l : List Oper}
theorem g_wk (hL : LayOk x.P x.L) (fuel : Nat) {s t : St} (ho : AllP obs) (hs : SubG x.kb t s) (hk : Good x Q (run x fuel [] (.ops all l) K t)) : Good x Q (.ops obs all l K s) := by
  refine ⟨ho, ?_⟩
  have h1 := (run_ok hL hk).2
  exact ⟨fun g Q' V ac w hQ hr => by
    obtain ⟨V', hr'⟩ := (SubG_ok hs).run g V ac w hr
    exact h1.run g Q' V' ac w hQ hr'⟩
end
end Go.Proofs.Ytonjbhdfimcedaa
namespace Go.Proofs.Ytonjbhdfimcedaa
open Go.RowKit
def mapTo {c : Ty} (f : El c → El c) (l : List (El c)) (i : Nat) : List (El c) := (l.take i).map f ++ l.drop i
theorem mapTo_zero {c : Ty} {f : El c → El c} {l : List (El c)} : mapTo f l 0 = l := by unfold mapTo; simp
theorem mapTo_len {c : Ty} {f : El c → El c} {l : List (El c)} {i : Nat} : (mapTo f l i).length = l.length := by
  unfold mapTo; rw [List.length_append, List.length_map, List.length_take, List.length_drop]; omega
theorem mapTo_full {c : Ty} {f : El c → El c} {l : List (El c)} : mapTo f l l.length = l.map f := by unfold mapTo; simp
theorem mapTo_at {c : Ty} {f : El c → El c} {l : List (El c)} {i : Nat} (h : i < l.length) : (mapTo f l i)[i]? = l[i]? := by
  unfold mapTo
  rw [List.getElem?_append_right (by rw [List.length_map, List.length_take]; omega), List.getElem?_drop, List.length_map, List.length_take]
  congr 1; omega
theorem gt_mapTo {c : Ty} {f : El c → El c} {l : List (El c)} {i : Nat} (h : i < l.length) : gt (mapTo f l i) i = gt l i := by
  rw [gt_eq (List.getElem?_eq_getElem h)]
  exact gt_eq (by rw [mapTo_at h, List.getElem?_eq_getElem h])
theorem mapTo_set {c : Ty} {f : El c → El c} {l : List (El c)} {i : Nat} (h : i < l.length) : (mapTo f l i).set i (f (gt l i)) = mapTo f l (i + 1) := by
  unfold mapTo
  have hl : ((l.take i).map f).length = i := by rw [List.length_map, List.length_take]; omega
  have hd : l.drop i = gt l i :: l.drop (i + 1) := by
    rw [List.drop_eq_getElem_cons h, gt_eq (List.getElem?_eq_getElem h)]
  rw [List.set_append_right _ _ (by omega), hl, Nat.sub_self, hd, List.set_cons_zero, take_snoc h, List.map_append, List.append_assoc]
  rfl
def osum : List Blk → Nat
  | [] => 0
  | x :: l => x.ops.length + osum l
theorem osum_app : ∀ (l m : List Blk), osum (l ++ m) = osum l + osum m
  | [], m => by simp [osum]
  | x :: l, m => by simp only [List.cons_append, osum, osum_app l m]; omega
theorem osum_mem {l : List Blk} {x : Blk} (h : x ∈ l) : x.ops.length ≤ osum l := by
  induction l with
  | nil => cases h
  | cons y l ih =>
    simp only [osum]
    rcases List.mem_cons.1 h with rfl | h
    · omega
    · have := ih h; omega
theorem opsN_take {l : List Blk} : ∀ {n : Nat}, n ≤ l.length → opsN l n = (osum (l.take n) : Int)
  | 0, _ => rfl
  | n + 1, h => by
    rw [opsN_succ, opsN_take (Nat.le_of_succ_le h), take_snoc (c := .block) h, osum_app]
    simp [osum]
theorem opsN_sum {l : List Blk} : opsN l l.length = (osum l : Int) := by rw [opsN_take (Nat.le_refl _), List.take_length]
structure Wf (g : Grf) : Prop where
  i : g.inp.length ≤ 1048576
  a : g.arrs.length ≤ 1048576
  b : 0 < g.blks.length ∧ g.blks.length ≤ 64
  p : g.pts.length ≤ 1048576
  h : g.hds.length ≤ 1048576
  s : osum g.blks ≤ 600
  n : ∀ x ∈ g.blks, x.next.length ≤ 2 ∧ ∀ n ∈ x.next, 0 ≤ n ∧ n < g.blks.length
  q : ∀ l ∈ g.pts, l.length ≤ 1048576 ∧ ∀ n ∈ l, 0 ≤ n ∧ n < g.blks.length
  k : ∀ x ∈ g.hds, 0 ≤ x.block ∧ x.block < g.blks.length
theorem Wf.bnd {g : Grf} (w : Wf g) : Bnd g :=
  ⟨w.i, w.a, by have := w.b; omega, w.p, w.h, by rw [opsN_sum]; have := w.s; omega, fun x hx => by have := osum_mem hx; have := w.s; omega, fun x hx => by have := (w.n x hx).1; omega, fun l hl => (w.q l hl).1⟩
theorem mem_at {c : Ty} {l : List (El c)} {x : El c} (h : x ∈ l) : ∃ i, i < l.length ∧ gt l i = x := by
  obtain ⟨i, hi, rfl⟩ := List.mem_iff_getElem.1 h
  exact ⟨i, hi, gt_eq (List.getElem?_eq_getElem hi)⟩
theorem chk_wf {g : Grf} (hB : Bnd g) (h : chkG g = 0) : Wf g := by
  unfold chkG at h
  split at h
  · exact absurd h (by decide)
  · rename_i hl
    split at h
    · rename_i ho
      unfold limG at hl
      unfold okG at ho
      simp only [Bool.and_eq_true, decide_eq_true_eq] at ho
      obtain ⟨o1, o2, o3, o4⟩ := ho
      have hb0 : 0 < g.blks.length := by
        rcases Nat.eq_zero_or_pos g.blks.length with e | e
        · rw [e, endsN_zero] at o2; exact absurd o2 (by decide)
        · exact e
      unfold namB at o4
      rw [Bool.and_eq_true] at o4
      obtain ⟨p1, p2⟩ := o4
      have hops := opsN_sum (l := g.blks)
      refine ⟨hB.i, hB.a, ⟨hb0, by omega⟩, hB.p, hB.h, by omega, fun x hx => ?_, fun x hx => ?_, fun x hx => ?_⟩
      · obtain ⟨i, hi, rfl⟩ := mem_at (c := .block) hx
        have h1 := allN_at o1 hi
        unfold blkB at h1
        simp only [Bool.and_eq_true, Bool.or_eq_true, decide_eq_true_eq] at h1
        obtain ⟨⟨_, h2⟩, h3⟩ := h1
        refine ⟨by omega, fun n hn => ?_⟩
        obtain ⟨j, hj, rfl⟩ := mem_at (c := .int) hn
        have h4 := of_decide_eq_true (allN_at h2 hj)
        unfold id at h4
        have q1 : @LE.le Int _ 1 (gt (c := .int) (gt (c := .block) g.blks i).next j) := h4.1
        exact ⟨Int.le_trans (by decide) q1, h4.2⟩
      · obtain ⟨i, hi, rfl⟩ := mem_at (c := .ints) hx
        refine ⟨hB.q _ hx, fun n hn => ?_⟩
        have h1 := allN_at p1 hi
        unfold ptB at h1
        obtain ⟨j, hj, rfl⟩ := mem_at (c := .int) hn
        have h2 := allN_at h1 hj
        unfold nodB at h2
        rw [Bool.and_eq_true] at h2
        exact of_decide_eq_true h2.1
      · obtain ⟨i, hi, rfl⟩ := mem_at (c := .head) hx
        have h1 := allN_at p2 hi
        unfold hdB at h1
        have h2 := of_decide_eq_true h1
        exact ⟨h2.1, h2.2.1⟩
    · exact absurd h (by decide)
def g00 : Grf := ⟨[], 0, 0, [], 0, [], [], []⟩
theorem g00_bnd : Bnd g00 := ⟨by decide, by decide, by decide, by decide, by decide, by decide, (fun b hb => by cases hb), (fun b hb => by cases hb), (fun b hb => by cases hb)⟩
end Go.Proofs.Ytonjbhdfimcedaa
namespace Go.Proofs.Ytonjbhdfimcedaa
open Go.RowKit
def tI (tt : List Int) (n : El .int) : El .int := gt (c := .int) tt (Int.toNat n)
def tP (tt : List Int) (x : El .ints) : El .ints := ((x : List Int).map (tI tt)).filter fun n => decide (0 ≤ n)
def tH (tt : List Int) (x : El .head) : El .head := (⟨tI tt x.block, x.max⟩ : Hd_)
def hP (h : Hd_) : Bool := decide (0 ≤ h.block)
def tB (tt : List Int) (x : Blk) : Blk := ⟨x.ops, x.cond, x.next.map (tI tt)⟩
def rnB (tt : List Int) (l : List Blk) : Nat → List Blk
  | 0 => []
  | i + 1 => if (gt (c := .int) tt i : Int) < 0 then rnB tt l i else rnB tt l i ++ [tB tt (gt (c := .block) l i)]
def rnP (tt : List Int) (l : List Int) (z : Nat) : List Int := ((l.take z).map (tI tt)).filter fun n => decide (0 ≤ n)
def rnH (tt : List Int) (l : List Hd_) (z : Nat) : List Hd_ := ((l.take z : List (El .head)).map (tH tt)).filter hP
def rnN (tt : List Int) (l : List Int) (z : Nat) : List Int := (l.take z).map (tI tt)
def rnm (g : Grf) (tt : List Int) : Grf := ⟨g.inp, g.vars, g.keep, g.arrs, g.shared, rnB tt g.blks g.blks.length, (g.pts : List (El .ints)).map (tP tt), ((g.hds : List (El .head)).map (tH tt) : List Hd_).filter hP⟩
theorem rnB_zero {tt : List Int} {l : List Blk} : rnB tt l 0 = [] := rfl
theorem rnB_no {tt : List Int} {l : List Blk} {i : Nat} (h : (gt (c := .int) tt i : Int) < 0) : rnB tt l (i + 1) = rnB tt l i := if_pos h
theorem rnB_yes {tt : List Int} {l : List Blk} {i : Nat} (h : ¬ (gt (c := .int) tt i : Int) < 0) : rnB tt l (i + 1) = rnB tt l i ++ [tB tt (gt (c := .block) l i)] := if_neg h
theorem rnB_len {tt : List Int} {l : List Blk} : ∀ i, (rnB tt l i).length ≤ i
  | 0 => Nat.le_refl _
  | i + 1 => by
    have := rnB_len (tt := tt) (l := l) i
    by_cases h : (gt (c := .int) tt i : Int) < 0
    · rw [rnB_no h]; omega
    · rw [rnB_yes h, List.length_append, List.length_cons, List.length_nil]; omega
theorem rnN_zero {tt l : List Int} : rnN tt l 0 = [] := rfl
theorem rnN_succ {tt l : List Int} {z : Nat} (h : z < l.length) : rnN tt l z ++ [tI tt (gt (c := .int) l z)] = rnN tt l (z + 1) := by
  unfold rnN; rw [take_snoc (c := .int) h, List.map_append]; rfl
theorem rnN_len {tt l : List Int} {z : Nat} : (rnN tt l z).length ≤ z := by unfold rnN; rw [List.length_map, List.length_take]; omega
theorem rnN_full {tt l : List Int} : rnN tt l l.length = l.map (tI tt) := by unfold rnN; rw [List.take_length]
theorem rnB_succ {tt : List Int} {l : List Blk} {i : Nat} (h : ¬ (gt (c := .int) tt i : Int) < 0) : rnB tt l i ++ [⟨(gt (c := .block) l i).ops, (gt (c := .block) l i).cond, rnN tt (gt (c := .block) l i).next (gt (c := .block) l i).next.length⟩] = rnB tt l (i + 1) := by
  rw [rnN_full]; exact (rnB_yes h).symm
theorem rnP_zero {tt l : List Int} : rnP tt l 0 = [] := rfl
theorem rnP_yes {tt l : List Int} {z : Nat} (h : z < l.length) (h2 : (0 : Int) ≤ tI tt (gt (c := .int) l z)) : rnP tt l z ++ [tI tt (gt (c := .int) l z)] = rnP tt l (z + 1) := by
  unfold rnP; rw [take_snoc (c := .int) h, List.map_append, List.filter_append]
  congr 1
  show _ = List.filter _ [tI tt (gt (c := .int) l z)]
  rw [List.filter_cons, if_pos (show decide ((0 : Int) ≤ tI tt (gt (c := .int) l z)) = true from decide_eq_true h2)]; rfl
theorem rnP_no {tt l : List Int} {z : Nat} (h : z < l.length) (h2 : ¬ (0 : Int) ≤ tI tt (gt (c := .int) l z)) : rnP tt l z = rnP tt l (z + 1) := by
  unfold rnP; rw [take_snoc (c := .int) h, List.map_append, List.filter_append]
  have e : List.filter (fun n => decide (0 ≤ n)) (List.map (tI tt) [gt (c := .int) l z]) = [] := by
    show List.filter _ [tI tt (gt (c := .int) l z)] = []
    rw [List.filter_cons, if_neg (show ¬ decide ((0 : Int) ≤ tI tt (gt (c := .int) l z)) = true from fun q => h2 (of_decide_eq_true q))]; rfl
  rw [e, List.append_nil]
theorem rnP_len {tt l : List Int} {z : Nat} : (rnP tt l z).length ≤ z := by
  unfold rnP
  refine Nat.le_trans (List.length_filter_le _ _) ?_
  rw [List.length_map, List.length_take]; omega
theorem rnP_full {tt l : List Int} : rnP tt l l.length = tP tt l := by unfold rnP tP; rw [List.take_length]
theorem rnH_zero {tt : List Int} {l : List Hd_} : rnH tt l 0 = [] := rfl
theorem rnH_yes {tt : List Int} {l : List Hd_} {z : Nat} (h : z < l.length) (h2 : (0 : Int) ≤ tI tt (gt (c := .head) l z).block) : rnH tt l z ++ [⟨tI tt (gt (c := .head) l z).block, (gt (c := .head) l z).max⟩] = rnH tt l (z + 1) := by
  unfold rnH; rw [take_snoc (c := .head) h, List.map_append, List.filter_append]
  congr 1
  show _ = List.filter _ [tH tt (gt (c := .head) l z)]
  rw [List.filter_cons, if_pos (show hP (tH tt (gt (c := .head) l z)) = true from decide_eq_true h2)]; rfl
theorem rnH_no {tt : List Int} {l : List Hd_} {z : Nat} (h : z < l.length) (h2 : ¬ (0 : Int) ≤ tI tt (gt (c := .head) l z).block) : rnH tt l z = rnH tt l (z + 1) := by
  unfold rnH; rw [take_snoc (c := .head) h, List.map_append, List.filter_append]
  have e : List.filter hP (List.map (tH tt) [gt (c := .head) l z]) = [] := by
    show List.filter _ [tH tt (gt (c := .head) l z)] = []
    rw [List.filter_cons, if_neg (show ¬ hP (tH tt (gt (c := .head) l z)) = true from fun q => h2 (of_decide_eq_true q))]; rfl
  rw [e, List.append_nil]
theorem rnH_len {tt : List Int} {l : List Hd_} {z : Nat} : (rnH tt l z).length ≤ z := by
  unfold rnH
  refine Nat.le_trans (List.length_filter_le _ _) ?_
  rw [List.length_map, List.length_take]; omega
theorem rnH_full {tt : List Int} {l : List Hd_} : rnH tt l l.length = ((l : List (El .head)).map (tH tt) : List Hd_).filter hP := by unfold rnH; rw [List.take_length]
attribute [local irreducible] mapTo rnB rnP rnH rnN
set_option maxHeartbeats 4000000 in
theorem r_rnm (g : Grf) (tt : List Int) (hB : Bnd g) (ht : tt.length = g.blks.length) (hn : ∀ x ∈ g.blks, ∀ n ∈ x.next, 0 ≤ n ∧ n < tt.length) (hp : ∀ x ∈ g.pts, ∀ n ∈ x, 0 ≤ n ∧ n < tt.length) (hh : ∀ x ∈ g.hds, 0 ≤ x.block ∧ x.block < tt.length) : Trip Try.prog 74 [.agg [.sl ⟨0, []⟩, .int .i64 g.vars, .int .i64 g.keep, .sl ⟨1, []⟩, .int .i64 g.shared, .sl ⟨2, []⟩, .sl ⟨3, []⟩, .sl ⟨4, []⟩], .sl ⟨5, []⟩] ⟨[], [(0, .list .tmp .input g.inp), (1, .list .tmp .array g.arrs), (2, .list .tmp .block g.blks), (3, .list .tmp .ints g.pts), (4, .list .tmp .head g.hds), (5, .list .tmp .int tt)], 6⟩ (Z := Unit) (fun _ => True) (fun _ => .agg [.sl ⟨6, []⟩, .int .i64 g.vars, .int .i64 g.keep, .sl ⟨7, []⟩, .int .i64 g.shared, .sl ⟨8, []⟩, .sl ⟨9, []⟩, .sl ⟨10, []⟩]) (fun _ => ⟨[], [(0, .list .tmp .input g.inp), (1, .list .tmp .array g.arrs), (2, .list .tmp .block g.blks), (3, .list .tmp .ints g.pts), (4, .list .tmp .head g.hds), (5, .list .tmp .int tt), (6, .list .own .input g.inp), (7, .list .own .array g.arrs), (8, .list .own .block (rnm g tt).blks), (9, .list .own .ints (rnm g tt).pts), (10, .list .own .head (rnm g tt).hds)], 11⟩) := by
  have hB0 := hB
  obtain ⟨h1, h2, h3, h4, h5, h6, h7, h8, h9⟩ := hB
  refine trip_by (rs := [_]) 400 lay_ok Try.func74 rfl (by kernel_rfl) Try.ntmps74 Try.results74 rfl rfl ?_
  repeat' (first | (((with_reducible refine g_id ?_); (conv => arg 3; whnf)); first | (refine g_call lay_ok 400 ?_ ?_ ?_ (r_copy ?_ ?_) rfl)) | ((with_reducible refine o_id ?_); (conv => arg 1; whnf); first | (with_reducible exact o_nil) | (with_reducible refine o_cons ?_ ?_)) | (intro h; ((try simp only [Int.toNat_natCast] at h); repeat (first | replace h := of_decide_eq_true h)); (try (first | contradiction))) | rfl | omega)
  refine g_loop lay_ok 400 (Z := Nat) (fun z => z ≤ g.blks.length) (fun z => ⟨[(1, .sl ⟨5, []⟩), (2, .ptr 6 0), (4, .ptr 7 0), (5, .ptr 8 0), (6, .int .i64 (z : Int))], [(0, .list .tmp .input g.inp), (1, .list .tmp .array g.arrs), (2, .list .tmp .block g.blks), (3, .list .tmp .ints g.pts), (4, .list .tmp .head g.hds), (5, .list .tmp .int tt), (6, .cells [.sl ⟨0, []⟩, .int .i64 g.vars, .int .i64 g.keep, .sl ⟨1, []⟩, .int .i64 g.shared, .sl ⟨2, []⟩, .sl ⟨3, []⟩, .sl ⟨4, []⟩]), (7, .cells [.val (.slice none 0 0), .int .i64 0, .int .i64 0, .val (.slice none 0 0), .int .i64 0, .val (.slice none 0 0), .val (.slice none 0 0), .val (.slice none 0 0)]), (8, .cells [.sl ⟨9, []⟩, .int .i64 g.vars, .int .i64 g.keep, .sl ⟨10, []⟩, .int .i64 g.shared, .sl ⟨11, []⟩, .sl ⟨12, []⟩, .val (.slice none 0 0)]), (9, .list .own .input g.inp), (10, .list .own .array g.arrs), (11, .list .own .block (rnB tt g.blks z)), (12, .list .own .ints (g.pts))], 13⟩) (fun z => g.blks.length - z) ?_ ⟨0, Nat.zero_le _, ?_⟩ (fun i hi => ?_)
  · repeat' (first | ((with_reducible refine o_id ?_); (conv => arg 1; whnf); first | (with_reducible exact o_nil)))
  · ((with_reducible refine s_id ?_); (conv => arg 1; whnf); (with_reducible refine s_some ?_); repeat' (first | ((with_reducible refine o_id ?_); (conv => arg 1; whnf); first | (with_reducible exact o_nil) | (with_reducible refine o_cons ?_ ?_)) | rfl | (exact rnB_zero)))
  have hrl := rnB_len (tt := tt) (l := g.blks) i
  by_cases hlt : i < g.blks.length
  · have hnl := h8 _ (mem_gt (c := .block) hlt)
    have hol := h7 _ (mem_gt (c := .block) hlt)
    have hnn := hn _ (mem_gt (c := .block) hlt)
    repeat' (first | (((with_reducible refine g_id ?_); (conv => arg 3; whnf)); first | (with_reducible refine g_cond lay_ok 400 ?_ ?_ ?_) | (with_reducible refine g_fin ?_ ?_)) | ((with_reducible refine o_id ?_); (conv => arg 1; whnf); first | (with_reducible exact o_nil) | (with_reducible refine o_cons ?_ ?_)) | (intro h; ((try simp only [Int.toNat_natCast] at h); repeat (first | replace h := of_decide_eq_true h | replace h := of_decide_eq_false h)); (try (first | (exfalso; omega)))) | omega)
    · all_goals (refine q_round ⟨i + 1, by omega, by omega, ?_⟩; ((with_reducible refine s_id ?_); (conv => arg 1; whnf); (with_reducible refine s_some ?_); repeat' (first | ((with_reducible refine o_id ?_); (conv => arg 1; whnf); first | (with_reducible exact o_nil) | (with_reducible refine o_cons ?_ ?_)) | rfl | (exact rnB_no h))))
    refine g_loop lay_ok 400 (Z := Nat) (fun z => z ≤ (gt (c := .block) g.blks i).next.length) (fun z => ⟨[(1, .sl ⟨5, []⟩), (2, .ptr 6 0), (4, .ptr 7 0), (5, .ptr 8 0), (6, .int .i64 (i : Int)), (7, .ptr 13 0), (8, .sl ⟨14, []⟩), (9, .int .i64 (z : Int))], [(0, .list .tmp .input g.inp), (1, .list .tmp .array g.arrs), (2, .list .tmp .block g.blks), (3, .list .tmp .ints g.pts), (4, .list .tmp .head g.hds), (5, .list .tmp .int tt), (6, .cells [.sl ⟨0, []⟩, .int .i64 g.vars, .int .i64 g.keep, .sl ⟨1, []⟩, .int .i64 g.shared, .sl ⟨2, []⟩, .sl ⟨3, []⟩, .sl ⟨4, []⟩]), (7, .cells [.val (.slice none 0 0), .int .i64 0, .int .i64 0, .val (.slice none 0 0), .int .i64 0, .val (.slice none 0 0), .val (.slice none 0 0), .val (.slice none 0 0)]), (8, .cells [.sl ⟨9, []⟩, .int .i64 g.vars, .int .i64 g.keep, .sl ⟨10, []⟩, .int .i64 g.shared, .sl ⟨11, []⟩, .sl ⟨12, []⟩, .val (.slice none 0 0)]), (9, .list .own .input g.inp), (10, .list .own .array g.arrs), (11, .list .own .block (rnB tt g.blks i)), (12, .list .own .ints (g.pts)), (13, .cells [.sl ⟨2, [(i, 0)]⟩, .int .i64 (gt (c := .block) g.blks i).cond, .sl ⟨2, [(i, 2)]⟩]), (14, .list .own .int (rnN tt (gt (c := .block) g.blks i).next z))], 15⟩) (fun z => (gt (c := .block) g.blks i).next.length - z) ?_ ⟨0, Nat.zero_le _, ?_⟩ (fun z hz => ?_)
    · repeat' (first | ((with_reducible refine o_id ?_); (conv => arg 1; whnf); first | (with_reducible exact o_nil) | (with_reducible refine o_cons ?_ ?_)) | omega)
    · ((with_reducible refine s_id ?_); (conv => arg 1; whnf); (with_reducible refine s_some ?_); repeat' (first | ((with_reducible refine o_id ?_); (conv => arg 1; whnf); first | (with_reducible exact o_nil) | (with_reducible refine o_cons ?_ ?_)) | rfl | (exact rnN_zero)))
    have hzl := rnN_len (tt := tt) (l := (gt (c := .block) g.blks i).next) (z := z)
    by_cases hk : z < (gt (c := .block) g.blks i).next.length
    · have hv := hnn _ (mem_gt (c := .int) hk)
      repeat' (first | (((with_reducible refine g_id ?_); (conv => arg 3; whnf)); first | (with_reducible refine g_cond lay_ok 400 ?_ ?_ ?_) | (with_reducible refine g_fin ?_ ?_)) | ((with_reducible refine o_id ?_); (conv => arg 1; whnf); first | (with_reducible exact o_nil) | (with_reducible refine o_cons ?_ ?_)) | (intro h; ((try simp only [Int.toNat_natCast] at h); repeat (first | replace h := of_decide_eq_true h | replace h := of_decide_eq_false h)); (try (first | (exfalso; omega)))) | omega | (simp only [List.length_append, List.length_cons, List.length_nil]; omega) | (simp only [Int.toNat_natCast]; omega))
      all_goals (refine q_round ⟨z + 1, by omega, by omega, ?_⟩; ((with_reducible refine s_id ?_); (conv => arg 1; whnf); (with_reducible refine s_some ?_); repeat' (first | ((with_reducible refine o_id ?_); (conv => arg 1; whnf); first | (with_reducible exact o_nil) | (with_reducible refine o_cons ?_ ?_)) | rfl | (exact (rnN_succ hk).symm))))
    · have e : z = (gt (c := .block) g.blks i).next.length := by omega
      subst e
      repeat' (first | (((with_reducible refine g_id ?_); (conv => arg 3; whnf)); first | (with_reducible refine g_cond lay_ok 400 ?_ ?_ ?_) | (with_reducible refine g_fin ?_ ?_) | (refine g_flow 13 lay_ok mixed_ok 400 11300 [0, 1, 0, 0, 8, 28, 0, 64, 0, 508, 1020, 2047, 4095, 8191] (.q 0 (.q 1 (.q 3 (.q 4 (.q 6 (.q 7 (.q 8 (.e 2 [0, 1, 3, 4, 6, 7, 8] (.e 5 [0, 1, 6, 7, 8] (.q 9 (.e 10 [0, 1] (.e 11 [] (.q 12 (.e 13 [] (.fin) .stop)) .stop) .stop)) .stop) .stop)))))))) (by kernel_rfl) ?_ ?_)) | (((with_reducible refine w_id ?_); (conv => arg 4; whnf)); first | (with_reducible refine w_fin ?_ ?_) | (with_reducible refine w_tt ?_) | (with_reducible refine w_eff lay_ok 400 ?_ rfl rfl ?_ ?_)) | (with_reducible refine q_flow ?_ ?_) | ((with_reducible refine h_id ?_); (conv => arg 1; whnf); (with_reducible refine s_some ?_)) | (with_reducible refine q_leave lay_ok 400 ?_) | (with_reducible exact o_nil) | ((with_reducible refine o_id ?_); (conv => arg 1; whnf); first | (with_reducible exact o_nil) | (with_reducible refine o_cons ?_ ?_)) | (intro h; ((try simp only [Int.toNat_natCast] at h); repeat (first | replace h := of_decide_eq_true h | replace h := of_decide_eq_false h)); (try (first | (exfalso; omega)))) | rfl | omega | (simp only [List.length_append, List.length_cons, List.length_nil]; omega))
      all_goals (refine q_round ⟨i + 1, by omega, by omega, ?_⟩; ((with_reducible refine s_id ?_); (conv => arg 1; whnf); (with_reducible refine s_some ?_); repeat' (first | ((with_reducible refine o_id ?_); (conv => arg 1; whnf); first | (with_reducible exact o_nil) | (with_reducible refine o_cons ?_ ?_)) | rfl | (exact (rnB_succ (by assumption)).symm))))
  · have e : i = g.blks.length := by omega
    subst e
    have hmz := mapTo_zero (c := .ints) (f := tP tt) (l := g.pts)
    repeat' (first | (((with_reducible refine g_id ?_); (conv => arg 3; whnf)); first | (with_reducible refine g_cond lay_ok 400 ?_ ?_ ?_) | (with_reducible refine g_fin ?_ ?_)) | (with_reducible refine q_leave lay_ok 400 ?_) | (with_reducible exact o_nil) | ((with_reducible refine o_id ?_); (conv => arg 1; whnf); first | (with_reducible exact o_nil)) | (intro h; ((try simp only [Int.toNat_natCast] at h); repeat (first | replace h := of_decide_eq_true h | replace h := of_decide_eq_false h)); (try (first | (exfalso; omega)))))
    refine g_loop lay_ok 400 (Z := Nat) (fun z => z ≤ g.hds.length) (fun z => ⟨[(1, .sl ⟨5, []⟩), (2, .ptr 6 0), (4, .ptr 7 0), (5, .ptr 8 0), (10, .int .i64 (z : Int))], [(0, .list .tmp .input g.inp), (1, .list .tmp .array g.arrs), (2, .list .tmp .block g.blks), (3, .list .tmp .ints g.pts), (4, .list .tmp .head g.hds), (5, .list .tmp .int tt), (6, .cells [.sl ⟨0, []⟩, .int .i64 g.vars, .int .i64 g.keep, .sl ⟨1, []⟩, .int .i64 g.shared, .sl ⟨2, []⟩, .sl ⟨3, []⟩, .sl ⟨4, []⟩]), (7, .cells [.val (.slice none 0 0), .int .i64 0, .int .i64 0, .val (.slice none 0 0), .int .i64 0, .val (.slice none 0 0), .val (.slice none 0 0), .val (.slice none 0 0)]), (8, .cells [.sl ⟨9, []⟩, .int .i64 g.vars, .int .i64 g.keep, .sl ⟨10, []⟩, .int .i64 g.shared, .sl ⟨11, []⟩, .sl ⟨12, []⟩, .sl ⟨13, []⟩]), (9, .list .own .input g.inp), (10, .list .own .array g.arrs), (11, .list .own .block (rnB tt g.blks g.blks.length)), (12, .list .own .ints (g.pts)), (13, .list .own .head (rnH tt g.hds z))], 14⟩) (fun z => g.hds.length - z) ?_ ⟨0, Nat.zero_le _, ?_⟩ (fun z hz => ?_)
    · repeat' (first | ((with_reducible refine o_id ?_); (conv => arg 1; whnf); first | (with_reducible exact o_nil)))
    · ((with_reducible refine s_id ?_); (conv => arg 1; whnf); (with_reducible refine s_some ?_); repeat' (first | ((with_reducible refine o_id ?_); (conv => arg 1; whnf); first | (with_reducible exact o_nil) | (with_reducible refine o_cons ?_ ?_)) | rfl | (exact rnH_zero)))
    have hzl := rnH_len (tt := tt) (l := g.hds) (z := z)
    by_cases hk : z < g.hds.length
    · have hv := hh _ (mem_gt (c := .head) hk)
      repeat' (first | (((with_reducible refine g_id ?_); (conv => arg 3; whnf)); first | (with_reducible refine g_cond lay_ok 400 ?_ ?_ ?_) | (with_reducible refine g_fin ?_ ?_) | (refine g_flow 19 lay_ok mixed_ok 400 11264 [0, 1, 0, 0, 8, 0, 56, 120, 248, 508, 1020, 2047, 4095, 8191] (.q 0 (.q 1 (.q 2 (.q 3 (.q 4 (.q 5 (.q 6 (.q 7 (.q 8 (.q 9 (.e 10 [0, 1] (.e 11 [] (.q 12 (.e 13 [] (.fin) .stop)) .stop) .stop))))))))))) (by kernel_rfl) ?_ ?_)) | (((with_reducible refine w_id ?_); (conv => arg 4; whnf)); first | (with_reducible refine w_fin ?_ ?_) | (with_reducible refine w_tt ?_) | (with_reducible refine w_eff lay_ok 400 ?_ rfl rfl ?_ ?_)) | (with_reducible refine q_flow ?_ ?_) | ((with_reducible refine h_id ?_); (conv => arg 1; whnf); (with_reducible refine s_some ?_)) | (with_reducible exact o_nil) | ((with_reducible refine o_id ?_); (conv => arg 1; whnf); first | (with_reducible exact o_nil) | (with_reducible refine o_cons ?_ ?_)) | (intro h; ((try simp only [Int.toNat_natCast] at h); repeat (first | replace h := of_decide_eq_true h | replace h := of_decide_eq_false h)); (try (first | (exfalso; omega)))) | omega | (simp only [List.length_append, List.length_cons, List.length_nil]; omega) | (simp only [Int.toNat_natCast]; omega))
      all_goals (refine q_round ⟨z + 1, by omega, by omega, ?_⟩; ((with_reducible refine s_id ?_); (conv => arg 1; whnf); (with_reducible refine s_some ?_); repeat' (first | ((with_reducible refine o_id ?_); (conv => arg 1; whnf); first | (with_reducible exact o_nil) | (with_reducible refine o_cons ?_ ?_)) | rfl | (exact (rnH_yes hk (by assumption)).symm) | (exact (rnH_no hk (by assumption)).symm))))
    · have e : z = g.hds.length := by omega
      subst e
      repeat' (first | (((with_reducible refine g_id ?_); (conv => arg 3; whnf)); first | (with_reducible refine g_cond lay_ok 400 ?_ ?_ ?_) | (with_reducible refine g_fin ?_ ?_)) | (with_reducible refine q_leave lay_ok 400 ?_) | (with_reducible exact o_nil) | ((with_reducible refine o_id ?_); (conv => arg 1; whnf); first | (with_reducible exact o_nil)) | (intro h; ((try simp only [Int.toNat_natCast] at h); repeat (first | replace h := of_decide_eq_true h | replace h := of_decide_eq_false h)); (try (first | (exfalso; omega)))))
      refine g_loop lay_ok 400 (Z := Nat) (fun z => z ≤ g.pts.length) (fun z => ⟨[(1, .sl ⟨5, []⟩), (2, .ptr 6 0), (4, .ptr 7 0), (5, .ptr 8 0), (12, .int .i64 (z : Int))], [(0, .list .tmp .input g.inp), (1, .list .tmp .array g.arrs), (2, .list .tmp .block g.blks), (3, .list .tmp .ints g.pts), (4, .list .tmp .head g.hds), (5, .list .tmp .int tt), (6, .cells [.sl ⟨0, []⟩, .int .i64 g.vars, .int .i64 g.keep, .sl ⟨1, []⟩, .int .i64 g.shared, .sl ⟨2, []⟩, .sl ⟨3, []⟩, .sl ⟨4, []⟩]), (7, .cells [.val (.slice none 0 0), .int .i64 0, .int .i64 0, .val (.slice none 0 0), .int .i64 0, .val (.slice none 0 0), .val (.slice none 0 0), .val (.slice none 0 0)]), (8, .cells [.sl ⟨9, []⟩, .int .i64 g.vars, .int .i64 g.keep, .sl ⟨10, []⟩, .int .i64 g.shared, .sl ⟨11, []⟩, .sl ⟨12, []⟩, .sl ⟨13, []⟩]), (9, .list .own .input g.inp), (10, .list .own .array g.arrs), (11, .list .own .block (rnB tt g.blks g.blks.length)), (12, .list .own .ints (mapTo (c := .ints) (tP tt) g.pts z)), (13, .list .own .head (rnH tt g.hds g.hds.length))], 14⟩) (fun z => g.pts.length - z) ?_ ⟨0, Nat.zero_le _, ?_⟩ (fun i hi => ?_)
      · repeat' (first | ((with_reducible refine o_id ?_); (conv => arg 1; whnf); first | (with_reducible exact o_nil)))
      · ((with_reducible refine s_id ?_); (conv => arg 1; whnf); (with_reducible refine s_some ?_); repeat' (first | ((with_reducible refine o_id ?_); (conv => arg 1; whnf); first | (with_reducible exact o_nil) | (with_reducible refine o_cons ?_ ?_)) | rfl | omega))
      have hm := mapTo_len (c := .ints) (f := tP tt) (l := g.pts) (i := i)
      by_cases hlt : i < g.pts.length
      · have hnl := h9 _ (mem_gt (c := .ints) hlt)
        have hnn := hp _ (mem_gt (c := .ints) hlt)
        repeat' (first | (((with_reducible refine g_id ?_); (conv => arg 3; whnf)); first | (with_reducible refine g_cond lay_ok 400 ?_ ?_ ?_)) | ((with_reducible refine o_id ?_); (conv => arg 1; whnf); first | (with_reducible exact o_nil)) | (intro h; ((try simp only [Int.toNat_natCast] at h); repeat (first | replace h := of_decide_eq_true h | replace h := of_decide_eq_false h)); (try (first | (exfalso; omega)))))
        refine g_loop lay_ok 400 (Z := Nat) (fun z => z ≤ (gt (c := .ints) g.pts i : List Int).length) (fun z => ⟨[(1, .sl ⟨5, []⟩), (2, .ptr 6 0), (4, .ptr 7 0), (5, .ptr 8 0), (12, .int .i64 (i : Int)), (13, .sl ⟨14, []⟩), (14, .int .i64 (z : Int))], [(0, .list .tmp .input g.inp), (1, .list .tmp .array g.arrs), (2, .list .tmp .block g.blks), (3, .list .tmp .ints g.pts), (4, .list .tmp .head g.hds), (5, .list .tmp .int tt), (6, .cells [.sl ⟨0, []⟩, .int .i64 g.vars, .int .i64 g.keep, .sl ⟨1, []⟩, .int .i64 g.shared, .sl ⟨2, []⟩, .sl ⟨3, []⟩, .sl ⟨4, []⟩]), (7, .cells [.val (.slice none 0 0), .int .i64 0, .int .i64 0, .val (.slice none 0 0), .int .i64 0, .val (.slice none 0 0), .val (.slice none 0 0), .val (.slice none 0 0)]), (8, .cells [.sl ⟨9, []⟩, .int .i64 g.vars, .int .i64 g.keep, .sl ⟨10, []⟩, .int .i64 g.shared, .sl ⟨11, []⟩, .sl ⟨12, []⟩, .sl ⟨13, []⟩]), (9, .list .own .input g.inp), (10, .list .own .array g.arrs), (11, .list .own .block (rnB tt g.blks g.blks.length)), (12, .list .own .ints (mapTo (c := .ints) (tP tt) g.pts i)), (13, .list .own .head (rnH tt g.hds g.hds.length)), (14, .list .own .int (rnP tt (gt (c := .ints) g.pts i) z))], 15⟩) (fun z => (gt (c := .ints) g.pts i : List Int).length - z) ?_ ⟨0, Nat.zero_le _, ?_⟩ (fun z hz => ?_)
        · repeat' (first | ((with_reducible refine o_id ?_); (conv => arg 1; whnf); first | (with_reducible exact o_nil)))
        · ((with_reducible refine s_id ?_); (conv => arg 1; whnf); (with_reducible refine s_some ?_); repeat' (first | ((with_reducible refine o_id ?_); (conv => arg 1; whnf); first | (with_reducible exact o_nil) | (with_reducible refine o_cons ?_ ?_)) | rfl | (exact rnP_zero)))
        have hzl := rnP_len (tt := tt) (l := gt (c := .ints) g.pts i) (z := z)
        by_cases hk2 : z < (gt (c := .ints) g.pts i : List Int).length
        · have hv := hnn _ (mem_gt (c := .int) hk2)
          repeat' (first | (((with_reducible refine g_id ?_); (conv => arg 3; whnf)); first | (with_reducible refine g_cond lay_ok 400 ?_ ?_ ?_) | (with_reducible refine g_fin ?_ ?_)) | ((with_reducible refine o_id ?_); (conv => arg 1; whnf); first | (with_reducible exact o_nil) | (with_reducible refine o_cons ?_ ?_)) | (intro h; ((try simp only [Int.toNat_natCast] at h); repeat (first | replace h := of_decide_eq_true h | replace h := of_decide_eq_false h)); (try (first | (exfalso; omega)))) | omega | assumption | (simp only [List.length_append, List.length_cons, List.length_nil]; omega) | (simp only [Int.toNat_natCast]; omega))
          all_goals (refine q_round ⟨z + 1, by omega, by omega, ?_⟩; ((with_reducible refine s_id ?_); (conv => arg 1; whnf); (with_reducible refine s_some ?_); repeat' (first | ((with_reducible refine o_id ?_); (conv => arg 1; whnf); first | (with_reducible exact o_nil) | (with_reducible refine o_cons ?_ ?_)) | rfl | (exact (rnP_yes hk2 (by assumption)).symm) | (exact (rnP_no hk2 (by assumption)).symm))))
        · have e : z = (gt (c := .ints) g.pts i : List Int).length := by omega
          subst e
          repeat' (first | (((with_reducible refine g_id ?_); (conv => arg 3; whnf)); first | (with_reducible refine g_cond lay_ok 400 ?_ ?_ ?_) | (with_reducible refine g_fin ?_ ?_) | (refine g_storeL lay_ok 400 ?_ rfl rfl ?_ ?_)) | (with_reducible refine q_leave lay_ok 400 ?_) | (with_reducible exact o_nil) | (with_reducible refine o_cons ?_ ?_) | ((with_reducible refine o_id ?_); (conv => arg 1; whnf); first | (with_reducible exact o_nil) | (with_reducible refine o_cons ?_ ?_)) | (intro h; ((try simp only [Int.toNat_natCast] at h); repeat (first | replace h := of_decide_eq_true h | replace h := of_decide_eq_false h)); (try (first | (exfalso; omega)))) | omega)
          all_goals (refine q_round ⟨i + 1, by omega, by omega, ?_⟩; ((with_reducible refine s_id ?_); (conv => arg 1; whnf); (with_reducible refine s_some ?_); repeat' (first | ((with_reducible refine o_id ?_); (conv => arg 1; whnf); first | (with_reducible exact o_nil) | (with_reducible refine o_cons ?_ ?_)) | rfl | (rw [rnP_full]; exact (mapTo_set (c := .ints) hlt).symm))))
      · have e : i = g.pts.length := by omega
        subst e
        have f1 : mapTo (c := .ints) (tP tt) g.pts g.pts.length = (rnm g tt).pts := mapTo_full (c := .ints)
        have f2 : rnH tt g.hds g.hds.length = (rnm g tt).hds := rnH_full
        repeat' (first | (((with_reducible refine g_id ?_); (conv => arg 3; whnf)); first | (with_reducible refine g_cond lay_ok 400 ?_ ?_ ?_) | (with_reducible refine g_fin ?_ ?_)) | (with_reducible refine q_leave lay_ok 400 ?_) | (with_reducible exact o_nil) | ((with_reducible refine o_id ?_); (conv => arg 1; whnf); first | (with_reducible exact o_nil)) | (intro h; ((try simp only [Int.toNat_natCast] at h); repeat (first | replace h := of_decide_eq_true h | replace h := of_decide_eq_false h)); (try (first | (exfalso; omega)))))
        all_goals (((with_reducible refine e_id ?_); (conv => whnf)); refine ⟨(), trivial, ?_⟩; ((with_reducible refine s_id ?_); (conv => arg 1; whnf); (with_reducible refine s_some ?_); repeat' (first | ((with_reducible refine o_id ?_); (conv => arg 1; whnf); first | (with_reducible exact o_nil) | (with_reducible refine o_cons ?_ ?_)) | rfl | (exact f1.symm) | (exact f2.symm))))
end Go.Proofs.Ytonjbhdfimcedaa
namespace Go.Proofs.Ytonjbhdfimcedaa
open Go.RowKit
def tbl {c : Ty} (f : Nat → El c) (n z : Nat) : List (El c) := (List.range z).map f ++ List.replicate (n - z) (dflt c)
theorem tbl_len {c : Ty} {f : Nat → El c} {n z : Nat} (h : z ≤ n) : (tbl f n z).length = n := by unfold tbl; rw [List.length_append, List.length_map, List.length_range, List.length_replicate]; omega
theorem tbl_set {c : Ty} {f : Nat → El c} {n z : Nat} (h : z < n) : (tbl f n z).set z (f z) = tbl f n (z + 1) := by
  unfold tbl
  have hl : ((List.range z).map f).length = z := by rw [List.length_map, List.length_range]
  have e : n - z = (n - (z + 1)) + 1 := by omega
  rw [List.set_append_right _ _ (by omega), hl, Nat.sub_self, e, List.replicate_succ, List.set_cons_zero, List.range_succ, List.map_append, List.append_assoc]
  rfl
theorem tbl_at {c : Ty} {f : Nat → El c} {n i z : Nat} (h : i < z) : gt (tbl f n z) i = f i := by
  unfold tbl
  refine gt_eq ?_
  rw [List.getElem?_append_left (by rw [List.length_map, List.length_range]; exact h), List.getElem?_map, List.getElem?_range h]; rfl
theorem tbl_full {c : Ty} {f : Nat → El c} {n : Nat} : tbl f n n = (List.range n).map f := by unfold tbl; rw [Nat.sub_self, List.replicate_zero, List.append_nil]
theorem tbl_out {c : Ty} {f : Nat → El c} {n i z : Nat} (h : z ≤ i) (h2 : i < n) : gt (tbl f n z) i = dflt c := by
  unfold tbl
  refine gt_eq ?_
  rw [List.getElem?_append_right (by rw [List.length_map, List.length_range]; exact h), List.length_map, List.length_range, List.getElem?_replicate, if_pos (by omega)]
theorem tbl_dflt {c : Ty} {f : Nat → El c} {n z : Nat} (h : z < n) (hf : f z = dflt c) : tbl f n z = tbl f n (z + 1) := by
  rw [← tbl_set h, hf]
  refine (?_ : List.set (tbl f n z) z (dflt c) = _).symm
  have e := tbl_out (f := f) (Nat.le_refl z) h
  rw [← e]
  exact set_gt (by rw [tbl_len (Nat.le_of_lt h)]; exact h)
def kpt (R : List Bool) (l : List Blk) (i : Nat) : Bool := bg R i || decide ((gt (c := .block) l i).next.length = 0)
def cntN (R : List Bool) (l : List Blk) : Nat → Nat
  | 0 => 0
  | k + 1 => cntN R l k + if kpt R l k = true then 1 else 0
def plF (R : List Bool) (l : List Blk) (i : Nat) : El .int := (if kpt R l i = true then (cntN R l i : Int) else -1 : Int)
def mmF (R : List Bool) (l : List Blk) (i : Nat) : El .ints := (if kpt R l i = true then [(cntN R l i : Int)] else [] : List Int)
def plT (R : List Bool) (l : List Blk) (z : Nat) : List Int := tbl (c := .int) (plF R l) l.length z
def mmT (R : List Bool) (l : List Blk) (z : Nat) : List (List Int) := tbl (c := .ints) (mmF R l) l.length z
def mmA (R : List Bool) (l : List Blk) (z : Nat) : List (List Int) := (List.range z).map (mmF R l)
def kB (R : List Bool) (l : List Blk) : Nat → List Blk
  | 0 => []
  | i + 1 => if kpt R l i = true then kB R l i ++ [gt (c := .block) l i] else kB R l i
theorem cnt_0 {R : List Bool} {l : List Blk} : cntN R l 0 = 0 := rfl
theorem cnt_y {R : List Bool} {l : List Blk} {k : Nat} (h : kpt R l k = true) : cntN R l (k + 1) = cntN R l k + 1 := by show _ + (if _ then _ else _) = _; rw [if_pos h]
theorem cnt_n {R : List Bool} {l : List Blk} {k : Nat} (h : kpt R l k = false) : cntN R l (k + 1) = cntN R l k := by show _ + (if _ then _ else _) = _; rw [if_neg (by rw [h]; decide)]; rfl
theorem cnt_le {R : List Bool} {l : List Blk} : ∀ k, cntN R l k ≤ k
  | 0 => Nat.le_refl _
  | k + 1 => by
    have := cnt_le (R := R) (l := l) k
    cases h : kpt R l k
    · rw [cnt_n h]; omega
    · rw [cnt_y h]; omega
theorem cnt_mono {R : List Bool} {l : List Blk} {a b : Nat} (h : a ≤ b) : cntN R l a ≤ cntN R l b := by
  induction h with
  | refl => exact Nat.le_refl _
  | step _ ih => exact Nat.le_trans ih (Nat.le_add_right _ _)
theorem kB_0 {R : List Bool} {l : List Blk} : kB R l 0 = [] := rfl
theorem kB_y {R : List Bool} {l : List Blk} {i : Nat} (h : kpt R l i = true) : kB R l (i + 1) = kB R l i ++ [gt (c := .block) l i] := if_pos h
theorem kB_n {R : List Bool} {l : List Blk} {i : Nat} (h : kpt R l i = false) : kB R l (i + 1) = kB R l i := if_neg (by rw [h]; decide)
theorem kB_len {R : List Bool} {l : List Blk} : ∀ i, (kB R l i).length = cntN R l i
  | 0 => rfl
  | i + 1 => by
    cases h : kpt R l i
    · rw [kB_n h, cnt_n h, kB_len i]
    · rw [kB_y h, cnt_y h, List.length_append, kB_len i]; rfl
theorem kB_snoc {R : List Bool} {l : List Blk} {i : Nat} (h : kpt R l i = true) : kB R l i ++ [(⟨(gt (c := .block) l i).ops, (gt (c := .block) l i).cond, (gt (c := .block) l i).next⟩ : Blk)] = kB R l (i + 1) := (kB_y h).symm
theorem kB_mem {R : List Bool} {l : List Blk} : ∀ {i : Nat} {x : Blk}, i ≤ l.length → x ∈ kB R l i → x ∈ l
  | 0, x, _, h => by cases h
  | i + 1, x, hi, h => by
    cases hk : kpt R l i
    · rw [kB_n hk] at h; exact kB_mem (Nat.le_of_succ_le hi) h
    · rw [kB_y hk] at h
      rcases List.mem_append.1 h with q | q
      · exact kB_mem (Nat.le_of_succ_le hi) q
      · simp only [List.mem_cons, List.not_mem_nil, or_false] at q
        rw [q]; exact mem_gt (c := .block) hi
theorem plF_y {R : List Bool} {l : List Blk} {i : Nat} (h : kpt R l i = true) : plF R l i = (cntN R l i : Int) := if_pos h
theorem plF_n {R : List Bool} {l : List Blk} {i : Nat} (h : kpt R l i = false) : plF R l i = (-1 : Int) := if_neg (by rw [h]; decide)
theorem mmF_y {R : List Bool} {l : List Blk} {i : Nat} (h : kpt R l i = true) : mmF R l i = ([(cntN R l i : Int)] : List Int) := if_pos h
theorem mmF_n {R : List Bool} {l : List Blk} {i : Nat} (h : kpt R l i = false) : mmF R l i = ([] : List Int) := if_neg (by rw [h]; decide)
theorem plT_len {R : List Bool} {l : List Blk} {z : Nat} (h : z ≤ l.length) : (plT R l z).length = l.length := tbl_len (c := .int) h
theorem mmT_len {R : List Bool} {l : List Blk} {z : Nat} (h : z ≤ l.length) : (mmT R l z).length = l.length := tbl_len (c := .ints) h
theorem plT_0 {R : List Bool} {l : List Blk} : plT R l 0 = List.replicate l.length (dflt .int) := rfl
theorem mmT_0 {R : List Bool} {l : List Blk} : mmT R l 0 = List.replicate l.length (dflt .ints) := rfl
theorem plT_n {R : List Bool} {l : List Blk} {z : Nat} (h : z < l.length) (hk : kpt R l z = false) : (plT R l z).set z (-1) = plT R l (z + 1) := by
  have := tbl_set (c := .int) (f := plF R l) h
  rw [plF_n hk] at this
  exact this
theorem plT_y {R : List Bool} {l : List Blk} {z : Nat} {v : Int} (h : z < l.length) (hk : kpt R l z = true) (hv : v = (cntN R l z : Int)) : ((plT R l z).set z (-1)).set z v = plT R l (z + 1) := by
  have := tbl_set (c := .int) (f := plF R l) h
  rw [plF_y hk] at this
  rw [List.set_set, hv]
  exact this
theorem mmT_n {R : List Bool} {l : List Blk} {z : Nat} (h : z < l.length) (hk : kpt R l z = false) : mmT R l z = mmT R l (z + 1) := tbl_dflt (c := .ints) h (mmF_n hk)
theorem mmT_y {R : List Bool} {l : List Blk} {z : Nat} {v : Int} (h : z < l.length) (hk : kpt R l z = true) (hv : v = (cntN R l z : Int)) : (mmT R l z).set z [v] = mmT R l (z + 1) := by
  have := tbl_set (c := .ints) (f := mmF R l) h
  rw [mmF_y hk] at this
  rw [hv]
  exact this
theorem plT_at {R : List Bool} {l : List Blk} {i : Nat} (h : i < l.length) : gt (c := .int) (plT R l l.length) i = plF R l i := tbl_at (c := .int) h
theorem mmT_full {R : List Bool} {l : List Blk} : mmT R l l.length = mmA R l l.length := tbl_full (c := .ints)
theorem mmA_0 {R : List Bool} {l : List Blk} : mmA R l 0 = [] := rfl
theorem mmA_len {R : List Bool} {l : List Blk} {z : Nat} : (mmA R l z).length = z := by unfold mmA; rw [List.length_map, List.length_range]
theorem mmA_s {R : List Bool} {l : List Blk} {z : Nat} : mmA R l (z + 1) = mmA R l z ++ [mmF R l z] := by unfold mmA; rw [List.range_succ, List.map_append]; rfl
theorem mmA_y {R : List Bool} {l : List Blk} {z : Nat} {v : Int} (hk : kpt R l z = true) (hv : v = (cntN R l z : Int)) : mmA R l z ++ [([v] : List Int)] = mmA R l (z + 1) := by rw [mmA_s, mmF_y hk, hv]
theorem mmA_n {R : List Bool} {l : List Blk} {z : Nat} (hk : kpt R l z = false) : mmA R l z ++ [([] : List Int)] = mmA R l (z + 1) := by rw [mmA_s, mmF_n hk]
theorem plT_ge {R : List Bool} {l : List Blk} {i : Nat} (h : i < l.length) : (gt (c := .int) (plT R l l.length) i : Int) < 0 ↔ kpt R l i = false := by
  rw [plT_at h]
  cases hk : kpt R l i
  · rw [plF_n hk]; simp
  · rw [plF_y hk]
    constructor
    · intro q
      have q1 : @LT.lt Int _ (cntN R l i : Int) 0 := q
      omega
    · intro q; cases q
theorem rnB_kB {R : List Bool} {l : List Blk} : ∀ {z : Nat}, z ≤ l.length → rnB (plT R l l.length) l z = (kB R l z : List (El .block)).map (tB (plT R l l.length))
  | 0, _ => rfl
  | z + 1, h => by
    have ih := rnB_kB (R := R) (l := l) (z := z) (Nat.le_of_succ_le h)
    cases hk : kpt R l z
    · rw [rnB_no ((plT_ge h).2 hk), kB_n hk, ih]
    · rw [rnB_yes (fun q => by rw [(plT_ge h).1 q] at hk; cases hk), kB_y hk, ih]
      exact (List.map_append (l₁ := (kB R l z : List (El .block))) (l₂ := [gt (c := .block) l z]) (f := tB (plT R l l.length))).symm
def rowK (tt : List Int) (L : List Blk) (i z : Nat) : List Blk := (mapTo (c := .block) (tB tt) L i).set i ⟨(gt (c := .block) L i).ops, (gt (c := .block) L i).cond, mapTo (c := .int) (tI tt) (gt (c := .block) L i).next z⟩
theorem rowK_len {tt : List Int} {L : List Blk} {i z : Nat} : (rowK tt L i z).length = L.length := by unfold rowK; rw [List.length_set]; exact mapTo_len (c := .block)
theorem rowK_at {tt : List Int} {L : List Blk} {i z : Nat} (h : i < L.length) : gt (c := .block) (rowK tt L i z) i = ⟨(gt (c := .block) L i).ops, (gt (c := .block) L i).cond, mapTo (c := .int) (tI tt) (gt (c := .block) L i).next z⟩ := by
  unfold rowK; exact gt_set (c := .block) (by rw [mapTo_len (c := .block)]; exact h)
theorem rowK_zero {tt : List Int} {L : List Blk} {i : Nat} (h : i < L.length) : rowK tt L i 0 = mapTo (c := .block) (tB tt) L i := by
  unfold rowK
  rw [mapTo_zero (c := .int)]
  have hl : i < (mapTo (c := .block) (tB tt) L i).length := by rw [mapTo_len (c := .block)]; exact h
  have e : (gt (c := .block) L i) = gt (c := .block) (mapTo (c := .block) (tB tt) L i) i := (gt_mapTo (c := .block) h).symm
  show (mapTo (c := .block) (tB tt) L i).set i (gt (c := .block) L i) = _
  rw [e]; exact set_gt (c := .block) hl
theorem rowK_s {tt : List Int} {L : List Blk} {i z : Nat} (h : i < L.length) (hz : z < (gt (c := .block) L i).next.length) {v : Int} (hv : v = tI tt (gt (c := .int) (gt (c := .block) L i).next z)) :
    (rowK tt L i z).set i ⟨(gt (c := .block) (rowK tt L i z) i).ops, (gt (c := .block) (rowK tt L i z) i).cond, (gt (c := .block) (rowK tt L i z) i).next.set z v⟩ = rowK tt L i (z + 1) := by
  rw [rowK_at h]
  have e2 := mapTo_set (c := .int) (f := tI tt) hz
  dsimp only
  rw [hv]
  show (rowK tt L i z).set i ⟨_, _, List.set (mapTo (c := .int) (tI tt) (gt (c := .block) L i).next z) z (tI tt (gt (c := .int) (gt (c := .block) L i).next z))⟩ = _
  rw [e2]
  unfold rowK
  rw [List.set_set]
theorem rowK_full {tt : List Int} {L : List Blk} {i : Nat} (h : i < L.length) : rowK tt L i (gt (c := .block) L i).next.length = mapTo (c := .block) (tB tt) L (i + 1) := by
  unfold rowK
  rw [mapTo_full (c := .int)]
  exact mapTo_set (c := .block) h
end Go.Proofs.Ytonjbhdfimcedaa
namespace Go.Proofs.Ytonjbhdfimcedaa
open Go.RowKit
universe u
theorem desc_flat {c : Ty} (h : noSl (cks c) = true) {l : List (El c)} {p : Path} {y : (c : Ty) × List (El c)} (hd : desc c l p = some y) : p = [] ∧ y = ⟨c, l⟩ := by
  cases p with
  | nil => simp only [desc, Option.some.injEq] at hd; exact ⟨rfl, hd.symm⟩
  | cons ij p =>
    obtain ⟨i, j⟩ := ij
    simp only [desc] at hd
    split at hd
    · cases hd
    · rename_i x hx
      split at hd
      · rename_i c1 l1 hj; exact absurd hj (flat_no h)
      · cases hd
def nlI (V : Vl) (k i f : Nat) (L : Loc) : Path → Loc
  | [] => V ⟨k, []⟩
  | (a, j) :: q => if a = i ∧ j = f then (match q with | [] => L | _ :: _ => ⟨none, 0, 0⟩) else V ⟨k, (a, j) :: q⟩
theorem Rep.inPlace {x : Cx} {g : Gx} {V : Vl} {s : St} {act : Act} {w w' : World} (h : Rep x g V s act w) {k i f : Nat} {c c1 : Ty} {l : List (El c)} {xs zs : List (El c1)} {x' : El c} (hm : find s.mem k = some (.list .own c l)) (hi : i < l.length)
    (hcell : (tcells c (gt l i))[f]? = some (.sl c1 xs)) (hflat : noSl (cks c1) = true) (hx' : ∀ j, (tcells c x')[j]? = if j = f then some (.sl c1 zs) else (tcells c (gt l i))[j]?)
    {L : Loc} (hlen : L.len = zs.length) (hcap : zs.length ≤ L.cap) (hown : OwnAt w' L (wid c1)) (hrows : ∀ a y, zs[a]? = some y → ∀ j d, (tcells c1 y)[j]? = some d → ∃ ad, L.a = some ad ∧ ad.spot = none ∧ w'.cell? ⟨ad.block, ad.off + (a * wid c1 + j), none⟩ = some (denT V0 ⟨0, []⟩ d))
    (hblk : L.cap ≠ 0 → ((V ⟨k, [(i, f)]⟩).cap ≠ 0 ∧ L.b = (V ⟨k, [(i, f)]⟩).b) ∨ w.heap.size ≤ L.b)
    {ad : Addr} {cs cs' : Array Value} {tt : TypeId} (a1 : (V ⟨k, []⟩).a = some ad) (a2 : ad.spot = none) (hh : w.heap[ad.block]? = some (.cells cs tt)) (hh' : w'.heap[ad.block]? = some (.cells cs' tt)) (hsz : cs'.size = cs.size)
    (hcs : ∀ o, cs'[o]? = if o = ad.off + (i * wid c + f) then some L.hd else cs[o]?)
    (hoth : ∀ b, b < w.heap.size → b ≠ ad.block → ((V ⟨k, [(i, f)]⟩).cap ≠ 0 → b ≠ (V ⟨k, [(i, f)]⟩).b) → w'.heap[b]? = w.heap[b]?) (hws : w.heap.size ≤ w'.heap.size) (io : SIO w w') :
    Rep x g (V.ext s.nb (nlI V k i f L)) ⟨s.env, (s.nb, .list .own c (l.set i x')) :: killL [k] s.mem, s.nb + 1⟩ act w' := by
  have hE := h.ents
  have hkn := (hE.ok _ _ hm).1
  have ag : AgrB s.nb (V.ext s.nb (nlI V k i f L)) V := Vl.ext_agr
  have vn : ∀ p, V.ext s.nb (nlI V k i f L) ⟨s.nb, p⟩ = nlI V k i f L p := fun p => Vl.ext_new
  have hfw : f < wid c := by have := (List.getElem?_eq_some_iff.1 hcell).1; rw [tcells_len] at this; exact this
  have c0 : cont s.mem ⟨k, []⟩ = some (.list .own c l) := cont_iff.2 ⟨_, hm, rfl⟩
  have c1' : cont s.mem ⟨k, [(i, f)]⟩ = some (.list .own c1 xs) := cont_iff.2 ⟨_, hm, by simp only [contB, desc, gt_at hi, hcell]; rfl⟩
  have hat0 := hE.at_ _ _ c0
  have hat1 := hE.at_ _ _ c1'
  have live0 : liveB (V ⟨k, []⟩) (.list .own c l) := by have := hat0.2.1; simp only [liveB]; omega
  have hb0 : (V ⟨k, []⟩).b = ad.block := by unfold Loc.b; rw [a1]
  -- rows of the outer list
  have getr : ∀ {a : Nat} {y : El c}, (l.set i x')[a]? = some y → (a = i ∧ y = x') ∨ (a ≠ i ∧ l[a]? = some y) := by
    intro a y h
    by_cases e : a = i
    · subst e; rw [List.getElem?_set_self hi] at h; exact .inl ⟨rfl, (Option.some.inj h).symm⟩
    · rw [List.getElem?_set_ne (Ne.symm e)] at h; exact .inr ⟨e, h⟩
  -- what is within
  have inner : ∀ a j q b', contB (.list .own c (l.set i x')) ((a, j) :: q) = some b' → (a = i ∧ j = f ∧ q = [] ∧ b' = .list .own c1 zs) ∨ (¬ (a = i ∧ j = f) ∧ cont s.mem ⟨k, (a, j) :: q⟩ = some b') := by
    intro a j q b' hb
    simp only [contB, desc] at hb
    split at hb
    · rename_i c2 l2 hd
      cases hb
      split at hd
      · cases hd
      · rename_i y hy
        split at hd
        · rename_i c3 l3 hj
          rcases getr hy with ⟨rfl, rfl⟩ | ⟨hne, hy'⟩
          · rw [hx'] at hj
            split at hj
            · rename_i e
              cases hj
              obtain ⟨rfl, e2⟩ := desc_flat hflat hd
              cases e2
              exact .inl ⟨rfl, e, rfl, rfl⟩
            · rename_i e
              refine .inr ⟨fun h => e h.2, cont_iff.2 ⟨_, hm, ?_⟩⟩
              simp only [contB, desc, gt_at hi, hj, hd, Md.at]
          · refine .inr ⟨fun h => hne h.1, cont_iff.2 ⟨_, hm, ?_⟩⟩
            simp only [contB, desc, hy', hj, hd, Md.at]
        · cases hd
    · cases hb
  have root : ∀ b', contB (.list .own c (l.set i x')) [] = some b' → b' = .list .own c (l.set i x') := by
    intro b' hb
    simp only [contB, desc, Option.some.injEq] at hb
    rw [← hb]; rfl
  have locI : nlI V k i f L [(i, f)] = L := by simp [nlI]
  have locO : ∀ {a j : Nat} {q : Path}, ¬ (a = i ∧ j = f) → nlI V k i f L ((a, j) :: q) = V ⟨k, (a, j) :: q⟩ := fun h => by simp only [nlI]; rw [if_neg h]
  -- blocks that stay
  have stay : ∀ r b, cont s.mem r = some b → liveB (V r) b → r ≠ ⟨k, []⟩ → r ≠ ⟨k, [(i, f)]⟩ → w'.heap[(V r).b]? = w.heap[(V r).b]? := by
    intro r b hc hl n0 n1
    refine hoth _ (hE.lt hc hl) (fun e => n0 ?_) (fun hcp e => n1 ?_)
    · exact (hE.sep ⟨k, []⟩ r _ b c0 hc live0 hl rfl (by rw [hb0, e])).symm
    · exact (hE.sep ⟨k, [(i, f)]⟩ r _ b c1' hc hcp hl rfl e.symm).symm
  have hE' := hE.turn (w' := w') (m := .list .own c (l.set i x')) (ks := [k]) s.env ag rfl (fun k1 hk1 => by rw [List.mem_singleton] at hk1; subst hk1; exact hkn)
    (fun p => match p with
      | [] => some ⟨k, []⟩
      | (a, j) :: q => if (a = i ∧ j = f) ∧ ¬ ((V ⟨k, [(i, f)]⟩).cap ≠ 0 ∧ L.b = (V ⟨k, [(i, f)]⟩).b) then none else some ⟨k, (a, j) :: q⟩)
    (fun r b hc hl hk => stay r b hc hl (fun e => hk (by subst e; exact List.mem_singleton_self _)) (fun e => hk (by subst e; exact List.mem_singleton_self _)))
    (fun p b' hb hl => by
      cases p with
      | nil =>
        have hb' := root b' hb
        subst hb'
        refine .inr ⟨⟨k, []⟩, _, rfl, c0, live0, by rw [vn]; rfl, trivial, .inl (List.mem_singleton_self _)⟩
      | cons aj q =>
        obtain ⟨a, j⟩ := aj
        rcases inner a j q b' hb with ⟨rfl, rfl, rfl, rfl⟩ | ⟨hn, hc⟩
        · rw [vn, locI] at hl ⊢
          dsimp only
          by_cases hc2 : (V ⟨k, [(a, j)]⟩).cap ≠ 0 ∧ L.b = (V ⟨k, [(a, j)]⟩).b
          · rw [if_neg (fun h => h.2 hc2)]
            exact .inr ⟨⟨k, [(a, j)]⟩, _, rfl, c1', hc2.1, hc2.2, trivial, .inl (List.mem_singleton_self _)⟩
          · rw [if_pos ⟨⟨rfl, rfl⟩, hc2⟩]
            rcases hblk hl with h1 | h1
            · exact absurd h1 hc2
            · exact .inl ⟨rfl, h1⟩
        · rw [vn, locO hn] at hl ⊢
          simp only
          rw [if_neg (fun h => hn h.1)]
          exact .inr ⟨⟨k, (a, j) :: q⟩, b', rfl, hc, hl, rfl, (by cases kindB b' <;> trivial), .inl (List.mem_singleton_self _)⟩)
    (fun p1 p2 b1 b2 h1 h2 l1 l2 hk he => by
      cases p1 with
      | nil =>
        cases p2 with
        | nil => rfl
        | cons aj q =>
          exfalso
          obtain ⟨a, j⟩ := aj
          simp only at he
          split at he
          · cases he
          · simp only [Option.some.injEq, Rid.mk.injEq, true_and] at he; cases he
      | cons aj q =>
        obtain ⟨a, j⟩ := aj
        cases p2 with
        | nil =>
          exfalso
          simp only at he
          split at he
          · cases he
          · simp only [Option.some.injEq, Rid.mk.injEq, true_and] at he; cases he
        | cons aj2 q2 =>
          obtain ⟨a2, j2⟩ := aj2
          simp only at he
          split at he
          · rename_i hc1
            split at he
            · rename_i hc2
              rcases inner a j q b1 h1 with ⟨_, _, e1, _⟩ | ⟨hn, _⟩
              · rcases inner a2 j2 q2 b2 h2 with ⟨_, _, e2, _⟩ | ⟨hn, _⟩
                · rw [e1, e2, hc1.1.1, hc1.1.2, hc2.1.1, hc2.1.2]
                · exact absurd hc2.1 hn
              · exact absurd hc1.1 hn
            · cases he
          · split at he
            · cases he
            · simp only [Option.some.injEq, Rid.mk.injEq, true_and] at he; exact he)
    (fun p b' hb => by
      cases p with
      | nil =>
        have hb' := root b' hb
        subst hb'
        obtain ⟨q1, q2, q3, q4⟩ := hat0
        refine ⟨by rw [vn]; show (V ⟨k, []⟩).len = _; rw [List.length_set]; exact q1, by rw [vn]; show _ ≤ (V ⟨k, []⟩).cap; rw [List.length_set]; exact q2, fun _ => ?_, fun a y hy j t ht => ?_⟩
        · rw [vn]
          show OwnAt w' (V ⟨k, []⟩) (wid c)
          rcases q3 rfl with h | ⟨ad', cs0, t0, b1, b2, b3, b4, b5⟩
          · exact .inl h
          · rw [a1] at b1
            cases b1
            rw [hh] at b3
            cases b3
            exact .inr ⟨ad, cs', tt, a1, a2, hh', by rw [hsz]; exact b4, b5⟩
        · refine ⟨ad, by rw [vn]; exact a1, a2, cell_of hh' ?_⟩
          rw [hcs]
          have hjw : j < wid c := by have := (List.getElem?_eq_some_iff.1 ht).1; rw [tcells_len] at this; exact this
          have pos : ad.off + (a * wid c + j) = ad.off + (i * wid c + f) → a = i ∧ j = f := by
            intro e
            have e1 : a = i := by
              rcases Nat.lt_trichotomy a i with hlt | heq | hgt
              · have : (a + 1) * wid c ≤ i * wid c := Nat.mul_le_mul_right _ hlt
                rw [Nat.add_mul] at this; omega
              · exact heq
              · have : (i + 1) * wid c ≤ a * wid c := Nat.mul_le_mul_right _ hgt
                rw [Nat.add_mul] at this; omega
            subst e1
            exact ⟨rfl, by omega⟩
          have oldv : ∀ {y0 : El c}, l[a]? = some y0 → (tcells c y0)[j]? = some t → ¬ (a = i ∧ j = f) → (if ad.off + (a * wid c + j) = ad.off + (i * wid c + f) then some L.hd else cs[ad.off + (a * wid c + j)]?) = some (denT (V.ext s.nb (nlI V k i f L)) (Rid.ch ⟨s.nb, []⟩ a j) t) := by
            intro y0 hy0 ht0 hn
            rw [if_neg (fun e => hn (pos e))]
            obtain ⟨ad2, y1, y2, y3⟩ := q4 a y0 hy0 j t ht0
            rw [a1] at y1
            cases y1
            simp only [World.cell?, hh, Option.isSome_none, Bool.false_eq_true, if_false] at y3
            rw [y3]
            cases t <;> simp only [denT, Rid.ch, List.nil_append]
            rw [vn, locO hn]
          rcases getr hy with ⟨rfl, rfl⟩ | ⟨hne, hy'⟩
          · rw [hx'] at ht
            by_cases e : j = f
            · subst e
              rw [if_pos rfl] at ht
              cases ht
              rw [if_pos rfl]
              simp only [denT, Rid.ch, List.nil_append]
              rw [vn, locI]
            · rw [if_neg e] at ht
              exact oldv (gt_at hi) ht (fun h => e h.2)
          · exact oldv hy' ht (fun h => hne h.1)
      | cons aj q =>
        obtain ⟨a, j⟩ := aj
        rcases inner a j q b' hb with ⟨rfl, rfl, rfl, rfl⟩ | ⟨hn, hc⟩
        · refine ⟨by rw [vn, locI]; exact hlen, by rw [vn, locI]; exact hcap, fun _ => by rw [vn, locI]; exact hown, fun b y hy j2 d hd => ?_⟩
          obtain ⟨ad2, y1, y2, y3⟩ := hrows b y hy j2 d hd
          refine ⟨ad2, by rw [vn, locI]; exact y1, y2, y3.trans ?_⟩
          cases d with
          | int _ _ => rfl
          | bool _ => rfl
          | str _ => rfl
          | sl c2 l2 => exact absurd hd (flat_no hflat)
        · have hlt := (hE.okc hc).1
          obtain ⟨m, z1, z2⟩ := cont_iff.1 hc
          rw [hm] at z1
          cases z1
          simp only [contB] at z2
          split at z2
          · rename_i c2 l2 hd
            cases z2
            have hat2 := hE.at_ _ _ hc
            refine hat2.move (by rw [vn, locO hn]) (fun i' j' => ?_) (fun h => h) (fun hl => stay _ _ hc hl (fun e => by cases e) (fun e => ?_))
            · simp only [Rid.ch, List.cons_append]
              rw [vn, locO hn]
            · simp only [Rid.mk.injEq, true_and, List.cons.injEq, Prod.mk.injEq] at e
              exact hn e.1
          · cases z2) h.d0w
  refine h.turn hws ag (fun k1 hk1 => by rw [List.mem_singleton] at hk1; subst hk1; exact hkn) hE' io (fun b hb hd => ?_) (fun p b' hb hl hk => ?_)
  · refine hoth b hb (fun e => hd ⟨⟨k, []⟩, _, c0, live0, rfl, by rw [hb0, e]⟩) (fun hcp e => hd ⟨⟨k, [(i, f)]⟩, _, c1', hcp, rfl, e.symm⟩)
  · cases p with
    | nil => exact .inr ⟨⟨k, []⟩, _, c0, live0, rfl, by rw [vn]; rfl⟩
    | cons aj q =>
      obtain ⟨a, j⟩ := aj
      rcases inner a j q b' hb with ⟨rfl, rfl, rfl, rfl⟩ | ⟨hn, hc⟩
      · rw [vn, locI] at hl ⊢
        rcases hblk hl with ⟨h1, h2⟩ | h1
        · exact .inr ⟨⟨k, [(a, j)]⟩, _, c1', h1, rfl, h2.symm⟩
        · exact .inl h1
      · rw [vn, locO hn] at hl ⊢
        exact .inr ⟨⟨k, (a, j) :: q⟩, b', hc, hl, hk, rfl⟩
theorem Ents.nested {D0 : Nat → Prop} {V V' : Vl} {s : St} {w w1 : World} (h : Ents D0 V s w) (ag : AgrB s.nb V' V) {r0 : Rid} {c1 : Ty} {xs : List (El c1)} (c1' : cont s.mem r0 = some (.list .own c1 xs)) (hn : AtB V w1 r0 (.list .own c1 xs))
    (hoth : ∀ b, b < w.heap.size → ((V r0).cap ≠ 0 → b ≠ (V r0).b) → w1.heap[b]? = w.heap[b]?) (e' : List (Nat × SV)) : Ents D0 V' ⟨e', s.mem, s.nb + 1⟩ w1 := by
  have old : ∀ {r b}, cont s.mem r = some b → V' r = V r := fun hc => ag _ (h.okc hc).1
  refine ⟨fun k m' hk => ?_, fun r b hc => ?_, fun r r' b b' hc hc' hl hl' hk he => ?_, fun r b hc hl hk => ?_⟩
  · obtain ⟨h1, h2⟩ := h.ok k m' hk
    exact ⟨Nat.lt_succ_of_lt h1, okM_mono (Nat.le_succ _) h2⟩
  · obtain ⟨h1, h2⟩ := h.okc hc
    by_cases e : r = r0
    · subst e
      rw [c1'] at hc
      cases hc
      exact hn.keep h2 h1 ag fun _ => rfl
    · refine (h.at_ r b hc).keep h2 h1 ag fun hl => hoth _ (h.lt hc hl) fun hcp he => e ?_
      exact (h.sep r0 r _ b c1' hc hcp hl rfl he.symm).symm
  · rw [old hc, old hc'] at he
    rw [old hc] at hl
    rw [old hc'] at hl'
    exact h.sep r r' b b' hc hc' hl hl' hk he
  · rw [old hc] at hl ⊢
    exact h.d0 r b hc hl hk
def midS (x : Cx) (all : List Oper) (mem : List (Nat × MB)) (nb : Nat) : List Oper → List (Nat × SV) → List Prop → Option (List (Nat × SV) × Oper × List Oper × List Prop)
  | [], _, _ => none
  | o :: l, env, obs => match o.dst with
    | none => some (env, o, l, obs)
    | some t => match Nat.blt t x.n, goes all env o.guard, ev x.L ⟨env, mem, nb⟩ o.op with
      | true, some true, some (v, ob) => plV v fun v => match okV nb v with
        | true => midS x all mem nb l ((t, v) :: env) (app ob obs)
        | false => none
      | _, _, _ => none
theorem midS_ok {x : Cx} (hL : LayOk x.P x.L) {all : List Oper} {mem : List (Nat × MB)} {nb : Nat} : ∀ {l : List Oper} {env env' : List (Nat × SV)} {obs obs' : List Prop} {o : Oper} {rest : List Oper}, midS x all mem nb l env obs = some (env', o, rest, obs') → AllP obs' → AllP obs ∧ o.dst = none ∧
    ∀ {D0 : Nat → Prop} {V : Vl} {a : Act} {w : World} {Q : Exit → Act → World → Prop}, a.defers = [] → a.tmps.size = x.n → EnvR V env a → (∀ t v, find env t = some v → okV nb v = true) → (∀ e, Ents D0 V ⟨e, mem, nb⟩ w) →
      (∀ a', a'.defers = [] → a'.tmps.size = x.n → EnvR V env' a' → (∀ t v, find env' t = some v → okV nb v = true) → wpList x.P all.toArray Q (o :: rest) a' w) → wpList x.P all.toArray Q l a w
  | [], env, env', obs, obs', o, rest, h, _ => by simp [midS] at h
  | q :: l, env, env', obs, obs', o, rest, h, ho => by
    unfold midS at h
    split at h
    · rename_i hd
      simp only [Option.some.injEq, Prod.mk.injEq] at h
      obtain ⟨rfl, rfl, rfl, rfl⟩ := h
      exact ⟨ho, hd, fun h1 h2 h3 h4 h5 hk => hk _ h1 h2 h3 h4⟩
    · rename_i t hd
      split at h
      · rename_i v ob h1 hg hv
        rw [plV_eq] at h
        split at h
        · rename_i hok
          obtain ⟨g1, g2, g3⟩ := midS_ok hL h ho
          obtain ⟨o1, o2⟩ := AllP_app.1 g1
          refine ⟨o2, g2, fun {D0 V a w Q} d1 d2 d3 d4 d5 hk => ?_⟩
          obtain ⟨dst, op, ty, pos, after, gd⟩ := q
          simp only at hd
          subst hd
          have he := ev_ok (s := ⟨env, mem, nb⟩) hL hv o1
          unfold wpList
          rw [if_pos (goes_wanted hg d3)]
          refine .inl ?_
          unfold Oper.wp
          rw [he.run D0 V a w d3 (d5 _)]
          have hlt : t < a.tmps.size := by rw [d2]; simpa [Nat.blt_eq] using h1
          exact g3 d1 (by show (a.tmps.setIfInBounds t _).size = _; rw [Array.size_setIfInBounds, d2]) (d3.put hlt) (envOk_put d4 hok) d5 hk
        · cases h
      · cases h
structure AppN where
  k : Nat
  i : Nat
  f : Nat
  m : MB
  env : List (Nat × SV)
  rest : List Oper
  obs : List Prop
def appN (x : Cx) (all : List Oper) (env : List (Nat × SV)) (mem : List (Nat × MB)) (nb : Nat) (o : Oper) (l : List Oper) : Option AppN := match o with
  | ⟨some t, .call ⟨.builtin .append, args, ts⟩, _, _, _, gd⟩ => match args.toList, ts.toList, goes all env gd, Nat.blt t x.n with
    | [a, b], [T, T'], some true, true => match St.get ⟨env, mem, nb⟩ a, St.get ⟨env, mem, nb⟩ b, find x.L T, Nat.beq T T' with
      | some (.sl ⟨k, [(i, f)]⟩), some q, some ⟨_, .slice e es _, _, _⟩, true => match find x.L e, find mem k with
        | some ⟨_, _, by_, some c1⟩, some (.list .own c l0) => match nthC (tcells c (gt l0 i)) f, noSl (cks c1), Nat.beq es (wid c1), Nat.blt 0 by_ with
          | some (.sl c2 xs0), true, true, true => match castL (c' := c1) xs0, srcS mem c1 q with
            | some xs, some (ys, [], false, o2) => match spliceT (tcells c (gt l0 i)) f [.sl c1 (xs ++ ys)], nx nb fun nb1 => midS x all mem nb1 l ((t, .sl ⟨nb, [(i, f)]⟩) :: env) [] with
              | some cs, some (env', o', rest, o3) => match mkc c cs, o' with
                | some x', ⟨none, .store T2 p y, _, _, _, gd2⟩ => match goes all env' gd2, St.get ⟨env', mem, nb⟩ p, St.get ⟨env', mem, nb⟩ y, find x.L T2 with
                  | some true, some (.el ⟨k2, []⟩ es2 i2 f2), some (.sl ⟨nb2, [(i3, f3)]⟩), some ti2 => match Nat.beq k2 k, Nat.beq es2 (wid c), Nat.beq f2 f, Nat.beq nb2 nb, Nat.beq f3 f, Nat.beq ti2.zs.length 1 with
                    | true, true, true, true, true, true => some ⟨k, i, f, .list .own c (l0.set i x'), env', rest, (i < l0.length) :: ((xs.length + ys.length) * by_ ≤ 140737488355328) :: (i2 = i) :: (i3 = i) :: app o2 o3⟩
                    | _, _, _, _, _, _ => none
                  | _, _, _, _ => none
                | _, _ => none
              | _, _ => none
            | _, _ => none
          | _, _, _, _ => none
        | _, _ => none
      | _, _, _, _ => none
    | _, _, _, _ => none
  | _ => none
theorem ridI_ok {V : Vl} {k i f nb : Nat} {L : Loc} (hk : k < nb) : RidOk (V.ext nb (nlI V k i f L)) (nb + 1) (ridT k nb f 1 i []) := by
  have vn : ∀ p, V.ext nb (nlI V k i f L) ⟨nb, p⟩ = nlI V k i f L p := fun p => Vl.ext_new
  have vo : ∀ {r : Rid}, r.k ≠ nb → V.ext nb (nlI V k i f L) r = V r := fun h => if_neg h
  have key : ∀ r : Rid, r.k < nb + 1 → V.ext nb (nlI V k i f L) (ridT k nb f 1 i [] r) = V.ext nb (nlI V k i f L) r ∧ (ridT k nb f 1 i [] r).k < nb + 1 := by
    rintro ⟨k', p⟩ hr
    have kne : k' = k → k' ≠ nb := fun e h => by omega
    cases p with
    | nil =>
      simp only [ridT, find]
      split
      · rename_i e
        have e := Nat.eq_of_beq_eq_true e
        subst e
        exact ⟨by rw [vn, vo (by exact kne rfl)]; rfl, Nat.lt_succ_self _⟩
      · exact ⟨rfl, hr⟩
    | cons aj q =>
      obtain ⟨a, j⟩ := aj
      have same : k' = k → ¬ (f ≤ j ∧ j < f + 1) → V.ext nb (nlI V k i f L) ⟨nb, (a, j) :: q⟩ = V.ext nb (nlI V k i f L) ⟨k', (a, j) :: q⟩ := by
        intro e h
        subst e
        rw [vn, vo (by exact kne rfl)]
        simp only [nlI]
        rw [if_neg (fun hh => h (by omega))]
      simp only [ridT, find]
      split
      · rename_i e
        have e := Nat.eq_of_beq_eq_true e
        split
        · rename_i h1
          rw [Nat.blt_eq] at h1
          exact ⟨same e (by omega), Nat.lt_succ_self _⟩
        · split
          · rename_i h1
            have h1 := Nat.le_of_ble_eq_true h1
            exact ⟨same e (by simp only [Nat.add_eq] at h1; omega), Nat.lt_succ_self _⟩
          · exact ⟨rfl, hr⟩
      · exact ⟨rfl, hr⟩
  exact ⟨fun r hr => (key r hr).1, fun r hr => (key r hr).2⟩
section
variable {x : Cx} {all l : List Oper} {o : Oper} {env : List (Nat × SV)} {mem : List (Nat × MB)} {nb : Nat} {K : St → Prop}
theorem appN_core (hL : LayOk x.P x.L) {d : AppN} (h : appN x all env mem nb o l = some d) (ho : AllP d.obs)
    (hk : Sq x all d.rest ⟨envT (ridT d.k nb d.f 1 d.i []) d.env, memT (ridT d.k nb d.f 1 d.i []) ((nb, d.m) :: killL [d.k] mem), nb + 1⟩ K) {g : Gx} {Q : Exit → Act → World → Prop} {V : Vl} {act : Act} {w : World}
    (hQ : ∀ s' V' a' w', K s' → Rep x g V' s' a' w' → Q .normal a' w') (hr : Rep x g V ⟨env, mem, nb⟩ act w) :
    ∃ t v w1 V', o.dst = some t ∧ t < act.tmps.size ∧ Region.wanted o (yielded all.toArray act.tmps) = true ∧ (execOp act.eval o).run x.P w = .ok (.value v) w1 ∧ EnvR V' ((t, .sl ⟨nb, [(d.i, d.f)]⟩) :: env) (act.put (some t) v) ∧ (∀ e, Ents g.D0 V' ⟨e, mem, nb + 1⟩ w1) ∧ wpList x.P all.toArray Q l (act.put (some t) v) w1 := by
    unfold appN at h
    split at h
    · rename_i t args ts ty pos after gd
      split at h
      · rename_i a b T T' hargs hts hg h1
        split at h
        · rename_i k i f q zs0 e es ea by0 cd ha hb ht hTT
          split at h
          · rename_i zs1 td1 by_ c1 c l0 he hm
            split at h
            · rename_i c2 xs0 hnth hflat hes hby
              split at h
              · rename_i xs ys o2 hcst hsrc
                split at h
                · rename_i cs1 env' o' rest o3 hspl hmid
                  split at h
                  · rename_i x' T2 p y ty2 pos2 after2 gd2 hmk
                    split at h
                    · rename_i k2 es2 i2 f2 nb2 i3 f3 ti2 hg2 hp hy ht2
                      split at h
                      · rename_i e1 e2 e3 e4 e5 e6
                        simp only [Option.some.injEq] at h
                        subst h
                        obtain ⟨hi, hroom, hi2, hi3, ho'⟩ := ho
                        have hi2 := hi2.symm
                        have hi3 := hi3.symm
                        subst hi2; subst hi3
                        obtain ⟨ho2, ho3⟩ := AllP_app.1 ho'
                        have e1 := (Nat.eq_of_beq_eq_true e1).symm
                        have e2 := Nat.eq_of_beq_eq_true e2
                        have e3 := (Nat.eq_of_beq_eq_true e3).symm
                        have e4 := (Nat.eq_of_beq_eq_true e4).symm
                        have e5 := (Nat.eq_of_beq_eq_true e5).symm
                        have e6 := Nat.eq_of_beq_eq_true e6
                        subst e1; subst e2; subst e3; subst e4; subst e5
                        have hT := Nat.eq_of_beq_eq_true hTT
                        subst hT
                        have e7 : args = #[a, b] := by apply Array.ext'; simpa using hargs
                        have e8 : ts = #[T, T] := by apply Array.ext'; simpa using hts
                        subst e7; subst e8
                        have hcc := castL_eq hcst
                        cases hcc
                        rw [nthC_eq] at hnth
                        have hby' : 0 < by_ := by simpa [Nat.blt_eq] using hby
                        have hes' := Nat.eq_of_beq_eq_true hes
                        rw [nx_eq] at hmid
                        obtain ⟨_, hd0, hmidok⟩ := midS_ok hL hmid ho3
                        have c1' : cont mem ⟨k, [(i, f)]⟩ = some (.list .own c1 xs) := cont_iff.2 ⟨_, hm, by simp only [contB, desc, gt_at hi, hnth]; rfl⟩
                        have c0 : cont mem ⟨k, []⟩ = some (.list .own c l0) := cont_iff.2 ⟨_, hm, rfl⟩
                        have hat0 := hr.ents.at_ _ _ c0
                        have hat1 := hr.ents.at_ _ _ c1'
                        have hS0 : srcS mem c1 (.sl ⟨k, [(i, f)]⟩) = some (xs, [], false, [i < l0.length]) := by
                          simp only [srcS, hm, descE, nthC_eq, hnth, hcst, srcK, hflat]
                        obtain ⟨as0, cs0, pre, pv0, S0⟩ := srcS_ok (md := .own) hr.ents hS0 ⟨hi, trivial⟩ (fun h => by cases h)
                        obtain ⟨avs, css, news, pv2, S⟩ := srcS_ok (md := .own) hr.ents hsrc ho2 (fun h => by cases h)
                        obtain ⟨dd, h4, h5⟩ := (hL.at ht).desc
                        obtain ⟨ii, de, rfl, j2, j3, j4, j5⟩ := td_slice h5
                        obtain ⟨ii', g1, g2, g3, g4⟩ := (hL.at he).info
                        have : ii' = ii := Option.some.inj (g1.symm.trans j2)
                        subst this
                        have hsz : ii'.size = wid c1 := j3.trans hes'
                        have big : xs.length + ys.length ≤ maxLen := by
                          have := Nat.le_mul_of_pos_right (xs.length + ys.length) hby'
                          simp only [maxLen]; omega
                        have hpl : pre.length = xs.length * ii'.size := by rw [hsz]; exact S0.rows.len
                        have hnl : news.length = ys.length * ii'.size := by rw [hsz]; exact S.rows.len
                        have hden0 := S0.den
                        simp only [den, Loc.hd, Value.slice.injEq] at hden0
                        obtain ⟨rfl, hln, rfl⟩ := hden0
                        obtain ⟨q1, q2, q3, q4⟩ := hat1
                        have hcm : (V ⟨k, [(i, f)]⟩).cap ≤ maxLen := by
                          rcases q3 rfl with h | ⟨_, _, _, _, _, _, _, h⟩
                          · omega
                          · exact h
                        obtain ⟨L, w1, r1, r2, r3⟩ := r_append (P := x.P) w (t := T) (ty := ty) h4 j2 g3 (by rw [cells_zero (hL.at he)]; simp [← g2]) (cs := css) hpl S0.read S0.none hnl S.read S.none S.rows.one
                          (by
                            rcases q3 rfl with h | ⟨a0, cs9, t9, w1, w2, w3, w4, w5⟩
                            · exact .inl h
                            · exact .inr ⟨a0, cs9, t9, w1, w2, w3, by rw [hsz]; exact w4⟩) q2 hcm big (by rw [g4]; exact hroom)
                        have run : (execOp act.eval ⟨some t, .call ⟨.builtin .append, #[a, b], #[T, T]⟩, ty, pos, after, gd⟩).run x.P w = .ok (.value L.hd) w1 := by
                          simp only [execOp, resolve, invoke, builtin, Sem.run_bind, Sem.run_pure, Result.andThen_ok, List.map_toArray, List.map_cons, List.map_nil, hr.env.get ha, hr.env.get hb, S0.den, S.den, r1]
                        -- the outer list's block
                        obtain ⟨ad, a1, a2, _⟩ := row_cells hat0 hi
                        have hb0 : (V ⟨k, []⟩).b = ad.block := by unfold Loc.b; rw [a1]
                        have live0 : liveB (V ⟨k, []⟩) (.list .own c l0) := by have := hat0.2.1; simp only [liveB]; omega
                        obtain ⟨cs, tt, b3, b4, b5⟩ : ∃ cs t, w.heap[ad.block]? = some (.cells cs t) ∧ ad.off + (V ⟨k, []⟩).cap * wid c ≤ cs.size ∧ (V ⟨k, []⟩).cap ≤ maxLen := by
                          rcases hat0.2.2.1 rfl with h | ⟨ad', cs, t9, z1, z2, z3, z4, z5⟩
                          · have := hat0.2.1; omega
                          · rw [a1] at z1; cases z1; exact ⟨cs, t9, z3, z4, z5⟩
                        have hadn : (V ⟨k, [(i, f)]⟩).cap ≠ 0 → ad.block ≠ (V ⟨k, [(i, f)]⟩).b := by
                          intro hcp e
                          have := hr.ents.sep ⟨k, []⟩ ⟨k, [(i, f)]⟩ _ _ c0 c1' live0 hcp rfl (by rw [hb0, e])
                          cases this
                        have hfw : f < wid c := by have := (List.getElem?_eq_some_iff.1 hnth).1; rw [tcells_len] at this; exact this
                        have hx' : ∀ j, (tcells c x')[j]? = if j = f then some (.sl c1 (xs ++ ys)) else (tcells c (gt l0 i))[j]? := by
                          intro j
                          obtain ⟨y1, y2, y3⟩ := spliceT_get hspl
                          rw [mkc_cells hmk, y3]
                          by_cases hj : j = f
                          · subst hj
                            rw [if_pos ⟨Nat.le_refl _, by simp⟩, if_pos rfl, Nat.sub_self]; rfl
                          · rw [if_neg hj, if_neg (by simp only [List.length_cons, List.length_nil]; omega)]
                        have key : L.len = (xs ++ ys).length → (xs ++ ys).length ≤ L.cap → OwnAt w1 L (wid c1) → (∀ j u, (pre ++ news)[j]? = some u → ∃ a, L.a = some a ∧ a.spot = none ∧ w1.cell? ⟨a.block, a.off + j, none⟩ = some u) →
                            (L.cap ≠ 0 → ((V ⟨k, [(i, f)]⟩).cap ≠ 0 ∧ L.b = (V ⟨k, [(i, f)]⟩).b) ∨ w.heap.size ≤ L.b) → w.heap.size ≤ w1.heap.size →
                            (∀ b, b < w.heap.size → ((V ⟨k, [(i, f)]⟩).cap ≠ 0 → b ≠ (V ⟨k, [(i, f)]⟩).b) → w1.heap[b]? = w.heap[b]?) → SIO w w1 → AtB V w1 ⟨k, [(i, f)]⟩ (.list .own c1 xs) →
                            ∃ t' v w1 V', (⟨some t, .call ⟨.builtin .append, #[a, b], #[T, T]⟩, ty, pos, after, gd⟩ : Oper).dst = some t' ∧ t' < act.tmps.size ∧ Region.wanted ⟨some t, .call ⟨.builtin .append, #[a, b], #[T, T]⟩, ty, pos, after, gd⟩ (yielded all.toArray act.tmps) = true ∧ (execOp act.eval ⟨some t, .call ⟨.builtin .append, #[a, b], #[T, T]⟩, ty, pos, after, gd⟩).run x.P w = .ok (.value v) w1 ∧ EnvR V' ((t', .sl ⟨nb, [(i, f)]⟩) :: env) (act.put (some t') v) ∧ (∀ e, Ents g.D0 V' ⟨e, mem, nb + 1⟩ w1) ∧ wpList x.P all.toArray Q l (act.put (some t') v) w1 := by
                          intro p1 p2 p3 p4 p5 p6 p7 p8 p9
                          have vn : ∀ p, V.ext nb (nlI V k i f L) ⟨nb, p⟩ = nlI V k i f L p := fun p => Vl.ext_new
                          have ag : AgrB nb (V.ext nb (nlI V k i f L)) V := Vl.ext_agr
                          have locI : nlI V k i f L [(i, f)] = L := by simp [nlI]
                          have hkn := (hr.ents.ok _ _ hm).1
                          have hdy : den (V.ext nb (nlI V k i f L)) (.sl ⟨nb, [(i, f)]⟩) = L.hd := by simp only [den, vn, locI]
                          have Lad : L.cap ≠ 0 → L.b ≠ ad.block := by
                            intro hcp e
                            have hadlt : ad.block < w.heap.size := lt_of_heap b3
                            rcases p5 hcp with ⟨y1, y2⟩ | y1
                            · exact hadn y1 (by rw [← e, y2])
                            · omega
                          have hw1 : w1.heap[ad.block]? = some (.cells cs tt) := (p7 _ (lt_of_heap b3) hadn).trans b3
                          have hlt : t < act.tmps.size := by rw [hr.size]; simpa [Nat.blt_eq] using h1
                          have env1 : EnvR (V.ext nb (nlI V k i f L)) ((t, .sl ⟨nb, [(i, f)]⟩) :: env) (act.put (some t) L.hd) := by
                            have hold : EnvR (V.ext nb (nlI V k i f L)) env act := fun t' v hv => by rw [den_agree ag v (hr.envOk t' v hv)]; exact hr.env t' v hv
                            have := hold.put (t := t) (v := .sl ⟨nb, [(i, f)]⟩) hlt
                            rw [hdy] at this
                            exact this
                          refine ⟨t, L.hd, w1, _, rfl, hlt, goes_wanted hg hr.env, run, env1, fun e => hr.ents.nested (s := ⟨env, mem, nb⟩) ag c1' p9 p7 e, ?_⟩
                          refine hmidok (D0 := g.D0) (V := V.ext nb (nlI V k i f L)) (a := act.put (some t) L.hd) (w := w1) hr.defers (by show (act.tmps.setIfInBounds t _).size = _; rw [Array.size_setIfInBounds, hr.size]) env1 (envOk_put (fun t' v hv => okV_mono (Nat.le_succ _) _ (hr.envOk t' v hv)) (by simp [okV, Nat.blt_eq])) (fun e => hr.ents.nested (s := ⟨env, mem, nb⟩) ag c1' p9 p7 e) (fun a' d1 d2 d3 d4 => ?_)
                          unfold wpList
                          rw [if_pos (goes_wanted hg2 d3)]
                          refine .inl ?_
                          let cs' := (cs.toList.take (ad.off + (i * wid c + f)) ++ [L.hd] ++ cs.toList.drop (ad.off + (i * wid c + f) + 1)).toArray
                          have hfit : ad.off + (i * wid c + f) + 1 ≤ cs.size := by
                            have : (i + 1) * wid c ≤ (V ⟨k, []⟩).cap * wid c := Nat.mul_le_mul_right _ (by have := hat0.2.1; omega)
                            rw [Nat.add_mul] at this
                            omega
                          have hpv : (V.ext nb (nlI V k i f L)) ⟨k, []⟩ = V ⟨k, []⟩ := ag _ hkn
                          obtain ⟨iz, gz1, gz2, gz3, _⟩ := (hL.at ht2).info
                          have store : (Instr.storeAt T2 (den (V.ext nb (nlI V k i f L)) (.el ⟨k, []⟩ (wid c) i f)) (den (V.ext nb (nlI V k i f L)) (.sl ⟨nb, [(i, f)]⟩))).run x.P w1 = .ok () (w1.setRow ad.block cs') := by
                            rw [hdy]
                            simp only [Instr.storeAt, den, hpv, Loc.at, a1, Option.map_some, Instr.sureAddr, Sem.run_bind, Sem.run_pure, Result.andThen_ok, storeVar, r_sizeOf gz1]
                            have hcl : L.hd.cells = #[L.hd] := rfl
                            rw [hcl, if_neg (by rw [gz2, TI.zero_len, e6]; simp)]
                            have := run_storeCells_at (P := x.P) ad.block (ad.off + (i * wid c + f)) tt [L.hd] 0 cs w1 hw1 (by simp only [List.length_cons, List.length_nil]; omega) (by intro u hu; rw [List.mem_singleton] at hu; subst hu; rfl)
                            simp only [Nat.add_zero] at this
                            exact this
                          unfold Oper.wp
                          have hst : (execOp a'.eval ⟨none, .store T2 p y, ty2, pos2, after2, gd2⟩).run x.P w1 = .ok .skip (w1.setRow ad.block cs') := by
                            simp only [execOp, d3.get (s := ⟨env', mem, nb⟩) hp, d3.get (s := ⟨env', mem, nb⟩) hy, Sem.run_bind, store, Result.andThen_ok, Sem.run_pure]
                          rw [hst]
                          have hh := setRow_heap w1 ad.block cs cs' tt (0, 0) hw1
                          have other : ∀ b, b ≠ ad.block → (w1.setRow ad.block cs').heap[b]? = w1.heap[b]? := fun b hb => setRow_other w1 ad.block b _ hb
                          have hcs : ∀ o, cs'[o]? = if o = ad.off + (i * wid c + f) then some L.hd else cs[o]? := by
                            intro o
                            simp only [cs', List.getElem?_toArray]
                            by_cases h1 : o < ad.off + (i * wid c + f)
                            · rw [if_neg (by omega), List.append_assoc, List.getElem?_append_left (by simp; omega), List.getElem?_take, if_pos h1]; simp
                            · by_cases h2 : o = ad.off + (i * wid c + f)
                              · rw [if_pos h2, List.append_assoc, List.getElem?_append_right (by simp; omega)]
                                have : o - (cs.toList.take (ad.off + (i * wid c + f))).length = 0 := by simp; omega
                                rw [this]; rfl
                              · rw [if_neg h2, List.getElem?_append_right (by simp; omega), List.getElem?_drop]
                                simp only [Array.getElem?_toList]
                                congr 1
                                simp; omega
                          have hrep := hr.inPlace (w' := w1.setRow ad.block cs') (i := i) (f := f) (x' := x') (zs := xs ++ ys) (L := L) hm hi hnth hflat hx' p1 p2
                            (by
                              rcases p3 with h | ⟨aL, csL, tL, y1, y2, y3, y4, y5⟩
                              · exact .inl h
                              · rcases Nat.eq_zero_or_pos L.cap with hz | hz
                                · exact .inl hz
                                · have hne := Lad (by omega)
                                  unfold Loc.b at hne
                                  rw [y1] at hne
                                  exact .inr ⟨aL, csL, tL, y1, y2, (other _ hne).trans y3, y4, y5⟩)
                            (fun a9 y9 hy9 j9 d9 hd9 => by
                              have hin : (pre ++ news)[a9 * wid c1 + j9]? = some (denT V0 ⟨0, []⟩ d9) := by
                                have hjw : j9 < wid c1 := by have := (List.getElem?_eq_some_iff.1 hd9).1; rw [tcells_len] at this; exact this
                                have dsl : ∀ pv, denP V pv a9 j9 d9 = denT V0 ⟨0, []⟩ d9 ∧ ∀ a8, denP V pv a8 j9 d9 = denT V0 ⟨0, []⟩ d9 := by
                                  intro pv
                                  cases d9 with
                                  | int _ _ => exact ⟨rfl, fun _ => rfl⟩
                                  | bool _ => exact ⟨rfl, fun _ => rfl⟩
                                  | str _ => exact ⟨rfl, fun _ => rfl⟩
                                  | sl c5 l5 => exact absurd hd9 (flat_no hflat)
                                by_cases hlt9 : a9 < xs.length
                                · rw [List.getElem?_append_left hlt9] at hy9
                                  have hlp : a9 * wid c1 + j9 < pre.length := by
                                    rw [hpl, hsz]
                                    have : (a9 + 1) * wid c1 ≤ xs.length * wid c1 := Nat.mul_le_mul_right _ hlt9
                                    rw [Nat.succ_mul] at this; omega
                                  rw [List.getElem?_append_left hlp, S0.rows.val a9 y9 hy9 j9 d9 hd9, (dsl _).1]
                                · rw [List.getElem?_append_right (by omega)] at hy9
                                  have e9 : a9 * wid c1 = xs.length * wid c1 + (a9 - xs.length) * wid c1 := by rw [← Nat.add_mul]; congr 1; omega
                                  rw [List.getElem?_append_right (by rw [hpl, hsz]; omega), show a9 * wid c1 + j9 - pre.length = (a9 - xs.length) * wid c1 + j9 by rw [hpl, hsz]; omega, S.rows.val _ y9 hy9 j9 d9 hd9, (dsl _).2]
                              obtain ⟨aL, y1, y2, y3⟩ := p4 _ _ hin
                              refine ⟨aL, y1, y2, ?_⟩
                              have hcp : L.cap ≠ 0 := by
                                have := (List.getElem?_eq_some_iff.1 hy9).1
                                omega
                              have hne := Lad hcp
                              unfold Loc.b at hne
                              rw [y1] at hne
                              rw [cell_heap (other _ hne)]
                              exact y3)
                            p5 a1 a2 b3 hh (by simp only [cs', List.size_toArray, List.length_append, List.length_take, List.length_drop, Array.length_toList, List.length_cons, List.length_nil]; omega) hcs
                            (fun b hb hb1 hb2 => (other b hb1).trans (p7 b hb hb2)) (by rw [setRow_size]; exact p6) (p8.trans ⟨rfl, rfl, rfl⟩)
                          have hfin : Rep x g (V.ext nb (nlI V k i f L)) ⟨env', (nb, .list .own c (l0.set i x')) :: killL [k] mem, nb + 1⟩ a' (w1.setRow ad.block cs') := ⟨d1, d2, d3, d4, hrep.ents.env, hrep.frame, hrep.own, hrep.pin, hrep.d0⟩
                          have hT := hfin.T (ridI_ok (V := V) (k := k) (i := i) (f := f) (nb := nb) (L := L) hkn)
                          exact hk.run g Q _ _ _ hQ hT
                        have hcap0 : (xs ++ ys).length = xs.length + ys.length := List.length_append
                        rcases r2 with ⟨hL', hn', hw', hc'⟩ | ⟨a0, cs5, t5, hL', ha0, hs0, hh0, hf0, hc', h0', hw'⟩ | ⟨rst, hL', hl', hc', hr', hw', hcb⟩
                        · subst hL'
                          subst hw'
                          refine key (by rw [hcap0]) (by rw [hcap0]; exact hc') (q3 rfl) (fun j u hu => ?_) (fun hne => .inl ⟨hne, rfl⟩) (Nat.le_refl _) (fun b hb _ => rfl) (SIO.refl _) ⟨q1, q2, q3, q4⟩
                          rw [hn', List.append_nil] at hu
                          have hpos : 0 < pre.length := by have := (List.getElem?_eq_some_iff.1 hu).1; omega
                          have hx0 : 0 < xs.length := Nat.pos_of_ne_zero fun e => by rw [hpl, e, Nat.zero_mul] at hpos; omega
                          rcases q3 rfl with h | ⟨⟨b0, o0, s0⟩, cs9, t9, w1, w2, w3, w4, w5⟩
                          · omega
                          · obtain ⟨ad9, e1, e2⟩ := S0.read j u hu
                            rw [w1] at e1
                            cases e1
                            simp only at w2
                            subst w2
                            rw [Addr.add_mid] at e2
                            exact ⟨_, w1, rfl, e2⟩
                        · subst hL'
                          rw [hsz] at hf0 hw'
                          subst hw'
                          have hfit : a0.off + xs.length * wid c1 + news.length ≤ cs5.size := by
                            have : (xs.length + ys.length) * wid c1 ≤ (V ⟨k, [(i, f)]⟩).cap * wid c1 := Nat.mul_le_mul_right _ hc'
                            rw [Nat.add_mul] at this
                            rw [hnl, hsz]; omega
                          have hh := setRow_heap w a0.block cs5 (cs5.toList.take (a0.off + xs.length * wid c1) ++ news ++ cs5.toList.drop (a0.off + xs.length * wid c1 + news.length)).toArray t5 (0, 0) hh0
                          have hbn : (V ⟨k, [(i, f)]⟩).b = a0.block := by unfold Loc.b; rw [ha0]
                          have hfit2 : a0.off + (V ⟨k, [(i, f)]⟩).cap * wid c1 ≤ (cs5.toList.take (a0.off + xs.length * wid c1) ++ news ++ cs5.toList.drop (a0.off + xs.length * wid c1 + news.length)).toArray.size := by
                            simp only [List.size_toArray, List.length_append, List.length_take, List.length_drop, Array.length_toList]; omega
                          refine key (by rw [hcap0]) (by rw [hcap0]; exact hc') (.inr ⟨a0, _, t5, ha0, hs0, hh, hfit2, r3⟩) (fun j u hu => ⟨a0, ha0, hs0, cell_of hh ?_⟩) (fun hne => .inl ⟨hne, rfl⟩) (by rw [setRow_size]; exact Nat.le_refl _) (fun b hb hne => setRow_other w a0.block b _ fun e => hne (by omega) (by rw [hbn, e])) ⟨rfl, rfl, rfl⟩ ⟨q1, q2, fun _ => .inr ⟨a0, _, t5, ha0, hs0, hh, hfit2, hcm⟩, fun a9 y9 hy9 j9 d9 hd9 => ?_⟩
                          · simp only [List.getElem?_toArray]
                            by_cases hj : j < pre.length
                            · rw [List.getElem?_append_left hj] at hu
                              rw [List.append_assoc, List.getElem?_append_left (by simp; rw [hpl, hsz] at hj; omega), List.getElem?_take, if_pos (by rw [hpl, hsz] at hj; omega)]
                              obtain ⟨ad9, e1, e2⟩ := S0.read j u hu
                              rw [ha0] at e1
                              cases e1
                              obtain ⟨b1, o1, s1⟩ := a0
                              simp only at hs0
                              subst hs0
                              rw [Addr.add_mid] at e2
                              simp only [World.cell?, hh0, Option.isSome_none, Bool.false_eq_true, if_false] at e2
                              simpa using e2
                            · rw [List.getElem?_append_right (by omega)] at hu
                              have hjl := (List.getElem?_eq_some_iff.1 hu).1
                              rw [hpl, hsz] at hj hu hjl
                              rw [List.append_assoc, List.getElem?_append_right (by simp; omega), List.getElem?_append_left (by simp; omega), ← hu]
                              congr 1
                              simp; omega
                          · obtain ⟨ad9, y1, y2, y3⟩ := q4 a9 y9 hy9 j9 d9 hd9
                            rw [ha0] at y1
                            cases y1
                            refine ⟨a0, ha0, hs0, cell_of hh ?_⟩
                            simp only [World.cell?, hh0, Option.isSome_none, Bool.false_eq_true, if_false] at y3
                            have hlt9 : a9 < xs.length := (List.getElem?_eq_some_iff.1 hy9).1
                            have hjw : j9 < wid c1 := by have := (List.getElem?_eq_some_iff.1 hd9).1; rw [tcells_len] at this; exact this
                            have hlp : a9 * wid c1 + j9 < xs.length * wid c1 := by
                              have : (a9 + 1) * wid c1 ≤ xs.length * wid c1 := Nat.mul_le_mul_right _ hlt9
                              rw [Nat.succ_mul] at this; omega
                            simp only [List.getElem?_toArray]
                            rw [List.append_assoc, List.getElem?_append_left (by simp; omega), List.getElem?_take, if_pos (by omega)]
                            simpa using y3
                        · subst hw'
                          have hh := heap_alloc_new w.drew (.cells (pre ++ news ++ rst).toArray e)
                          have hpn : (pre ++ news).length = (xs.length + ys.length) * wid c1 := by rw [List.length_append, hpl, hnl, hsz, Nat.add_mul]
                          refine key (by rw [hcap0]; exact hl') (by rw [hcap0]; exact hc') (.inr ⟨_, _, e, hL', rfl, hh, ?_, r3⟩) (fun j u hu => ⟨_, hL', rfl, cell_of hh ?_⟩) (fun _ => .inr ?_) (by rw [alloc_size]; exact Nat.le_succ _) (fun b hb _ => alloc_old w.drew _ hb) ⟨rfl, rfl, rfl⟩ ?_
                          · simp only [List.size_toArray, List.length_append, hpn, hr', hsz, Nat.zero_add]
                            have : L.cap * wid c1 = (xs.length + ys.length) * wid c1 + (L.cap - (xs.length + ys.length)) * wid c1 := by rw [← Nat.add_mul]; congr 1; omega
                            simp only [List.length_append] at hpn
                            omega
                          · simp only [List.getElem?_toArray, Nat.zero_add]
                            rw [List.getElem?_append_left (List.getElem?_eq_some_iff.1 hu).1]
                            exact hu
                          · show w.heap.size ≤ L.b
                            unfold Loc.b; rw [hL']; exact Nat.le_refl _
                          · have hold : AtB V w ⟨k, [(i, f)]⟩ (.list .own c1 xs) := ⟨q1, q2, q3, q4⟩
                            obtain ⟨z1, z2⟩ := hr.ents.okc c1'
                            exact hold.keep z2 z1 (AgrB.refl _ _) (fun hl => alloc_old w.drew _ (hr.ents.lt c1' hl))
                      · cases h
                    · cases h
                  · cases h
                · cases h
              · cases h
            · cases h
          · cases h
        · cases h
      · cases h
    · cases h
end
def appNR (d : AppN) (mem : List (Nat × MB)) (nb : Nat) (g : List Oper → St → Res) : Res := match d with
  | ⟨k, i, f, m, env, rest, _⟩ => killP [k] mem fun mem1 => memTP (ridT k nb f 1 i []) ((nb, m) :: mem1) fun mem2 => envTP (ridT k nb f 1 i []) env fun env2 => nx nb fun nb' => g rest ⟨env2, mem2, nb'⟩
section
variable {x : Cx} {Q : Exit → St → Prop} {obs : List Prop} {K : List Kf} {all l : List Oper} {env : List (Nat × SV)} {mem : List (Nat × MB)} {nb : Nat} {o : Oper}
end
end Go.Proofs.Ytonjbhdfimcedaa
namespace Go.Proofs.Ytonjbhdfimcedaa
open Go.RowKit
def lateE (D : List Nat) (o : Oper) : Oper := ⟨o.dst, o.op, o.type, o.pos, o.after ++ (D.map fun d => (⟨d, .data⟩ : Edge)).toArray, o.guard⟩
def lateOps : List Oper → Nat → List Nat → List Oper
  | [], _, _ => []
  | o :: l, 0, D => lateE D o :: l
  | o :: l, n + 1, D => o :: lateOps l n D
theorem lateOps_len : ∀ (l : List Oper) (n : Nat) (D : List Nat), (lateOps l n D).length = l.length
  | [], _, _ => rfl
  | _ :: _, 0, _ => rfl
  | _ :: l, n + 1, D => by simp [lateOps, lateOps_len l n D]
theorem lateOps_ne : ∀ {l : List Oper} {n : Nat} {D : List Nat} {i : Nat}, i ≠ n → (lateOps l n D)[i]? = l[i]?
  | [], _, _, _, _ => rfl
  | o :: l, 0, D, 0, h => absurd rfl h
  | o :: l, 0, D, i + 1, _ => by simp [lateOps]
  | o :: l, n + 1, D, 0, _ => by simp [lateOps]
  | o :: l, n + 1, D, i + 1, h => by simp only [lateOps, List.getElem?_cons_succ]; exact lateOps_ne (by omega)
theorem lateOps_eq : ∀ {l : List Oper} {n : Nat} {D : List Nat}, (lateOps l n D)[n]? = (l[n]?).map (lateE D)
  | [], _, _ => rfl
  | o :: l, 0, D => by simp [lateOps]
  | o :: l, n + 1, D => by simp only [lateOps, List.getElem?_cons_succ]; exact lateOps_eq
theorem lateOps_dst {l : List Oper} {n : Nat} {D : List Nat} (j : Nat) : ((lateOps l n D)[j]?).bind (·.dst) = (l[j]?).bind (·.dst) := by
  by_cases h : j = n
  · subst h; rw [lateOps_eq]; cases l[j]? <;> rfl
  · rw [lateOps_ne h]
theorem late_yielded {l : List Oper} {n : Nat} {D : List Nat} (tmps : Array Value) : yielded (lateOps l n D).toArray tmps = yielded l.toArray tmps := by
  funext j
  unfold yielded
  have : ((lateOps l n D).toArray[j]?).bind (·.dst) = (l.toArray[j]?).bind (·.dst) := by
    simp only [List.getElem?_toArray]; exact lateOps_dst j
  rw [this]
section
variable {P : Program} {md : Region.Mode} {E : World → World → Prop} {w0 : World}
theorem mOp_sound (hE : Stays E w0) {ops ops' : Array Oper} {i : Nat} {o : Oper} (ho' : ops'[i]? = some o) (ho : ops[i]? = some o) (hy : ∀ tmps, yielded ops' tmps = yielded ops tmps) {K : List Fact → Act → Prop} {K' : Act → World → Prop} {Q' : Exit → Act → World → Prop}
    {fs : List Fact} {a : Act} {w : World} (hs : Stay E fs) (hw : Wit E w0 fs w) (h1 : mOp P md ops' E w0 i K fs a) (hK : ∀ fs' a' w', Stay E fs' → Wit E w0 fs' w' → K fs' a' → K' a' w') : wpOp P ops Q' i K' a w := by
  unfold mOp at h1
  unfold wpOp
  simp only [ho', ho, hy] at h1 ⊢
  split
  · rename_i hq
    simp only [hq, if_true] at h1
    left
    unfold Oper.wp
    rcases h1 with ⟨v, h2, h3⟩ | ⟨_, S, hm, h2, h3⟩ | ⟨_, sh, c, t, h2, h3⟩
    · have h4 := h2 w (hw.cls i)
      unfold Oper.quietAt at h4
      generalize (execOp a.eval o).run P w = r at *
      cases r with
      | ok k w' =>
        cases k <;> simp only [Oper.quietUpon] at h4 <;> simp only [Oper.upon]
        case value u => obtain ⟨e1, e2⟩ := h4; rw [e1, e2]; exact hK _ _ _ hs hw h3
        case skip => obtain ⟨e1, e2⟩ := h4; rw [e1, ← e2]; exact hK _ _ _ hs hw h3
        case enter f' args =>
          obtain ⟨e1, hc⟩ := h4
          rw [e1]
          exact hc.mono fun e w'' ⟨he, hw''⟩ => by subst he; exact hK _ _ _ hs (hw.mono hE hs hw'') h3
      | halt x w' => simp only [Oper.quietUpon] at h4
    · have h4 := h2 w (hw.cls i)
      unfold gives at h4
      have key : ∀ v w'', E w w'' ∧ S v w.heap.size w''.heap.size w'' → K' (a.put o.dst v) w'' := fun v w'' ⟨he, hv⟩ => by
        have hs' : Stay E (⟨i, w.heap.size, w''.heap.size, S v w.heap.size w''.heap.size⟩ :: fs) := Stay.cons (fun u u' a _ b => hm _ _ _ _ _ a b) hs
        have hw' : Wit E w0 (⟨i, w.heap.size, w''.heap.size, S v w.heap.size w''.heap.size⟩ :: fs) w'' :=
          ⟨hE.trans _ _ _ hw.1 he, fun f hf => by
            rcases List.mem_cons.1 hf with rfl | hf
            · exact ⟨hv, Nat.le_refl _⟩
            · exact (hw.mono hE hs he).2 f hf⟩
        exact hK _ _ _ hs' hw' (h3 v _ _ (hE.size _ _ he) (hE.size _ _ hw.1) (far_of_wit hw (Nat.le_refl _)) ⟨_, hw'⟩)
      generalize (execOp a.eval o).run P w = r at *
      cases r with
      | ok k w' =>
        cases k <;> simp only [givesUpon] at h4 <;> simp only [Oper.upon]
        case value u => exact key _ _ h4
        case enter f' args =>
          obtain ⟨e1, hc⟩ := h4
          rw [e1]
          exact hc.mono fun e w'' ⟨v, he, hw''⟩ => by subst he; exact key _ _ hw''
      | halt x w' => simp only [givesUpon] at h4
    · rw [h2 w (hw.cls i)]
      simp only [Oper.upon]
      have he := hE.alloc w c t
      have hn : (w.alloc (.cells c t)).heap[w.heap.size]? = some (.cells c t) := heap_alloc_new w _
      have hsz : (w.alloc (.cells c t)).heap.size = w.heap.size + 1 := by show (w.heap.push _).size = _; simp
      have hs' : Stay E (⟨i, w.heap.size, w.heap.size + 1, fun u => u.heap[w.heap.size]? = some (.cells c t)⟩ :: fs) :=
        Stay.cons (fun u u' a1 a2 b => (hE.keeps _ _ _ b (hE.size _ _ hw.1) (by simp only [] at a2; omega)).trans a1) hs
      have hw' : Wit E w0 (⟨i, w.heap.size, w.heap.size + 1, fun u => u.heap[w.heap.size]? = some (.cells c t)⟩ :: fs) (w.alloc (.cells c t)) :=
        ⟨hE.trans _ _ _ hw.1 he, fun f hf => by
          rcases List.mem_cons.1 hf with rfl | hf
          · exact ⟨hn, by rw [hsz]; exact Nat.le_refl _⟩
          · exact (hw.mono hE hs he).2 f hf⟩
      exact hK _ _ _ hs' hw' (h3 _ (hE.size _ _ hw.1) (far_of_wit hw (Nat.le_refl _)) ⟨_, hw'⟩)
  · rename_i hq
    simp only [hq] at h1
    exact hK _ _ _ hs hw h1
end
def lateD (l : List Oper) (n t : Nat) (on : Oper) (D : List Nat) (d : Nat) : Bool := decide (d < n) && match l[d]? with
  | none => false
  | some o => o.guard.isNone && (!isCall o && (!isAlloc o && match o.dst with
    | none => false
    | some s => decide (s ≠ t) && (!(on.looksAt l.toArray).contains s && (D.all (fun d' => match l[d']? with
        | some o' => (d' == d || decide (o'.dst ≠ some s)) && (!(o'.looksAt l.toArray).contains s || (decide (d' ≠ d) && Region.waitsFor .any l.toArray d' d))
        | none => false) && (o.after.all fun e => !Region.binds .any e || decide (e.on < d))))))
def lateB (l : List Oper) (n : Nat) (D : List Nat) : Bool := match l[n]? with
  | none => false
  | some on => on.guard.isNone && (match on.dst with
    | none => false
    | some t => D.all (lateD l n t on D)) && (decide (n + 1 < l.length) && (D.all (fun d => Region.waitsFor .any l.toArray (n + 1) d || D.any fun d' => decide (d < d') && Region.waitsFor .any l.toArray d' d) && (Region.chainB .any l.toArray n &&
      ((List.range n).all (fun i => D.contains i || (List.range (n + 1)).any fun j => decide (i < j) && (!D.contains j && Region.waitsFor .any l.toArray j i)) &&
      (Region.noSelect l.toArray && Region.seqB .any l.toArray (l.length - (n + 1)) (n + 1) (List.replicate (n + 1) true ++ List.replicate (l.length - (n + 1)) false).toArray)))))
def LateA (P : Program) (l : List Oper) (Q : Exit → Act → World → Prop) (n : Nat) (D : List Nat) (a : Act) (w : World) : Prop :=
  ∃ on t v w1, l[n]? = some on ∧ on.dst = some t ∧ (execOp a.eval on).run P w = .ok (.value v) w1 ∧
    (∀ d ∈ D, ∀ o s, l[d]? = some o → o.dst = some s → (execOp (a.put (some t) v).eval o).run P w1 = .ok (.value ((a.put (some t) v).tmps.getD s Go.undef)) w1) ∧ wpList P l.toArray Q (l.drop (n + 1)) (a.put (some t) v) w1
structure AgreeA (l : List Oper) (R : List Nat) (a b : Act) : Prop where
  defers : a.defers = b.defers
  size : a.tmps.size = b.tmps.size
  slot : ∀ s, (∀ d ∈ R, ∀ o, l[d]? = some o → o.dst ≠ some s) → a.tmps[s]? = b.tmps[s]?
theorem AgreeA.full {l : List Oper} {a b : Act} (h : AgreeA l [] a b) : a = b := by
  obtain ⟨t1, d1⟩ := a
  obtain ⟨t2, d2⟩ := b
  obtain ⟨h1, h2, h3⟩ := h
  simp only at h1 h2 h3
  subst h1
  congr 1
  apply Array.ext_getElem?
  intro i
  exact h3 i fun d hd => absurd hd List.not_mem_nil
theorem AgreeA.eval {l : List Oper} {R : List Nat} {a b : Act} (h : AgreeA l R a b) {o : Oper} (hs : ∀ cs b, o.op ≠ .select cs b) (hn : ∀ d ∈ R, ∀ o', l[d]? = some o' → ∀ s, o'.dst = some s → s ∉ o.looksAt l.toArray) : execOp a.eval o = execOp b.eval o :=
  execOp_congr o hs fun x hx => by
    cases x with
    | tmp t =>
      have := h.slot t (fun d hd o' ho' e => hn d hd o' ho' t e (List.mem_append_left _ (List.mem_filterMap.2 ⟨.tmp t, by simpa using hx, rfl⟩)))
      simp only [Act.eval, Array.getD_eq_getD_getElem?, this]
    | _ => rfl
structure LateOk (l : List Oper) (n t : Nat) (on : Oper) (D : List Nat) : Prop where
  at_ : l[n]? = some on
  g : on.guard = none
  dst : on.dst = some t
  d : ∀ d ∈ D, d < n ∧ ∃ o s, l[d]? = some o ∧ o.guard = none ∧ isCall o = false ∧ isAlloc o = false ∧ o.dst = some s ∧ s ≠ t ∧ s ∉ on.looksAt l.toArray ∧ (∀ d' ∈ D, ∃ o', l[d']? = some o' ∧ (d' = d ∨ o'.dst ≠ some s) ∧ (s ∈ o'.looksAt l.toArray → d' ≠ d ∧ Region.waitsFor .any l.toArray d' d = true)) ∧ ∀ e ∈ o.after, Region.binds .any e = true → e.on < d
  next : n + 1 < l.length
  wt : ∀ d ∈ D, Region.waitsFor .any l.toArray (n + 1) d = true ∨ ∃ d' ∈ D, d < d' ∧ Region.waitsFor .any l.toArray d' d = true
  chain : Region.chainB .any l.toArray n = true
  cov : ∀ i, i < n → i ∉ D → ∃ j, i < j ∧ j ≤ n ∧ j ∉ D ∧ Region.waitsFor .any l.toArray j i = true
  sel : Region.noSelect l.toArray = true
  seq : Region.seqB .any l.toArray (l.length - (n + 1)) (n + 1) (List.replicate (n + 1) true ++ List.replicate (l.length - (n + 1)) false).toArray = true
theorem lateB_ok {l : List Oper} {n : Nat} {D : List Nat} (h : lateB l n D = true) : ∃ t on, LateOk l n t on D := by
  unfold lateB at h
  split at h
  · cases h
  · rename_i on hon
    simp only [Bool.and_eq_true, decide_eq_true_eq] at h
    obtain ⟨⟨h1, h2⟩, h3, h4, h5, h6, h7, h8⟩ := h
    split at h2
    · cases h2
    · rename_i t ht
      refine ⟨t, on, hon, by simpa using h1, ht, fun d hd => ?_, h3, fun d hd => (by
        have := List.all_eq_true.1 h4 d hd
        simp only [Bool.or_eq_true] at this
        rcases this with h | h
        · exact .inl h
        · obtain ⟨d', hd', hp⟩ := List.any_eq_true.1 h
          simp only [Bool.and_eq_true, decide_eq_true_eq] at hp
          exact .inr ⟨d', hd', hp.1, hp.2⟩), h5, fun i hi hn => ?_, h7, h8⟩
      · have := List.all_eq_true.1 h2 d hd
        unfold lateD at this
        simp only [Bool.and_eq_true, decide_eq_true_eq] at this
        obtain ⟨g1, g2⟩ := this
        split at g2
        · cases g2
        · rename_i o ho
          simp only [Bool.and_eq_true, Bool.not_eq_true'] at g2
          obtain ⟨g3, g4, g5, g6⟩ := g2
          split at g6
          · cases g6
          · rename_i s hs
            simp only [Bool.and_eq_true, decide_eq_true_eq, Bool.not_eq_true'] at g6
            obtain ⟨k1, k2, k3, k4⟩ := g6
            refine ⟨g1, o, s, ho, by simpa using g3, g4, g5, hs, k1, by simpa using k2, fun d' hd' => ?_, fun e he hb => ?_⟩
            · have := List.all_eq_true.1 k3 d' hd'
              split at this
              · rename_i o' ho'
                simp only [Bool.and_eq_true, Bool.or_eq_true, beq_iff_eq, decide_eq_true_eq, Bool.not_eq_true'] at this
                refine ⟨o', ho', this.1, fun hx => ?_⟩
                rcases this.2 with h | h
                · exfalso
                  have : (o'.looksAt l.toArray).contains s = true := by simpa using hx
                  rw [this] at h; cases h
                · exact h
              · cases this
            · have := Array.all_eq_true_iff_forall_mem.1 k4 e he
              simp only [Bool.or_eq_true, Bool.not_eq_true', decide_eq_true_eq] at this
              rcases this with h | h
              · rw [h] at hb; cases hb
              · exact h
      · have := List.all_eq_true.1 h6 i (List.mem_range.2 hi)
        simp only [Bool.or_eq_true] at this
        rcases this with h | h
        · exact absurd (by simpa using h) hn
        · obtain ⟨j, hj, hp⟩ := List.any_eq_true.1 h
          simp only [Bool.and_eq_true, decide_eq_true_eq, Bool.not_eq_true'] at hp
          exact ⟨j, hp.1, by have := List.mem_range.1 hj; omega, by simpa using hp.2.1, hp.2.2⟩
structure LeftR (l : List Oper) (n : Nat) (R : List Nat) (listed : Array Bool) : Prop where
  nodup : R.Nodup
  size : listed.size = l.length
  lt : ∀ i ∈ R, i < n
  is : ∀ i, i < n → (listed.getD i false = true ↔ i ∉ R)
theorem LeftR.unl {l : List Oper} {n : Nat} {R : List Nat} {listed : Array Bool} (h : LeftR l n R listed) {i : Nat} (hi : i < n) (hu : listed.getD i true = false) : i ∈ R := by
  have h1 := getD_both hu
  rcases Classical.em (i ∈ R) with h2 | h2
  · exact h2
  · rw [(h.is i hi).2 h2] at h1; cases h1
theorem LeftR.set {l : List Oper} {n : Nat} {R : List Nat} {listed : Array Bool} (h : LeftR l n R listed) {i : Nat} (hi : i ∈ R) (hn : n ≤ l.length) : LeftR l n (R.erase i) (listed.setIfInBounds i true) := by
  have hin := h.lt i hi
  refine ⟨h.nodup.erase i, by simp [h.size], fun j hj => h.lt j (List.mem_of_mem_erase hj), fun j hj => ?_⟩
  by_cases e : i = j
  · subst e
    refine ⟨fun _ hm => ?_, fun _ => ?_⟩
    · exact (h.nodup.mem_erase_iff.1 hm).1 rfl
    · have : i < listed.size := by rw [h.size]; omega
      simp [this]
  · rw [getD_set_ne false e, h.is j hj, h.nodup.mem_erase_iff]
    exact ⟨fun h1 h2 => h1 h2.2, fun h1 h2 => h1 ⟨Ne.symm e, h2⟩⟩
theorem get_arr {l : List Oper} {i : Nat} : l.toArray[i]? = l[i]? := by simp
section
variable {P : Program} {Q : Exit → Act → World → Prop} {l : List Oper} {n t : Nat} {on : Oper} {D : List Nat}
theorem wanted_none {o : Oper} (h : o.guard = none) (y : Nat → Option Bool) : Region.wanted o y = true := by unfold Region.wanted; rw [h]
theorem late_last (LO : LateOk l n t on D) {R : List Nat} (hR : ∀ d ∈ R, d ∈ D) (hcl : ∀ d' ∈ D, d' ∉ R → ∀ d ∈ R, Region.waitsFor .any l.toArray d' d = false) : ∀ (m d : Nat), n - d = m → d ∈ R → ∃ d ∈ R, Region.waitsFor .any l.toArray (n + 1) d = true := by
  intro m
  induction m using Nat.strongRecOn with
  | _ m ih =>
    intro d hm hd
    rcases LO.wt d (hR d hd) with h | ⟨d', h1, h2, h3⟩
    · exact ⟨d, hd, h⟩
    · have hd' : d' ∈ R := by
        rcases Classical.em (d' ∈ R) with h | h
        · exact h
        · rw [hcl d' h1 h d hd] at h3; cases h3
      have := (LO.d d' h1).1
      exact ih (n - d') (by omega) d' rfl hd'
theorem late_after (LO : LateOk l n t on D) {b : Act} {w1 : World} (hb : ∀ d ∈ D, ∀ o s, l[d]? = some o → o.dst = some s → (execOp b.eval o).run P w1 = .ok (.value (b.tmps.getD s Go.undef)) w1) (hr : wpList P l.toArray Q (l.drop (n + 1)) b w1) :
    ∀ (k : Nat) (R : List Nat) (listed : Array Bool) (a : Act), R.length = k → (∀ d ∈ R, d ∈ D) → (∀ d' ∈ D, d' ∉ R → ∀ d ∈ R, Region.waitsFor .any l.toArray d' d = false) → LeftR l n R listed → listed.getD n false = true → (∀ j, n < j → j < l.length → listed.getD j true = false) → AgreeA l R a b → wpAny P .any l.toArray Q (k + (l.length - (n + 1))) listed a w1 := by
  intro k
  induction k with
  | zero =>
    intro R listed a hk hR hcl hl hn ht ha
    have : R = [] := List.eq_nil_of_length_eq_zero hk
    subst this
    rw [ha.full]
    have harr : listed = (List.replicate (n + 1) true ++ List.replicate (l.length - (n + 1)) false).toArray := by
      have hnx := LO.next
      apply Array.ext_getElem?
      intro i
      have hsz := hl.size
      rcases Nat.lt_trichotomy i n with h | h | h
      · have := (hl.is i h).2 List.not_mem_nil
        have hi : i < listed.size := by omega
        simp only [List.getElem?_toArray]
        rw [List.getElem?_append_left (by simp; omega), List.getElem?_replicate, if_pos (by omega)]
        simp only [Array.getD_eq_getD_getElem?, Array.getElem?_eq_getElem hi, Option.getD_some] at this ⊢
        rw [this]
      · subst h
        have hi : i < listed.size := by omega
        simp only [List.getElem?_toArray]
        rw [List.getElem?_append_left (by simp), List.getElem?_replicate, if_pos (by omega)]
        simp only [Array.getD_eq_getD_getElem?, Array.getElem?_eq_getElem hi, Option.getD_some] at hn ⊢
        rw [hn]
      · simp only [List.getElem?_toArray]
        rw [List.getElem?_append_right (by simp; omega), List.getElem?_replicate]
        by_cases hlt : i < l.length
        · have := ht i h hlt
          have hi : i < listed.size := by omega
          simp only [Array.getD_eq_getD_getElem?, Array.getElem?_eq_getElem hi, Option.getD_some] at this ⊢
          rw [this, if_pos (by simp; omega)]
        · rw [if_neg (by simp; omega), Array.getElem?_eq_none (by omega)]
    rw [harr, Nat.zero_add]
    have := wpAny_of_seq (md := .any) (P := P) (ops := l.toArray) (Q' := Q) (l.drop (n + 1)) (n + 1) _ b w1 (fun j => by simp [List.getElem?_drop]) (by rw [List.length_drop]; exact LO.seq) hr
    rwa [List.length_drop] at this
  | succ k ih =>
    intro R listed a hk hR hcl hl hn ht ha
    rw [show k + 1 + (l.length - (n + 1)) = (k + (l.length - (n + 1))) + 1 by omega]
    have hne : R ≠ [] := by intro e; subst e; simp at hk
    have hnx := LO.next
    refine ⟨fun h0 => ?_, fun i hi => ?_⟩
    · exfalso
      -- the least of R may come
      obtain ⟨m, hm, hmin⟩ : ∃ m ∈ R, ∀ r ∈ R, m ≤ r := by
        have : ∀ (R : List Nat), R ≠ [] → ∃ m ∈ R, ∀ r ∈ R, m ≤ r := by
          intro R
          induction R with
          | nil => intro h; exact absurd rfl h
          | cons x R ih =>
            intro _
            by_cases e : R = []
            · subst e; exact ⟨x, List.mem_cons_self, fun r hr => by rw [List.mem_singleton] at hr; omega⟩
            · obtain ⟨m, h1, h2⟩ := ih e
              by_cases hxm : x ≤ m
              · exact ⟨x, List.mem_cons_self, fun r hr => by
                  rcases List.mem_cons.1 hr with rfl | hr
                  · exact Nat.le_refl _
                  · exact Nat.le_trans hxm (h2 r hr)⟩
              · exact ⟨m, List.mem_cons_of_mem _ h1, fun r hr => by
                  rcases List.mem_cons.1 hr with rfl | hr
                  · omega
                  · exact h2 r hr⟩
        exact this R hne
      obtain ⟨_, o, s, ho, _, _, _, _, _, _, _, hed⟩ := LO.d m (hR m hm)
      have hmn := hl.lt m hm
      have : m ∈ Region.ready .any l.toArray listed := mem_ready.2 ⟨getD_in (by rw [hl.size]; omega) (by
        cases hx : listed.getD m false with
        | false => rfl
        | true => exact absurd hm ((hl.is m hmn).1 hx)), o, by rw [get_arr]; exact ho, fun e he hb2 => by
          have h1 := hed e he hb2
          refine (hl.is e.on (by omega)).2 fun hm2 => ?_
          have := hmin _ hm2
          omega⟩
      rw [h0] at this; cases this
    · obtain ⟨hun, oj, hoj, hall⟩ := mem_ready.1 hi
      rw [get_arr] at hoj
      have hiR : i ∈ R := by
        rcases Nat.lt_trichotomy i n with h | h | h
        · exact hl.unl h hun
        · subst h
          exfalso
          have hlt : i < listed.size := by rw [hl.size]; omega
          simp [hlt] at hn hun
          rw [hn] at hun; cases hun
        · exfalso
          have hil : i < l.length := (List.getElem?_eq_some_iff.1 hoj).1
          by_cases hi1 : i = n + 1
          · subst hi1
            obtain ⟨d0, hd0⟩ := List.exists_mem_of_ne_nil _ hne
            obtain ⟨d, hd, hw⟩ := late_last LO hR hcl _ d0 rfl hd0
            obtain ⟨oj', hoj', e, he, hbb, hon⟩ := Region.waitsFor_spec hw
            rw [get_arr] at hoj'
            have : oj' = oj := Option.some.inj (hoj'.symm.trans hoj)
            subst this
            have := hall e he hbb
            rw [hon] at this
            exact (hl.is d (hl.lt d hd)).1 this hd
          · have hc := LO.chain
            unfold Region.chainB at hc
            have := List.all_eq_true.1 hc i (List.mem_range.2 (by simpa using hil))
            simp only [Bool.or_eq_true, decide_eq_true_eq] at this
            rcases this with h2 | h2
            · omega
            · obtain ⟨oj', hoj', e, he, hbb, hon⟩ := Region.waitsFor_spec h2
              rw [get_arr] at hoj'
              have : oj' = oj := Option.some.inj (hoj'.symm.trans hoj)
              subst this
              have h3 := hall e he hbb
              rw [hon] at h3
              have h4 := getD_both (ht (i - 1) (by omega) (by omega))
              rw [h3] at h4; cases h4
      obtain ⟨hin, o, s, ho, hg, hc1, hc2, hdst, hst, hsn, hDD, hed⟩ := LO.d i (hR i hiR)
      have : oj = o := Option.some.inj (hoj.symm.trans ho)
      subst this
      have hev : execOp a.eval oj = execOp b.eval oj := ha.eval (fun cs bb => Region.noSelect_spec LO.sel i oj cs bb (by rw [get_arr]; exact hoj)) (fun d hd o' ho' s' hs' hx => by
        obtain ⟨_, o2, s2, ho2, _, _, _, hs2, _, _, hDD2, _⟩ := LO.d d (hR d hd)
        rw [ho'] at ho2
        cases ho2
        rw [hs'] at hs2
        cases hs2
        obtain ⟨o3, ho3, _, h3⟩ := hDD2 i (hR i hiR)
        rw [hoj] at ho3
        cases ho3
        obtain ⟨hne2, hw⟩ := h3 hx
        obtain ⟨oj', hoj', e, he, hbb, hon⟩ := Region.waitsFor_spec hw
        rw [get_arr] at hoj'
        have : oj' = oj := Option.some.inj (hoj'.symm.trans hoj)
        subst this
        have := hall e he hbb
        rw [hon] at this
        exact (hl.is d (hl.lt d hd)).1 this hd)
      unfold wpOp
      simp only [get_arr, hoj, wanted_none hg, if_true]
      left
      unfold Oper.wp
      rw [hev, hb i (hR i hiR) oj s ho hdst]
      simp only [Oper.upon, hdst]
      have hlen : (R.erase i).length = k := by rw [List.length_erase_of_mem hiR]; omega
      refine ih (R.erase i) _ _ hlen (fun d hd => hR d (List.mem_of_mem_erase hd)) (fun d' hd' hn' d hd => (by
        have hdR := List.mem_of_mem_erase hd
        by_cases e : d' = i
        · subst e
          cases hw : Region.waitsFor .any l.toArray d' d with
          | false => rfl
          | true =>
            exfalso
            obtain ⟨oj', hoj', e, he, hbb, hon⟩ := Region.waitsFor_spec hw
            rw [get_arr] at hoj'
            have : oj' = oj := Option.some.inj (hoj'.symm.trans hoj)
            subst this
            have := hall e he hbb
            rw [hon] at this
            exact (hl.is d (hl.lt d hdR)).1 this hdR
        · exact hcl d' hd' (fun h => hn' ((hl.nodup.mem_erase_iff).2 ⟨e, h⟩)) d hdR)) (hl.set hiR (by omega)) (by rw [getD_set_ne false (by omega)]; exact hn) (fun j hj hjl => by rw [getD_set_ne true (by omega)]; exact ht j hj hjl) ⟨ha.defers, ?_, fun x hx => ?_⟩
      · show (a.tmps.setIfInBounds s _).size = _
        rw [Array.size_setIfInBounds]; exact ha.size
      · show (a.tmps.setIfInBounds s _)[x]? = _
        by_cases e : s = x
        · subst e
          rw [Array.getElem?_setIfInBounds]
          simp only [if_true]
          have hsz : a.tmps.size = b.tmps.size := ha.size
          by_cases hlt : s < a.tmps.size
          · have hlb : s < b.tmps.size := hsz ▸ hlt
            rw [if_pos hlt, Array.getD_eq_getD_getElem?, Array.getElem?_eq_getElem hlb]; rfl
          · have hlb : b.tmps.size ≤ s := by rw [← hsz]; exact Nat.le_of_not_lt hlt
            rw [if_neg hlt, Array.getElem?_eq_none hlb]
        · rw [Array.getElem?_setIfInBounds_ne e]
          refine ha.slot x fun d hd o' ho' hdx => ?_
          by_cases e2 : d = i
          · subst e2
            rw [hoj] at ho'
            cases ho'
            rw [hdst] at hdx
            cases hdx
            exact e rfl
          · exact hx d ((hl.nodup.mem_erase_iff).2 ⟨e2, hd⟩) o' ho' hdx
variable {E : World → World → Prop} {w0 : World} {LL : Array Bool → List Fact → Act → Prop}
theorem late_ready (LO : LateOk l n t on D) {i : Nat} {listed : Array Bool} (h : i ≠ n) : i ∈ Region.ready .any (lateOps l n D).toArray listed ↔ i ∈ Region.ready .any l.toArray listed := by
  rw [mem_ready, mem_ready]
  simp only [get_arr, lateOps_ne h]
theorem late_unroll (LO : LateOk l n t on D) {fs : List Fact} : ∀ (k : Nat) (R : List Nat) (listed : Array Bool) (a : Act), R.length = k → (∀ d ∈ R, d ∈ D) → LeftR l n R listed → wpAnyM P .any (lateOps l n D).toArray E w0 n LL k listed fs a → ∃ listed' b, LL listed' fs b ∧ AgreeA l R a b := by
  intro k
  induction k with
  | zero =>
    intro R listed a hk hR hl h
    exact ⟨listed, a, h, rfl, rfl, fun _ _ => rfl⟩
  | succ k ih =>
    intro R listed a hk hR hl h
    obtain ⟨i, hi⟩ := List.exists_mem_of_ne_nil _ h.1
    obtain ⟨hin, hm⟩ := h.2 i hi
    have hir := (late_ready LO (by omega)).1 hi
    obtain ⟨hun, oj, hoj, hall⟩ := mem_ready.1 hir
    rw [get_arr] at hoj
    have hiR := hl.unl hin hun
    obtain ⟨_, o, s, ho, hg, hc1, hc2, hdst, _⟩ := LO.d i (hR i hiR)
    have : oj = o := Option.some.inj (hoj.symm.trans ho)
    subst this
    have hnl : n ≤ l.length := by have := LO.next; omega
    have hlen : (R.erase i).length = k := by rw [List.length_erase_of_mem hiR]; omega
    have go : ∀ v, wpAnyM P .any (lateOps l n D).toArray E w0 n LL k (listed.setIfInBounds i true) fs (a.put oj.dst v) → ∃ listed' b, LL listed' fs b ∧ AgreeA l R a b := by
      intro v hv
      obtain ⟨listed', b, h1, h2⟩ := ih (R.erase i) _ _ hlen (fun d hd => hR d (List.mem_of_mem_erase hd)) (hl.set hiR hnl) hv
      refine ⟨listed', b, h1, ?_, ?_, fun x hx => ?_⟩
      · have := h2.defers
        rw [hdst] at this; exact this
      · have := h2.size
        rw [hdst] at this
        have e : (a.put (some s) v).tmps.size = a.tmps.size := by show (a.tmps.setIfInBounds s _).size = _; rw [Array.size_setIfInBounds]
        rw [e] at this; exact this
      · have := h2.slot x (fun d hd o' ho' => hx d (List.mem_of_mem_erase hd) o' ho')
        rw [← this, hdst]
        have hne : s ≠ x := fun e => hx i hiR oj hoj (by rw [hdst, e])
        show a.tmps[x]? = (a.tmps.setIfInBounds s _)[x]?
        rw [Array.getElem?_setIfInBounds_ne hne]
    unfold mOp at hm
    simp only [get_arr, lateOps_ne (show i ≠ n by omega), hoj, wanted_none hg, if_true] at hm
    rcases hm with ⟨v, _, h3⟩ | ⟨hc, _⟩ | ⟨hc, _⟩
    · exact go v h3
    · rw [hc1] at hc; cases hc
    · rw [hc2] at hc; cases hc
theorem late_append (LO : LateOk l n t on D) (hLL : ∀ listed fs a w, LL listed fs a → Wit E w0 fs w → LateA P l Q n D a w) {fs : List Fact} {R : List Nat} {listed : Array Bool} {a : Act} {w : World} (hR : ∀ d ∈ R, d ∈ D) (hcl : ∀ d' ∈ D, d' ∉ R → ∀ d ∈ R, Region.waitsFor .any l.toArray d' d = false) (hl : LeftR l n R listed) (ht : ∀ j, n ≤ j → j < l.length → listed.getD j true = false)
    (hw : Wit E w0 fs w) (h : wpAnyM P .any (lateOps l n D).toArray E w0 n LL R.length listed fs a) : wpOp P l.toArray Q n (wpAny P .any l.toArray Q (R.length + (l.length - (n + 1))) (listed.setIfInBounds n true)) a w := by
  obtain ⟨listed', b, h1, h2⟩ := late_unroll LO R.length R listed a rfl hR hl h
  obtain ⟨on', t', v, w1, e1, e2, hrun, hval, hwp⟩ := hLL listed' fs b w h1 hw
  have := LO.at_
  rw [this] at e1
  cases e1
  have := LO.dst
  rw [this] at e2
  cases e2
  have hnx := LO.next
  have hev : execOp a.eval on = execOp b.eval on := h2.eval (fun cs bb => Region.noSelect_spec LO.sel n on cs bb (by rw [get_arr]; exact LO.at_)) (fun d hd o' ho' s' hs' hx => by
    obtain ⟨_, o2, s2, ho2, _, _, _, hs2, _, hsn, _⟩ := LO.d d (hR d hd)
    rw [ho'] at ho2
    cases ho2
    rw [hs'] at hs2
    cases hs2
    exact hsn hx)
  unfold wpOp
  simp only [get_arr, LO.at_, wanted_none LO.g, if_true]
  left
  unfold Oper.wp
  rw [hev, hrun]
  simp only [Oper.upon, LO.dst]
  refine late_after LO hval hwp R.length R _ _ rfl hR hcl ⟨hl.nodup, by simp [hl.size], hl.lt, fun i hi => by rw [getD_set_ne false (by omega)]; exact hl.is i hi⟩ ?_ (fun j hj hjl => by rw [getD_set_ne true (by omega)]; exact ht j (by omega) hjl) ⟨h2.defers, ?_, fun x hx => ?_⟩
  · have : n < listed.size := by rw [hl.size]; omega
    simp [this]
  · show (a.tmps.setIfInBounds t _).size = (b.tmps.setIfInBounds t _).size
    rw [Array.size_setIfInBounds, Array.size_setIfInBounds]; exact h2.size
  · show (a.tmps.setIfInBounds t v)[x]? = (b.tmps.setIfInBounds t v)[x]?
    have hsz : a.tmps.size = b.tmps.size := h2.size
    by_cases e : t = x
    · subst e
      rw [Array.getElem?_setIfInBounds, Array.getElem?_setIfInBounds, hsz]
      simp only [if_true]
    · rw [Array.getElem?_setIfInBounds_ne e, Array.getElem?_setIfInBounds_ne e]
      exact h2.slot x hx
theorem late_cov (LO : LateOk l n t on D) {R : List Nat} {listed : Array Bool} (hl : LeftR l n R listed) (inv : HeadInv .any (lateOps l n D).toArray n listed) (hr : n ∈ Region.ready .any l.toArray listed) : ∀ d ∈ R, d ∈ D := by
  have hnx := LO.next
  obtain ⟨_, on', hon', halln⟩ := mem_ready.1 hr
  have key : ∀ (m i : Nat), n - i = m → i < n → i ∉ D → listed.getD i false = true := by
    intro m
    induction m using Nat.strongRecOn with
    | _ m ih =>
      intro i hm hi hnd
      obtain ⟨j, h1, h2, h3, h4⟩ := LO.cov i hi hnd
      obtain ⟨oj, hoj, e, he, hbb, hon⟩ := Region.waitsFor_spec h4
      by_cases hj : j = n
      · subst hj
        rw [hoj] at hon'
        cases hon'
        have := halln e he hbb
        rw [hon] at this; exact this
      · have hlj := ih (n - j) (by omega) j rfl (by omega) h3
        have := inv.closed j oj (by rw [get_arr, lateOps_ne hj]; rw [get_arr] at hoj; exact hoj) hlj e he hbb
        rw [hon] at this; exact this
  intro d hd
  have hdn := hl.lt d hd
  rcases Classical.em (d ∈ D) with h | h
  · exact h
  · exact absurd hd ((hl.is d hdn).1 (key _ d rfl hdn h))
theorem wpAny_late (hE : Stays E w0) (LO : LateOk l n t on D) (hLL : ∀ listed fs a w, LL listed fs a → Wit E w0 fs w → LateA P l Q n D a w) (hrdy : ∀ listed fs a, LL listed fs a → n ∈ Region.ready .any l.toArray listed) :
    ∀ (f : Nat) (R : List Nat) (listed : Array Bool) (fs : List Fact) (a : Act) (w : World), R.length = f → LeftR l n R listed → HeadInv .any (lateOps l n D).toArray n listed → Stay E fs → Wit E w0 fs w → wpAnyM P .any (lateOps l n D).toArray E w0 n LL f listed fs a → wpAny P .any l.toArray Q (f + (l.length - n)) listed a w := by
  intro f
  induction f with
  | zero =>
    intro R listed fs a w hf hl inv hs hw h
    have hnx := LO.next
    have hRe : R = [] := List.eq_nil_of_length_eq_zero hf
    subst hRe
    rw [show 0 + (l.length - n) = (0 + (l.length - (n + 1))) + 1 by omega]
    have hr := hrdy listed fs a h
    refine ⟨fun h0 => (by rw [h0] at hr; cases hr), fun i hi => ?_⟩
    obtain ⟨hun, oj, hoj, hall⟩ := mem_ready.1 hi
    have hil : i < l.length := by have := (Array.getElem?_eq_some_iff.1 hoj).1; simpa using this
    have ht : ∀ j, n ≤ j → j < l.length → listed.getD j true = false := fun j h1 h2 => inv.tail j h1 (by simpa [lateOps_len] using h2)
    rcases Nat.lt_trichotomy i n with h1 | h1 | h1
    · exact absurd (hl.unl h1 hun) List.not_mem_nil
    · subst h1
      exact late_append LO hLL (R := []) (fun d hd => absurd hd List.not_mem_nil) (fun _ _ _ d hd => absurd hd List.not_mem_nil) hl ht hw h
    · exfalso
      have hc := LO.chain
      unfold Region.chainB at hc
      have := List.all_eq_true.1 hc i (List.mem_range.2 (by simpa using hil))
      simp only [Bool.or_eq_true, decide_eq_true_eq] at this
      rcases this with h2 | h2
      · omega
      · obtain ⟨oj', hoj', e, he, hbb, hon⟩ := Region.waitsFor_spec h2
        have : oj' = oj := Option.some.inj (hoj'.symm.trans hoj)
        subst this
        have h3 := hall e he hbb
        rw [hon] at h3
        have h4 := getD_both (ht (i - 1) (by omega) (by omega))
        rw [h3] at h4; cases h4
  | succ f ih =>
    intro R listed fs a w hf hl inv hs hw h
    have hnx := LO.next
    rw [show f + 1 + (l.length - n) = (f + (l.length - n)) + 1 by omega]
    refine ⟨fun h0 => ?_, fun i hi => ?_⟩
    · obtain ⟨i, hi⟩ := List.exists_mem_of_ne_nil _ h.1
      have := (late_ready LO (by have := (h.2 i hi).1; omega)).1 hi
      rw [h0] at this; cases this
    · obtain ⟨hun, oj, hoj, hall⟩ := mem_ready.1 hi
      have hil : i < l.length := by have := (Array.getElem?_eq_some_iff.1 hoj).1; simpa using this
      have ht : ∀ j, n ≤ j → j < l.length → listed.getD j true = false := fun j h1 h2 => inv.tail j h1 (by simpa [lateOps_len] using h2)
      rcases Nat.lt_trichotomy i n with h1 | h1 | h1
      · have hiR := hl.unl h1 hun
        have hi2 := (late_ready LO (show i ≠ n by omega)).2 hi
        have hlen : (R.erase i).length = f := by rw [List.length_erase_of_mem hiR]; omega
        exact mOp_sound hE (ops' := (lateOps l n D).toArray) (o := oj) (by rw [get_arr, lateOps_ne (show i ≠ n by omega)]; rw [get_arr] at hoj; exact hoj) hoj (fun tmps => late_yielded tmps) hs hw (h.2 i hi2).2 (fun fs' a' w' hs' hw' h' => ih (R.erase i) _ fs' a' w' hlen (hl.set hiR (by omega)) (inv.set hi2 h1) hs' hw' h')
      · subst h1
        have hR := late_cov LO hl inv hi
        have hcl : ∀ d' ∈ D, d' ∉ R → ∀ d ∈ R, Region.waitsFor .any l.toArray d' d = false := by
          intro d' hd' hn' d hd
          cases hw2 : Region.waitsFor .any l.toArray d' d with
          | false => rfl
          | true =>
            exfalso
            have hlt := (LO.d d' hd').1
            have hls := (hl.is d' hlt).2 hn'
            obtain ⟨oj', hoj', e, he, hbb, hon⟩ := Region.waitsFor_spec hw2
            rw [get_arr] at hoj'
            have := inv.closed d' oj' (by rw [get_arr, lateOps_ne (by omega)]; exact hoj') hls e he hbb
            rw [hon] at this
            exact (hl.is d (hl.lt d hd)).1 this hd
        have := late_append LO hLL hR hcl hl ht hw (by rw [hf]; exact h)
        rw [show f + (l.length - i) = R.length + (l.length - (i + 1)) by omega]
        exact this
      · exfalso
        have hc := LO.chain
        unfold Region.chainB at hc
        have := List.all_eq_true.1 hc i (List.mem_range.2 (by simpa using hil))
        simp only [Bool.or_eq_true, decide_eq_true_eq] at this
        rcases this with h2 | h2
        · omega
        · obtain ⟨oj', hoj', e, he, hbb, hon⟩ := Region.waitsFor_spec h2
          have : oj' = oj := Option.some.inj (hoj'.symm.trans hoj)
          subst this
          have h3 := hall e he hbb
          rw [hon] at h3
          have h4 := getD_both (ht (i - 1) (by omega) (by omega))
          rw [h3] at h4; cases h4
end
theorem wp_region_late {P : Program} {id : Nat} {Q : Exit → Act → World → Prop} {a : Act} {w : World} {l : List Oper} {E : World → World → Prop} (n : Nat) (L D : List Nat) (hm : P.follows .mixedOrders = true) (hB : regionB .any (lateOps l n D).toArray n L = true) (hB2 : lateB l n D = true)
    (hE : Stays E w.drew) (h : wpM P .any (lateOps l n D).toArray E w.drew (fun fs a' => ∀ w', Wit E w.drew fs w' → LateA P l Q n D a' w') L [] a) : (Code.region id l.toArray true).wp P Q a w := by
  obtain ⟨t, on, LO⟩ := lateB_ok hB2
  have hnx := LO.next
  simp only [regionB, Bool.and_eq_true, decide_eq_true_eq, Bool.or_eq_true, beq_iff_eq] at hB
  obtain ⟨⟨⟨⟨hsel, hlen⟩, hn⟩, htail⟩, hlex⟩ := hB
  have hszl : (lateOps l n D).toArray.size = l.length := by simp [lateOps_len]
  have inv0 : HeadInv .any (lateOps l n D).toArray n (Array.replicate (lateOps l n D).toArray.size false) :=
    ⟨by simp, fun j oj _ hl => (by rw [getD_replicate_false] at hl; cases hl), fun t _ ht => getD_in (by simpa using ht) (getD_replicate_false _ _)⟩
  have hwait : ∀ listed, HeadInv .any (lateOps l n D).toArray n listed → ∀ i, i < n → listed.getD i true = false → ∀ t, n ≤ t → t ∉ Region.ready .any (lateOps l n D).toArray listed := by
    intro listed inv i hin hun t ht
    rcases htail with htail | ⟨hs, hc⟩
    · intro hr
      obtain ⟨_, o, ho, _⟩ := mem_ready.1 hr
      have := (Array.getElem?_eq_some_iff.1 ho).1
      omega
    · exact tail_waits hs hc (by rw [hszl]; omega) inv _ i rfl hin hun t ht
  have w0 : Wit E w.drew [] w.drew := ⟨hE.refl _, fun f hf => by cases hf⟩
  have H := wpAnyM_lex (md := .any) (g := (lateOps l n D).toArray.size - n) hE hsel hwait (Lq := fun fs a' => ∀ w', Wit E w.drew fs w' → LateA P l Q n D a' w')
    (fun _ _ _ hs h' w' hw' => h' w' (hw'.same hs)) L _ [] a inv0 Stay.nil ⟨_, w0⟩ hlex h
  refine wp_region_any hm ?_
  have LR : LeftR l n (List.range n) (Array.replicate (lateOps l n D).toArray.size false) :=
    ⟨List.nodup_range, by rw [Array.size_replicate, hszl], fun i hi => List.mem_range.1 hi, fun i hi => ⟨fun h => (by rw [getD_replicate_false] at h; cases h), fun h => absurd (List.mem_range.2 hi) h⟩⟩
  have rdy : ∀ (listed : Array Bool) (fs : List Fact) (a : Act), Region.seqB .any (lateOps l n D).toArray ((lateOps l n D).toArray.size - n) n listed = true ∧ (∀ w', Wit E w.drew fs w' → LateA P l Q n D a w') → n ∈ Region.ready .any l.toArray listed := by
    rintro listed fs a ⟨hq, _⟩
    rw [hszl, show l.length - n = (l.length - (n + 1)) + 1 by omega] at hq
    simp only [Region.seqB, Bool.and_eq_true, decide_eq_true_eq] at hq
    have : n ∈ Region.ready .any (lateOps l n D).toArray listed := by rw [hq.1]; exact List.mem_singleton_self _
    obtain ⟨h1, o, h2, h3⟩ := mem_ready.1 this
    rw [get_arr, lateOps_eq, LO.at_] at h2
    cases h2
    refine mem_ready.2 ⟨h1, on, by rw [get_arr]; exact LO.at_, fun e he hb => h3 e (by simp only [lateE]; exact Array.mem_append_left _ he) hb⟩
  have := wpAny_late hE LO (fun listed fs a w hLL hw => hLL.2 w hw) rdy n (List.range n) _ [] a w.drew List.length_range LR inv0 Stay.nil w0 (by rw [hlen] at H; exact H)
  have e : l.toArray.size = n + (l.length - n) := by simp; omega
  rw [e]
  have e2 : Array.replicate (n + (l.length - n)) false = Array.replicate (lateOps l n D).toArray.size false := by rw [hszl]; congr 1; omega
  rw [e2]
  exact this
def lateC (x : Cx) (l : List Oper) (t nb1 : Nat) (env2 : List (Nat × SV)) (mem : List (Nat × MB)) : List Nat → Option (List Prop)
  | [] => some []
  | d :: D => match nthC l d with
    | some ⟨some s, op, _, _, _, _⟩ => match Nat.beq s t, find env2 s, ev x.L ⟨env2, mem, nb1⟩ op with
      | false, some v, some (v', ob) => match eqS v' v, lateC x l t nb1 env2 mem D with
        | some o1, some o2 => some (app ob (app o1 o2))
        | _, _ => none
      | _, _, _ => none
    | _ => none
theorem lateC_ok {x : Cx} (hL : LayOk x.P x.L) {l : List Oper} {t nb1 : Nat} {env2 : List (Nat × SV)} {mem : List (Nat × MB)} {D0 : Nat → Prop} {V : Vl} {a : Act} {w : World} (he : EnvR V env2 a) (hE : ∀ e, Ents D0 V ⟨e, mem, nb1⟩ w) :
    ∀ {D : List Nat} {obs : List Prop}, lateC x l t nb1 env2 mem D = some obs → AllP obs → ∀ d ∈ D, ∀ o s, l[d]? = some o → o.dst = some s → (execOp a.eval o).run x.P w = .ok (.value (a.tmps.getD s Go.undef)) w
  | [], obs, _, _, d, hd => absurd hd List.not_mem_nil
  | d0 :: D, obs, h, ho, d, hd => fun o s hl hs => by
    unfold lateC at h
    split at h
    · rename_i s0 op ty pos after gd hn
      split at h
      · rename_i v v' ob _ hv hev
        split at h
        · rename_i o1 o2 heq hrest
          simp only [Option.some.injEq] at h
          subst h
          obtain ⟨h1, h2⟩ := AllP_app.1 ho
          obtain ⟨h2, h3⟩ := AllP_app.1 h2
          rcases List.mem_cons.1 hd with rfl | hd
          · rw [nthC_eq] at hn
            rw [hl] at hn
            cases hn
            cases hs
            have := (ev_ok (s := ⟨env2, mem, nb1⟩) hL hev h1).run D0 V a w he (hE _)
            rw [this, he _ _ hv, eqS_den V heq h2]
          · exact lateC_ok hL he hE hrest h3 d hd o s hl hs
        · cases h
      · cases h
    · cases h
structure LateG (x : Cx) (l : List Oper) (n : Nat) (D : List Nat) (G : AppN → St → Prop) (s : St) : Prop where
  is : ∃ on t d obs, nthC l n = some on ∧ on.dst = some t ∧ appN x l s.env s.mem s.nb on (dropN (n + 1) l) = some d ∧ AllP d.obs ∧ lateC x l t (s.nb + 1) ((t, .sl ⟨s.nb, [(d.i, d.f)]⟩) :: s.env) s.mem D = some obs ∧ AllP obs ∧ G d s
theorem LateG.mono {x : Cx} {l : List Oper} {n : Nat} {D : List Nat} {G G' : AppN → St → Prop} {s : St} (h : LateG x l n D G s) (hg : ∀ d s, G d s → G' d s) : LateG x l n D G' s := by
  obtain ⟨on, t, d, obs, h1, h2, h3, h4, h5, h6, h7⟩ := h.is
  exact ⟨on, t, d, obs, h1, h2, h3, h4, h5, h6, hg _ _ h7⟩
def appNS (d : AppN) (s : St) : St := ⟨envT (ridT d.k s.nb d.f 1 d.i []) d.env, memT (ridT d.k s.nb d.f 1 d.i []) ((s.nb, d.m) :: killL [d.k] s.mem), s.nb + 1⟩
theorem tr_drawL {x : Cx} {Q : Exit → St → Prop} {s : St} (hL : LayOk x.P x.L) (hm : x.P.follows .mixedOrders = true) {id : Nat} {l : List Oper} (n : Nat) (L D : List Nat) (hB : regionB .any (lateOps l n D).toArray n L = true) (hB2 : lateB l n D = true)
    (h : Hd x (lateOps l n D) s.mem L [] s (LateG x l n D fun d s' => Sq x l d.rest (appNS d s') fun s' => Q .normal s')) : Tr x (.region id l.toArray true) Q s :=
  ⟨fun g V a w hr => by
    refine wp_region_late n L D hm hB hB2 (er_stays (DK := DKof V s.mem) fun b L ⟨k, v, h1, h2, _⟩ => ?_) ?_
    · have := hr.ents.lt (r := ⟨k, []⟩) (b := .deck v) (cont_iff.2 ⟨_, h1, rfl⟩) trivial
      rw [Loc.b_eq h2] at this
      exact this
    · refine h.run hL g w.drew _ _ V [] a rfl (fun tags' V' s' fs' a' hs hd hi w' hw' => ?_) ?_
      · obtain ⟨on, t, d, obs, h1, h2, h3, h4, h5, h6, h7⟩ := hs.is
        obtain ⟨env', mem', nb'⟩ := s'
        obtain ⟨t', v, w1, V1, e1, _, _, e2, e3, e4, e5⟩ := appN_core hL h3 h4 h7 (g := g) (Q := fun e a w => ∃ s V, Q e s ∧ Rep x g V s a w) (fun s'' V'' a'' w'' hq hr'' => ⟨s'', V'', hq, hr''⟩) (hi.rep (by rw [hd]; exact hw'))
        rw [h2] at e1
        cases e1
        refine ⟨on, t, v, w1, by rw [← nthC_eq]; exact h1, h2, e2, lateC_ok hL e3 e4 h5 h6, ?_⟩
        rw [dropN_eq] at e5
        exact e5
      · exact ⟨hr.defers, hr.size, hr.env, hr.envOk, hr.ents.ok, hr.ents.heap rfl, hr.own, hr.pin, hr.d0, ⟨hr.frame.1, hr.frame.2.1, ⟨hr.frame.2.2.os, hr.frame.2.2.tape, hr.frame.2.2.output⟩⟩, fun k c hk => ⟨rfl, hk⟩, fun k c hk _ => hk, (fun k i hk => by cases hk), (fun i j a b hi => by cases hi)⟩⟩
section
variable {x : Cx} {Q : Exit → St → Prop} {obs : List Prop} {K : List Kf}
theorem g_drawL (hL : LayOk x.P x.L) (hm : x.P.follows .mixedOrders = true) (fuel n : Nat) (L D : List Nat) (N : Nat) {id : Nat} {l : List Oper} {env : List (Nat × SV)} {mem : List (Nat × MB)} {nb : Nat} (_ : l.length = N) (hB : regionB .any (lateOps l n D).toArray n L = true) (hB2 : lateB l n D = true) (ho : AllP obs)
    (h : GoodH x (lateOps l n D) mem (LateG x l n D fun d s' => Good x Q (appNR d s'.mem s'.nb fun rest s' => run x fuel [] (.ops l rest) K s')) (runH x (lateOps l n D) mem fuel [] L [] ⟨env, mem, nb⟩)) : Good x Q (.code obs (.region id l.toArray true) K ⟨env, mem, nb⟩) := by
  refine ⟨ho, tr_drawL hL hm n L D hB hB2 ?_⟩
  have := (runH_ok hL h).2
  refine ⟨fun hL g u DK Q V fs a hd hQ hi => this.run hL g u DK Q V fs a hd (fun tags' V' s' fs' a' hs => hQ tags' V' s' fs' a' (hs.mono fun d s hk => ?_)) hi⟩
  obtain ⟨k, i, f, m, env', rest, ob⟩ := d
  simp only [appNR, killP_eq, memTP_eq, envTP_eq, nx_eq] at hk
  exact (run_ok hL hk).2
theorem g_late {l : List Oper} {n t : Nat} {D : List Nat} {G : AppN → St → Prop} {env : List (Nat × SV)} {mem : List (Nat × MB)} {nb nb1 : Nat} {on : Oper} {d : AppN} {obs2 : List Prop} (h1 : nthC l n = some on) (h2 : on.dst = some t) (h3 : appN x l env mem nb on (dropN (n + 1) l) = some d) (h4 : AllP d.obs) (hnb : nb + 1 = nb1) (h5 : lateC x l t nb1 ((t, .sl ⟨nb, [(d.i, d.f)]⟩) :: env) mem D = some obs2) (h6 : AllP obs2) (h : G d ⟨env, mem, nb⟩) : LateG x l n D G ⟨env, mem, nb⟩ :=
  ⟨⟨on, t, d, obs2, h1, h2, h3, h4, by subst hnb; exact h5, h6, h⟩⟩
end
end Go.Proofs.Ytonjbhdfimcedaa
