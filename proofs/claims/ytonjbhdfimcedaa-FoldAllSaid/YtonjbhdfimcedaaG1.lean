/- The law of constants. -/
import Derived.Test.YtonjbhdfimcedaaFB
namespace Go.Proofs.Ytonjbhdfimcedaa
set_option linter.unusedVariables false
set_option linter.unusedSimpArgs false
open Go.RowKit
def keepL (M : List Op_) : List Op_ := M.filter fun o => !decide (o.kind = 4)
theorem keepL_zero {M : List Op_} : keepL (M.take 0) = [] := rfl
theorem keepL_y {M : List Op_} {z : Nat} (h : z < M.length) (hk : (gt (c := .op) M z).kind = 4) : keepL (M.take (z + 1)) = keepL (M.take z) := by
  unfold keepL; rw [take_snoc (c := .op) h, List.filter_append]; simp [hk]
theorem keepL_n {M : List Op_} {z : Nat} (h : z < M.length) (hk : ¬ (gt (c := .op) M z).kind = 4) : keepL (M.take (z + 1)) = keepL (M.take z) ++ [gt (c := .op) M z] := by
  unfold keepL; rw [take_snoc (c := .op) h, List.filter_append]; simp [hk]
theorem keepL_len {M : List Op_} {z : Nat} : (keepL (M.take z)).length ≤ M.length := by
  unfold keepL; exact Nat.le_trans (List.length_filter_le _ _) (by rw [List.length_take]; omega)
theorem keepL_sub {M : List Op_} {z : Nat} {o : Op_} (h : o ∈ keepL (M.take z)) : o ∈ keepL M := by
  unfold keepL at *
  obtain ⟨h1, h2⟩ := List.mem_filter.1 h
  exact List.mem_filter.2 ⟨List.mem_of_mem_take h1, h2⟩
theorem keepL_mk {M : List Op_} (h : ∀ o ∈ M, OpMk o) : ∀ o ∈ keepL M, OpMk o ∧ o.kind ≠ 4 := by
  intro o ho
  unfold keepL at ho
  obtain ⟨h1, h2⟩ := List.mem_filter.1 ho
  exact ⟨h o h1, by simpa using h2⟩
theorem all_facts {x0 x1 x2 x3 x4 : Int} {M : List Op_} {s : VS} (hs : s.1.length = 5) (h : ∀ o ∈ cst5 x0 x1 x2 x3 x4, OpMk o) (hM : ∀ o ∈ M, OpMk o ∧ o.kind ≠ 4) :
    ∃ (B : List Blk) (C : List Int), (fldGP (gMk [] (cst5 x0 x1 x2 x3 x4 ++ M) [] 3)).blks = B ∧ (outM (cst5 x0 x1 x2 x3 x4 ++ M) [] 3 s).2.1 = C ∧ B.length = 3 ∧ (gt (c := .block) B 0).ops.length = (cst5 x0 x1 x2 x3 x4 ++ M).length ∧ (gt (c := .block) B 0).next.length = 1 ∧
      (∀ i, i < (cst5 x0 x1 x2 x3 x4 ++ M).length → (gt (c := .op) (cst5 x0 x1 x2 x3 x4 ++ M) i).kind = 5 ∨ (gt (c := .op) (gt (c := .block) B 0).ops i).kind = 1) ∧ C.length = 3 ∧ ((gt (c := .int) (gt (c := .block) B 0).next 0 : Int) = 1 ↔ (gt (c := .int) C 1 : Int) = 1) := by
  refine ⟨_, _, rfl, rfl, rfl, ?_⟩
  have e0 : gt (c := .block) (fldGP (gMk [] (cst5 x0 x1 x2 x3 x4 ++ M) [] 3)).blks 0 = blkP ⟨cst5 x0 x1 x2 x3 x4 ++ M, 3, [1, 2]⟩ := rfl
  rw [e0, all_block hs h hM]
  obtain ⟨a1, _, _⟩ := all_const h hM
  refine ⟨mpL_len _ _, rfl, a1, ?_, ?_⟩
  · unfold outM; split <;> rfl
  · show nextB _ _ = 1 ↔ _
    unfold outM
    rcases nextB_12 (O := cst5 x0 x1 x2 x3 x4 ++ M) (c := 3) (vs := (execL (cst5 x0 x1 x2 x3 x4 ++ M) s).1) with e | e
    · rw [e, if_pos rfl]; exact ⟨fun _ => rfl, fun _ => rfl⟩
    · rw [e, if_neg (by decide)]; exact ⟨fun q => absurd q (by decide), fun q => absurd (show (0 : Int) = 1 from q) (by decide)⟩
attribute [local irreducible] runG vars0 zArrs outM chkG blkP
set_option maxHeartbeats 4000000 in
set_option maxRecDepth 4000 in
theorem l_foldAll (l : List Int) (x0 x1 x2 x3 x4 : Int) (hb : ∀ x ∈ l, 0 ≤ x ∧ x ≤ 255) (hl : l.length ≤ maxLen) (h0 : -32768 ≤ x0 ∧ x0 ≤ 32767) (h1 : -32768 ≤ x1 ∧ x1 ≤ 32767) (h2 : -32768 ≤ x2 ∧ x2 ≤ 32767) (h3 : -32768 ≤ x3 ∧ x3 ≤ 32767) (h4 : -32768 ≤ x4 ∧ x4 ≤ 32767) : Trip Try.prog 5 [.sl ⟨0, []⟩, .agg [.int .i16 x0, .int .i16 x1, .int .i16 x2, .int .i16 x3, .int .i16 x4]] ⟨[], [(0, .list .fz .u8 l)], 1⟩ (Z := Unit) (fun _ => True) (fun _ => .bool true) (fun _ => ⟨[], [(0, .list .fz .u8 l)], 1⟩) := by
  refine trip_by (rs := [_]) 400 lay_ok Try.func5 rfl (by kernel_rfl) Try.ntmps5 Try.results5 rfl rfl ?_
  ((with_reducible refine g_id ?_); (conv => arg 3; whnf))
  refine g_mid lay_ok 1 400 (Z := Unit) (fun _ => True) (fun _ => ⟨[(0, .sl ⟨0, []⟩), (4, .tf false), (5, .sl ⟨1, []⟩)], [(0, .list .fz .u8 l), (1, .list .own .op (cst5 x0 x1 x2 x3 x4))], 2⟩) rfl ?_ (fun _ _ => ?_)
  · repeat' (first | (((with_reducible refine g_id ?_); (conv => arg 3; whnf)); first | (with_reducible refine g_cond lay_ok 400 ?_ ?_ ?_) | (with_reducible refine g_fin ?_ ?_) | (with_reducible refine g_rounds lay_ok 400 6 ?_ ?_) | fail) | (with_reducible refine q_leave lay_ok 400 ?_) | (with_reducible refine q_next ?_) | (with_reducible exact o_nil) | ((with_reducible refine o_id ?_); (conv => arg 1; whnf); first | (with_reducible exact o_nil) | (with_reducible refine o_cons ?_ ?_)) | (intro h; ((try simp only [Int.toNat_natCast] at h); repeat (first | replace h := of_decide_eq_true h | replace h := of_decide_eq_false h | fail)); (try (first | contradiction | fail))) | omega | (simp only [List.length_append, List.length_cons, List.length_nil]; omega) | fail)
    refine q_round ⟨(), trivial, ?_⟩
    ((with_reducible refine s_id ?_); (conv => arg 1; whnf); (with_reducible refine s_some ?_); repeat' (first | ((with_reducible refine o_id ?_); (conv => arg 1; whnf); first | (with_reducible exact o_nil) | (with_reducible refine o_cons ?_ ?_)) | rfl | fail))
    all_goals trace_state
  refine g_call lay_ok 400 ?_ ?_ ?_ (c_mkops l hb hl) rfl
  · repeat' (first | ((with_reducible refine o_id ?_); (conv => arg 1; whnf); first | (with_reducible exact o_nil) | fail) | fail)
  · repeat' (first | ((with_reducible refine o_id ?_); (conv => arg 1; whnf); first | (with_reducible exact o_nil) | (with_reducible refine o_cons ?_ ?_)) | rfl | fail)
  intro M hM
  ((with_reducible refine g_id ?_); (conv => arg 3; whnf))
  obtain ⟨hM1, hM2⟩ := hM
  clear hb hl
  refine g_mid lay_ok 1 16 (Z := List Op_) (fun M' => M'.length ≤ 30 ∧ ∀ o ∈ M', OpMk o ∧ o.kind ≠ 4) (fun M' => ⟨[(4, .tf false), (5, .sl ⟨1, []⟩)], [(0, .list .fz .u8 l), (1, .list .fz .op (cst5 x0 x1 x2 x3 x4 ++ M'))], 2⟩) rfl ?_ (fun M' hM' => ?_)
  · refine g_loop lay_ok 400 (Z := Nat) (fun z => z ≤ M.length) (fun z => ⟨[(4, .tf false), (5, .sl ⟨1, []⟩), (7, .sl ⟨2, []⟩), (8, .int .i64 (z : Int))], [(0, .list .fz .u8 l), (1, .list .own .op (cst5 x0 x1 x2 x3 x4 ++ keepL (M.take z))), (2, .list .own .op M)], 3⟩) (fun z => M.length - z) ?_ ⟨0, Nat.zero_le _, ?_⟩ (fun z hz => ?_)
    · repeat' (first | ((with_reducible refine o_id ?_); (conv => arg 1; whnf); first | (with_reducible exact o_nil) | fail) | fail)
    · ((with_reducible refine s_id ?_); (conv => arg 1; whnf); (with_reducible refine s_some ?_); repeat' (first | ((with_reducible refine o_id ?_); (conv => arg 1; whnf); first | (with_reducible exact o_nil) | (with_reducible refine o_cons ?_ ?_)) | rfl | fail))
    by_cases hlt : z < M.length
    · by_cases hk : (gt (c := .op) M z).kind = 4
      · repeat' (first | (((with_reducible refine g_id ?_); (conv => arg 3; whnf)); first | (with_reducible refine g_cond lay_ok 400 ?_ ?_ ?_) | (with_reducible refine g_fin ?_ ?_) | fail) | ((with_reducible refine o_id ?_); (conv => arg 1; whnf); first | (with_reducible exact o_nil) | (with_reducible refine o_cons ?_ ?_)) | (intro h; ((try simp only [Int.toNat_natCast] at h); repeat (first | replace h := of_decide_eq_true h | replace h := of_decide_eq_false h | replace h := not_t h | replace h := not_f h | fail)); (try (first | contradiction | (exfalso; omega) | fail))) | omega | fail)
        all_goals (refine q_round ⟨z + 1, by omega, by omega, ?_⟩; ((with_reducible refine s_id ?_); (conv => arg 1; whnf); (with_reducible refine s_some ?_); repeat' (first | ((with_reducible refine o_id ?_); (conv => arg 1; whnf); first | (with_reducible exact o_nil) | (with_reducible refine o_cons ?_ ?_)) | rfl | (rw [keepL_y hlt hk]) | fail)))
      · repeat' (first | (((with_reducible refine g_id ?_); (conv => arg 3; whnf)); first | (with_reducible refine g_cond lay_ok 400 ?_ ?_ ?_) | (with_reducible refine g_fin ?_ ?_) | fail) | ((with_reducible refine o_id ?_); (conv => arg 1; whnf); first | (with_reducible exact o_nil) | (with_reducible refine o_cons ?_ ?_)) | (intro h; ((try simp only [Int.toNat_natCast] at h); repeat (first | replace h := of_decide_eq_true h | replace h := of_decide_eq_false h | replace h := not_t h | replace h := not_f h | fail)); (try (first | contradiction | (exfalso; omega) | fail))) | omega | (have := keepL_len (M := M) (z := z); simp only [List.length_append, List.length_cons, List.length_nil, cst5]; omega) | fail)
        all_goals (refine q_round ⟨z + 1, by omega, by omega, ?_⟩; ((with_reducible refine s_id ?_); (conv => arg 1; whnf); (with_reducible refine s_some ?_); repeat' (first | ((with_reducible refine o_id ?_); (conv => arg 1; whnf); first | (with_reducible exact o_nil) | (with_reducible refine o_cons ?_ ?_)) | rfl | (rw [keepL_n hlt hk, List.append_assoc]) | fail)))
    · repeat' (first | (((with_reducible refine g_id ?_); (conv => arg 3; whnf)); first | (with_reducible refine g_cond lay_ok 400 ?_ ?_ ?_) | (with_reducible refine g_fin ?_ ?_) | fail) | (with_reducible refine q_leave lay_ok 400 ?_) | (with_reducible exact o_nil) | ((with_reducible refine o_id ?_); (conv => arg 1; whnf); first | (with_reducible exact o_nil) | fail) | (intro h; ((try simp only [Int.toNat_natCast] at h); repeat (first | replace h := of_decide_eq_true h | replace h := of_decide_eq_false h | fail)); (try (first | (exfalso; omega) | fail))) | fail)
      all_goals (refine q_round ⟨keepL (M.take z), ⟨Nat.le_trans keepL_len hM1, fun o ho => keepL_mk hM2 o (keepL_sub ho)⟩, ?_⟩; ((with_reducible refine s_id ?_); (conv => arg 1; whnf); (with_reducible refine s_some ?_); repeat' (first | ((with_reducible refine o_id ?_); (conv => arg 1; whnf); first | (with_reducible exact o_nil) | (with_reducible refine o_cons ?_ ?_)) | rfl | fail)))
  clear hM1 hM2 M
  obtain ⟨hM1, hM2⟩ := hM'
  have hO1 : (cst5 x0 x1 x2 x3 x4 ++ M').length ≤ 35 := by rw [List.length_append]; show 5 + _ ≤ _; omega
  have hc5 := cst5_mk (x0 := x0) (x1 := x1) (x2 := x2) (x3 := x3) (x4 := x4) (by unfold Wd; omega) (by unfold Wd; omega) (by unfold Wd; omega) (by unfold Wd; omega) (by unfold Wd; omega)
  have hO2 : ∀ o ∈ cst5 x0 x1 x2 x3 x4 ++ M', OpMk o := fun o ho => (List.mem_append.1 ho).elim (hc5 o) fun q => (hM2 o q).1
  have hno : ∀ o ∈ ([] : List Op_), OpMk o := fun o ho => absurd ho List.not_mem_nil
  have hBd : Bnd (gMk [] (cst5 x0 x1 x2 x3 x4 ++ M') [] 3) := gMk_bnd (by show 0 ≤ 5; decide) (by omega) (by show 0 ≤ 2; decide)
  have hG : chkG (gMk [] (cst5 x0 x1 x2 x3 x4 ++ M') [] 3) = 0 := gMk_chk (by show 0 ≤ 5; decide) (by kernel_rfl) (by omega) (by show 0 ≤ 2; decide) hO2 hno ⟨by decide, by decide⟩
  have hw := chk_wf hBd hG
  have hFB := fldGP_bnd hw
  have CF1 := c_foldO (gMk [] (cst5 x0 x1 x2 x3 x4 ++ M') [] 3) hBd hG
  have hkd := gMk_kinds (inp := []) (c := 3) hO2 hno
  have hv0 : (vars0 (gMk [] (cst5 x0 x1 x2 x3 x4 ++ M') [] 3) []).length = 5 := vars0_len (by show 0 ≤ 5; decide)
  have hr1 := gMk_run (inp := []) (c := 3) (s := (vars0 (gMk [] (cst5 x0 x1 x2 x3 x4 ++ M') [] 3) [], zArrs (gMk [] (cst5 x0 x1 x2 x3 x4 ++ M') [] 3) (gMk [] (cst5 x0 x1 x2 x3 x4 ++ M') [] 3).arrs.length)) (O := cst5 x0 x1 x2 x3 x4 ++ M') (B1 := []) (by omega) (by show 0 ≤ 2; decide)
  have R1 := r_run13 (gMk [] (cst5 x0 x1 x2 x3 x4 ++ M') [] 3) hBd hG rfl hkd [] ⟨rfl, fun i hi => absurd hi (Nat.not_lt_zero i)⟩ 1000 ⟨by decide, by decide⟩ 3 (outM (cst5 x0 x1 x2 x3 x4 ++ M') [] 3 (vars0 (gMk [] (cst5 x0 x1 x2 x3 x4 ++ M') [] 3) [], zArrs (gMk [] (cst5 x0 x1 x2 x3 x4 ++ M') [] 3) (gMk [] (cst5 x0 x1 x2 x3 x4 ++ M') [] 3).arrs.length)) hr1
  obtain ⟨B, C, eB, eC, f1, f2, f3, f4, f5, f6⟩ := all_facts (s := (vars0 (gMk [] (cst5 x0 x1 x2 x3 x4 ++ M') [] 3) [], zArrs (gMk [] (cst5 x0 x1 x2 x3 x4 ++ M') [] 3) (gMk [] (cst5 x0 x1 x2 x3 x4 ++ M') [] 3).arrs.length)) hv0 hc5 hM2
  rw [eB] at CF1
  rw [eC] at R1
  clear hr1 hkd hw hFB hv0 eB eC
  refine g_ownO lay_ok 0 5 2 .int ?_ rfl ?_ ?_
  · repeat' (first | ((with_reducible refine o_id ?_); (conv => arg 1; whnf); first | (with_reducible exact o_nil) | fail) | fail)
  · repeat' (first | ((with_reducible refine o_id ?_); (conv => arg 1; whnf); first | (with_reducible exact o_nil) | fail) | fail)
  refine g_ownO lay_ok 0 5 5 .int ?_ rfl ?_ ?_
  · repeat' (first | (with_reducible exact o_nil) | fail)
  · repeat' (first | ((with_reducible refine o_id ?_); (conv => arg 1; whnf); first | (with_reducible exact o_nil) | fail) | fail)
  refine g_ownO lay_ok 0 6 3 .array ?_ rfl ?_ ?_
  · repeat' (first | (with_reducible exact o_nil) | fail)
  · repeat' (first | ((with_reducible refine o_id ?_); (conv => arg 1; whnf); first | (with_reducible exact o_nil) | fail) | fail)
  refine g_ownO lay_ok 400 6 5 .block ?_ rfl ?_ ?_
  · repeat' (first | (with_reducible exact o_nil) | fail)
  · repeat' (first | ((with_reducible refine o_id ?_); (conv => arg 1; whnf); first | (with_reducible exact o_nil) | fail) | fail)
  ((with_reducible refine g_id ?_); (conv => arg 3; whnf))
  refine g_wk lay_ok 400 (t := ⟨[(4, .tf false), (5, .sl ⟨1, []⟩), (9, .ptr 4 0), (62, .agg [.val (.slice none 0 0), .int .i64 5, .int .i64 5, .sl ⟨2, []⟩, .int .i64 0, .sl ⟨3, []⟩, .val (.slice none 0 0), .val (.slice none 0 0)])], [(0, .list .fz .u8 l), (1, .list .fz .op (cst5 x0 x1 x2 x3 x4 ++ M')), (2, .list .fz .array [⟨⟨#[97]⟩, 4⟩]), (3, .list .fz .block (gMk [] (cst5 x0 x1 x2 x3 x4 ++ M') [] 3).blks), (4, .cells [.val (.slice none 0 0), .int .i64 5, .int .i64 5, .sl ⟨2, []⟩, .int .i64 0, .sl ⟨3, []⟩, .val (.slice none 0 0), .val (.slice none 0 0)])], 5⟩) ?_ ?_ ?_
  · repeat' (first | ((with_reducible refine o_id ?_); (conv => arg 1; whnf); first | (with_reducible exact o_nil) | fail) | fail)
  · ((with_reducible refine s_id ?_); (conv => arg 1; whnf); (with_reducible refine s_some ?_); repeat' (first | ((with_reducible refine o_id ?_); (conv => arg 1; whnf); first | (with_reducible exact o_nil) | (with_reducible refine o_cons ?_ ?_)) | rfl | fail))
  ((with_reducible refine g_id ?_); (conv => arg 3; whnf))
  refine g_call lay_ok 400 ?_ ?_ ?_ (CF1) rfl
  · repeat' (first | (with_reducible exact o_nil) | fail)
  · repeat' (first | ((with_reducible refine o_id ?_); (conv => arg 1; whnf); first | (with_reducible exact o_nil) | (with_reducible refine o_cons ?_ ?_)) | rfl | fail)
  intro z hz
  clear hz z
  ((with_reducible refine g_id ?_); (conv => arg 3; whnf))
  refine g_call lay_ok 400 ?_ ?_ ?_ (R1) rfl
  · repeat' (first | ((with_reducible refine o_id ?_); (conv => arg 1; whnf); first | (with_reducible exact o_nil) | fail) | fail)
  · repeat' (first | ((with_reducible refine o_id ?_); (conv => arg 1; whnf); first | (with_reducible exact o_nil) | (with_reducible refine o_cons ?_ ?_)) | rfl | fail)
  intro z hz
  clear hz z
  ((with_reducible refine g_id ?_); (conv => arg 3; whnf))
  clear CF1 R1
  repeat' (first | (((with_reducible refine g_id ?_); (conv => arg 3; whnf)); first | (with_reducible refine g_split lay_ok 400 ?_ ?_ ?_) | (with_reducible refine g_cond lay_ok 400 ?_ ?_ ?_) | fail) | ((with_reducible refine o_id ?_); (conv => arg 1; whnf); first | (with_reducible exact o_nil) | (with_reducible refine o_cons ?_ ?_)) | (intro h; ((try simp only [Int.toNat_natCast] at h); repeat (first | replace h := of_decide_eq_true h | replace h := of_decide_eq_false h | replace h := not_t h | replace h := not_f h | fail)); (try (first | contradiction | (exfalso; omega) | (exact absurd (by show ((gt (c := .block) B 0).next.length : Int) = 1; omega) h) | (exact absurd (by show ((gt (c := .block) B 0).ops.length : Int) = ((cst5 x0 x1 x2 x3 x4 ++ M').length : Int); omega) h)))) | omega | fail)
  ((with_reducible refine g_id ?_); (conv => arg 3; whnf))
  refine g_loop lay_ok 400 (Z := Nat) (fun z => z ≤ (cst5 x0 x1 x2 x3 x4 ++ M').length) (fun z => ⟨[(4, .tf false), (5, .sl ⟨1, []⟩), (10, .ptr 2 0), (13, .ptr 3 0), (15, .int .i64 (z : Int))], [(0, .list .fz .u8 l), (1, .list .fz .op (cst5 x0 x1 x2 x3 x4 ++ M')), (2, .cells [.sl ⟨4, []⟩, .int .i64 (gMk [] (cst5 x0 x1 x2 x3 x4 ++ M') [] 3).vars, .int .i64 (gMk [] (cst5 x0 x1 x2 x3 x4 ++ M') [] 3).keep, .sl ⟨5, []⟩, .int .i64 (gMk [] (cst5 x0 x1 x2 x3 x4 ++ M') [] 3).shared, .sl ⟨6, []⟩, .sl ⟨7, []⟩, .sl ⟨8, []⟩]), (3, .cells [.vw ⟨9, []⟩ 1 0 (gMk [] (cst5 x0 x1 x2 x3 x4 ++ M') [] 3).keep.toNat none, .vw ⟨10, []⟩ 1 0 (gMk [] (cst5 x0 x1 x2 x3 x4 ++ M') [] 3).arrs.length none, .vw ⟨10, []⟩ 1 (gMk [] (cst5 x0 x1 x2 x3 x4 ++ M') [] 3).arrs.length 0 none, .sl ⟨11, []⟩, .int .i64 (outM (cst5 x0 x1 x2 x3 x4 ++ M') [] 3 (vars0 (gMk [] (cst5 x0 x1 x2 x3 x4 ++ M') [] 3) [], zArrs (gMk [] (cst5 x0 x1 x2 x3 x4 ++ M') [] 3) (gMk [] (cst5 x0 x1 x2 x3 x4 ++ M') [] 3).arrs.length)).2.2]), (4, .list .fz .input (gMk [] (cst5 x0 x1 x2 x3 x4 ++ M') [] 3).inp), (5, .list .fz .array (gMk [] (cst5 x0 x1 x2 x3 x4 ++ M') [] 3).arrs), (6, .list .fz .block B), (7, .list .fz .ints (gMk [] (cst5 x0 x1 x2 x3 x4 ++ M') [] 3).pts), (8, .list .fz .head (gMk [] (cst5 x0 x1 x2 x3 x4 ++ M') [] 3).hds), (9, .list .own .int (outM (cst5 x0 x1 x2 x3 x4 ++ M') [] 3 (vars0 (gMk [] (cst5 x0 x1 x2 x3 x4 ++ M') [] 3) [], zArrs (gMk [] (cst5 x0 x1 x2 x3 x4 ++ M') [] 3) (gMk [] (cst5 x0 x1 x2 x3 x4 ++ M') [] 3).arrs.length)).1.1), (10, .list .own .ints (outM (cst5 x0 x1 x2 x3 x4 ++ M') [] 3 (vars0 (gMk [] (cst5 x0 x1 x2 x3 x4 ++ M') [] 3) [], zArrs (gMk [] (cst5 x0 x1 x2 x3 x4 ++ M') [] 3) (gMk [] (cst5 x0 x1 x2 x3 x4 ++ M') [] 3).arrs.length)).1.2), (11, .list .own .int C)], 12⟩) (fun z => (cst5 x0 x1 x2 x3 x4 ++ M').length - z) ?_ ⟨0, Nat.zero_le _, ?_⟩ (fun z hz => ?_)
  · repeat' (first | ((with_reducible refine o_id ?_); (conv => arg 1; whnf); first | (with_reducible exact o_nil) | fail) | fail)
  · ((with_reducible refine s_id ?_); (conv => arg 1; whnf); (with_reducible refine s_some ?_); repeat' (first | ((with_reducible refine o_id ?_); (conv => arg 1; whnf); first | (with_reducible exact o_nil) | (with_reducible refine o_cons ?_ ?_)) | rfl | fail))
  by_cases hlt : z < (cst5 x0 x1 x2 x3 x4 ++ M').length
  · rcases f4 z hlt with hk | hk
    · repeat' (first | (((with_reducible refine g_id ?_); (conv => arg 3; whnf)); first | (with_reducible refine g_split lay_ok 400 ?_ ?_ ?_) | (with_reducible refine g_cond lay_ok 400 ?_ ?_ ?_) | (with_reducible refine g_fin ?_ ?_) | fail) | ((with_reducible refine o_id ?_); (conv => arg 1; whnf); first | (with_reducible exact o_nil) | (with_reducible refine o_cons ?_ ?_)) | (intro h; ((try simp only [Int.toNat_natCast] at h); repeat (first | replace h := of_decide_eq_true h | replace h := of_decide_eq_false h | replace h := not_t h | replace h := not_f h | fail)); (try (first | contradiction | (exfalso; omega) | fail))) | omega | fail)
      all_goals (refine q_round ⟨z + 1, by omega, by omega, ?_⟩; ((with_reducible refine s_id ?_); (conv => arg 1; whnf); (with_reducible refine s_some ?_); repeat' (first | ((with_reducible refine o_id ?_); (conv => arg 1; whnf); first | (with_reducible exact o_nil) | (with_reducible refine o_cons ?_ ?_)) | rfl | fail)))
    · repeat' (first | (((with_reducible refine g_id ?_); (conv => arg 3; whnf)); first | (with_reducible refine g_split lay_ok 400 ?_ ?_ ?_) | (with_reducible refine g_cond lay_ok 400 ?_ ?_ ?_) | (with_reducible refine g_fin ?_ ?_) | fail) | ((with_reducible refine o_id ?_); (conv => arg 1; whnf); first | (with_reducible exact o_nil) | (with_reducible refine o_cons ?_ ?_)) | (intro h; ((try simp only [Int.toNat_natCast] at h); repeat (first | replace h := of_decide_eq_true h | replace h := of_decide_eq_false h | replace h := not_t h | replace h := not_f h | fail)); (try (first | contradiction | (exfalso; omega) | fail))) | omega | fail)
      all_goals (refine q_round ⟨z + 1, by omega, by omega, ?_⟩; ((with_reducible refine s_id ?_); (conv => arg 1; whnf); (with_reducible refine s_some ?_); repeat' (first | ((with_reducible refine o_id ?_); (conv => arg 1; whnf); first | (with_reducible exact o_nil) | (with_reducible refine o_cons ?_ ?_)) | rfl | fail)))
  · repeat' (first | (((with_reducible refine g_id ?_); (conv => arg 3; whnf)); first | (with_reducible refine g_split lay_ok 400 ?_ ?_ ?_) | (with_reducible refine g_cond lay_ok 400 ?_ ?_ ?_) | (with_reducible refine g_fin ?_ ?_) | (refine g_call lay_ok 400 ?_ ?_ ?_ (c_awake14) rfl) | (refine g_flow 23 lay_ok mixed_ok 400 32768 [0, 1, 3, 7, 15, 31, 63, 127, 0, 256, 768, 1792, 3840, 8191, 16383, 32767, 65535, 131071] (.q 0 (.q 1 (.q 2 (.q 3 (.q 4 (.q 5 (.q 6 (.q 7 (.q 8 (.q 9 (.q 10 (.q 11 (.q 12 (.q 13 (.q 14 (.e 15 [] (.q 16 (.q 17 .fin)) .stop)))))))))))))))) (by kernel_rfl) ?_ ?_)) | (((with_reducible refine w_id ?_); (conv => arg 4; whnf)); first | (with_reducible refine w_fin ?_ ?_) | (with_reducible refine w_tt ?_) | (with_reducible refine w_eff lay_ok 400 ?_ rfl rfl ?_ ?_)) | (with_reducible refine q_flow ?_ ?_) | ((with_reducible refine h_id ?_); (conv => arg 1; whnf); (with_reducible refine s_some ?_)) | (with_reducible refine q_leave lay_ok 400 ?_) | (with_reducible exact o_nil) | ((with_reducible refine o_id ?_); (conv => arg 1; whnf); first | (with_reducible exact o_nil) | (with_reducible refine o_cons ?_ ?_)) | (intro h; ((try simp only [Int.toNat_natCast] at h); repeat (first | replace h := of_decide_eq_true h | replace h := of_decide_eq_false h | fail)); (try (first | (exfalso; omega) | (exact absurd (decide_eq_decide.2 f6) h)))) | omega | fail)
    all_goals (((with_reducible refine e_id ?_); (conv => whnf)); refine ⟨(), trivial, ?_⟩; ((with_reducible refine s_id ?_); (conv => arg 1; whnf); (with_reducible refine s_some ?_); repeat' (first | ((with_reducible refine o_id ?_); (conv => arg 1; whnf); first | (with_reducible exact o_nil) | (with_reducible refine o_cons ?_ ?_)) | rfl | fail)))
end Go.Proofs.Ytonjbhdfimcedaa
