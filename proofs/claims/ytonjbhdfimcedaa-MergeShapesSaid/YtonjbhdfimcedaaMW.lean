/- Renamed graphs. -/
import Derived.Test.YtonjbhdfimcedaaMV
namespace Go.Proofs.Ytonjbhdfimcedaa
set_option linter.unusedVariables false
set_option linter.unusedSimpArgs false
open Go.RowKit
/-- The number that a block gets. -/
def tI (tt : List Int) (n : El .int) : El .int := gt (c := .int) tt (Int.toNat n)
def tP (tt : List Int) (x : El .ints) : El .ints := ((x : List Int).map (tI tt)).filter fun n => decide (0 ≤ n)
def tH (tt : List Int) (x : El .head) : El .head := (⟨tI tt x.block, x.max⟩ : Hd_)
def hP (h : Hd_) : Bool := decide (0 ≤ h.block)
def tB (tt : List Int) (x : Blk) : Blk := ⟨x.ops, x.cond, x.next.map (tI tt)⟩
/-- The first blocks, renamed, without those that are left out. -/
def rnB (tt : List Int) (l : List Blk) : Nat → List Blk
  | 0 => []
  | i + 1 => if (gt (c := .int) tt i : Int) < 0 then rnB tt l i else rnB tt l i ++ [tB tt (gt (c := .block) l i)]
def rnP (tt : List Int) (l : List Int) (z : Nat) : List Int := ((l.take z).map (tI tt)).filter fun n => decide (0 ≤ n)
def rnH (tt : List Int) (l : List Hd_) (z : Nat) : List Hd_ := ((l.take z : List (El .head)).map (tH tt)).filter hP
def rnN (tt : List Int) (l : List Int) (z : Nat) : List Int := (l.take z).map (tI tt)
/-- A graph without some blocks, the others under other numbers. -/
def rnm (g : Grf) (tt : List Int) : Grf := ⟨g.inp, g.vars, g.keep, g.arrs, g.shared, rnB tt g.blks g.blks.length, (g.pts : List (El .ints)).map (tP tt), ((g.hds : List (El .head)).map (tH tt) : List Hd_).filter hP⟩
theorem rnB_zero {tt : List Int} {l : List Blk} : rnB tt l 0 = [] := rfl
theorem rnB_no {tt : List Int} {l : List Blk} {i : Nat} (h : (gt (c := .int) tt i : Int) < 0) : rnB tt l (i + 1) = rnB tt l i := if_pos h
theorem rnB_yes {tt : List Int} {l : List Blk} {i : Nat} (h : ¬ (gt (c := .int) tt i : Int) < 0) : rnB tt l (i + 1) = rnB tt l i ++ [tB tt (gt (c := .block) l i)] := if_neg h
theorem rnB_len {tt : List Int} {l : List Blk} : ∀ i, (rnB tt l i).length ≤ i
  | 0 => Nat.le_refl _
  | i + 1 => by
    have := rnB_len (tt := tt) (l := l) i
    by_cases h : (gt (c := .int) tt i : Int) < 0
    · rw [rnB_no h]; omega
    · rw [rnB_yes h, List.length_append, List.length_cons, List.length_nil]; omega
theorem rnN_zero {tt l : List Int} : rnN tt l 0 = [] := rfl
theorem rnN_succ {tt l : List Int} {z : Nat} (h : z < l.length) : rnN tt l z ++ [tI tt (gt (c := .int) l z)] = rnN tt l (z + 1) := by
  unfold rnN; rw [take_snoc (c := .int) h, List.map_append]; rfl
theorem rnN_len {tt l : List Int} {z : Nat} : (rnN tt l z).length ≤ z := by unfold rnN; rw [List.length_map, List.length_take]; omega
theorem rnN_full {tt l : List Int} : rnN tt l l.length = l.map (tI tt) := by unfold rnN; rw [List.take_length]
theorem rnB_succ {tt : List Int} {l : List Blk} {i : Nat} (h : ¬ (gt (c := .int) tt i : Int) < 0) : rnB tt l i ++ [⟨(gt (c := .block) l i).ops, (gt (c := .block) l i).cond, rnN tt (gt (c := .block) l i).next (gt (c := .block) l i).next.length⟩] = rnB tt l (i + 1) := by
  rw [rnN_full]; exact (rnB_yes h).symm
theorem rnP_zero {tt l : List Int} : rnP tt l 0 = [] := rfl
theorem rnP_yes {tt l : List Int} {z : Nat} (h : z < l.length) (h2 : (0 : Int) ≤ tI tt (gt (c := .int) l z)) : rnP tt l z ++ [tI tt (gt (c := .int) l z)] = rnP tt l (z + 1) := by
  unfold rnP; rw [take_snoc (c := .int) h, List.map_append, List.filter_append]
  congr 1
  show _ = List.filter _ [tI tt (gt (c := .int) l z)]
  rw [List.filter_cons, if_pos (show decide ((0 : Int) ≤ tI tt (gt (c := .int) l z)) = true from decide_eq_true h2)]; rfl
theorem rnP_no {tt l : List Int} {z : Nat} (h : z < l.length) (h2 : ¬ (0 : Int) ≤ tI tt (gt (c := .int) l z)) : rnP tt l z = rnP tt l (z + 1) := by
  unfold rnP; rw [take_snoc (c := .int) h, List.map_append, List.filter_append]
  have e : List.filter (fun n => decide (0 ≤ n)) (List.map (tI tt) [gt (c := .int) l z]) = [] := by
    show List.filter _ [tI tt (gt (c := .int) l z)] = []
    rw [List.filter_cons, if_neg (show ¬ decide ((0 : Int) ≤ tI tt (gt (c := .int) l z)) = true from fun q => h2 (of_decide_eq_true q))]; rfl
  rw [e, List.append_nil]
theorem rnP_len {tt l : List Int} {z : Nat} : (rnP tt l z).length ≤ z := by
  unfold rnP
  refine Nat.le_trans (List.length_filter_le _ _) ?_
  rw [List.length_map, List.length_take]; omega
theorem rnP_full {tt l : List Int} : rnP tt l l.length = tP tt l := by unfold rnP tP; rw [List.take_length]
theorem rnH_zero {tt : List Int} {l : List Hd_} : rnH tt l 0 = [] := rfl
theorem rnH_yes {tt : List Int} {l : List Hd_} {z : Nat} (h : z < l.length) (h2 : (0 : Int) ≤ tI tt (gt (c := .head) l z).block) : rnH tt l z ++ [⟨tI tt (gt (c := .head) l z).block, (gt (c := .head) l z).max⟩] = rnH tt l (z + 1) := by
  unfold rnH; rw [take_snoc (c := .head) h, List.map_append, List.filter_append]
  congr 1
  show _ = List.filter _ [tH tt (gt (c := .head) l z)]
  rw [List.filter_cons, if_pos (show hP (tH tt (gt (c := .head) l z)) = true from decide_eq_true h2)]; rfl
theorem rnH_no {tt : List Int} {l : List Hd_} {z : Nat} (h : z < l.length) (h2 : ¬ (0 : Int) ≤ tI tt (gt (c := .head) l z).block) : rnH tt l z = rnH tt l (z + 1) := by
  unfold rnH; rw [take_snoc (c := .head) h, List.map_append, List.filter_append]
  have e : List.filter hP (List.map (tH tt) [gt (c := .head) l z]) = [] := by
    show List.filter _ [tH tt (gt (c := .head) l z)] = []
    rw [List.filter_cons, if_neg (show ¬ hP (tH tt (gt (c := .head) l z)) = true from fun q => h2 (of_decide_eq_true q))]; rfl
  rw [e, List.append_nil]
theorem rnH_len {tt : List Int} {l : List Hd_} {z : Nat} : (rnH tt l z).length ≤ z := by
  unfold rnH
  refine Nat.le_trans (List.length_filter_le _ _) ?_
  rw [List.length_map, List.length_take]; omega
theorem rnH_full {tt : List Int} {l : List Hd_} : rnH tt l l.length = ((l : List (El .head)).map (tH tt) : List Hd_).filter hP := by unfold rnH; rw [List.take_length]
attribute [local irreducible] mapTo rnB rnP rnH rnN
set_option maxHeartbeats 4000000 in
theorem r_rnm (g : Grf) (tt : List Int) (hB : Bnd g) (ht : tt.length = g.blks.length) (hn : ∀ x ∈ g.blks, ∀ n ∈ x.next, 0 ≤ n ∧ n < tt.length) (hp : ∀ x ∈ g.pts, ∀ n ∈ x, 0 ≤ n ∧ n < tt.length) (hh : ∀ x ∈ g.hds, 0 ≤ x.block ∧ x.block < tt.length) : Trip Try.prog 74 [.agg [.sl ⟨0, []⟩, .int .i64 g.vars, .int .i64 g.keep, .sl ⟨1, []⟩, .int .i64 g.shared, .sl ⟨2, []⟩, .sl ⟨3, []⟩, .sl ⟨4, []⟩], .sl ⟨5, []⟩] ⟨[], [(0, .list .tmp .input g.inp), (1, .list .tmp .array g.arrs), (2, .list .tmp .block g.blks), (3, .list .tmp .ints g.pts), (4, .list .tmp .head g.hds), (5, .list .tmp .int tt)], 6⟩ (Z := Unit) (fun _ => True) (fun _ => .agg [.sl ⟨6, []⟩, .int .i64 g.vars, .int .i64 g.keep, .sl ⟨7, []⟩, .int .i64 g.shared, .sl ⟨8, []⟩, .sl ⟨9, []⟩, .sl ⟨10, []⟩]) (fun _ => ⟨[], [(0, .list .tmp .input g.inp), (1, .list .tmp .array g.arrs), (2, .list .tmp .block g.blks), (3, .list .tmp .ints g.pts), (4, .list .tmp .head g.hds), (5, .list .tmp .int tt), (6, .list .own .input g.inp), (7, .list .own .array g.arrs), (8, .list .own .block (rnm g tt).blks), (9, .list .own .ints (rnm g tt).pts), (10, .list .own .head (rnm g tt).hds)], 11⟩) := by
  have hB0 := hB
  obtain ⟨h1, h2, h3, h4, h5, h6, h7, h8, h9⟩ := hB
  refine trip_by (rs := [_]) 400 lay_ok Try.func74 rfl (by kernel_rfl) Try.ntmps74 Try.results74 rfl rfl ?_
  repeat' (first | (((with_reducible refine g_id ?_); (conv => arg 3; whnf)); first | (refine g_call lay_ok 400 ?_ ?_ ?_ (r_copy ?_ ?_) rfl)) | ((with_reducible refine o_id ?_); (conv => arg 1; whnf); first | (with_reducible exact o_nil) | (with_reducible refine o_cons ?_ ?_)) | (intro h; ((try simp only [Int.toNat_natCast] at h); repeat (first | replace h := of_decide_eq_true h)); (try (first | contradiction))) | rfl | omega)
  refine g_loop lay_ok 400 (Z := Nat) (fun z => z ≤ g.blks.length) (fun z => ⟨[(1, .sl ⟨5, []⟩), (2, .ptr 6 0), (4, .ptr 7 0), (5, .ptr 8 0), (6, .int .i64 (z : Int))], [(0, .list .tmp .input g.inp), (1, .list .tmp .array g.arrs), (2, .list .tmp .block g.blks), (3, .list .tmp .ints g.pts), (4, .list .tmp .head g.hds), (5, .list .tmp .int tt), (6, .cells [.sl ⟨0, []⟩, .int .i64 g.vars, .int .i64 g.keep, .sl ⟨1, []⟩, .int .i64 g.shared, .sl ⟨2, []⟩, .sl ⟨3, []⟩, .sl ⟨4, []⟩]), (7, .cells [.val (.slice none 0 0), .int .i64 0, .int .i64 0, .val (.slice none 0 0), .int .i64 0, .val (.slice none 0 0), .val (.slice none 0 0), .val (.slice none 0 0)]), (8, .cells [.sl ⟨9, []⟩, .int .i64 g.vars, .int .i64 g.keep, .sl ⟨10, []⟩, .int .i64 g.shared, .sl ⟨11, []⟩, .sl ⟨12, []⟩, .val (.slice none 0 0)]), (9, .list .own .input g.inp), (10, .list .own .array g.arrs), (11, .list .own .block (rnB tt g.blks z)), (12, .list .own .ints (g.pts))], 13⟩) (fun z => g.blks.length - z) ?_ ⟨0, Nat.zero_le _, ?_⟩ (fun i hi => ?_)
  · repeat' (first | ((with_reducible refine o_id ?_); (conv => arg 1; whnf); first | (with_reducible exact o_nil)))
  · ((with_reducible refine s_id ?_); (conv => arg 1; whnf); (with_reducible refine s_some ?_); repeat' (first | ((with_reducible refine o_id ?_); (conv => arg 1; whnf); first | (with_reducible exact o_nil) | (with_reducible refine o_cons ?_ ?_)) | rfl | (exact rnB_zero)))
  have hrl := rnB_len (tt := tt) (l := g.blks) i
  by_cases hlt : i < g.blks.length
  · have hnl := h8 _ (mem_gt (c := .block) hlt)
    have hol := h7 _ (mem_gt (c := .block) hlt)
    have hnn := hn _ (mem_gt (c := .block) hlt)
    repeat' (first | (((with_reducible refine g_id ?_); (conv => arg 3; whnf)); first | (with_reducible refine g_cond lay_ok 400 ?_ ?_ ?_) | (with_reducible refine g_fin ?_ ?_)) | ((with_reducible refine o_id ?_); (conv => arg 1; whnf); first | (with_reducible exact o_nil) | (with_reducible refine o_cons ?_ ?_)) | (intro h; ((try simp only [Int.toNat_natCast] at h); repeat (first | replace h := of_decide_eq_true h | replace h := of_decide_eq_false h)); (try (first | (exfalso; omega)))) | omega)
    · all_goals (refine q_round ⟨i + 1, by omega, by omega, ?_⟩; ((with_reducible refine s_id ?_); (conv => arg 1; whnf); (with_reducible refine s_some ?_); repeat' (first | ((with_reducible refine o_id ?_); (conv => arg 1; whnf); first | (with_reducible exact o_nil) | (with_reducible refine o_cons ?_ ?_)) | rfl | (exact rnB_no h))))
    refine g_loop lay_ok 400 (Z := Nat) (fun z => z ≤ (gt (c := .block) g.blks i).next.length) (fun z => ⟨[(1, .sl ⟨5, []⟩), (2, .ptr 6 0), (4, .ptr 7 0), (5, .ptr 8 0), (6, .int .i64 (i : Int)), (7, .ptr 13 0), (8, .sl ⟨14, []⟩), (9, .int .i64 (z : Int))], [(0, .list .tmp .input g.inp), (1, .list .tmp .array g.arrs), (2, .list .tmp .block g.blks), (3, .list .tmp .ints g.pts), (4, .list .tmp .head g.hds), (5, .list .tmp .int tt), (6, .cells [.sl ⟨0, []⟩, .int .i64 g.vars, .int .i64 g.keep, .sl ⟨1, []⟩, .int .i64 g.shared, .sl ⟨2, []⟩, .sl ⟨3, []⟩, .sl ⟨4, []⟩]), (7, .cells [.val (.slice none 0 0), .int .i64 0, .int .i64 0, .val (.slice none 0 0), .int .i64 0, .val (.slice none 0 0), .val (.slice none 0 0), .val (.slice none 0 0)]), (8, .cells [.sl ⟨9, []⟩, .int .i64 g.vars, .int .i64 g.keep, .sl ⟨10, []⟩, .int .i64 g.shared, .sl ⟨11, []⟩, .sl ⟨12, []⟩, .val (.slice none 0 0)]), (9, .list .own .input g.inp), (10, .list .own .array g.arrs), (11, .list .own .block (rnB tt g.blks i)), (12, .list .own .ints (g.pts)), (13, .cells [.sl ⟨2, [(i, 0)]⟩, .int .i64 (gt (c := .block) g.blks i).cond, .sl ⟨2, [(i, 2)]⟩]), (14, .list .own .int (rnN tt (gt (c := .block) g.blks i).next z))], 15⟩) (fun z => (gt (c := .block) g.blks i).next.length - z) ?_ ⟨0, Nat.zero_le _, ?_⟩ (fun z hz => ?_)
    · repeat' (first | ((with_reducible refine o_id ?_); (conv => arg 1; whnf); first | (with_reducible exact o_nil) | (with_reducible refine o_cons ?_ ?_)) | omega)
    · ((with_reducible refine s_id ?_); (conv => arg 1; whnf); (with_reducible refine s_some ?_); repeat' (first | ((with_reducible refine o_id ?_); (conv => arg 1; whnf); first | (with_reducible exact o_nil) | (with_reducible refine o_cons ?_ ?_)) | rfl | (exact rnN_zero)))
    have hzl := rnN_len (tt := tt) (l := (gt (c := .block) g.blks i).next) (z := z)
    by_cases hk : z < (gt (c := .block) g.blks i).next.length
    · have hv := hnn _ (mem_gt (c := .int) hk)
      repeat' (first | (((with_reducible refine g_id ?_); (conv => arg 3; whnf)); first | (with_reducible refine g_cond lay_ok 400 ?_ ?_ ?_) | (with_reducible refine g_fin ?_ ?_)) | ((with_reducible refine o_id ?_); (conv => arg 1; whnf); first | (with_reducible exact o_nil) | (with_reducible refine o_cons ?_ ?_)) | (intro h; ((try simp only [Int.toNat_natCast] at h); repeat (first | replace h := of_decide_eq_true h | replace h := of_decide_eq_false h)); (try (first | (exfalso; omega)))) | omega | (simp only [List.length_append, List.length_cons, List.length_nil]; omega) | (simp only [Int.toNat_natCast]; omega))
      all_goals (refine q_round ⟨z + 1, by omega, by omega, ?_⟩; ((with_reducible refine s_id ?_); (conv => arg 1; whnf); (with_reducible refine s_some ?_); repeat' (first | ((with_reducible refine o_id ?_); (conv => arg 1; whnf); first | (with_reducible exact o_nil) | (with_reducible refine o_cons ?_ ?_)) | rfl | (exact (rnN_succ hk).symm))))
    · have e : z = (gt (c := .block) g.blks i).next.length := by omega
      subst e
      repeat' (first | (((with_reducible refine g_id ?_); (conv => arg 3; whnf)); first | (with_reducible refine g_cond lay_ok 400 ?_ ?_ ?_) | (with_reducible refine g_fin ?_ ?_) | (refine g_flow 13 lay_ok mixed_ok 400 11300 [0, 1, 0, 0, 8, 28, 0, 64, 0, 508, 1020, 2047, 4095, 8191] (.q 0 (.q 1 (.q 3 (.q 4 (.q 6 (.q 7 (.q 8 (.e 2 [0, 1, 3, 4, 6, 7, 8] (.e 5 [0, 1, 6, 7, 8] (.q 9 (.e 10 [0, 1] (.e 11 [] (.q 12 (.e 13 [] (.fin) .stop)) .stop) .stop)) .stop) .stop)))))))) (by kernel_rfl) ?_ ?_)) | (((with_reducible refine w_id ?_); (conv => arg 4; whnf)); first | (with_reducible refine w_fin ?_ ?_) | (with_reducible refine w_tt ?_) | (with_reducible refine w_eff lay_ok 400 ?_ rfl rfl ?_ ?_)) | (with_reducible refine q_flow ?_ ?_) | ((with_reducible refine h_id ?_); (conv => arg 1; whnf); (with_reducible refine s_some ?_)) | (with_reducible refine q_leave lay_ok 400 ?_) | (with_reducible exact o_nil) | ((with_reducible refine o_id ?_); (conv => arg 1; whnf); first | (with_reducible exact o_nil) | (with_reducible refine o_cons ?_ ?_)) | (intro h; ((try simp only [Int.toNat_natCast] at h); repeat (first | replace h := of_decide_eq_true h | replace h := of_decide_eq_false h)); (try (first | (exfalso; omega)))) | rfl | omega | (simp only [List.length_append, List.length_cons, List.length_nil]; omega))
      all_goals (refine q_round ⟨i + 1, by omega, by omega, ?_⟩; ((with_reducible refine s_id ?_); (conv => arg 1; whnf); (with_reducible refine s_some ?_); repeat' (first | ((with_reducible refine o_id ?_); (conv => arg 1; whnf); first | (with_reducible exact o_nil) | (with_reducible refine o_cons ?_ ?_)) | rfl | (exact (rnB_succ (by assumption)).symm))))
  · have e : i = g.blks.length := by omega
    subst e
    have hmz := mapTo_zero (c := .ints) (f := tP tt) (l := g.pts)
    repeat' (first | (((with_reducible refine g_id ?_); (conv => arg 3; whnf)); first | (with_reducible refine g_cond lay_ok 400 ?_ ?_ ?_) | (with_reducible refine g_fin ?_ ?_)) | (with_reducible refine q_leave lay_ok 400 ?_) | (with_reducible exact o_nil) | ((with_reducible refine o_id ?_); (conv => arg 1; whnf); first | (with_reducible exact o_nil)) | (intro h; ((try simp only [Int.toNat_natCast] at h); repeat (first | replace h := of_decide_eq_true h | replace h := of_decide_eq_false h)); (try (first | (exfalso; omega)))))
    refine g_loop lay_ok 400 (Z := Nat) (fun z => z ≤ g.hds.length) (fun z => ⟨[(1, .sl ⟨5, []⟩), (2, .ptr 6 0), (4, .ptr 7 0), (5, .ptr 8 0), (10, .int .i64 (z : Int))], [(0, .list .tmp .input g.inp), (1, .list .tmp .array g.arrs), (2, .list .tmp .block g.blks), (3, .list .tmp .ints g.pts), (4, .list .tmp .head g.hds), (5, .list .tmp .int tt), (6, .cells [.sl ⟨0, []⟩, .int .i64 g.vars, .int .i64 g.keep, .sl ⟨1, []⟩, .int .i64 g.shared, .sl ⟨2, []⟩, .sl ⟨3, []⟩, .sl ⟨4, []⟩]), (7, .cells [.val (.slice none 0 0), .int .i64 0, .int .i64 0, .val (.slice none 0 0), .int .i64 0, .val (.slice none 0 0), .val (.slice none 0 0), .val (.slice none 0 0)]), (8, .cells [.sl ⟨9, []⟩, .int .i64 g.vars, .int .i64 g.keep, .sl ⟨10, []⟩, .int .i64 g.shared, .sl ⟨11, []⟩, .sl ⟨12, []⟩, .sl ⟨13, []⟩]), (9, .list .own .input g.inp), (10, .list .own .array g.arrs), (11, .list .own .block (rnB tt g.blks g.blks.length)), (12, .list .own .ints (g.pts)), (13, .list .own .head (rnH tt g.hds z))], 14⟩) (fun z => g.hds.length - z) ?_ ⟨0, Nat.zero_le _, ?_⟩ (fun z hz => ?_)
    · repeat' (first | ((with_reducible refine o_id ?_); (conv => arg 1; whnf); first | (with_reducible exact o_nil)))
    · ((with_reducible refine s_id ?_); (conv => arg 1; whnf); (with_reducible refine s_some ?_); repeat' (first | ((with_reducible refine o_id ?_); (conv => arg 1; whnf); first | (with_reducible exact o_nil) | (with_reducible refine o_cons ?_ ?_)) | rfl | (exact rnH_zero)))
    have hzl := rnH_len (tt := tt) (l := g.hds) (z := z)
    by_cases hk : z < g.hds.length
    · have hv := hh _ (mem_gt (c := .head) hk)
      repeat' (first | (((with_reducible refine g_id ?_); (conv => arg 3; whnf)); first | (with_reducible refine g_cond lay_ok 400 ?_ ?_ ?_) | (with_reducible refine g_fin ?_ ?_) | (refine g_flow 19 lay_ok mixed_ok 400 11264 [0, 1, 0, 0, 8, 0, 56, 120, 248, 508, 1020, 2047, 4095, 8191] (.q 0 (.q 1 (.q 2 (.q 3 (.q 4 (.q 5 (.q 6 (.q 7 (.q 8 (.q 9 (.e 10 [0, 1] (.e 11 [] (.q 12 (.e 13 [] (.fin) .stop)) .stop) .stop))))))))))) (by kernel_rfl) ?_ ?_)) | (((with_reducible refine w_id ?_); (conv => arg 4; whnf)); first | (with_reducible refine w_fin ?_ ?_) | (with_reducible refine w_tt ?_) | (with_reducible refine w_eff lay_ok 400 ?_ rfl rfl ?_ ?_)) | (with_reducible refine q_flow ?_ ?_) | ((with_reducible refine h_id ?_); (conv => arg 1; whnf); (with_reducible refine s_some ?_)) | (with_reducible exact o_nil) | ((with_reducible refine o_id ?_); (conv => arg 1; whnf); first | (with_reducible exact o_nil) | (with_reducible refine o_cons ?_ ?_)) | (intro h; ((try simp only [Int.toNat_natCast] at h); repeat (first | replace h := of_decide_eq_true h | replace h := of_decide_eq_false h)); (try (first | (exfalso; omega)))) | omega | (simp only [List.length_append, List.length_cons, List.length_nil]; omega) | (simp only [Int.toNat_natCast]; omega))
      all_goals (refine q_round ⟨z + 1, by omega, by omega, ?_⟩; ((with_reducible refine s_id ?_); (conv => arg 1; whnf); (with_reducible refine s_some ?_); repeat' (first | ((with_reducible refine o_id ?_); (conv => arg 1; whnf); first | (with_reducible exact o_nil) | (with_reducible refine o_cons ?_ ?_)) | rfl | (exact (rnH_yes hk (by assumption)).symm) | (exact (rnH_no hk (by assumption)).symm))))
    · have e : z = g.hds.length := by omega
      subst e
      repeat' (first | (((with_reducible refine g_id ?_); (conv => arg 3; whnf)); first | (with_reducible refine g_cond lay_ok 400 ?_ ?_ ?_) | (with_reducible refine g_fin ?_ ?_)) | (with_reducible refine q_leave lay_ok 400 ?_) | (with_reducible exact o_nil) | ((with_reducible refine o_id ?_); (conv => arg 1; whnf); first | (with_reducible exact o_nil)) | (intro h; ((try simp only [Int.toNat_natCast] at h); repeat (first | replace h := of_decide_eq_true h | replace h := of_decide_eq_false h)); (try (first | (exfalso; omega)))))
      refine g_loop lay_ok 400 (Z := Nat) (fun z => z ≤ g.pts.length) (fun z => ⟨[(1, .sl ⟨5, []⟩), (2, .ptr 6 0), (4, .ptr 7 0), (5, .ptr 8 0), (12, .int .i64 (z : Int))], [(0, .list .tmp .input g.inp), (1, .list .tmp .array g.arrs), (2, .list .tmp .block g.blks), (3, .list .tmp .ints g.pts), (4, .list .tmp .head g.hds), (5, .list .tmp .int tt), (6, .cells [.sl ⟨0, []⟩, .int .i64 g.vars, .int .i64 g.keep, .sl ⟨1, []⟩, .int .i64 g.shared, .sl ⟨2, []⟩, .sl ⟨3, []⟩, .sl ⟨4, []⟩]), (7, .cells [.val (.slice none 0 0), .int .i64 0, .int .i64 0, .val (.slice none 0 0), .int .i64 0, .val (.slice none 0 0), .val (.slice none 0 0), .val (.slice none 0 0)]), (8, .cells [.sl ⟨9, []⟩, .int .i64 g.vars, .int .i64 g.keep, .sl ⟨10, []⟩, .int .i64 g.shared, .sl ⟨11, []⟩, .sl ⟨12, []⟩, .sl ⟨13, []⟩]), (9, .list .own .input g.inp), (10, .list .own .array g.arrs), (11, .list .own .block (rnB tt g.blks g.blks.length)), (12, .list .own .ints (mapTo (c := .ints) (tP tt) g.pts z)), (13, .list .own .head (rnH tt g.hds g.hds.length))], 14⟩) (fun z => g.pts.length - z) ?_ ⟨0, Nat.zero_le _, ?_⟩ (fun i hi => ?_)
      · repeat' (first | ((with_reducible refine o_id ?_); (conv => arg 1; whnf); first | (with_reducible exact o_nil)))
      · ((with_reducible refine s_id ?_); (conv => arg 1; whnf); (with_reducible refine s_some ?_); repeat' (first | ((with_reducible refine o_id ?_); (conv => arg 1; whnf); first | (with_reducible exact o_nil) | (with_reducible refine o_cons ?_ ?_)) | rfl | omega))
      have hm := mapTo_len (c := .ints) (f := tP tt) (l := g.pts) (i := i)
      by_cases hlt : i < g.pts.length
      · have hnl := h9 _ (mem_gt (c := .ints) hlt)
        have hnn := hp _ (mem_gt (c := .ints) hlt)
        repeat' (first | (((with_reducible refine g_id ?_); (conv => arg 3; whnf)); first | (with_reducible refine g_cond lay_ok 400 ?_ ?_ ?_)) | ((with_reducible refine o_id ?_); (conv => arg 1; whnf); first | (with_reducible exact o_nil)) | (intro h; ((try simp only [Int.toNat_natCast] at h); repeat (first | replace h := of_decide_eq_true h | replace h := of_decide_eq_false h)); (try (first | (exfalso; omega)))))
        refine g_loop lay_ok 400 (Z := Nat) (fun z => z ≤ (gt (c := .ints) g.pts i : List Int).length) (fun z => ⟨[(1, .sl ⟨5, []⟩), (2, .ptr 6 0), (4, .ptr 7 0), (5, .ptr 8 0), (12, .int .i64 (i : Int)), (13, .sl ⟨14, []⟩), (14, .int .i64 (z : Int))], [(0, .list .tmp .input g.inp), (1, .list .tmp .array g.arrs), (2, .list .tmp .block g.blks), (3, .list .tmp .ints g.pts), (4, .list .tmp .head g.hds), (5, .list .tmp .int tt), (6, .cells [.sl ⟨0, []⟩, .int .i64 g.vars, .int .i64 g.keep, .sl ⟨1, []⟩, .int .i64 g.shared, .sl ⟨2, []⟩, .sl ⟨3, []⟩, .sl ⟨4, []⟩]), (7, .cells [.val (.slice none 0 0), .int .i64 0, .int .i64 0, .val (.slice none 0 0), .int .i64 0, .val (.slice none 0 0), .val (.slice none 0 0), .val (.slice none 0 0)]), (8, .cells [.sl ⟨9, []⟩, .int .i64 g.vars, .int .i64 g.keep, .sl ⟨10, []⟩, .int .i64 g.shared, .sl ⟨11, []⟩, .sl ⟨12, []⟩, .sl ⟨13, []⟩]), (9, .list .own .input g.inp), (10, .list .own .array g.arrs), (11, .list .own .block (rnB tt g.blks g.blks.length)), (12, .list .own .ints (mapTo (c := .ints) (tP tt) g.pts i)), (13, .list .own .head (rnH tt g.hds g.hds.length)), (14, .list .own .int (rnP tt (gt (c := .ints) g.pts i) z))], 15⟩) (fun z => (gt (c := .ints) g.pts i : List Int).length - z) ?_ ⟨0, Nat.zero_le _, ?_⟩ (fun z hz => ?_)
        · repeat' (first | ((with_reducible refine o_id ?_); (conv => arg 1; whnf); first | (with_reducible exact o_nil)))
        · ((with_reducible refine s_id ?_); (conv => arg 1; whnf); (with_reducible refine s_some ?_); repeat' (first | ((with_reducible refine o_id ?_); (conv => arg 1; whnf); first | (with_reducible exact o_nil) | (with_reducible refine o_cons ?_ ?_)) | rfl | (exact rnP_zero)))
        have hzl := rnP_len (tt := tt) (l := gt (c := .ints) g.pts i) (z := z)
        by_cases hk2 : z < (gt (c := .ints) g.pts i : List Int).length
        · have hv := hnn _ (mem_gt (c := .int) hk2)
          repeat' (first | (((with_reducible refine g_id ?_); (conv => arg 3; whnf)); first | (with_reducible refine g_cond lay_ok 400 ?_ ?_ ?_) | (with_reducible refine g_fin ?_ ?_)) | ((with_reducible refine o_id ?_); (conv => arg 1; whnf); first | (with_reducible exact o_nil) | (with_reducible refine o_cons ?_ ?_)) | (intro h; ((try simp only [Int.toNat_natCast] at h); repeat (first | replace h := of_decide_eq_true h | replace h := of_decide_eq_false h)); (try (first | (exfalso; omega)))) | omega | assumption | (simp only [List.length_append, List.length_cons, List.length_nil]; omega) | (simp only [Int.toNat_natCast]; omega))
          all_goals (refine q_round ⟨z + 1, by omega, by omega, ?_⟩; ((with_reducible refine s_id ?_); (conv => arg 1; whnf); (with_reducible refine s_some ?_); repeat' (first | ((with_reducible refine o_id ?_); (conv => arg 1; whnf); first | (with_reducible exact o_nil) | (with_reducible refine o_cons ?_ ?_)) | rfl | (exact (rnP_yes hk2 (by assumption)).symm) | (exact (rnP_no hk2 (by assumption)).symm))))
        · have e : z = (gt (c := .ints) g.pts i : List Int).length := by omega
          subst e
          repeat' (first | (((with_reducible refine g_id ?_); (conv => arg 3; whnf)); first | (with_reducible refine g_cond lay_ok 400 ?_ ?_ ?_) | (with_reducible refine g_fin ?_ ?_) | (refine g_storeL lay_ok 400 ?_ rfl rfl ?_ ?_)) | (with_reducible refine q_leave lay_ok 400 ?_) | (with_reducible exact o_nil) | (with_reducible refine o_cons ?_ ?_) | ((with_reducible refine o_id ?_); (conv => arg 1; whnf); first | (with_reducible exact o_nil) | (with_reducible refine o_cons ?_ ?_)) | (intro h; ((try simp only [Int.toNat_natCast] at h); repeat (first | replace h := of_decide_eq_true h | replace h := of_decide_eq_false h)); (try (first | (exfalso; omega)))) | omega)
          all_goals (refine q_round ⟨i + 1, by omega, by omega, ?_⟩; ((with_reducible refine s_id ?_); (conv => arg 1; whnf); (with_reducible refine s_some ?_); repeat' (first | ((with_reducible refine o_id ?_); (conv => arg 1; whnf); first | (with_reducible exact o_nil) | (with_reducible refine o_cons ?_ ?_)) | rfl | (rw [rnP_full]; exact (mapTo_set (c := .ints) hlt).symm))))
      · have e : i = g.pts.length := by omega
        subst e
        have f1 : mapTo (c := .ints) (tP tt) g.pts g.pts.length = (rnm g tt).pts := mapTo_full (c := .ints)
        have f2 : rnH tt g.hds g.hds.length = (rnm g tt).hds := rnH_full
        repeat' (first | (((with_reducible refine g_id ?_); (conv => arg 3; whnf)); first | (with_reducible refine g_cond lay_ok 400 ?_ ?_ ?_) | (with_reducible refine g_fin ?_ ?_)) | (with_reducible refine q_leave lay_ok 400 ?_) | (with_reducible exact o_nil) | ((with_reducible refine o_id ?_); (conv => arg 1; whnf); first | (with_reducible exact o_nil)) | (intro h; ((try simp only [Int.toNat_natCast] at h); repeat (first | replace h := of_decide_eq_true h | replace h := of_decide_eq_false h)); (try (first | (exfalso; omega)))))
        all_goals (((with_reducible refine e_id ?_); (conv => whnf)); refine ⟨(), trivial, ?_⟩; ((with_reducible refine s_id ?_); (conv => arg 1; whnf); (with_reducible refine s_some ?_); repeat' (first | ((with_reducible refine o_id ?_); (conv => arg 1; whnf); first | (with_reducible exact o_nil) | (with_reducible refine o_cons ?_ ?_)) | rfl | (exact f1.symm) | (exact f2.symm))))
end Go.Proofs.Ytonjbhdfimcedaa
