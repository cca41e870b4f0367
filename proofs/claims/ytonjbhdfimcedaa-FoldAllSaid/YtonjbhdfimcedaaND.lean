/- Folded graphs: the program. -/
import Derived.Test.YtonjbhdfimcedaaNB
import Derived.Test.YtonjbhdfimcedaaNC
/- O4 -/
namespace Go.Proofs.Ytonjbhdfimcedaa
set_option linter.unusedVariables false
set_option linter.unusedSimpArgs false
open Go.RowKit
/-- Operations folded one after the other. -/
def mpL : List Op_ → MS → List Op_ × MS
  | [], s => ([], s)
  | o :: l, s => ((fldP o s).1 :: (mpL l (fldP o s).2).1, (mpL l (fldP o s).2).2)
theorem mpL_len : ∀ (l : List Op_) (s : MS), (mpL l s).1.length = l.length
  | [], s => rfl
  | x :: l, s => by show (mpL l (fldP x s).2).1.length + 1 = l.length + 1; rw [mpL_len l]
theorem mpL_snoc : ∀ (l : List Op_) (o : Op_) (s : MS), mpL (l ++ [o]) s = ((mpL l s).1 ++ [(fldP o (mpL l s).2).1], (fldP o (mpL l s).2).2)
  | [], o, s => rfl
  | x :: l, o, s => by
    have h := mpL_snoc l o (fldP x s).2
    show ((fldP x s).1 :: (mpL (l ++ [o]) (fldP x s).2).1, (mpL (l ++ [o]) (fldP x s).2).2) = _
    rw [h]; rfl
theorem mpL_nil {l : List Op_} : mpL (l.take 0) ([], []) = ([], [], []) := rfl
/-- The list of blocks when z operations of block i are folded. -/
def mrow (L : List Blk) (i z : Nat) : List Blk := L.set i ⟨(mpL ((gt (c := .block) L i).ops.take z) ([], [])).1 ++ (gt (c := .block) L i).ops.drop z, (gt (c := .block) L i).cond, (gt (c := .block) L i).next⟩
theorem mrow_zero {L : List Blk} {i : Nat} (hi : i < L.length) : mrow L i 0 = L := by
  unfold mrow; rw [List.take_zero, List.drop_zero]; exact set_gt (c := .block) hi
theorem mrow_len {L : List Blk} {i z : Nat} : (mrow L i z).length = L.length := by unfold mrow; rw [List.length_set]
theorem mrow_gt {L : List Blk} {i z : Nat} (hi : i < L.length) : gt (c := .block) (mrow L i z) i = ⟨(mpL ((gt (c := .block) L i).ops.take z) ([], [])).1 ++ (gt (c := .block) L i).ops.drop z, (gt (c := .block) L i).cond, (gt (c := .block) L i).next⟩ := gt_set (c := .block) hi
theorem mrow_ops {L : List Blk} {i z : Nat} (hi : i < L.length) : (gt (c := .block) (mrow L i z) i).ops.length = (gt (c := .block) L i).ops.length := by
  rw [mrow_gt hi]
  show ((mpL ((gt (c := .block) L i).ops.take z) ([], [])).1 ++ (gt (c := .block) L i).ops.drop z).length = _
  rw [List.length_append, mpL_len, List.length_take, List.length_drop]; omega
theorem mrow_next {L : List Blk} {i z : Nat} (hi : i < L.length) : (gt (c := .block) (mrow L i z) i).next = (gt (c := .block) L i).next := by rw [mrow_gt hi]
theorem mrow_cond {L : List Blk} {i z : Nat} (hi : i < L.length) : (gt (c := .block) (mrow L i z) i).cond = (gt (c := .block) L i).cond := by rw [mrow_gt hi]
theorem mrow_at {L : List Blk} {i z : Nat} (hi : i < L.length) (hz : z < (gt (c := .block) L i).ops.length) : opAt (mrow L i z) i z = gt (c := .op) (gt (c := .block) L i).ops z := by
  unfold opAt
  rw [mrow_gt hi]
  show gt (c := .op) ((mpL ((gt (c := .block) L i).ops.take z) ([], [])).1 ++ (gt (c := .block) L i).ops.drop z) z = _
  have hl : (mpL ((gt (c := .block) L i).ops.take z) ([], [])).1.length = z := by rw [mpL_len, List.length_take]; omega
  refine gt_eq (c := .op) ?_
  rw [List.getElem?_append_right (by omega), hl, Nat.sub_self, List.getElem?_drop, Nat.add_zero]
  exact gt_at (c := .op) hz
theorem mstep_fs {l : List Op_} {z : Nat} {x : Op_} {r : Op_ × MS} (hz : z < l.length) (hx : x = gt (c := .op) l z) (e : fldP x ((mpL (l.take z) ([], [])).2.1, (mpL (l.take z) ([], [])).2.2) = r) : mpL (l.take (z + 1)) ([], []) = ((mpL (l.take z) ([], [])).1 ++ [r.1], r.2) := by
  rw [take_snoc (c := .op) hz, mpL_snoc, ← hx]
  have : fldP x (mpL (l.take z) ([], [])).2 = r := e
  rw [this]
theorem mstep_row {L : List Blk} {i z : Nat} {r : Op_ × MS} (hi : i < L.length) (hz : z < (gt (c := .block) L i).ops.length) (e : mpL ((gt (c := .block) L i).ops.take (z + 1)) ([], []) = ((mpL ((gt (c := .block) L i).ops.take z) ([], [])).1 ++ [r.1], r.2)) :
    setO (mrow L i z) i z r.1 = mrow L i (z + 1) := by
  have hl : (mpL ((gt (c := .block) L i).ops.take z) ([], [])).1.length = z := by rw [mpL_len, List.length_take]; omega
  have h1 : ((mpL ((gt (c := .block) L i).ops.take z) ([], [])).1 ++ (gt (c := .block) L i).ops.drop z).set z r.1 = (mpL ((gt (c := .block) L i).ops.take (z + 1)) ([], [])).1 ++ (gt (c := .block) L i).ops.drop (z + 1) := by
    rw [e, List.set_append_right _ _ (by omega), hl, Nat.sub_self, List.drop_eq_getElem_cons hz, List.set_cons_zero, List.append_assoc]
    rfl
  unfold setO
  rw [mrow_gt hi]
  show (mrow L i z).set i ⟨((mpL ((gt (c := .block) L i).ops.take z) ([], [])).1 ++ (gt (c := .block) L i).ops.drop z).set z r.1, (gt (c := .block) L i).cond, (gt (c := .block) L i).next⟩ = _
  rw [h1]
  unfold mrow
  rw [List.set_set]
theorem mrow_full {L : List Blk} {i z : Nat} (hz : ¬ z < (gt (c := .block) L i).ops.length) : mrow L i z = L.set i ⟨(mpL (gt (c := .block) L i).ops ([], [])).1, (gt (c := .block) L i).cond, (gt (c := .block) L i).next⟩ := by
  unfold mrow; rw [takeC_all (c := .op) hz, dropC_all (c := .op) hz, List.append_nil]
/-- Is the way out of a block known? -/
def knwP (b : Blk) : Bool := decide (2 ≤ b.next.length) && (mpGet (mpL b.ops ([], [])).2.1 (useP (mpL b.ops ([], [])).2.2 b.cond)).isSome
def cndP (b : Blk) : Int := if 2 ≤ b.next.length then useP (mpL b.ops ([], [])).2.2 b.cond else b.cond
def wayP (b : Blk) : Int := gt (c := .int) b.next (if (mpGet (mpL b.ops ([], [])).2.1 (useP (mpL b.ops ([], [])).2.2 b.cond)).getD 0 = 0 then 1 else 0)
/-- A block folded. -/
def blkP (b : Blk) : Blk := if knwP b = true then ⟨(mpL b.ops ([], [])).1, 0, [wayP b]⟩ else ⟨(mpL b.ops ([], [])).1, cndP b, b.next⟩
/-- A graph folded. -/
def fldGP (g : Grf) : Grf := ⟨g.inp, g.vars, g.keep, g.arrs, g.shared, g.blks.map blkP, g.pts, g.hds⟩
theorem foldP_F {L M : List Blk} {z : Nat} {a : List Op_} {c : Int} {nx : List Int} (hz : z < L.length) (hM : M = mapTo (c := .block) blkP L z) (ha : a = (mpL (gt (c := .block) M z).ops ([], [])).1) (hn : nx = (gt (c := .block) M z).next) (hc : c = cndP (gt (c := .block) M z)) (ht : knwP (gt (c := .block) L z) = false) : M.set z ⟨a, c, nx⟩ = mapTo (c := .block) blkP L (z + 1) := by
  subst ha hn hc
  have e := gt_mapTo (c := .block) (f := blkP) hz
  have e2 := mapTo_set (c := .block) (f := blkP) hz
  rw [← hM] at e e2
  have e3 : blkP (gt (c := .block) L z) = ⟨(mpL (gt (c := .block) L z).ops ([], [])).1, cndP (gt (c := .block) L z), (gt (c := .block) L z).next⟩ := if_neg (by rw [ht]; decide)
  rw [e3] at e2
  rw [e]; exact e2
theorem foldP_T {L M : List Blk} {z : Nat} {a : List Op_} {c : Int} (hz : z < L.length) (hM : M = mapTo (c := .block) blkP L z) (ha : a = (mpL (gt (c := .block) M z).ops ([], [])).1) (hc : c = wayP (gt (c := .block) M z)) (ht : knwP (gt (c := .block) L z) = true) : M.set z ⟨a, 0, [c]⟩ = mapTo (c := .block) blkP L (z + 1) := by
  subst ha hc
  have e := gt_mapTo (c := .block) (f := blkP) hz
  have e2 := mapTo_set (c := .block) (f := blkP) hz
  rw [← hM] at e e2
  have e3 : blkP (gt (c := .block) L z) = ⟨(mpL (gt (c := .block) L z).ops ([], [])).1, 0, [wayP (gt (c := .block) L z)]⟩ := if_pos ht
  rw [e3] at e2
  rw [e]; exact e2
theorem op_imm {n : Nat} {o : Op_} (h : OpOK n o) : o.kind = 3 → 1 ≤ o.imm ∧ o.imm ≤ 14 := h.2.2.2
attribute [local irreducible] blkP mapTo idM chkG knwP cndP wayP mpL mrow useP setCd setO fldP opAt
set_option maxHeartbeats 4000000 in
theorem c_foldE (g : Grf) (hB : Bnd g) (he : ¬ chkG g = 0) : Trip Try.prog 13 [.agg [.sl ⟨0, []⟩, .int .i64 g.vars, .int .i64 g.keep, .sl ⟨1, []⟩, .int .i64 g.shared, .sl ⟨2, []⟩, .sl ⟨3, []⟩, .sl ⟨4, []⟩]] ⟨[], [(0, .list .fz .input g.inp), (1, .list .fz .array g.arrs), (2, .list .fz .block g.blks), (3, .list .fz .ints g.pts), (4, .list .fz .head g.hds)], 5⟩ (Z := Unit) (fun _ => True) (fun _ => .tup [.agg [.val (.slice none 0 0), .int .i64 0, .int .i64 0, .val (.slice none 0 0), .int .i64 0, .val (.slice none 0 0), .val (.slice none 0 0), .val (.slice none 0 0)], .val (.slice none 0 0), .int .i64 (chkG g)]) (fun _ => ⟨[], [(0, .list .fz .input g.inp), (1, .list .fz .array g.arrs), (2, .list .fz .block g.blks), (3, .list .fz .ints g.pts), (4, .list .fz .head g.hds)], 5⟩) := by
  refine trip_by (rs := [_, _, _]) 400 lay_ok Try.func13 rfl (by kernel_rfl) Try.ntmps13 Try.results13 rfl rfl ?_
  repeat' (first | (((with_reducible refine g_id ?_); (conv => arg 3; whnf)); first | (with_reducible refine g_cond lay_ok 400 ?_ ?_ ?_) | (with_reducible refine g_fin ?_ ?_) | (refine g_call lay_ok 400 ?_ ?_ ?_ (c_check ?_ ?_) rfl)) | ((with_reducible refine o_id ?_); (conv => arg 1; whnf); first | (with_reducible exact o_nil) | (with_reducible refine o_cons ?_ ?_)) | (intro h; ((try simp only [Int.toNat_natCast] at h); repeat (first | replace h := of_decide_eq_true h | replace h := of_decide_eq_false h | replace h := not_t h | replace h := not_f h)); (try (first | contradiction))) | rfl | omega)
  all_goals (((with_reducible refine e_id ?_); (conv => whnf)); refine ⟨(), trivial, ?_⟩; ((with_reducible refine s_id ?_); (conv => arg 1; whnf); (with_reducible refine s_some ?_); repeat' (first | ((with_reducible refine o_id ?_); (conv => arg 1; whnf); first | (with_reducible exact o_nil) | (with_reducible refine o_cons ?_ ?_)) | rfl)))
set_option maxHeartbeats 8000000 in
set_option maxRecDepth 8000 in
theorem c_foldO (g : Grf) (hB : Bnd g) (he : chkG g = 0) : Trip Try.prog 13 [.agg [.sl ⟨0, []⟩, .int .i64 g.vars, .int .i64 g.keep, .sl ⟨1, []⟩, .int .i64 g.shared, .sl ⟨2, []⟩, .sl ⟨3, []⟩, .sl ⟨4, []⟩]] ⟨[], [(0, .list .fz .input g.inp), (1, .list .fz .array g.arrs), (2, .list .fz .block g.blks), (3, .list .fz .ints g.pts), (4, .list .fz .head g.hds)], 5⟩ (Z := Unit) (fun _ => True) (fun _ => .tup [.agg [.sl ⟨5, []⟩, .int .i64 g.vars, .int .i64 g.keep, .sl ⟨6, []⟩, .int .i64 g.shared, .sl ⟨7, []⟩, .sl ⟨8, []⟩, .sl ⟨9, []⟩], .sl ⟨10, []⟩, .int .i64 0]) (fun _ => ⟨[], [(0, .list .fz .input g.inp), (1, .list .fz .array g.arrs), (2, .list .fz .block g.blks), (3, .list .fz .ints g.pts), (4, .list .fz .head g.hds), (5, .list .own .input g.inp), (6, .list .own .array g.arrs), (7, .list .own .block ((fldGP g).blks)), (8, .list .own .ints g.pts), (9, .list .own .head g.hds), (10, .list .own .ints (idM g.blks.length))], 11⟩) := by
  have w := chk_wf hB he
  have hb0 := w.b
  have hf := (chk_fold he).2
  refine trip_by (rs := [_, _, _]) 400 lay_ok Try.func13 rfl (by kernel_rfl) Try.ntmps13 Try.results13 rfl rfl ?_
  repeat' (first | (((with_reducible refine g_id ?_); (conv => arg 3; whnf)); first | (with_reducible refine g_cond lay_ok 400 ?_ ?_ ?_) | (refine g_call lay_ok 400 ?_ ?_ ?_ (c_check ?_ ?_) rfl) | (refine g_call lay_ok 400 ?_ ?_ ?_ (c_copy ?_ ?_) rfl)) | ((with_reducible refine o_id ?_); (conv => arg 1; whnf); first | (with_reducible exact o_nil) | (with_reducible refine o_cons ?_ ?_)) | (intro h; ((try simp only [Int.toNat_natCast] at h); repeat (first | replace h := of_decide_eq_true h | replace h := of_decide_eq_false h | replace h := not_t h | replace h := not_f h)); (try (first | contradiction))) | rfl | omega)
  refine g_loop lay_ok 400 (Z := Nat) (fun z => z ≤ g.blks.length) (fun z => ⟨[(1, .ptr 5 0), (2, .ptr 6 0), (6, .ptr 7 0), (24, .int .i64 (g.blks.length : Int)), (25, .int .i64 (z : Int))], [(0, .list .fz .input g.inp), (1, .list .fz .array g.arrs), (2, .list .fz .block g.blks), (3, .list .fz .ints g.pts), (4, .list .fz .head g.hds), (5, .cells [.sl ⟨0, []⟩, .int .i64 g.vars, .int .i64 g.keep, .sl ⟨1, []⟩, .int .i64 g.shared, .sl ⟨2, []⟩, .sl ⟨3, []⟩, .sl ⟨4, []⟩]), (6, .cells [.val (.slice none 0 0), .int .i64 0, .int .i64 0, .val (.slice none 0 0), .int .i64 0, .val (.slice none 0 0), .val (.slice none 0 0), .val (.slice none 0 0)]), (7, .cells [.sl ⟨8, []⟩, .int .i64 g.vars, .int .i64 g.keep, .sl ⟨9, []⟩, .int .i64 g.shared, .sl ⟨10, []⟩, .sl ⟨11, []⟩, .sl ⟨12, []⟩]), (8, .list .own .input g.inp), (9, .list .own .array g.arrs), (10, .list .own .block (mapTo (c := .block) blkP g.blks z)), (11, .list .own .ints g.pts), (12, .list .own .head g.hds)], 13⟩) (fun z => g.blks.length - z) ?_ ⟨0, Nat.zero_le _, ?_⟩ (fun z hz => ?_)
  · repeat' (first | ((with_reducible refine o_id ?_); (conv => arg 1; whnf); first | (with_reducible exact o_nil)))
  · ((with_reducible refine s_id ?_); (conv => arg 1; whnf); (with_reducible refine s_some ?_); repeat' (first | ((with_reducible refine o_id ?_); (conv => arg 1; whnf); first | (with_reducible exact o_nil) | (with_reducible refine o_cons ?_ ?_)) | rfl | (exact mapTo_zero (c := .block))))
  have hml := mapTo_len (c := .block) (f := blkP) (l := g.blks) (i := z)
  by_cases hk : z < g.blks.length
  · have hrz := gt_mapTo (c := .block) (f := blkP) hk
    have hzm := mem_gt (c := .block) hk
    have hkM : z < (mapTo (c := .block) blkP g.blks z).length := by rw [hml]; exact hk
    have hol : (gt (c := .block) (mapTo (c := .block) blkP g.blks z) z).ops.length ≤ 1048576 := by rw [hrz]; exact w.bnd.o _ hzm
    have hnl : (gt (c := .block) (mapTo (c := .block) blkP g.blks z) z).next.length ≤ 2 := by rw [hrz]; exact (w.n _ hzm).1
    have hop : ∀ o ∈ (gt (c := .block) (mapTo (c := .block) blkP g.blks z) z).ops, OpOK g.vars.toNat o := by rw [hrz]; exact (hf _ hzm).1
    have hkw : knwP (gt (c := .block) g.blks z) = knwP (gt (c := .block) (mapTo (c := .block) blkP g.blks z) z) := by rw [hrz]
    clear hrz hf
    repeat' (first | (((with_reducible refine g_id ?_); (conv => arg 3; whnf)); first | (with_reducible refine g_cond lay_ok 400 ?_ ?_ ?_)) | ((with_reducible refine o_id ?_); (conv => arg 1; whnf); first | (with_reducible exact o_nil)) | (intro h; ((try simp only [Int.toNat_natCast] at h); repeat (first | replace h := of_decide_eq_true h | replace h := of_decide_eq_false h)); (try (first | (exfalso; omega)))))
    ((with_reducible refine g_id ?_); (conv => arg 3; whnf))
    refine g_mid lay_ok 1 400 (Z := Unit) (fun _ => True) (fun _ => ⟨[(1, .ptr 5 0), (2, .ptr 6 0), (6, .ptr 7 0), (24, .int .i64 (g.blks.length : Int)), (25, .int .i64 (z : Int)), (8, .el ⟨10, []⟩ 3 z 0), (9, .ptr 15 0)], [(0, .list .fz .input g.inp), (1, .list .fz .array g.arrs), (2, .list .fz .block g.blks), (3, .list .fz .ints g.pts), (4, .list .fz .head g.hds), (5, .cells [.sl ⟨0, []⟩, .int .i64 g.vars, .int .i64 g.keep, .sl ⟨1, []⟩, .int .i64 g.shared, .sl ⟨2, []⟩, .sl ⟨3, []⟩, .sl ⟨4, []⟩]), (6, .cells [.val (.slice none 0 0), .int .i64 0, .int .i64 0, .val (.slice none 0 0), .int .i64 0, .val (.slice none 0 0), .val (.slice none 0 0), .val (.slice none 0 0)]), (7, .cells [.sl ⟨8, []⟩, .int .i64 g.vars, .int .i64 g.keep, .sl ⟨9, []⟩, .int .i64 g.shared, .sl ⟨10, []⟩, .sl ⟨11, []⟩, .sl ⟨12, []⟩]), (8, .list .own .input g.inp), (9, .list .own .array g.arrs), (10, .list .own .block ((mapTo (c := .block) blkP g.blks z).set z ⟨(mpL (gt (c := .block) (mapTo (c := .block) blkP g.blks z) z).ops ([], [])).1, (gt (c := .block) (mapTo (c := .block) blkP g.blks z) z).cond, (gt (c := .block) (mapTo (c := .block) blkP g.blks z) z).next⟩)), (11, .list .own .ints g.pts), (12, .list .own .head g.hds), (13, .mp ⟨false, (mpL (gt (c := .block) (mapTo (c := .block) blkP g.blks z) z).ops ([], [])).2.1⟩), (14, .mp ⟨false, (mpL (gt (c := .block) (mapTo (c := .block) blkP g.blks z) z).ops ([], [])).2.2⟩), (15, .cells [.mp 13, .mp 14])], 16⟩) rfl ?_ (fun y hy => ?_)
    · refine g_loop lay_ok 400 (Z := Nat) (fun y => y ≤ (gt (c := .block) (mapTo (c := .block) blkP g.blks z) z).ops.length) (fun y => ⟨[(1, .ptr 5 0), (2, .ptr 6 0), (6, .ptr 7 0), (24, .int .i64 (g.blks.length : Int)), (25, .int .i64 (z : Int)), (8, .el ⟨10, []⟩ 3 z 0), (9, .ptr 15 0), (40, .int .i64 ((gt (c := .block) (mapTo (c := .block) blkP g.blks z) z).ops.length : Int)), (41, .int .i64 (y : Int))], [(0, .list .fz .input g.inp), (1, .list .fz .array g.arrs), (2, .list .fz .block g.blks), (3, .list .fz .ints g.pts), (4, .list .fz .head g.hds), (5, .cells [.sl ⟨0, []⟩, .int .i64 g.vars, .int .i64 g.keep, .sl ⟨1, []⟩, .int .i64 g.shared, .sl ⟨2, []⟩, .sl ⟨3, []⟩, .sl ⟨4, []⟩]), (6, .cells [.val (.slice none 0 0), .int .i64 0, .int .i64 0, .val (.slice none 0 0), .int .i64 0, .val (.slice none 0 0), .val (.slice none 0 0), .val (.slice none 0 0)]), (7, .cells [.sl ⟨8, []⟩, .int .i64 g.vars, .int .i64 g.keep, .sl ⟨9, []⟩, .int .i64 g.shared, .sl ⟨10, []⟩, .sl ⟨11, []⟩, .sl ⟨12, []⟩]), (8, .list .own .input g.inp), (9, .list .own .array g.arrs), (10, .list .own .block (mrow (mapTo (c := .block) blkP g.blks z) z y)), (11, .list .own .ints g.pts), (12, .list .own .head g.hds), (13, .mp ⟨false, (mpL ((gt (c := .block) (mapTo (c := .block) blkP g.blks z) z).ops.take y) ([], [])).2.1⟩), (14, .mp ⟨false, (mpL ((gt (c := .block) (mapTo (c := .block) blkP g.blks z) z).ops.take y) ([], [])).2.2⟩), (15, .cells [.mp 13, .mp 14])], 16⟩) (fun y => (gt (c := .block) (mapTo (c := .block) blkP g.blks z) z).ops.length - y) ?_ ⟨0, Nat.zero_le _, ?_⟩ (fun y hy0 => ?_)
      · repeat' (first | ((with_reducible refine o_id ?_); (conv => arg 1; whnf); first | (with_reducible exact o_nil) | (with_reducible refine o_cons ?_ ?_)) | omega)
      · ((with_reducible refine s_id ?_); (conv => arg 1; whnf); (with_reducible refine s_some ?_); repeat' (first | ((with_reducible refine o_id ?_); (conv => arg 1; whnf); first | (with_reducible exact o_nil) | (with_reducible refine o_cons ?_ ?_)) | rfl | (rw [mrow_zero hkM]) | (rw [mpL_nil])))
      by_cases hy : y < (gt (c := .block) (mapTo (c := .block) blkP g.blks z) z).ops.length
      · have ho := mrow_at hkM hy
        have him : (opAt (mrow (mapTo (c := .block) blkP g.blks z) z y) z y).kind = 3 → 1 ≤ (opAt (mrow (mapTo (c := .block) blkP g.blks z) z y) z y).imm ∧ (opAt (mrow (mapTo (c := .block) blkP g.blks z) z y) z y).imm ≤ 14 := by rw [ho]; exact op_imm (hop _ (mem_gt (c := .op) hy))
        repeat' (first | (((with_reducible refine g_id ?_); (conv => arg 3; whnf)); first | (with_reducible refine g_cond lay_ok 400 ?_ ?_ ?_) | (with_reducible refine g_fin ?_ ?_) | (refine g_call lay_ok 400 ?_ ?_ ?_ (c_opP ?_ ?_ ?_ ?_ ?_ ?_ ?_ ?_) rfl)) | ((with_reducible refine o_id ?_); (conv => arg 1; whnf); first | (with_reducible exact o_nil) | (with_reducible refine o_cons ?_ ?_)) | (intro h; ((try simp only [Int.toNat_natCast] at h); repeat (first | replace h := of_decide_eq_true h | replace h := of_decide_eq_false h)); (try (first | (exfalso; omega)))) | rfl | omega | (simp only [Int.toNat_natCast]; omega) | (rw [mrow_len, hml]; exact hk) | (rw [mrow_ops hkM]; exact hy) | (rw [mrow_ops hkM]; omega))
        all_goals (rename_i r; have hs := mstep_fs hy ho h; refine q_round ⟨y + 1, by omega, by omega, ?_⟩; ((with_reducible refine s_id ?_); (conv => arg 1; whnf); (with_reducible refine s_some ?_); repeat' (first | ((with_reducible refine o_id ?_); (conv => arg 1; whnf); first | (with_reducible exact o_nil) | (with_reducible refine o_cons ?_ ?_)) | rfl | (exact (mstep_row hkM hy hs).symm) | (rw [hs]))))
      · repeat' (first | (((with_reducible refine g_id ?_); (conv => arg 3; whnf)); first | (with_reducible refine g_cond lay_ok 400 ?_ ?_ ?_) | (with_reducible refine g_fin ?_ ?_)) | (with_reducible refine q_leave lay_ok 400 ?_) | (with_reducible exact o_nil) | ((with_reducible refine o_id ?_); (conv => arg 1; whnf); first | (with_reducible exact o_nil)) | (intro h; ((try simp only [Int.toNat_natCast] at h); repeat (first | replace h := of_decide_eq_true h | replace h := of_decide_eq_false h)); (try (first | (exfalso; omega)))))
        all_goals (rw [mrow_full hy, takeC_all (c := .op) hy]; refine q_round ⟨(), trivial, ?_⟩; ((with_reducible refine s_id ?_); (conv => arg 1; whnf); (with_reducible refine s_some ?_); repeat' (first | ((with_reducible refine o_id ?_); (conv => arg 1; whnf); first | (with_reducible exact o_nil) | (with_reducible refine o_cons ?_ ?_)) | rfl)))
    clear hop
    by_cases h2 : (gt (c := .block) (mapTo (c := .block) blkP g.blks z) z).next.length < 2
    · have ht : knwP (gt (c := .block) g.blks z) = false := by rw [hkw]; unfold knwP; rw [decide_eq_false (by omega), Bool.false_and]
      have hc : (gt (c := .block) (mapTo (c := .block) blkP g.blks z) z).cond = cndP (gt (c := .block) (mapTo (c := .block) blkP g.blks z) z) := by unfold cndP; rw [if_neg (by omega)]
      repeat' (first | (((with_reducible refine g_id ?_); (conv => arg 3; whnf)); first | (with_reducible refine g_cond lay_ok 400 ?_ ?_ ?_) | (with_reducible refine g_fin ?_ ?_)) | ((with_reducible refine o_id ?_); (conv => arg 1; whnf); first | (with_reducible exact o_nil) | (with_reducible refine o_cons ?_ ?_)) | (intro h; ((try simp only [Int.toNat_natCast, gt_set (c := .block) hkM] at h); repeat (first | replace h := of_decide_eq_true h | replace h := of_decide_eq_false h)); (try (first | (exfalso; omega)))) | omega | (simp only [List.length_nil, List.length_cons, List.length_append, List.length_take, List.length_set, Int.toNat_natCast, Nat.zero_add]; omega))
      all_goals (refine q_round ⟨z + 1, by omega, by omega, ?_⟩; ((with_reducible refine s_id ?_); (conv => arg 1; whnf); (with_reducible refine s_some ?_); repeat' (first | ((with_reducible refine o_id ?_); (conv => arg 1; whnf); first | (with_reducible exact o_nil) | (with_reducible refine o_cons ?_ ?_)) | rfl | (exact (foldP_F hk rfl rfl rfl hc ht).symm))))
    · repeat' (first | (((with_reducible refine g_id ?_); (conv => arg 3; whnf)); first | (with_reducible refine g_cond lay_ok 400 ?_ ?_ ?_)) | ((with_reducible refine o_id ?_); (conv => arg 1; whnf); first | (with_reducible exact o_nil) | (with_reducible refine o_cons ?_ ?_)) | (intro h; ((try simp only [Int.toNat_natCast, gt_set (c := .block) hkM] at h); repeat (first | replace h := of_decide_eq_true h | replace h := of_decide_eq_false h)); (try (first | (exfalso; omega)))) | (simp only [List.length_nil, List.length_cons, List.length_append, List.length_take, List.length_set, Int.toNat_natCast, Nat.zero_add]; omega))
      all_goals ((with_reducible refine g_id ?_); (conv => arg 3; whnf))
      refine g_mid lay_ok 0 400 (Z := Unit) (fun _ => True) (fun _ => ⟨[(1, .ptr 5 0), (2, .ptr 6 0), (6, .ptr 7 0), (24, .int .i64 (g.blks.length : Int)), (25, .int .i64 (z : Int)), (8, .el ⟨10, []⟩ 3 z 0), (9, .ptr 15 0)], [(0, .list .fz .input g.inp), (1, .list .fz .array g.arrs), (2, .list .fz .block g.blks), (3, .list .fz .ints g.pts), (4, .list .fz .head g.hds), (5, .cells [.sl ⟨0, []⟩, .int .i64 g.vars, .int .i64 g.keep, .sl ⟨1, []⟩, .int .i64 g.shared, .sl ⟨2, []⟩, .sl ⟨3, []⟩, .sl ⟨4, []⟩]), (6, .cells [.val (.slice none 0 0), .int .i64 0, .int .i64 0, .val (.slice none 0 0), .int .i64 0, .val (.slice none 0 0), .val (.slice none 0 0), .val (.slice none 0 0)]), (7, .cells [.sl ⟨8, []⟩, .int .i64 g.vars, .int .i64 g.keep, .sl ⟨9, []⟩, .int .i64 g.shared, .sl ⟨10, []⟩, .sl ⟨11, []⟩, .sl ⟨12, []⟩]), (8, .list .own .input g.inp), (9, .list .own .array g.arrs), (10, .list .own .block ((mapTo (c := .block) blkP g.blks z).set z ⟨(mpL (gt (c := .block) (mapTo (c := .block) blkP g.blks z) z).ops ([], [])).1, useP (mpL (gt (c := .block) (mapTo (c := .block) blkP g.blks z) z).ops ([], [])).2.2 (gt (c := .block) (mapTo (c := .block) blkP g.blks z) z).cond, (gt (c := .block) (mapTo (c := .block) blkP g.blks z) z).next⟩)), (11, .list .own .ints g.pts), (12, .list .own .head g.hds), (13, .mp ⟨false, (mpL (gt (c := .block) (mapTo (c := .block) blkP g.blks z) z).ops ([], [])).2.1⟩), (14, .mp ⟨false, (mpL (gt (c := .block) (mapTo (c := .block) blkP g.blks z) z).ops ([], [])).2.2⟩), (15, .cells [.mp 13, .mp 14])], 16⟩) rfl ?_ (fun y hy => ?_)
      · repeat' (first | (((with_reducible refine g_id ?_); (conv => arg 3; whnf)); first | (with_reducible refine g_fin ?_ ?_) | (refine g_call lay_ok 400 ?_ ?_ ?_ (c_repC ?_ ?_ ?_ ?_ ?_) rfl)) | (with_reducible exact o_nil) | ((with_reducible refine o_id ?_); (conv => arg 1; whnf); first | (with_reducible exact o_nil) | (with_reducible refine o_cons ?_ ?_)) | (intro h; ((try simp only [Int.toNat_natCast, gt_set (c := .block) hkM] at h); repeat (first | replace h := of_decide_eq_true h)); (try (first | contradiction))) | rfl | (simp only [List.length_nil, List.length_cons, List.length_append, List.length_take, List.length_set, Int.toNat_natCast, Nat.zero_add]; omega) | (simp only [Int.toNat_natCast, List.set_set, gt_set (c := .block) hkM]; unfold setCd; simp only [Int.toNat_natCast, List.set_set, gt_set (c := .block) hkM]))
        all_goals (refine q_round ⟨(), trivial, ?_⟩; ((with_reducible refine s_id ?_); (conv => arg 1; whnf); (with_reducible refine s_some ?_); repeat' (first | ((with_reducible refine o_id ?_); (conv => arg 1; whnf); first | (with_reducible exact o_nil) | (with_reducible refine o_cons ?_ ?_)) | rfl)))
      cases hb : (mpGet (mpL (gt (c := .block) (mapTo (c := .block) blkP g.blks z) z).ops ([], [])).2.1 (useP (mpL (gt (c := .block) (mapTo (c := .block) blkP g.blks z) z).ops ([], [])).2.2 (gt (c := .block) (mapTo (c := .block) blkP g.blks z) z).cond)).isSome with
      | true =>
        have ht : knwP (gt (c := .block) g.blks z) = true := by rw [hkw]; unfold knwP; rw [decide_eq_true (by omega), hb]; rfl
        by_cases h0 : (mpGet (mpL (gt (c := .block) (mapTo (c := .block) blkP g.blks z) z).ops ([], [])).2.1 (useP (mpL (gt (c := .block) (mapTo (c := .block) blkP g.blks z) z).ops ([], [])).2.2 (gt (c := .block) (mapTo (c := .block) blkP g.blks z) z).cond)).getD 0 = 0
        · have hc : (gt (c := .int) (gt (c := .block) (mapTo (c := .block) blkP g.blks z) z).next 1 : Int) = wayP (gt (c := .block) (mapTo (c := .block) blkP g.blks z) z) := by unfold wayP; rw [if_pos h0]
          repeat' (first | (((with_reducible refine g_id ?_); (conv => arg 3; whnf)); first | (with_reducible refine g_cond lay_ok 400 ?_ ?_ ?_) | (with_reducible refine g_fin ?_ ?_) | (refine g_storeL lay_ok 400 ?_ rfl rfl ?_ ?_) | (refine g_ownT lay_ok 400 .int ?_ rfl rfl ?_ ?_) | (refine g_flow 17 lay_ok mixed_ok 400 0 [0, 1, 3, 7, 0, 16, 48, 112, 255, 511, 1023, 1023, 2047, 8191] (.q 0 (.q 1 (.q 2 (.q 3 (.q 4 (.q 5 (.q 6 (.q 7 (.q 8 (.q 9 (.q 10 (.q 11 (.q 12 (.q 13 .fin)))))))))))))) (by kernel_rfl) ?_ ?_)) | (((with_reducible refine w_id ?_); (conv => arg 4; whnf)); first | (with_reducible refine w_fin ?_ ?_)) | (with_reducible exact o_nil) | (with_reducible refine o_cons ?_ ?_) | ((with_reducible refine o_id ?_); (conv => arg 1; whnf); first | (with_reducible exact o_nil) | (with_reducible refine o_cons ?_ ?_)) | (intro h; ((try simp only [Int.toNat_natCast, gt_set (c := .block) hkM] at h); repeat (first | replace h := of_decide_eq_true h | replace h := of_decide_eq_false h)); (try (first | contradiction | exact Bool.noConfusion (h.symm.trans (by assumption) : false = true)))) | rfl | omega | (simp only [List.length_nil, List.length_cons, List.length_append, List.length_take, List.length_set, Int.toNat_natCast, Nat.zero_add]; omega) | (simp only [Int.toNat_natCast, List.set_set, gt_set (c := .block) hkM]; omega))
          all_goals (refine q_round ⟨z + 1, by omega, by omega, ?_⟩; ((with_reducible refine s_id ?_); (conv => arg 1; whnf); (with_reducible refine s_some ?_); repeat' (first | ((with_reducible refine o_id ?_); (conv => arg 1; whnf); first | (with_reducible exact o_nil) | (with_reducible refine o_cons ?_ ?_)) | rfl | (simp only [Int.toNat_natCast, List.set_set, gt_set (c := .block) hkM]; exact (foldP_T hk rfl rfl hc ht).symm))))
        · have hc : (gt (c := .int) (gt (c := .block) (mapTo (c := .block) blkP g.blks z) z).next 0 : Int) = wayP (gt (c := .block) (mapTo (c := .block) blkP g.blks z) z) := by unfold wayP; rw [if_neg h0]
          repeat' (first | (((with_reducible refine g_id ?_); (conv => arg 3; whnf)); first | (with_reducible refine g_cond lay_ok 400 ?_ ?_ ?_) | (with_reducible refine g_fin ?_ ?_) | (refine g_storeL lay_ok 400 ?_ rfl rfl ?_ ?_) | (refine g_ownT lay_ok 400 .int ?_ rfl rfl ?_ ?_) | (refine g_flow 17 lay_ok mixed_ok 400 0 [0, 1, 3, 7, 0, 16, 48, 112, 255, 511, 1023, 1023, 2047, 8191] (.q 0 (.q 1 (.q 2 (.q 3 (.q 4 (.q 5 (.q 6 (.q 7 (.q 8 (.q 9 (.q 10 (.q 11 (.q 12 (.q 13 .fin)))))))))))))) (by kernel_rfl) ?_ ?_)) | (((with_reducible refine w_id ?_); (conv => arg 4; whnf)); first | (with_reducible refine w_fin ?_ ?_)) | (with_reducible exact o_nil) | (with_reducible refine o_cons ?_ ?_) | ((with_reducible refine o_id ?_); (conv => arg 1; whnf); first | (with_reducible exact o_nil) | (with_reducible refine o_cons ?_ ?_)) | (intro h; ((try simp only [Int.toNat_natCast, gt_set (c := .block) hkM] at h); repeat (first | replace h := of_decide_eq_true h | replace h := of_decide_eq_false h)); (try (first | contradiction | exact Bool.noConfusion (h.symm.trans (by assumption) : false = true)))) | rfl | omega | (simp only [List.length_nil, List.length_cons, List.length_append, List.length_take, List.length_set, Int.toNat_natCast, Nat.zero_add]; omega) | (simp only [Int.toNat_natCast, List.set_set, gt_set (c := .block) hkM]; omega))
          all_goals (refine q_round ⟨z + 1, by omega, by omega, ?_⟩; ((with_reducible refine s_id ?_); (conv => arg 1; whnf); (with_reducible refine s_some ?_); repeat' (first | ((with_reducible refine o_id ?_); (conv => arg 1; whnf); first | (with_reducible exact o_nil) | (with_reducible refine o_cons ?_ ?_)) | rfl | (simp only [Int.toNat_natCast, List.set_set, gt_set (c := .block) hkM]; exact (foldP_T hk rfl rfl hc ht).symm))))
      | false =>
        have ht : knwP (gt (c := .block) g.blks z) = false := by rw [hkw]; unfold knwP; rw [hb, Bool.and_false]
        have hc : useP (mpL (gt (c := .block) (mapTo (c := .block) blkP g.blks z) z).ops ([], [])).2.2 (gt (c := .block) (mapTo (c := .block) blkP g.blks z) z).cond = cndP (gt (c := .block) (mapTo (c := .block) blkP g.blks z) z) := by unfold cndP; rw [if_pos (by omega)]
        repeat' (first | (((with_reducible refine g_id ?_); (conv => arg 3; whnf)); first | (with_reducible refine g_cond lay_ok 400 ?_ ?_ ?_) | (with_reducible refine g_fin ?_ ?_) | (refine g_flow 17 lay_ok mixed_ok 400 0 [0, 1, 3, 7, 0, 16, 48, 112, 255, 511, 1023, 1023, 2047, 8191] (.q 0 (.q 1 (.q 2 (.q 3 (.q 4 (.q 5 (.q 6 (.q 7 (.q 8 (.q 9 (.q 10 (.q 11 (.q 12 (.q 13 .fin)))))))))))))) (by kernel_rfl) ?_ ?_)) | (((with_reducible refine w_id ?_); (conv => arg 4; whnf)); first | (with_reducible refine w_fin ?_ ?_)) | (with_reducible exact o_nil) | ((with_reducible refine o_id ?_); (conv => arg 1; whnf); first | (with_reducible exact o_nil) | (with_reducible refine o_cons ?_ ?_)) | (intro h; ((try simp only [Int.toNat_natCast, gt_set (c := .block) hkM] at h); repeat (first | replace h := of_decide_eq_true h)); (try (first | exact Bool.noConfusion (h.symm.trans (by assumption) : true = false)))) | rfl | omega | (simp only [List.length_nil, List.length_cons, List.length_append, List.length_take, List.length_set, Int.toNat_natCast, Nat.zero_add]; omega))
        all_goals (refine q_round ⟨z + 1, by omega, by omega, ?_⟩; ((with_reducible refine s_id ?_); (conv => arg 1; whnf); (with_reducible refine s_some ?_); repeat' (first | ((with_reducible refine o_id ?_); (conv => arg 1; whnf); first | (with_reducible exact o_nil) | (with_reducible refine o_cons ?_ ?_)) | rfl | (exact (foldP_F hk rfl rfl rfl hc ht).symm))))
  · have e : z = g.blks.length := by omega
    subst e
    rw [mapTo_full (c := .block)]
    repeat' (first | (((with_reducible refine g_id ?_); (conv => arg 3; whnf)); first | (with_reducible refine g_cond lay_ok 400 ?_ ?_ ?_) | (with_reducible refine g_fin ?_ ?_) | (refine g_call lay_ok 400 ?_ ?_ ?_ (c_ident ?_ ?_) rfl) | (refine g_flow 24 lay_ok mixed_ok 400 48 [0, 0, 2, 6, 14, 31, 63, 127] (.q 0 (.q 1 (.q 2 (.q 3 (.e 4 [0] (.e 5 [] (.q 6 (.q 7 .fin)) .stop) .stop))))) (by kernel_rfl) ?_ ?_)) | (((with_reducible refine w_id ?_); (conv => arg 4; whnf)); first | (with_reducible refine w_fin ?_ ?_) | (with_reducible refine w_tt ?_) | (with_reducible refine w_eff lay_ok 400 ?_ rfl rfl ?_ ?_)) | (with_reducible refine q_flow ?_ ?_) | ((with_reducible refine h_id ?_); (conv => arg 1; whnf); (with_reducible refine s_some ?_)) | (with_reducible refine q_leave lay_ok 400 ?_) | (with_reducible exact o_nil) | ((with_reducible refine o_id ?_); (conv => arg 1; whnf); first | (with_reducible exact o_nil) | (with_reducible refine o_cons ?_ ?_)) | (intro h; ((try simp only [Int.toNat_natCast] at h); repeat (first | replace h := of_decide_eq_true h | replace h := of_decide_eq_false h)); (try (first | (exfalso; omega)))) | rfl | (rw [List.length_map]; omega) | (rw [List.length_map]))
    all_goals (((with_reducible refine e_id ?_); (conv => whnf)); refine ⟨(), trivial, ?_⟩; ((with_reducible refine s_id ?_); (conv => arg 1; whnf); (with_reducible refine s_some ?_); repeat' (first | ((with_reducible refine o_id ?_); (conv => arg 1; whnf); first | (with_reducible exact o_nil) | (with_reducible refine o_cons ?_ ?_)) | rfl)))
end Go.Proofs.Ytonjbhdfimcedaa

/- O5 -/
namespace Go.Proofs.Ytonjbhdfimcedaa
set_option linter.unusedVariables false
set_option linter.unusedSimpArgs false
open Go.RowKit
theorem mpGet_set : ∀ {l : List (Int × Int)} {k u j : Int}, mpGet (mpSet l k u) j = if j = k then some u else mpGet l j
  | [], k, u, j => by unfold mpSet mpGet; split <;> rfl
  | (a, v) :: l, k, u, j => by
    unfold mpSet
    by_cases h : k = a
    · rw [if_pos h]
      subst h
      unfold mpGet
      split <;> rfl
    · rw [if_neg h]
      unfold mpGet
      by_cases h2 : j = a
      · subst h2
        rw [if_pos rfl, if_neg (fun e => h e.symm), if_pos rfl]
      · rw [if_neg h2, if_neg h2, mpGet_set (l := l)]
theorem mpGet_none : ∀ {l : List (Int × Int)} {j : Int}, j ∉ l.map Prod.fst → mpGet l j = none
  | [], j, h => rfl
  | (a, v) :: l, j, h => by
    simp only [List.map_cons, List.mem_cons, not_or] at h
    unfold mpGet
    rw [if_neg h.1, mpGet_none h.2]
theorem mpGet_del : ∀ {l : List (Int × Int)} {k j : Int}, (l.map Prod.fst).Nodup → mpGet (mpDel l k) j = if j = k then none else mpGet l j
  | [], k, j, h => by unfold mpDel mpGet; split <;> rfl
  | (a, v) :: l, k, j, h => by
    simp only [List.map_cons, List.nodup_cons] at h
    unfold mpDel
    by_cases hk : k = a
    · rw [if_pos hk]
      subst hk
      by_cases hj : j = k
      · subst hj; rw [if_pos rfl, mpGet_none h.1]
      · rw [if_neg hj]; conv => rhs; unfold mpGet; rw [if_neg hj]
    · rw [if_neg hk]
      unfold mpGet
      by_cases h2 : j = a
      · subst h2; rw [if_pos rfl, if_neg (fun e => hk e.symm), if_pos rfl]
      · rw [if_neg h2, if_neg h2, mpGet_del (l := l) h.2]
theorem mpGet_flt : ∀ {l : List (Int × Int)} {v j : Int}, (l.map Prod.fst).Nodup → mpGet (l.filter fun p => !decide (p.2 = v)) j = if mpGet l j = some v then none else mpGet l j
  | [], v, j, h => by simp [mpGet]
  | (a, u) :: l, v, j, h => by
    simp only [List.map_cons, List.nodup_cons] at h
    have ih := mpGet_flt (l := l) (v := v) (j := j) h.2
    simp only [List.filter_cons]
    by_cases hu : u = v
    · subst hu
      simp only [decide_true, Bool.not_true, Bool.false_eq_true, if_false]
      rw [ih]
      conv => rhs; unfold mpGet
      by_cases h2 : j = a
      · subst h2; rw [if_pos rfl, if_pos rfl, mpGet_none h.1]; simp
      · rw [if_neg h2]
    · simp only [hu, decide_false, Bool.not_false, if_true]
      unfold mpGet
      by_cases h2 : j = a
      · simp only [if_pos h2]; rw [if_neg (fun e => hu (Option.some.inj e))]
      · simp only [if_neg h2]; exact ih
theorem swp_keys {cs : List (Int × Int)} {v : Int} (h : (cs.map Prod.fst).Nodup) : ((swp cs v).map Prod.fst).Nodup := (List.filter_sublist.map Prod.fst).nodup (mpDel_keys h)
theorem mpGet_swp {cs : List (Int × Int)} {v j : Int} (h : (cs.map Prod.fst).Nodup) : mpGet (swp cs v) j = if j = v then none else if mpGet cs j = some v then none else mpGet cs j := by
  unfold swp
  rw [mpGet_flt (mpDel_keys h), mpGet_del h]
  split <;> rfl
/-- Both know the same of n variables. -/
structure Knw (n : Nat) (s : FS) (m : MS) : Prop where
  inv : InvF n s
  k1 : (m.1.map Prod.fst).Nodup
  k2 : (m.2.map Prod.fst).Nodup
  wd : ∀ v, v < n → mpGet m.1 (v : Int) = if gt (c := .bool) s.1 v = true then some (gt (c := .int) s.2.1 v) else none
  of_ : ∀ v, v < n → mpGet m.2 (v : Int) = if (0 : Int) ≤ gt (c := .int) s.2.2 v then some (gt (c := .int) s.2.2 v) else none
theorem knw_zero {n : Nat} : Knw n (fs0 n) ([], []) := by
  refine ⟨fs0_inv, List.nodup_nil, List.nodup_nil, fun v hv => ?_, fun v hv => ?_⟩
  · have : gt (c := .bool) (List.replicate n false) v = false := gt_eq (c := .bool) (by rw [List.getElem?_replicate, if_pos hv])
    show none = if gt (c := .bool) (List.replicate n false) v = true then _ else none
    rw [this]; rfl
  · have : (gt (c := .int) (List.replicate n (-1)) v : Int) = -1 := gt_eq (c := .int) (by rw [List.getElem?_replicate, if_pos hv])
    show none = if (0 : Int) ≤ gt (c := .int) (List.replicate n (-1)) v then _ else none
    rw [if_neg (by rw [this]; decide)]
theorem nat_of {n : Nat} {v : Int} (h0 : 0 ≤ v) (h1 : v < n) : ∃ k : Nat, v = (k : Int) ∧ k < n ∧ v.toNat = k := ⟨v.toNat, (Int.toNat_of_nonneg h0).symm, by omega, rfl⟩
theorem knu {n : Nat} {s : FS} {m : MS} (K : Knw n s m) {v : Int} (h0 : 0 ≤ v) (h1 : v < n) : useF s.2.2 v.toNat = useP m.2 v := by
  obtain ⟨k, rfl, hk, e⟩ := nat_of h0 h1
  rw [e]
  unfold useF useP
  rw [K.of_ k hk]
  split <;> rfl
theorem kni {n : Nat} {s : FS} {m : MS} (K : Knw n s m) {v : Int} (h0 : 0 ≤ v) (h1 : v < n) : (mpGet m.1 v).isSome = gt (c := .bool) s.1 v.toNat := by
  obtain ⟨k, rfl, hk, e⟩ := nat_of h0 h1
  rw [e, K.wd k hk]
  cases gt (c := .bool) s.1 k <;> rfl
theorem knv {n : Nat} {s : FS} {m : MS} (K : Knw n s m) {v : Int} (h0 : 0 ≤ v) (h1 : v < n) (h : gt (c := .bool) s.1 v.toNat = true) : (mpGet m.1 v).getD 0 = gt (c := .int) s.2.1 v.toNat := by
  obtain ⟨k, rfl, hk, e⟩ := nat_of h0 h1
  rw [e] at h ⊢
  rw [K.wd k hk, if_pos h]; rfl
theorem knb {n : Nat} {s : FS} {m : MS} (K : Knw n s m) {v : Int} (h0 : 0 ≤ v) (h1 : v < n) : 0 ≤ useF s.2.2 v.toNat ∧ useF s.2.2 v.toNat < n := by
  obtain ⟨_, _, i3, i4⟩ := K.inv
  exact useF_bd h0 h1 i4 (by omega)
/-- The operands lie in range. -/
def Rng (n : Nat) (o : Op_) : Prop := (o.kind = 1 ∨ o.kind = 2 ∨ o.kind = 3 ∨ o.kind = 4 → 0 ≤ o.dst ∧ o.dst < (n : Int)) ∧ (o.kind = 2 ∨ o.kind = 3 → 0 ≤ o.a ∧ o.a < (n : Int)) ∧ (o.kind = 3 → 0 ≤ o.b ∧ o.b < (n : Int))
theorem knO {n : Nat} {s : FS} {m : MS} (K : Knw n s m) {o : Op_} (ho : OpOK n o) : useO s.2.2 o = useOP m.2 o ∧ Rng n (useO s.2.2 o) := by
  obtain ⟨o1, o2, o3, o4⟩ := ho
  by_cases h1 : o.kind = 2 ∨ o.kind = 4
  · have ha := o2 (by omega)
    have e : useO s.2.2 o = ⟨o.kind, o.dst, useF s.2.2 o.a.toNat, o.b, o.imm⟩ := if_pos h1
    have b := knb K ha.1 ha.2
    rw [e, useOP_1 h1, knu K ha.1 ha.2]
    refine ⟨rfl, o1, fun _ => ?_, fun h => ?_⟩
    · rw [knu K ha.1 ha.2] at b; exact b
    · dsimp only at h; omega
  · by_cases h2 : o.kind = 3 ∨ o.kind = 5
    · have ha := o2 (by omega)
      have hb := o3 h2
      have e : useO s.2.2 o = ⟨o.kind, o.dst, useF s.2.2 o.a.toNat, useF s.2.2 o.b.toNat, o.imm⟩ := by unfold useO; rw [if_neg h1, if_pos h2]
      have b := knb K ha.1 ha.2
      have b2 := knb K hb.1 hb.2
      rw [e, useOP_2 h2, knu K ha.1 ha.2, knu K hb.1 hb.2]
      rw [knu K ha.1 ha.2] at b
      rw [knu K hb.1 hb.2] at b2
      exact ⟨rfl, o1, fun _ => b, fun _ => b2⟩
    · have e : useO s.2.2 o = o := by unfold useO; rw [if_neg h1, if_neg h2]
      rw [e, useOP_0 h1 h2]
      exact ⟨rfl, o1, fun h => by omega, fun h => by omega⟩
theorem knC {n : Nat} {s : FS} {m : MS} (K : Knw n s m) {o : Op_} (ho : Rng n o) : cstO s.1 s.2.1 o = cstP m.1 o ∧ Rng n (cstP m.1 o) := by
  obtain ⟨o1, o2, o3⟩ := ho
  by_cases h2 : o.kind = 2
  · have ha := o2 (.inl h2)
    have ei := kni K ha.1 ha.2
    cases hk : gt (c := .bool) s.1 o.a.toNat with
    | true =>
      rw [hk] at ei
      have e : cstO s.1 s.2.1 o = ⟨1, o.dst, 0, 0, gt (c := .int) s.2.1 o.a.toNat⟩ := if_pos ⟨h2, hk⟩
      rw [e, cst_1 h2 ei, knv K ha.1 ha.2 hk]
      refine ⟨rfl, fun _ => o1 (by omega), fun h => ?_, fun h => ?_⟩
      · dsimp only at h; omega
      · dsimp only at h; omega
    | false =>
      rw [hk] at ei
      have e : cstO s.1 s.2.1 o = o := by
        unfold cstO; rw [if_neg (fun q => by rw [hk] at q; exact Bool.noConfusion q.2), if_neg (fun q => by omega)]
      rw [e, cst_4 ei]
      exact ⟨rfl, o1, o2, o3⟩
  · by_cases h3 : o.kind = 3
    · have ha := o2 (.inr h3)
      have hb := o3 h3
      have ea := kni K ha.1 ha.2
      have eb := kni K hb.1 hb.2
      cases hka : gt (c := .bool) s.1 o.a.toNat with
      | false =>
        rw [hka] at ea
        have e : cstO s.1 s.2.1 o = o := by
          unfold cstO; rw [if_neg (fun q => h2 q.1), if_neg (fun q => by rw [hka] at q; exact Bool.noConfusion q.2.1)]
        rw [e, cst_4 ea]
        exact ⟨rfl, o1, o2, o3⟩
      | true =>
        rw [hka] at ea
        cases hkb : gt (c := .bool) s.1 o.b.toNat with
        | false =>
          rw [hkb] at eb
          have e : cstO s.1 s.2.1 o = o := by
            unfold cstO; rw [if_neg (fun q => h2 q.1), if_neg (fun q => by rw [hkb] at q; exact Bool.noConfusion q.2.2)]
          rw [e, cst_5 h3 eb]
          exact ⟨rfl, o1, o2, o3⟩
        | true =>
          rw [hkb] at eb
          have e : cstO s.1 s.2.1 o = ⟨1, o.dst, 0, 0, doI o.imm (gt (c := .int) s.2.1 o.a.toNat) (gt (c := .int) s.2.1 o.b.toNat)⟩ := by
            unfold cstO; rw [if_neg (fun q => h2 q.1), if_pos ⟨h3, hka, hkb⟩]
          rw [e, cst_2 h3 ea eb, knv K ha.1 ha.2 hka, knv K hb.1 hb.2 hkb]
          refine ⟨rfl, fun _ => o1 (by omega), fun h => ?_, fun h => ?_⟩
          · dsimp only at h; omega
          · dsimp only at h; omega
    · have e : cstO s.1 s.2.1 o = o := by unfold cstO; rw [if_neg (fun q => h2 q.1), if_neg (fun q => h3 q.1)]
      rw [e, cst_3 h2 h3]
      exact ⟨rfl, o1, o2, o3⟩
theorem gt_fgt {of : List Int} {d v : Nat} (hv : v < of.length) (hd : d < of.length) : (gt (c := .int) (fgtF of d) v : Int) = if v = d then -1 else if (gt (c := .int) of v : Int) = (d : Int) then -1 else gt (c := .int) of v := by
  have e : (gt (c := .int) (fgtF of d) v : Int) = rpl (-1) (d : Int) (gt (c := .int) (of.set d (-1)) v) := by
    unfold fgtF
    refine gt_eq (c := .int) ?_
    rw [List.getElem?_map, gt_at (c := .int) (by rw [List.length_set]; exact hv)]
    rfl
  rw [e]
  by_cases h : v = d
  · subst h
    rw [gt_set (c := .int) hd, if_pos rfl]
    unfold rpl
    split <;> rfl
  · rw [if_neg h]
    have : gt (c := .int) (of.set d (-1)) v = gt (c := .int) of v := gt_eq (c := .int) (by rw [List.getElem?_set_ne (Ne.symm h)]; exact gt_at (c := .int) hv)
    rw [this]
    unfold rpl
    rfl
theorem gt_set' {c : Ty} {l : List (El c)} {i j : Nat} {x : El c} (hi : i < l.length) (hj : j < l.length) : gt (l.set i x) j = if j = i then x else gt l j := by
  by_cases h : j = i
  · subst h; rw [if_pos rfl]; exact gt_set hi
  · rw [if_neg h]
    exact gt_eq (by rw [List.getElem?_set_ne (Ne.symm h)]; exact gt_at hj)
/-- Behind an operation that sets a variable. -/
theorem knF {n : Nat} {s : FS} {m : MS} (K : Knw n s m) {d : Nat} (hd : d < n) : ∀ v, v < n → mpGet (swp m.2 (d : Int)) (v : Int) = if (0 : Int) ≤ gt (c := .int) (fgtF s.2.2 d) v then some (gt (c := .int) (fgtF s.2.2 d) v) else none := by
  intro v hv
  obtain ⟨i1, i2, i3, i4⟩ := K.inv
  rw [mpGet_swp K.k2, gt_fgt (by omega) (by omega), K.of_ v hv]
  by_cases h : v = d
  · subst h
    rw [if_pos rfl, if_pos rfl]; rfl
  · rw [if_neg (by omega), if_neg h]
    by_cases h2 : (gt (c := .int) s.2.2 v : Int) = (d : Int)
    · rw [if_pos (show (0 : Int) ≤ gt (c := .int) s.2.2 v by rw [h2]; omega), h2, if_pos rfl, if_pos rfl]; rfl
    · rw [if_neg h2]
      by_cases h3 : (0 : Int) ≤ gt (c := .int) s.2.2 v
      · rw [if_pos h3, if_neg (fun e => h2 (Option.some.inj e))]
      · rw [if_neg h3, if_neg (fun e => by cases e)]
theorem knU {n : Nat} {s : FS} {m : MS} (K : Knw n s m) {o : Op_} (ho : Rng n o) (hi : InvF n (updO o s)) : Knw n (updO o s) (updP o m) := by
  obtain ⟨o1, o2, o3⟩ := ho
  obtain ⟨i1, i2, i3, i4⟩ := K.inv
  by_cases h1 : o.kind = 1
  · obtain ⟨d, hd, hdn, hdt⟩ := nat_of (o1 (.inl h1)).1 (o1 (.inl h1)).2
    have e : updO o s = ((s.1.set o.dst.toNat false).set o.dst.toNat true, s.2.1.set o.dst.toNat o.imm, fgtF s.2.2 o.dst.toNat) := if_pos h1
    rw [updP_1 h1]
    rw [e] at hi ⊢
    rw [hdt] at hi ⊢
    rw [hd]
    refine ⟨hi, mpSet_keys (mpDel_keys K.k1), swp_keys K.k2, fun v hv => ?_, knF K hdn⟩
    dsimp only
    rw [mpGet_set, mpGet_del K.k1, gt_set' (c := .bool) (by rw [List.length_set]; omega) (by rw [List.length_set]; omega), gt_set' (c := .bool) (by omega) (by omega), gt_set' (c := .int) (by omega) (by omega)]
    by_cases h : v = d
    · subst h; simp
    · rw [if_neg (by omega), if_neg (by omega), if_neg h, if_neg h, if_neg h]; exact K.wd v hv
  · by_cases h2 : o.kind = 2
    · obtain ⟨d, hd, hdn, hdt⟩ := nat_of (o1 (.inr (.inl h2))).1 (o1 (.inr (.inl h2))).2
      have ha := o2 (.inl h2)
      have hw : ∀ v, v < n → mpGet (mpDel m.1 (d : Int)) (v : Int) = if gt (c := .bool) (s.1.set d false) v = true then some (gt (c := .int) s.2.1 v) else none := by
        intro v hv
        rw [mpGet_del K.k1, gt_set' (c := .bool) (by omega) (by omega)]
        by_cases h : v = d
        · subst h; simp
        · rw [if_neg (by omega), if_neg h]; exact K.wd v hv
      by_cases h3 : o.a = o.dst
      · have e : updO o s = (s.1.set o.dst.toNat false, s.2.1, fgtF s.2.2 o.dst.toNat) := by unfold updO; rw [if_neg h1, if_pos h2, if_pos h3]
        rw [updP_2 h2 h3]
        rw [e] at hi ⊢
        rw [hdt] at hi ⊢
        rw [hd]
        exact ⟨hi, mpDel_keys K.k1, swp_keys K.k2, hw, knF K hdn⟩
      · have e : updO o s = (s.1.set o.dst.toNat false, s.2.1, (fgtF s.2.2 o.dst.toNat).set o.dst.toNat o.a) := by unfold updO; rw [if_neg h1, if_pos h2, if_neg h3]
        rw [updP_2n h2 h3]
        rw [e] at hi ⊢
        rw [hdt] at hi ⊢
        rw [hd]
        refine ⟨hi, mpDel_keys K.k1, mpSet_keys (swp_keys K.k2), hw, fun v hv => ?_⟩
        dsimp only
        rw [mpGet_set, gt_set' (c := .int) (by rw [fgtF_len]; omega) (by rw [fgtF_len]; omega)]
        by_cases h : v = d
        · subst h; simp [ha.1]
        · rw [if_neg (by omega), if_neg h]; exact knF K hdn v hv
    · by_cases h3 : o.kind = 3 ∨ o.kind = 4
      · obtain ⟨d, hd, hdn, hdt⟩ := nat_of (o1 (.inr (.inr h3))).1 (o1 (.inr (.inr h3))).2
        have e : updO o s = (s.1.set o.dst.toNat false, s.2.1, fgtF s.2.2 o.dst.toNat) := by unfold updO; rw [if_neg h1, if_neg h2, if_pos h3]
        rw [updP_3 h3]
        rw [e] at hi ⊢
        rw [hdt] at hi ⊢
        rw [hd]
        refine ⟨hi, mpDel_keys K.k1, swp_keys K.k2, fun v hv => ?_, knF K hdn⟩
        dsimp only
        rw [mpGet_del K.k1, gt_set' (c := .bool) (by omega) (by omega)]
        by_cases h : v = d
        · subst h; simp
        · rw [if_neg (by omega), if_neg h]; exact K.wd v hv
      · have e : updO o s = s := by unfold updO; rw [if_neg h1, if_neg h2, if_neg h3]
        rw [e, updP_0 (by omega)]
        exact K
theorem knD {n : Nat} {s : FS} {m : MS} (K : Knw n s m) {o : Op_} (ho : OpOK n o) : (fldO o s).1 = (fldP o m).1 ∧ Knw n (fldO o s).2 (fldP o m).2 := by
  obtain ⟨e1, r1⟩ := knO K ho
  obtain ⟨e2, r2⟩ := knC K r1
  have hi : InvF n (fldO o s).2 := fldO_inv K.inv ho
  unfold fldO fldP at *
  dsimp only at *
  rw [e1] at e2 r2 hi ⊢
  rw [e2] at hi ⊢
  exact ⟨rfl, knU K r2 hi⟩
theorem knL {n : Nat} : ∀ {l : List Op_} {s : FS} {m : MS}, Knw n s m → (∀ o ∈ l, OpOK n o) → (fldL l s).1 = (mpL l m).1 ∧ Knw n (fldL l s).2 (mpL l m).2
  | [], s, m, K, _ => ⟨rfl, K⟩
  | o :: l, s, m, K, h => by
    obtain ⟨e, K2⟩ := knD K (h o List.mem_cons_self)
    obtain ⟨e2, K3⟩ := knL (l := l) K2 fun q hq => h q (List.mem_cons_of_mem o hq)
    refine ⟨?_, K3⟩
    show (fldO o s).1 :: (fldL l (fldO o s).2).1 = (fldP o m).1 :: (mpL l (fldP o m).2).1
    rw [e, e2]
theorem blk_same {n : Nat} {b : Blk} (ho : ∀ o ∈ b.ops, OpOK n o) (hc : b.next.length = 2 → 0 ≤ b.cond ∧ b.cond < (n : Int)) (hn : b.next.length ≤ 2) : blkF n b = blkP b := by
  obtain ⟨e, K⟩ := knL (l := b.ops) (knw_zero (n := n)) ho
  by_cases h2 : b.next.length = 2
  · have c := hc h2
    have eu := knu K c.1 c.2
    have bu := knb K c.1 c.2
    have ek := kni K bu.1 bu.2
    have ekk : knwF n b = knwP b := by
      unfold knwF knwP
      rw [decide_eq_true h2, decide_eq_true (by omega : 2 ≤ b.next.length), ← eu, ek]
    have ec : cndF n b = cndP b := by unfold cndF cndP; rw [if_pos h2, if_pos (by omega), eu]
    unfold blkF blkP
    rw [ekk, e, ec]
    cases hk : knwP b with
    | false => rfl
    | true =>
      have hkk : gt (c := .bool) (fldL b.ops (fs0 n)).2.1 (useF (fldL b.ops (fs0 n)).2.2.2 b.cond.toNat).toNat = true := by
        rw [← ekk] at hk
        unfold knwF at hk
        rw [Bool.and_eq_true] at hk
        exact hk.2
      have ev := knv K bu.1 bu.2 hkk
      have ew : wayF n b = wayP b := by unfold wayF wayP; rw [← eu, ev]
      rw [ew]
  · have ekk : knwF n b = false := by unfold knwF; rw [decide_eq_false h2, Bool.false_and]
    have ekp : knwP b = false := by unfold knwP; rw [decide_eq_false (by omega), Bool.false_and]
    unfold blkF blkP cndF cndP
    rw [ekk, ekp, if_neg h2, if_neg (by omega : ¬ 2 ≤ b.next.length), e, if_neg (by decide), if_neg (by decide)]
theorem fold_same {g : Grf} (hB : Bnd g) (he : chkG g = 0) : fldG g = fldGP g := by
  have w := chk_wf hB he
  have hf := (chk_fold he).2
  unfold fldG fldGP
  have : g.blks.map (blkF g.vars.toNat) = g.blks.map blkP := List.map_congr_left fun b hb => blk_same (hf b hb).1 (hf b hb).2 (w.n b hb).1
  rw [this]
end Go.Proofs.Ytonjbhdfimcedaa

/- O6 -/
namespace Go.Proofs.Ytonjbhdfimcedaa
set_option linter.unusedVariables false
set_option linter.unusedSimpArgs false
open Go.RowKit
theorem osum_mapP : ∀ {l : List Blk}, osum (List.map (α := El .block) blkP l) = osum l
  | [] => rfl
  | x :: l => by
    have := osum_mapP (l := l)
    show (blkP x).ops.length + osum (List.map (α := El .block) blkP l) = x.ops.length + osum l
    have e : (blkP x).ops.length = x.ops.length := by unfold blkP; split <;> exact mpL_len _ _
    omega
theorem fldGP_bnd {g : Grf} (w : Wf g) : Bnd (fldGP g) := by
  have hb := w.bnd
  have he : ∀ x : Blk, (blkP x).ops.length = x.ops.length := fun x => by unfold blkP; split <;> exact mpL_len _ _
  refine ⟨w.i, w.a, ?_, w.p, w.h, ?_, fun b hb => ?_, fun b hb => ?_, fun l hl => (w.q l hl).1⟩
  · show (g.blks.map blkP).length ≤ _
    rw [List.length_map]; have := w.b; omega
  · show opsN (g.blks.map blkP) (g.blks.map blkP).length ≤ _
    rw [opsN_sum, osum_mapP]; have := w.s; omega
  · obtain ⟨x, hx, rfl⟩ := List.mem_map.1 (show b ∈ g.blks.map blkP from hb)
    rw [he]; have := osum_mem hx; have := w.s; omega
  · obtain ⟨x, hx, rfl⟩ := List.mem_map.1 (show b ∈ g.blks.map blkP from hb)
    have := (w.n x hx).1
    unfold blkP
    split
    · exact (by decide : 1 ≤ 1048576)
    · show x.next.length ≤ _; omega
theorem idM_bnds {n : Nat} (h : n ≤ 64) : (idM n).length ≤ 1048576 ∧ ∀ x ∈ idM n, x.length ≤ 1048576 := by
  refine ⟨by rw [idM_len]; omega, fun x hx => ?_⟩
  unfold idM at hx
  obtain ⟨y, _, rfl⟩ := List.mem_map.1 hx
  exact (by decide : 1 ≤ 1048576)
attribute [local irreducible] blkP idM chkG opsN
set_option maxHeartbeats 4000000 in
set_option maxRecDepth 4000 in
theorem c_agree14 (g : Grf) (hB : Bnd g) : Trip Try.prog 10 [.agg [.sl ⟨0, []⟩, .int .i64 g.vars, .int .i64 g.keep, .sl ⟨1, []⟩, .int .i64 g.shared, .sl ⟨2, []⟩, .sl ⟨3, []⟩, .sl ⟨4, []⟩]] ⟨[], [(0, .list .fz .input g.inp), (1, .list .fz .array g.arrs), (2, .list .fz .block g.blks), (3, .list .fz .ints g.pts), (4, .list .fz .head g.hds)], 5⟩ (Z := Unit) (fun _ => True) (fun _ => .tf true) (fun _ => ⟨[], [(0, .list .fz .input g.inp), (1, .list .fz .array g.arrs), (2, .list .fz .block g.blks), (3, .list .fz .ints g.pts), (4, .list .fz .head g.hds)], 5⟩) := by
  by_cases he : chkG g = 0
  · have w := chk_wf hB he
    have hR := fldGP_bnd w
    obtain ⟨hr1, hr2⟩ := idM_bnds w.b.2
    have RF := r_foldO g hB he
    rw [fold_same hB he] at RF
    refine trip_by (rs := [_]) 400 lay_ok Try.func10 rfl (by kernel_rfl) Try.ntmps10 Try.results10 rfl rfl ?_
    repeat' (first | (((with_reducible refine g_id ?_); (conv => arg 3; whnf)); first | (with_reducible refine g_split lay_ok 400 ?_ ?_ ?_) | (with_reducible refine g_fin ?_ ?_) | (refine g_call lay_ok 400 ?_ ?_ ?_ (c_foldO ?_ ?_ ?_) rfl) | (refine g_call lay_ok 400 ?_ ?_ ?_ (RF) rfl) | (refine g_call lay_ok 400 ?_ ?_ ?_ (r_same (fldGP g) ?_) rfl) | (refine g_call lay_ok 400 ?_ ?_ ?_ (r_sameL ?_ ?_ ?_) rfl)) | ((with_reducible refine o_id ?_); (conv => arg 1; whnf); first | (with_reducible exact o_nil) | (with_reducible refine o_cons ?_ ?_)) | (intro h; ((try simp only [Int.toNat_natCast] at h); repeat (first | replace h := of_decide_eq_true h | replace h := of_decide_eq_false h)); (try (first | contradiction))) | rfl | omega | (exact hr2 _ (by assumption)))
    all_goals (((with_reducible refine e_id ?_); (conv => whnf)); refine ⟨(), trivial, ?_⟩; ((with_reducible refine s_id ?_); (conv => arg 1; whnf); (with_reducible refine s_some ?_); repeat' (first | ((with_reducible refine o_id ?_); (conv => arg 1; whnf); first | (with_reducible exact o_nil) | (with_reducible refine o_cons ?_ ?_)) | rfl)))
  · refine trip_by (rs := [_]) 400 lay_ok Try.func10 rfl (by kernel_rfl) Try.ntmps10 Try.results10 rfl rfl ?_
    repeat' (first | (((with_reducible refine g_id ?_); (conv => arg 3; whnf)); first | (with_reducible refine g_split lay_ok 400 ?_ ?_ ?_) | (with_reducible refine g_fin ?_ ?_) | (refine g_call lay_ok 400 ?_ ?_ ?_ (c_foldE ?_ ?_ ?_) rfl) | (refine g_call lay_ok 400 ?_ ?_ ?_ (r_foldE ?_ ?_ ?_) rfl) | (refine g_call lay_ok 400 ?_ ?_ ?_ (r_same g00 ?_) rfl) | (refine g_call lay_ok 400 ?_ ?_ ?_ (r_sameL [] ?_ ?_) rfl)) | ((with_reducible refine o_id ?_); (conv => arg 1; whnf); first | (with_reducible exact o_nil) | (with_reducible refine o_cons ?_ ?_)) | (intro h; ((try simp only [Int.toNat_natCast] at h); repeat (first | replace h := of_decide_eq_true h | replace h := of_decide_eq_false h)); (try (first | contradiction))) | rfl | omega | (simp only [List.length_append, List.length_cons, List.length_nil]; omega) | (exact g00_bnd))
    all_goals (((with_reducible refine e_id ?_); (conv => whnf)); refine ⟨(), trivial, ?_⟩; ((with_reducible refine s_id ?_); (conv => arg 1; whnf); (with_reducible refine s_some ?_); repeat' (first | ((with_reducible refine o_id ?_); (conv => arg 1; whnf); first | (with_reducible exact o_nil) | (with_reducible refine o_cons ?_ ?_)) | rfl)))
set_option maxHeartbeats 4000000 in
theorem c_light14 (g : Grf) (hB : Bnd g) : Trip Try.prog 9 [.agg [.sl ⟨0, []⟩, .int .i64 g.vars, .int .i64 g.keep, .sl ⟨1, []⟩, .int .i64 g.shared, .sl ⟨2, []⟩, .sl ⟨3, []⟩, .sl ⟨4, []⟩]] ⟨[], [(0, .list .tmp .input g.inp), (1, .list .tmp .array g.arrs), (2, .list .tmp .block g.blks), (3, .list .tmp .ints g.pts), (4, .list .tmp .head g.hds)], 5⟩ (Z := Bool) (fun _ => True) (fun z => .bool z) (fun _ => ⟨[], [(0, .list .tmp .input g.inp), (1, .list .tmp .array g.arrs), (2, .list .tmp .block g.blks), (3, .list .tmp .ints g.pts), (4, .list .tmp .head g.hds)], 5⟩) := by
  obtain ⟨h1, h2, h3, h4, h5, h6, h7, h8, h9⟩ := hB
  refine trip_by (rs := [_]) 400 lay_ok Try.func9 rfl (by kernel_rfl) Try.ntmps9 Try.results9 rfl rfl ?_
  repeat' (first | (((with_reducible refine g_id ?_); (conv => arg 3; whnf)); first | (with_reducible refine g_split lay_ok 400 ?_ ?_ ?_)))
  refine g_loop lay_ok 400 (Z := (Nat × Int)) (fun z => z.1 ≤ g.blks.length ∧ 0 ≤ z.2 ∧ z.2 ≤ 3145728 + (z.1 : Int) * 2097154) (fun z => ⟨[(1, .ptr 5 0), (3, .int .i64 z.2), (4, .int .i64 (z.1 : Int))], [(0, .list .tmp .input g.inp), (1, .list .tmp .array g.arrs), (2, .list .tmp .block g.blks), (3, .list .tmp .ints g.pts), (4, .list .tmp .head g.hds), (5, .cells [.sl ⟨0, []⟩, .int .i64 g.vars, .int .i64 g.keep, .sl ⟨1, []⟩, .int .i64 g.shared, .sl ⟨2, []⟩, .sl ⟨3, []⟩, .sl ⟨4, []⟩])], 6⟩) (fun z => g.blks.length - z.1) ?_ ⟨(0, (g.inp.length : Int) + g.arrs.length + g.hds.length), ⟨Nat.zero_le _, by dsimp only; omega, by dsimp only; omega⟩, ?_⟩ (fun z hz => ?_)
  · repeat' (first | ((with_reducible refine o_id ?_); (conv => arg 1; whnf); first | (with_reducible exact o_nil) | (with_reducible refine o_cons ?_ ?_)) | omega)
  · ((with_reducible refine s_id ?_); (conv => arg 1; whnf); (with_reducible refine s_some ?_); repeat' (first | ((with_reducible refine o_id ?_); (conv => arg 1; whnf); first | (with_reducible exact o_nil) | (with_reducible refine o_cons ?_ ?_)) | rfl))
  obtain ⟨i, n⟩ := z
  obtain ⟨hz1, hz2, hz3⟩ := hz
  dsimp only at hz1 hz2 hz3 ⊢
  by_cases hlt : i < g.blks.length
  · have ho := h7 _ (mem_gt (c := .block) hlt)
    have hn := h8 _ (mem_gt (c := .block) hlt)
    repeat' (first | (((with_reducible refine g_id ?_); (conv => arg 3; whnf)); first | (with_reducible refine g_cond lay_ok 400 ?_ ?_ ?_) | (with_reducible refine g_fin ?_ ?_) | (refine g_flow 5 lay_ok mixed_ok 400 262144 [0, 1, 0, 4, 0, 28, 60, 124, 252, 511, 0, 1024, 0, 7168, 15360, 31744, 64512, 131071, 262143] (.q 0 (.q 1 (.q 2 (.q 3 (.q 4 (.q 5 (.q 6 (.q 7 (.q 8 (.q 9 (.q 10 (.q 11 (.q 12 (.q 13 (.q 14 (.q 15 (.q 16 (.q 17 (.e 18 [] (.fin) .stop))))))))))))))))))) (by kernel_rfl) ?_ ?_)) | (((with_reducible refine w_id ?_); (conv => arg 4; whnf)); first | (with_reducible refine w_fin ?_ ?_) | (with_reducible refine w_tt ?_) | (with_reducible refine w_eff lay_ok 400 ?_ rfl rfl ?_ ?_)) | (with_reducible refine q_flow ?_ ?_) | ((with_reducible refine h_id ?_); (conv => arg 1; whnf); (with_reducible refine s_some ?_)) | (with_reducible exact o_nil) | ((with_reducible refine o_id ?_); (conv => arg 1; whnf); first | (with_reducible exact o_nil) | (with_reducible refine o_cons ?_ ?_)) | (intro h; ((try simp only [Int.toNat_natCast] at h); repeat (first | replace h := of_decide_eq_true h | replace h := of_decide_eq_false h)); (try (first | (exfalso; omega)))) | omega | (simp only [Int.toNat_natCast]; omega))
    all_goals (refine q_round ⟨(i + 1, n + 2 + (gt (c := .block) g.blks i).ops.length + (gt (c := .block) g.blks i).next.length), ⟨hlt, by dsimp only; omega, by dsimp only; omega⟩, by dsimp only; omega, ?_⟩; ((with_reducible refine s_id ?_); (conv => arg 1; whnf); (with_reducible refine s_some ?_); repeat' (first | ((with_reducible refine o_id ?_); (conv => arg 1; whnf); first | (with_reducible exact o_nil) | (with_reducible refine o_cons ?_ ?_)) | rfl)))
  · have e : i = g.blks.length := by omega
    subst e
    repeat' (first | (((with_reducible refine g_id ?_); (conv => arg 3; whnf)); first | (with_reducible refine g_cond lay_ok 400 ?_ ?_ ?_) | (with_reducible refine g_fin ?_ ?_)) | (with_reducible refine q_leave lay_ok 400 ?_) | (with_reducible exact o_nil) | ((with_reducible refine o_id ?_); (conv => arg 1; whnf); first | (with_reducible exact o_nil)) | (intro h; ((try simp only [Int.toNat_natCast] at h); repeat (first | replace h := of_decide_eq_true h | replace h := of_decide_eq_false h)); (try (first | (exfalso; omega)))))
    refine g_loop lay_ok 400 (Z := (Nat × Int)) (fun z => z.1 ≤ g.pts.length ∧ 0 ≤ z.2 ∧ z.2 ≤ 4398049656832 + (z.1 : Int) * 1048577) (fun z => ⟨[(1, .ptr 5 0), (3, .int .i64 z.2), (5, .int .i64 (z.1 : Int))], [(0, .list .tmp .input g.inp), (1, .list .tmp .array g.arrs), (2, .list .tmp .block g.blks), (3, .list .tmp .ints g.pts), (4, .list .tmp .head g.hds), (5, .cells [.sl ⟨0, []⟩, .int .i64 g.vars, .int .i64 g.keep, .sl ⟨1, []⟩, .int .i64 g.shared, .sl ⟨2, []⟩, .sl ⟨3, []⟩, .sl ⟨4, []⟩])], 6⟩) (fun z => g.pts.length - z.1) ?_ ⟨(0, n), ⟨Nat.zero_le _, by dsimp only; omega, by dsimp only; omega⟩, ?_⟩ (fun z hz => ?_)
    · repeat' (first | ((with_reducible refine o_id ?_); (conv => arg 1; whnf); first | (with_reducible exact o_nil)))
    · ((with_reducible refine s_id ?_); (conv => arg 1; whnf); (with_reducible refine s_some ?_); repeat' (first | ((with_reducible refine o_id ?_); (conv => arg 1; whnf); first | (with_reducible exact o_nil) | (with_reducible refine o_cons ?_ ?_)) | rfl))
    obtain ⟨i, n'⟩ := z
    obtain ⟨hy1, hy2, hy3⟩ := hz
    dsimp only at hy1 hy2 hy3 ⊢
    by_cases hlt : i < g.pts.length
    · have hn := h9 _ (mem_gt (c := .ints) hlt)
      repeat' (first | (((with_reducible refine g_id ?_); (conv => arg 3; whnf)); first | (with_reducible refine g_cond lay_ok 400 ?_ ?_ ?_) | (with_reducible refine g_fin ?_ ?_)) | ((with_reducible refine o_id ?_); (conv => arg 1; whnf); first | (with_reducible exact o_nil) | (with_reducible refine o_cons ?_ ?_)) | (intro h; ((try simp only [Int.toNat_natCast] at h); repeat (first | replace h := of_decide_eq_true h | replace h := of_decide_eq_false h)); (try (first | (exfalso; omega)))) | omega | (simp only [Int.toNat_natCast]; omega))
      all_goals (refine q_round ⟨(i + 1, n' + 1 + (gt (c := .ints) g.pts i : List Int).length), ⟨hlt, by dsimp only; omega, by dsimp only; omega⟩, by dsimp only; omega, ?_⟩; ((with_reducible refine s_id ?_); (conv => arg 1; whnf); (with_reducible refine s_some ?_); repeat' (first | ((with_reducible refine o_id ?_); (conv => arg 1; whnf); first | (with_reducible exact o_nil) | (with_reducible refine o_cons ?_ ?_)) | rfl)))
    · have e : i = g.pts.length := by omega
      subst e
      repeat' (first | (((with_reducible refine g_id ?_); (conv => arg 3; whnf)); first | (with_reducible refine g_cond lay_ok 400 ?_ ?_ ?_) | (with_reducible refine g_fin ?_ ?_)) | (with_reducible refine q_leave lay_ok 400 ?_) | (with_reducible exact o_nil) | ((with_reducible refine o_id ?_); (conv => arg 1; whnf); first | (with_reducible exact o_nil)) | (intro h; ((try simp only [Int.toNat_natCast] at h); repeat (first | replace h := of_decide_eq_true h | replace h := of_decide_eq_false h)); (try (first | (exfalso; omega)))))
      all_goals (((with_reducible refine e_id ?_); (conv => whnf)); refine ⟨decide (n' ≤ 1500), trivial, ?_⟩; ((with_reducible refine s_id ?_); (conv => arg 1; whnf); (with_reducible refine s_some ?_); repeat' (first | ((with_reducible refine o_id ?_); (conv => arg 1; whnf); first | (with_reducible exact o_nil) | (with_reducible refine o_cons ?_ ?_)) | rfl)))
end Go.Proofs.Ytonjbhdfimcedaa

/- O7 -/
namespace Go.Proofs.Ytonjbhdfimcedaa
set_option linter.unusedVariables false
set_option linter.unusedSimpArgs false
open Go.RowKit
def opsA : List Op_ := [⟨1, 0, 0, 0, 2⟩, ⟨1, 1, 0, 0, 3⟩, ⟨3, 2, 0, 1, 1⟩]
def gA : Grf := ⟨[], 3, 3, [], 0, [⟨opsA, 0, []⟩], [], []⟩
theorem gA_chk : chkG gA = 0 := by kernel_rfl
theorem gA_bnd : Bnd gA := ⟨by decide, by decide, by decide, by decide, by decide, by decide, by decide, by decide, by decide⟩
theorem gA_blks : (fldGP gA).blks = [⟨[⟨1, 0, 0, 0, 2⟩, ⟨1, 1, 0, 0, 3⟩, ⟨1, 2, 0, 0, 5⟩], 0, []⟩] := by kernel_rfl
attribute [local irreducible] chkG opsN fldGP
set_option maxHeartbeats 4000000 in
set_option maxRecDepth 4000 in
theorem c_awake14  : Trip Try.prog 11 [] ⟨[], [], 0⟩ (Z := Unit) (fun _ => True) (fun _ => .tf true) (fun _ => ⟨[], [], 0⟩) := by
  refine trip_by (rs := [_]) 400 lay_ok Try.func11 rfl (by kernel_rfl) Try.ntmps11 Try.results11 rfl rfl ?_
  ((with_reducible refine g_id ?_); (conv => arg 3; whnf))
  refine g_ownC lay_ok 400 1 0 .op ?_ rfl ?_ ?_
  · repeat' (first | ((with_reducible refine o_id ?_); (conv => arg 1; whnf); first | (with_reducible exact o_nil)))
  · repeat' (first | ((with_reducible refine o_id ?_); (conv => arg 1; whnf); first | (with_reducible exact o_nil)))
  ((with_reducible refine g_id ?_); (conv => arg 3; whnf))
  refine g_wk lay_ok 400 (t := ⟨[(0, .tf false), (13, .agg [.val (.slice none 0 0), .int .i64 3, .int .i64 3, .val (.slice none 0 0), .int .i64 0, .sl ⟨0, []⟩, .val (.slice none 0 0), .val (.slice none 0 0)])], [(0, .list .own .block gA.blks)], 1⟩) ?_ ?_ ?_
  · repeat' (first | (with_reducible exact o_nil))
  · ((with_reducible refine s_id ?_); (conv => arg 1; whnf); (with_reducible refine s_some ?_); repeat' (first | ((with_reducible refine o_id ?_); (conv => arg 1; whnf); first | (with_reducible exact o_nil) | (with_reducible refine o_cons ?_ ?_)) | rfl))
  ((with_reducible refine g_id ?_); (conv => arg 3; whnf))
  refine g_wk lay_ok 400 (t := ⟨[(0, .tf false), (13, .agg [.val (.slice none 0 0), .int .i64 3, .int .i64 3, .val (.slice none 0 0), .int .i64 0, .sl ⟨0, []⟩, .val (.slice none 0 0), .val (.slice none 0 0)])], [(0, .list .fz .block gA.blks)], 1⟩) ?_ ?_ ?_
  · repeat' (first | (with_reducible exact o_nil))
  · ((with_reducible refine s_id ?_); (conv => arg 1; whnf); (with_reducible refine s_some ?_); repeat' (first | ((with_reducible refine o_id ?_); (conv => arg 1; whnf); first | (with_reducible exact o_nil) | (with_reducible refine o_cons ?_ ?_)) | rfl))
  repeat' (first | (((with_reducible refine g_id ?_); (conv => arg 3; whnf)); first | (with_reducible refine g_split lay_ok 400 ?_ ?_ ?_) | (with_reducible refine g_fin ?_ ?_) | (refine g_call lay_ok 400 ?_ ?_ ?_ (c_foldO gA ?_ ?_) rfl) | (refine g_ev lay_ok 400 ?_ (e_eqO rfl rfl rfl) rfl rfl rfl ?_)) | (with_reducible exact o_nil) | ((with_reducible refine o_id ?_); (conv => arg 1; whnf); first | (with_reducible exact o_nil) | (with_reducible refine o_cons ?_ ?_)) | (intro h; ((try simp only [Int.toNat_natCast] at h); repeat (first | replace h := of_decide_eq_true h | replace h := of_decide_eq_false h)); (try (first | contradiction | (rw [gA_blks] at h; exact absurd h (by decide))))) | rfl | omega | (exact gA_bnd) | (exact gA_chk))
  all_goals (((with_reducible refine e_id ?_); (conv => whnf)); refine ⟨(), trivial, ?_⟩; ((with_reducible refine s_id ?_); (conv => arg 1; whnf); (with_reducible refine s_some ?_); repeat' (first | ((with_reducible refine o_id ?_); (conv => arg 1; whnf); first | (with_reducible exact o_nil) | (with_reducible refine o_cons ?_ ?_)) | (rw [gA_blks]; decide))))
set_option maxHeartbeats 4000000 in
theorem l_foldRaw (g : Grf) (hB : Bnd g) : Trip Try.prog 3 [.agg [.sl ⟨0, []⟩, .int .i64 g.vars, .int .i64 g.keep, .sl ⟨1, []⟩, .int .i64 g.shared, .sl ⟨2, []⟩, .sl ⟨3, []⟩, .sl ⟨4, []⟩]] ⟨[], [(0, .list .fz .input g.inp), (1, .list .fz .array g.arrs), (2, .list .fz .block g.blks), (3, .list .fz .ints g.pts), (4, .list .fz .head g.hds)], 5⟩ (Z := Unit) (fun _ => True) (fun _ => .bool true) (fun _ => ⟨[], [(0, .list .fz .input g.inp), (1, .list .fz .array g.arrs), (2, .list .fz .block g.blks), (3, .list .fz .ints g.pts), (4, .list .fz .head g.hds)], 5⟩) := by
  refine trip_by (rs := [_]) 400 lay_ok Try.func3 rfl (by kernel_rfl) Try.ntmps3 Try.results3 rfl rfl ?_
  repeat' (first | (((with_reducible refine g_id ?_); (conv => arg 3; whnf)); first | (with_reducible refine g_split lay_ok 400 ?_ ?_ ?_) | (with_reducible refine g_fin ?_ ?_) | (refine g_call lay_ok 400 ?_ ?_ ?_ (c_light14 ?_ ?_) rfl) | (refine g_call lay_ok 400 ?_ ?_ ?_ (c_agree14 ?_ ?_) rfl) | (refine g_call lay_ok 400 ?_ ?_ ?_ (c_awake14) rfl)) | ((with_reducible refine o_id ?_); (conv => arg 1; whnf); first | (with_reducible exact o_nil) | (with_reducible refine o_cons ?_ ?_)) | (intro h; ((try simp only [Int.toNat_natCast] at h); repeat (first | replace h := not_t h | replace h := not_f h)); (try (first | contradiction))) | rfl | omega)
  all_goals (((with_reducible refine e_id ?_); (conv => whnf)); refine ⟨(), trivial, ?_⟩; ((with_reducible refine s_id ?_); (conv => arg 1; whnf); (with_reducible refine s_some ?_); repeat' (first | ((with_reducible refine o_id ?_); (conv => arg 1; whnf); first | (with_reducible exact o_nil) | (with_reducible refine o_cons ?_ ?_)) | rfl)))
end Go.Proofs.Ytonjbhdfimcedaa
