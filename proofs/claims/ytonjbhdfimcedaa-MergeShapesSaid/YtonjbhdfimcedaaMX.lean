/- A block that takes another one: the document. -/
import Derived.Test.YtonjbhdfimcedaaMW
import Derived.Test.YtonjbhdfimcedaaVE
import Derived.Test.YtonjbhdfimcedaaVF
namespace Go.Proofs.Ytonjbhdfimcedaa
set_option linter.unusedVariables false
set_option linter.unusedSimpArgs false
open Go.RowKit
def rpl (a b : Int) (n : El .int) : El .int := if n = b then a else n
def rpP (a b : Int) (x : El .ints) : El .ints := (x : List Int).map (rpl a b)
def rowR (a b : Int) (L : List (List Int)) (i z : Nat) : List (List Int) := (mapTo (c := .ints) (rpP a b) L i).set i (mapTo (c := .int) (rpl a b) (gt (c := .ints) L i) z)
theorem rowR_len {a b : Int} {L : List (List Int)} {i z : Nat} : (rowR a b L i z).length = L.length := by unfold rowR; rw [List.length_set]; exact mapTo_len (c := .ints)
theorem rowR_zero {a b : Int} {L : List (List Int)} {i : Nat} (h : i < L.length) : rowR a b L i 0 = mapTo (c := .ints) (rpP a b) L i := by
  unfold rowR
  rw [mapTo_zero (c := .int)]
  have hl : i < (mapTo (c := .ints) (rpP a b) L i).length := by rw [mapTo_len (c := .ints)]; exact h
  have e : (gt (c := .ints) L i) = gt (c := .ints) (mapTo (c := .ints) (rpP a b) L i) i := (gt_mapTo (c := .ints) h).symm
  rw [e]; exact set_gt (c := .ints) hl
theorem rowR_at {a b : Int} {L : List (List Int)} {i z : Nat} (h : i < L.length) : gt (c := .ints) (rowR a b L i z) i = mapTo (c := .int) (rpl a b) (gt (c := .ints) L i) z := by
  unfold rowR; exact gt_set (c := .ints) (by rw [mapTo_len (c := .ints)]; exact h)
theorem rowR_y {a b : Int} {L : List (List Int)} {i z : Nat} (h : i < L.length) (hz : z < (gt (c := .ints) L i : List Int).length) (hb : (gt (c := .int) (gt (c := .ints) L i) z : Int) = b) :
    (rowR a b L i z).set i ((gt (c := .ints) (rowR a b L i z) i : List Int).set z a) = rowR a b L i (z + 1) := by
  rw [rowR_at h]
  have e2 := mapTo_set (c := .int) (f := rpl a b) hz
  have e1 : rpl a b (gt (c := .int) (gt (c := .ints) L i) z) = a := if_pos hb
  rw [e1] at e2
  show (rowR a b L i z).set i (List.set (mapTo (c := .int) (rpl a b) (gt (c := .ints) L i) z) z a) = _
  rw [e2]
  unfold rowR
  rw [List.set_set]
theorem rowR_n {a b : Int} {L : List (List Int)} {i z : Nat} (h : i < L.length) (hz : z < (gt (c := .ints) L i : List Int).length) (hb : ¬ (gt (c := .int) (gt (c := .ints) L i) z : Int) = b) :
    rowR a b L i z = rowR a b L i (z + 1) := by
  have e2 := mapTo_set (c := .int) (f := rpl a b) hz
  have e1 : rpl a b (gt (c := .int) (gt (c := .ints) L i) z) = gt (c := .int) (gt (c := .ints) L i) z := if_neg hb
  rw [e1] at e2
  have hl : z < (mapTo (c := .int) (rpl a b) (gt (c := .ints) L i) z).length := by rw [mapTo_len (c := .int)]; exact hz
  have e3 : gt (c := .int) (gt (c := .ints) L i) z = gt (c := .int) (mapTo (c := .int) (rpl a b) (gt (c := .ints) L i) z) z := (gt_mapTo (c := .int) hz).symm
  rw [e3, set_gt (c := .int) hl] at e2
  unfold rowR
  rw [← e2]
theorem rowR_full {a b : Int} {L : List (List Int)} {i : Nat} (h : i < L.length) : rowR a b L i (gt (c := .ints) L i : List Int).length = mapTo (c := .ints) (rpP a b) L (i + 1) := by
  unfold rowR
  rw [mapTo_full (c := .int)]
  exact mapTo_set (c := .ints) h
/-- The numbers behind block b's. -/
def toB (b : Nat) (i : Nat) : Int := if i = b then -1 else if i < b then (i : Int) else (i : Int) - 1
def toN (b : Nat) (z : Nat) : Int := if z ≤ b then (z : Int) else (z : Int) - 1
def toL (b n z : Nat) : List Int := (List.range z).map (toB b) ++ List.replicate (n - z) (0 : Int)
theorem toL_zero {b n : Nat} : toL b n 0 = List.replicate n (dflt .int) := rfl
theorem toL_len {b n z : Nat} (h : z ≤ n) : (toL b n z).length = n := by unfold toL; rw [List.length_append, List.length_map, List.length_range, List.length_replicate]; omega
theorem toL_set {b n z : Nat} (h : z < n) : (toL b n z).set z (toB b z) = toL b n (z + 1) := by
  unfold toL
  have hl : ((List.range z).map (toB b)).length = z := by rw [List.length_map, List.length_range]
  have e : n - z = (n - (z + 1)) + 1 := by omega
  rw [List.set_append_right _ _ (by omega), hl, Nat.sub_self, e, List.replicate_succ, List.set_cons_zero, List.range_succ, List.map_append, List.append_assoc]
  rfl
theorem toL_full {b n i : Nat} (h : i < n) : gt (c := .int) (toL b n n) i = toB b i := by
  unfold toL
  refine gt_eq (c := .int) ?_
  rw [Nat.sub_self, List.replicate_zero, List.append_nil, List.getElem?_map, List.getElem?_range h]; rfl
theorem toN_0 {b : Nat} : toN b 0 = 0 := if_pos (Nat.zero_le _)
theorem toB_eq {b : Nat} : toB b b = -1 := if_pos rfl
theorem toN_eq {b : Nat} : toN b (b + 1) = toN b b := by unfold toN; rw [if_neg (by omega), if_pos (Nat.le_refl _)]; omega
theorem toN_b {b z : Nat} (h : z = b) : toN b (z + 1) = toN b z := by subst h; exact toN_eq
theorem toB_ne {b z : Nat} (h : z ≠ b) : toB b z = toN b z := by
  unfold toB toN; rw [if_neg h]
  by_cases h2 : z < b
  · rw [if_pos h2, if_pos (by omega)]
  · rw [if_neg h2, if_neg (by omega)]
theorem toN_ne {b z : Nat} (h : z ≠ b) : toN b (z + 1) = toN b z + 1 := by
  unfold toN
  by_cases h2 : z < b
  · rw [if_pos (by omega), if_pos (by omega)]; omega
  · rw [if_neg (by omega), if_neg (by omega)]; omega
theorem toL_n {b n z : Nat} (h : z < n) (hb : ¬ z = b) : (toL b n z).set z (toN b z) = toL b n (z + 1) := by rw [← toB_ne hb]; exact toL_set h
theorem toL_b {b n z : Nat} (h : z < n) (hb : z = b) : ((toL b n z).set z (toN b z)).set z (-1) = toL b n (z + 1) := by
  rw [List.set_set, ← toL_set h]; subst hb; rw [toB_eq]
theorem toN_bd {b z : Nat} : 0 ≤ toN b z ∧ toN b z ≤ (z : Int) := by unfold toN; split <;> omega
/-- The graph in which block a has what a and b have, and points that had b have a. -/
def x1G (g : Grf) (a b : Nat) : Grf := ⟨g.inp, g.vars, g.keep, g.arrs, g.shared, g.blks.set a ⟨(gt (c := .block) g.blks a).ops ++ (gt (c := .block) g.blks b).ops, (gt (c := .block) g.blks b).cond, (gt (c := .block) g.blks b).next⟩, (g.pts : List (El .ints)).map (rpP a b), g.hds⟩
def oneT (g : Grf) (a b : Nat) : List Int := (toL b g.blks.length g.blks.length).set b (toB b a)
theorem oneT_is {g : Grf} {a b : Nat} (ha : a < g.blks.length) : (toL b g.blks.length g.blks.length).set b (gt (c := .int) (toL b g.blks.length g.blks.length) a) = oneT g a b := by rw [toL_full ha]; rfl
theorem rp_set {l : List Blk} {a : Nat} {o : List Op_} {c0 c1 : Int} {n0 n1 : List Int} (ha : a < l.length) :
    ((l.set a ⟨o, c0, n0⟩).set a ⟨(gt (c := .block) (l.set a ⟨o, c0, n0⟩) a).ops, c1, (gt (c := .block) (l.set a ⟨o, c0, n0⟩) a).next⟩).set a
      ⟨(gt (c := .block) ((l.set a ⟨o, c0, n0⟩).set a ⟨(gt (c := .block) (l.set a ⟨o, c0, n0⟩) a).ops, c1, (gt (c := .block) (l.set a ⟨o, c0, n0⟩) a).next⟩) a).ops,
       (gt (c := .block) ((l.set a ⟨o, c0, n0⟩).set a ⟨(gt (c := .block) (l.set a ⟨o, c0, n0⟩) a).ops, c1, (gt (c := .block) (l.set a ⟨o, c0, n0⟩) a).next⟩) a).cond, n1⟩ = l.set a ⟨o, c1, n1⟩ := by
  have e1 : gt (c := .block) (l.set a ⟨o, c0, n0⟩) a = ⟨o, c0, n0⟩ := gt_set (c := .block) ha
  rw [e1]
  simp only [List.set_set]
  have e2 : gt (c := .block) (l.set a ⟨o, c1, n0⟩) a = ⟨o, c1, n0⟩ := gt_set (c := .block) ha
  rw [e2]
attribute [local irreducible] mapTo rnB rnP rnH rnN rowR toL toN toB
set_option maxHeartbeats 4000000 in
theorem r_one (g : Grf) (a b : Nat) (hB : Bnd g) (hs : opsN g.blks g.blks.length ≤ 600) (ha : a < g.blks.length) (hb : b < g.blks.length) (hab : a ≠ b) (hX : Bnd (x1G g a b)) (hn : ∀ x ∈ (x1G g a b).blks, ∀ n ∈ x.next, 0 ≤ n ∧ n < g.blks.length) (hp0 : ∀ x ∈ g.pts, ∀ n ∈ x, 0 ≤ n ∧ n < g.blks.length) (hp : ∀ x ∈ (x1G g a b).pts, ∀ n ∈ x, 0 ≤ n ∧ n < g.blks.length) (hh : ∀ x ∈ g.hds, 0 ≤ x.block ∧ x.block < g.blks.length) : Trip Try.prog 82 [.agg [.sl ⟨0, []⟩, .int .i64 g.vars, .int .i64 g.keep, .sl ⟨1, []⟩, .int .i64 g.shared, .sl ⟨2, []⟩, .sl ⟨3, []⟩, .sl ⟨4, []⟩], .int .i64 (a : Int), .int .i64 (b : Int)] ⟨[], [(0, .list .tmp .input g.inp), (1, .list .tmp .array g.arrs), (2, .list .tmp .block g.blks), (3, .list .tmp .ints g.pts), (4, .list .tmp .head g.hds)], 5⟩ (Z := Unit) (fun _ => True) (fun _ => .tup [.agg [.sl ⟨5, []⟩, .int .i64 g.vars, .int .i64 g.keep, .sl ⟨6, []⟩, .int .i64 g.shared, .sl ⟨7, []⟩, .sl ⟨8, []⟩, .sl ⟨9, []⟩], .sl ⟨10, []⟩]) (fun _ => ⟨[], [(0, .list .tmp .input g.inp), (1, .list .tmp .array g.arrs), (2, .list .tmp .block g.blks), (3, .list .tmp .ints g.pts), (4, .list .tmp .head g.hds), (5, .list .own .input g.inp), (6, .list .own .array g.arrs), (7, .list .own .block (rnm (x1G g a b) (toL b g.blks.length g.blks.length)).blks), (8, .list .own .ints (rnm (x1G g a b) (toL b g.blks.length g.blks.length)).pts), (9, .list .own .head (rnm (x1G g a b) (toL b g.blks.length g.blks.length)).hds), (10, .list .own .int (oneT g a b))], 11⟩) := by
  have hB0 := hB
  obtain ⟨h1, h2, h3, h4, h5, h6, h7, h8, h9⟩ := hB
  have hoa := h7 _ (mem_gt (c := .block) ha)
  have hob := h7 _ (mem_gt (c := .block) hb)
  have hna := h8 _ (mem_gt (c := .block) hb)
  refine trip_by (rs := [_, _]) 400 lay_ok Try.func82 rfl (by kernel_rfl) Try.ntmps82 Try.results82 rfl rfl ?_
  repeat' (first | (((with_reducible refine g_id ?_); (conv => arg 3; whnf)); first | (with_reducible refine g_fin ?_ ?_) | (refine g_call lay_ok 400 ?_ ?_ ?_ (r_copy ?_ ?_) rfl) | (refine g_storeL lay_ok 400 ?_ rfl rfl ?_ ?_) | (refine g_drawL lay_ok mixed_ok 400 15 [0, 1, 2, 3, 4, 5, 6, 7, 8, 9, 10, 11, 12, 13, 14] [0, 1, 2] 19 rfl (by kernel_rfl) (by kernel_rfl) ?_ ?_) | (refine g_flow 3 lay_ok mixed_ok 400 38277120 [0, 1, 0, 0, 8, 0, 0, 64, 0, 448, 960, 1984, 0, 0, 8192, 0, 57344, 122880, 253952, 520192, 1048519, 2097095, 4194247, 8388607, 16777215, 33554431] (.q 0 (.q 1 (.q 2 (.q 3 (.q 4 (.q 5 (.q 6 (.q 7 (.q 8 (.q 9 (.q 10 (.q 11 (.q 13 (.q 14 (.q 15 (.q 16 (.q 17 (.q 18 (.e 12 [0, 1, 2, 3, 4, 5, 6, 7, 8, 9, 10, 11, 13, 14, 15, 16, 17, 18] (.e 19 [0, 1, 2, 3, 4, 5, 6, 7, 8, 9, 10, 11] (.q 20 (.q 21 (.e 22 [3, 4, 5] (.q 23 (.q 24 (.e 25 [] (.fin) .stop))) .stop))) .stop) .stop))))))))))))))))))) (by kernel_rfl) ?_ ?_)) | (((with_reducible refine d_id ?_); (conv => arg 5; whnf)); first | (with_reducible refine d_fin ?_ ?_)) | (((with_reducible refine w_id ?_); (conv => arg 4; whnf)); first | (with_reducible refine w_fin ?_ ?_) | (with_reducible refine w_tt ?_) | (with_reducible refine w_eff lay_ok 400 ?_ rfl rfl ?_ ?_)) | (with_reducible refine q_flow ?_ ?_) | ((with_reducible refine h_id ?_); (conv => arg 1; whnf); (with_reducible refine s_some ?_)) | (with_reducible exact o_nil) | (with_reducible refine o_cons ?_ ?_) | ((with_reducible refine o_id ?_); (conv => arg 1; whnf); first | (with_reducible exact o_nil) | (with_reducible refine o_cons ?_ ?_)) | (intro h; ((try simp only [Int.toNat_natCast] at h); repeat (first | replace h := of_decide_eq_true h)); (try (first | contradiction))) | rfl | omega | (simp only [Int.toNat_natCast]; omega) | (simp only [List.length_nil, List.length_cons, List.length_append, List.length_take, List.length_set, Int.toNat_natCast, Nat.zero_add]; omega) | (refine g_late rfl rfl rfl ?_ rfl rfl ?_ ?_))
  refine g_loop lay_ok 400 (Z := Nat) (fun z => z ≤ g.pts.length) (fun z => ⟨[(1, .int .i64 (a : Int)), (2, .int .i64 (b : Int)), (3, .ptr 5 0), (6, .ptr 6 0), (8, .ptr 7 0), (9, .int .i64 (z : Int))], [(0, .list .tmp .input g.inp), (1, .list .tmp .array g.arrs), (2, .list .tmp .block g.blks), (3, .list .tmp .ints g.pts), (4, .list .tmp .head g.hds), (5, .cells [.sl ⟨0, []⟩, .int .i64 g.vars, .int .i64 g.keep, .sl ⟨1, []⟩, .int .i64 g.shared, .sl ⟨2, []⟩, .sl ⟨3, []⟩, .sl ⟨4, []⟩]), (6, .cells [.val (.slice none 0 0), .int .i64 0, .int .i64 0, .val (.slice none 0 0), .int .i64 0, .val (.slice none 0 0), .val (.slice none 0 0), .val (.slice none 0 0)]), (7, .cells [.sl ⟨8, []⟩, .int .i64 g.vars, .int .i64 g.keep, .sl ⟨9, []⟩, .int .i64 g.shared, .sl ⟨10, []⟩, .sl ⟨11, []⟩, .sl ⟨12, []⟩]), (8, .list .own .input g.inp), (9, .list .own .array g.arrs), (10, .list .own .block (x1G g a b).blks), (11, .list .own .ints (mapTo (c := .ints) (rpP a b) g.pts z)), (12, .list .own .head g.hds)], 13⟩) (fun z => g.pts.length - z) ?_ ⟨0, Nat.zero_le _, ?_⟩ (fun i hi => ?_)
  · repeat' (first | ((with_reducible refine o_id ?_); (conv => arg 1; whnf); first | (with_reducible exact o_nil)))
  · ((with_reducible refine s_id ?_); (conv => arg 1; whnf); (with_reducible refine s_some ?_); repeat' (first | ((with_reducible refine o_id ?_); (conv => arg 1; whnf); first | (with_reducible exact o_nil) | (with_reducible refine o_cons ?_ ?_)) | rfl | (exact mapTo_zero (c := .ints)) | (exact (rp_set ha).symm)))
  have hm := mapTo_len (c := .ints) (f := rpP a b) (l := g.pts) (i := i)
  by_cases hlt : i < g.pts.length
  · have hnl := h9 _ (mem_gt (c := .ints) hlt)
    have hnn := hp0 _ (mem_gt (c := .ints) hlt)
    have hgi := gt_mapTo (c := .ints) (f := rpP a b) hlt
    repeat' (first | (((with_reducible refine g_id ?_); (conv => arg 3; whnf)); first | (with_reducible refine g_cond lay_ok 400 ?_ ?_ ?_)) | ((with_reducible refine o_id ?_); (conv => arg 1; whnf); first | (with_reducible exact o_nil)) | (intro h; ((try simp only [Int.toNat_natCast] at h); repeat (first | replace h := of_decide_eq_true h | replace h := of_decide_eq_false h)); (try (first | (exfalso; omega)))))
    refine g_loop lay_ok 400 (Z := Nat) (fun z => z ≤ (gt (c := .ints) g.pts i : List Int).length) (fun z => ⟨[(1, .int .i64 (a : Int)), (2, .int .i64 (b : Int)), (3, .ptr 5 0), (6, .ptr 6 0), (8, .ptr 7 0), (9, .int .i64 (i : Int)), (10, .int .i64 (z : Int))], [(0, .list .tmp .input g.inp), (1, .list .tmp .array g.arrs), (2, .list .tmp .block g.blks), (3, .list .tmp .ints g.pts), (4, .list .tmp .head g.hds), (5, .cells [.sl ⟨0, []⟩, .int .i64 g.vars, .int .i64 g.keep, .sl ⟨1, []⟩, .int .i64 g.shared, .sl ⟨2, []⟩, .sl ⟨3, []⟩, .sl ⟨4, []⟩]), (6, .cells [.val (.slice none 0 0), .int .i64 0, .int .i64 0, .val (.slice none 0 0), .int .i64 0, .val (.slice none 0 0), .val (.slice none 0 0), .val (.slice none 0 0)]), (7, .cells [.sl ⟨8, []⟩, .int .i64 g.vars, .int .i64 g.keep, .sl ⟨9, []⟩, .int .i64 g.shared, .sl ⟨10, []⟩, .sl ⟨11, []⟩, .sl ⟨12, []⟩]), (8, .list .own .input g.inp), (9, .list .own .array g.arrs), (10, .list .own .block (x1G g a b).blks), (11, .list .own .ints (rowR a b g.pts i z)), (12, .list .own .head g.hds)], 13⟩) (fun z => (gt (c := .ints) g.pts i : List Int).length - z) ?_ ⟨0, Nat.zero_le _, ?_⟩ (fun z hz => ?_)
    · repeat' (first | ((with_reducible refine o_id ?_); (conv => arg 1; whnf); first | (with_reducible exact o_nil)))
    · ((with_reducible refine s_id ?_); (conv => arg 1; whnf); (with_reducible refine s_some ?_); repeat' (first | ((with_reducible refine o_id ?_); (conv => arg 1; whnf); first | (with_reducible exact o_nil) | (with_reducible refine o_cons ?_ ?_)) | rfl | (exact rowR_zero hlt)))
    have hr := rowR_len (a := a) (b := b) (L := g.pts) (i := i) (z := z)
    have hra := rowR_at (a := a) (b := b) (z := z) hlt
    have hml := mapTo_len (c := .int) (f := rpl a b) (l := gt (c := .ints) g.pts i) (i := z)
    by_cases hk : z < (gt (c := .ints) g.pts i : List Int).length
    · have hgz := gt_mapTo (c := .int) (f := rpl a b) hk
      repeat' (first | (((with_reducible refine g_id ?_); (conv => arg 3; whnf)); first | (with_reducible refine g_cond lay_ok 400 ?_ ?_ ?_) | (with_reducible refine g_fin ?_ ?_)) | ((with_reducible refine o_id ?_); (conv => arg 1; whnf); first | (with_reducible exact o_nil) | (with_reducible refine o_cons ?_ ?_)) | (intro h; ((try simp only [Int.toNat_natCast] at h); repeat (first | replace h := of_decide_eq_true h | replace h := of_decide_eq_false h)); (try (first | (rw [hra, hml] at h; exfalso; omega)))) | omega | assumption | (simp only [Int.toNat_natCast]; omega))
      all_goals (refine q_round ⟨z + 1, by omega, by omega, ?_⟩; ((with_reducible refine s_id ?_); (conv => arg 1; whnf); (with_reducible refine s_some ?_); repeat' (first | ((with_reducible refine o_id ?_); (conv => arg 1; whnf); first | (with_reducible exact o_nil) | (with_reducible refine o_cons ?_ ?_)) | rfl | (rw [hra, hgz] at h; exact (rowR_y hlt hk h).symm) | (rw [hra, hgz] at h; exact (rowR_n hlt hk h).symm))))
    · have e : z = (gt (c := .ints) g.pts i : List Int).length := by omega
      subst e
      repeat' (first | (((with_reducible refine g_id ?_); (conv => arg 3; whnf)); first | (with_reducible refine g_cond lay_ok 400 ?_ ?_ ?_) | (with_reducible refine g_fin ?_ ?_)) | (with_reducible refine q_leave lay_ok 400 ?_) | (with_reducible exact o_nil) | ((with_reducible refine o_id ?_); (conv => arg 1; whnf); first | (with_reducible exact o_nil) | (with_reducible refine o_cons ?_ ?_)) | (intro h; ((try simp only [Int.toNat_natCast] at h); repeat (first | replace h := of_decide_eq_true h | replace h := of_decide_eq_false h)); (try (first | (rw [hra, hml] at h; exfalso; omega)))) | omega)
      all_goals (refine q_round ⟨i + 1, by omega, by omega, ?_⟩; ((with_reducible refine s_id ?_); (conv => arg 1; whnf); (with_reducible refine s_some ?_); repeat' (first | ((with_reducible refine o_id ?_); (conv => arg 1; whnf); first | (with_reducible exact o_nil) | (with_reducible refine o_cons ?_ ?_)) | rfl | (exact (rowR_full hlt).symm))))
  · have e : i = g.pts.length := by omega
    subst e
    have hmf : mapTo (c := .ints) (rpP a b) g.pts g.pts.length = (x1G g a b).pts := mapTo_full (c := .ints)
    have hxl : (x1G g a b).blks.length = g.blks.length := List.length_set
    have hxh : (x1G g a b).hds = g.hds := rfl
    repeat' (first | (((with_reducible refine g_id ?_); (conv => arg 3; whnf)); first | (with_reducible refine g_cond lay_ok 400 ?_ ?_ ?_) | (with_reducible refine g_fin ?_ ?_)) | (with_reducible refine q_leave lay_ok 400 ?_) | (with_reducible exact o_nil) | ((with_reducible refine o_id ?_); (conv => arg 1; whnf); first | (with_reducible exact o_nil)) | (intro h; ((try simp only [Int.toNat_natCast] at h); repeat (first | replace h := of_decide_eq_true h | replace h := of_decide_eq_false h)); (try (first | (exfalso; omega)))))
    refine g_loop lay_ok 400 (Z := Nat) (fun z => z ≤ g.blks.length) (fun z => ⟨[(1, .int .i64 (a : Int)), (2, .int .i64 (b : Int)), (3, .ptr 5 0), (6, .ptr 6 0), (8, .ptr 7 0), (11, .sl ⟨13, []⟩), (12, .int .i64 (toN b z)), (13, .int .i64 (z : Int))], [(0, .list .tmp .input g.inp), (1, .list .tmp .array g.arrs), (2, .list .tmp .block g.blks), (3, .list .tmp .ints g.pts), (4, .list .tmp .head g.hds), (5, .cells [.sl ⟨0, []⟩, .int .i64 g.vars, .int .i64 g.keep, .sl ⟨1, []⟩, .int .i64 g.shared, .sl ⟨2, []⟩, .sl ⟨3, []⟩, .sl ⟨4, []⟩]), (6, .cells [.val (.slice none 0 0), .int .i64 0, .int .i64 0, .val (.slice none 0 0), .int .i64 0, .val (.slice none 0 0), .val (.slice none 0 0), .val (.slice none 0 0)]), (7, .cells [.sl ⟨8, []⟩, .int .i64 g.vars, .int .i64 g.keep, .sl ⟨9, []⟩, .int .i64 g.shared, .sl ⟨10, []⟩, .sl ⟨11, []⟩, .sl ⟨12, []⟩]), (8, .list .own .input g.inp), (9, .list .own .array g.arrs), (10, .list .own .block (x1G g a b).blks), (11, .list .own .ints ((x1G g a b).pts)), (12, .list .own .head g.hds), (13, .list .own .int (toL b g.blks.length z))], 14⟩) (fun z => g.blks.length - z) ?_ ⟨0, Nat.zero_le _, ?_⟩ (fun z hz => ?_)
    · repeat' (first | ((with_reducible refine o_id ?_); (conv => arg 1; whnf); first | (with_reducible exact o_nil) | (with_reducible refine o_cons ?_ ?_)) | rfl | omega)
    · ((with_reducible refine s_id ?_); (conv => arg 1; whnf); (with_reducible refine s_some ?_); repeat' (first | ((with_reducible refine o_id ?_); (conv => arg 1; whnf); first | (with_reducible exact o_nil) | (with_reducible refine o_cons ?_ ?_)) | rfl | (exact toL_zero) | (exact toN_0) | (exact hmf.symm)))
    have htl := toL_len (b := b) hz
    have htn := toN_bd (b := b) (z := z)
    by_cases hk : z < g.blks.length
    · repeat' (first | (((with_reducible refine g_id ?_); (conv => arg 3; whnf)); first | (with_reducible refine g_cond lay_ok 400 ?_ ?_ ?_) | (with_reducible refine g_fin ?_ ?_)) | ((with_reducible refine o_id ?_); (conv => arg 1; whnf); first | (with_reducible exact o_nil) | (with_reducible refine o_cons ?_ ?_)) | (intro h; ((try simp only [Int.toNat_natCast] at h); repeat (first | replace h := of_decide_eq_true h | replace h := of_decide_eq_false h)); (try (first | (exfalso; omega)))) | omega | (simp only [List.length_nil, List.length_cons, List.length_append, List.length_take, List.length_set, Int.toNat_natCast, Nat.zero_add]; omega))
      all_goals (refine q_round ⟨z + 1, by omega, by omega, ?_⟩; ((with_reducible refine s_id ?_); (conv => arg 1; whnf); (with_reducible refine s_some ?_); repeat' (first | ((with_reducible refine o_id ?_); (conv => arg 1; whnf); first | (with_reducible exact o_nil) | (with_reducible refine o_cons ?_ ?_)) | rfl | (exact toN_b (by omega)) | (exact toN_ne (by omega)) | (exact (toL_n hk (by omega)).symm) | (exact (toL_b hk (by omega)).symm))))
    · have e : z = g.blks.length := by omega
      subst e
      repeat' (first | (((with_reducible refine g_id ?_); (conv => arg 3; whnf)); first | (with_reducible refine g_cond lay_ok 400 ?_ ?_ ?_) | (with_reducible refine g_fin ?_ ?_) | (refine g_call lay_ok 400 ?_ ?_ ?_ (r_rnm (x1G g a b) ?_ ?_ ?_ ?_ ?_ ?_) rfl)) | (with_reducible refine q_leave lay_ok 400 ?_) | (with_reducible exact o_nil) | ((with_reducible refine o_id ?_); (conv => arg 1; whnf); first | (with_reducible exact o_nil) | (with_reducible refine o_cons ?_ ?_)) | (intro h; ((try simp only [Int.toNat_natCast] at h); repeat (first | replace h := of_decide_eq_true h | replace h := of_decide_eq_false h)); (try (first | (exfalso; omega)))) | rfl | omega | (rw [htl]; exact hn _ (by assumption) _ (by assumption)) | (rw [htl]; exact hp _ (by assumption) _ (by assumption)) | (rw [htl]; exact hh _ (by assumption)))
      all_goals (((with_reducible refine e_id ?_); (conv => whnf)); refine ⟨(), trivial, ?_⟩; ((with_reducible refine s_id ?_); (conv => arg 1; whnf); (with_reducible refine s_some ?_); repeat' (first | ((with_reducible refine o_id ?_); (conv => arg 1; whnf); first | (with_reducible exact o_nil) | (with_reducible refine o_cons ?_ ?_)) | rfl | (rw [oneT, ← toL_full ha]))))
end Go.Proofs.Ytonjbhdfimcedaa
