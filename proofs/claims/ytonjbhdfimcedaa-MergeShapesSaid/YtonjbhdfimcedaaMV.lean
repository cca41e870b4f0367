/- A block that takes another one: the program. -/
import Derived.Test.YtonjbhdfimcedaaMU
namespace Go.Proofs.Ytonjbhdfimcedaa
set_option linter.unusedVariables false
set_option linter.unusedSimpArgs false
open Go.RowKit
/-- A list of which the first i members were mapped. -/
def mapTo {c : Ty} (f : El c → El c) (l : List (El c)) (i : Nat) : List (El c) := (l.take i).map f ++ l.drop i
theorem mapTo_zero {c : Ty} {f : El c → El c} {l : List (El c)} : mapTo f l 0 = l := by unfold mapTo; simp
theorem mapTo_len {c : Ty} {f : El c → El c} {l : List (El c)} {i : Nat} : (mapTo f l i).length = l.length := by
  unfold mapTo; rw [List.length_append, List.length_map, List.length_take, List.length_drop]; omega
theorem mapTo_full {c : Ty} {f : El c → El c} {l : List (El c)} : mapTo f l l.length = l.map f := by unfold mapTo; simp
theorem mapTo_at {c : Ty} {f : El c → El c} {l : List (El c)} {i : Nat} (h : i < l.length) : (mapTo f l i)[i]? = l[i]? := by
  unfold mapTo
  rw [List.getElem?_append_right (by rw [List.length_map, List.length_take]; omega), List.getElem?_drop, List.length_map, List.length_take]
  congr 1; omega
theorem gt_mapTo {c : Ty} {f : El c → El c} {l : List (El c)} {i : Nat} (h : i < l.length) : gt (mapTo f l i) i = gt l i := by
  rw [gt_eq (List.getElem?_eq_getElem h)]
  exact gt_eq (by rw [mapTo_at h, List.getElem?_eq_getElem h])
theorem mapTo_set {c : Ty} {f : El c → El c} {l : List (El c)} {i : Nat} (h : i < l.length) : (mapTo f l i).set i (f (gt l i)) = mapTo f l (i + 1) := by
  unfold mapTo
  have hl : ((l.take i).map f).length = i := by rw [List.length_map, List.length_take]; omega
  have hd : l.drop i = gt l i :: l.drop (i + 1) := by
    rw [List.drop_eq_getElem_cons h, gt_eq (List.getElem?_eq_getElem h)]
  rw [List.set_append_right _ _ (by omega), hl, Nat.sub_self, hd, List.set_cons_zero, take_snoc h, List.map_append, List.append_assoc]
  rfl
def dropB (l : List Blk) (b : Nat) : List Blk := l.take b ++ l.drop (b + 1)
theorem dropB_len {l : List Blk} {b : Nat} (h : b < l.length) : (dropB l b).length = l.length - 1 := by
  unfold dropB; rw [List.length_append, List.length_take, List.length_drop]; omega
theorem dropB_mem {l : List Blk} {b : Nat} {x : Blk} (h : x ∈ dropB l b) : x ∈ l := by
  unfold dropB at h
  rcases List.mem_append.1 h with h | h
  · exact List.mem_of_mem_take h
  · exact List.mem_of_mem_drop h
theorem jn_next0 : True := trivial
def mvI (a b : Int) (n : El .int) : El .int := mvJ a b n
def jB (a b : Int) (x : El .block) : El .block := (⟨x.ops, x.cond, x.next.map (mvI a b)⟩ : Blk)
def jP (a b : Int) (x : El .ints) : El .ints := (x : List Int).map (mvI a b)
def jH (a b : Int) (x : El .head) : El .head := (⟨mvJ a b x.block, x.max⟩ : Hd_)
/-- The blocks, block a having taken block b. -/
def jnL (l : List Blk) (a b : Nat) : List Blk := dropB (l.set a ⟨(gt (c := .block) l a).ops ++ (gt (c := .block) l b).ops, (gt (c := .block) l b).cond, (gt (c := .block) l b).next⟩) b
/-- The graph in which block a has taken block b. -/
def jn (g : Grf) (a b : Nat) : Grf := ⟨g.inp, g.vars, g.keep, g.arrs, g.shared, (jnL g.blks a b : List (El .block)).map (jB a b), (g.pts : List (El .ints)).map (jP a b), (g.hds : List (El .head)).map (jH a b)⟩
theorem jnL_len {l : List Blk} {a b : Nat} (h : b < l.length) : (jnL l a b).length = l.length - 1 := by
  unfold jnL; rw [dropB_len (by rw [List.length_set]; exact h), List.length_set]
theorem jn_next {l : List Blk} {a b : Nat} (ha : a < l.length) (hb : b < l.length) (h8 : ∀ x ∈ l, x.next.length ≤ 1048576) (hn : ∀ x ∈ l, ∀ n ∈ x.next, 0 ≤ n ∧ n ≤ 1048576) : ∀ x ∈ jnL l a b, x.next.length ≤ 1048576 ∧ ∀ n ∈ x.next, 0 ≤ n ∧ n ≤ 1048576 := by
  intro x hx
  rcases List.mem_or_eq_of_mem_set (dropB_mem hx) with h | rfl
  · exact ⟨h8 x h, hn x h⟩
  · exact ⟨h8 (gt (c := .block) l b) (mem_gt (c := .block) hb), hn (gt (c := .block) l b) (mem_gt (c := .block) hb)⟩
theorem join_sets {l : List Blk} {a b : Nat} {o : List Op_} {c0 c1 : Int} {n0 : List Int} (ha : a < l.length) (hab : a ≠ b) :
    ((l.set a ⟨o, c0, n0⟩).set a ⟨(gt (c := .block) (l.set a ⟨o, c0, n0⟩) a).ops, c1, (gt (c := .block) (l.set a ⟨o, c0, n0⟩) a).next⟩).set a
      ⟨(gt (c := .block) ((l.set a ⟨o, c0, n0⟩).set a ⟨(gt (c := .block) (l.set a ⟨o, c0, n0⟩) a).ops, c1, (gt (c := .block) (l.set a ⟨o, c0, n0⟩) a).next⟩) a).ops,
       (gt (c := .block) ((l.set a ⟨o, c0, n0⟩).set a ⟨(gt (c := .block) (l.set a ⟨o, c0, n0⟩) a).ops, c1, (gt (c := .block) (l.set a ⟨o, c0, n0⟩) a).next⟩) a).cond,
       (gt (c := .block) ((l.set a ⟨o, c0, n0⟩).set a ⟨(gt (c := .block) (l.set a ⟨o, c0, n0⟩) a).ops, c1, (gt (c := .block) (l.set a ⟨o, c0, n0⟩) a).next⟩) b).next⟩ = l.set a ⟨o, c1, (gt (c := .block) l b).next⟩ := by
  have e1 : gt (c := .block) (l.set a ⟨o, c0, n0⟩) a = ⟨o, c0, n0⟩ := gt_set (c := .block) ha
  rw [e1]
  simp only [List.set_set]
  have e2 : gt (c := .block) (l.set a ⟨o, c1, n0⟩) a = ⟨o, c1, n0⟩ := gt_set (c := .block) ha
  have e3 : gt (c := .block) (l.set a ⟨o, c1, n0⟩) b = gt (c := .block) l b := gt_set_ne (c := .block) hab.symm
  rw [e2, e3]
theorem join_start {l S : List Blk} {a b : Nat} (hS : S = l.set a ⟨(gt (c := .block) l a).ops ++ (gt (c := .block) l b).ops, (gt (c := .block) l b).cond, (gt (c := .block) l b).next⟩) : S.take b ++ S.drop (b + 1) = jnL l a b := by subst hS; rfl
theorem headP {a b : Int} {l : List Hd_} {z : Nat} (h : z < l.length) : (mapTo (c := .head) (jH a b) l z).set z ⟨mvJ a b (gt (c := .head) (mapTo (c := .head) (jH a b) l z) z).block, (gt (c := .head) (mapTo (c := .head) (jH a b) l z) z).max⟩ = mapTo (c := .head) (jH a b) l (z + 1) := by
  have e := gt_mapTo (c := .head) (f := jH a b) h
  rw [e]
  exact mapTo_set (c := .head) (f := jH a b) h
/-- The row that is being mapped. -/
def rowB (a b : Int) (L : List Blk) (i z : Nat) : List Blk := (mapTo (c := .block) (jB a b) L i).set i ⟨(gt (c := .block) L i).ops, (gt (c := .block) L i).cond, mapTo (c := .int) (mvI a b) (gt (c := .block) L i).next z⟩
def rowP (a b : Int) (L : List (List Int)) (i z : Nat) : List (List Int) := (mapTo (c := .ints) (jP a b) L i).set i (mapTo (c := .int) (mvI a b) (gt (c := .ints) L i) z)
theorem rowB_len {a b : Int} {L : List Blk} {i z : Nat} : (rowB a b L i z).length = L.length := by unfold rowB; rw [List.length_set]; exact mapTo_len (c := .block)
theorem rowP_len {a b : Int} {L : List (List Int)} {i z : Nat} : (rowP a b L i z).length = L.length := by unfold rowP; rw [List.length_set]; exact mapTo_len (c := .ints)
theorem rowB_zero {a b : Int} {L : List Blk} {i : Nat} (h : i < L.length) : rowB a b L i 0 = mapTo (c := .block) (jB a b) L i := by
  unfold rowB
  rw [mapTo_zero (c := .int)]
  have hl : i < (mapTo (c := .block) (jB a b) L i).length := by rw [mapTo_len (c := .block)]; exact h
  have e : (⟨(gt (c := .block) L i).ops, (gt (c := .block) L i).cond, (gt (c := .block) L i).next⟩ : Blk) = gt (c := .block) (mapTo (c := .block) (jB a b) L i) i := (gt_mapTo (c := .block) h).symm
  rw [e]; exact set_gt (c := .block) hl
theorem rowB_at {a b : Int} {L : List Blk} {i z : Nat} (h : i < L.length) : gt (c := .block) (rowB a b L i z) i = ⟨(gt (c := .block) L i).ops, (gt (c := .block) L i).cond, mapTo (c := .int) (mvI a b) (gt (c := .block) L i).next z⟩ := by
  unfold rowB; exact gt_set (c := .block) (by rw [mapTo_len (c := .block)]; exact h)
theorem rowB_succ {a b : Int} {L : List Blk} {i z : Nat} (h : i < L.length) (hz : z < (gt (c := .block) L i).next.length) :
    (rowB a b L i z).set i ⟨(gt (c := .block) (rowB a b L i z) i).ops, (gt (c := .block) (rowB a b L i z) i).cond, (gt (c := .block) (rowB a b L i z) i).next.set z (mvJ a b (gt (c := .int) (gt (c := .block) (rowB a b L i z) i).next z))⟩ = rowB a b L i (z + 1) := by
  rw [rowB_at h]
  simp only
  have e1 := gt_mapTo (c := .int) (f := mvI a b) hz
  have e2 := mapTo_set (c := .int) (f := mvI a b) hz
  have e3 : (mapTo (c := .int) (mvI a b) (gt (c := .block) L i).next z : List Int).set z (mvJ a b (gt (c := .int) (mapTo (c := .int) (mvI a b) (gt (c := .block) L i).next z) z)) = mapTo (c := .int) (mvI a b) (gt (c := .block) L i).next (z + 1) := by
    rw [e1]; exact e2
  rw [e3]
  unfold rowB
  rw [List.set_set]
theorem rowB_full {a b : Int} {L : List Blk} {i : Nat} (h : i < L.length) : rowB a b L i (gt (c := .block) L i).next.length = mapTo (c := .block) (jB a b) L (i + 1) := by
  unfold rowB
  rw [mapTo_full (c := .int)]
  exact mapTo_set (c := .block) h
theorem rowP_zero {a b : Int} {L : List (List Int)} {i : Nat} (h : i < L.length) : rowP a b L i 0 = mapTo (c := .ints) (jP a b) L i := by
  unfold rowP
  rw [mapTo_zero (c := .int)]
  have hl : i < (mapTo (c := .ints) (jP a b) L i).length := by rw [mapTo_len (c := .ints)]; exact h
  have e : (gt (c := .ints) L i) = gt (c := .ints) (mapTo (c := .ints) (jP a b) L i) i := (gt_mapTo (c := .ints) h).symm
  rw [e]; exact set_gt (c := .ints) hl
theorem rowP_at {a b : Int} {L : List (List Int)} {i z : Nat} (h : i < L.length) : gt (c := .ints) (rowP a b L i z) i = mapTo (c := .int) (mvI a b) (gt (c := .ints) L i) z := by
  unfold rowP; exact gt_set (c := .ints) (by rw [mapTo_len (c := .ints)]; exact h)
theorem rowP_succ {a b : Int} {L : List (List Int)} {i z : Nat} (h : i < L.length) (hz : z < (gt (c := .ints) L i : List Int).length) :
    (rowP a b L i z).set i ((gt (c := .ints) (rowP a b L i z) i : List Int).set z (mvJ a b (gt (c := .int) (gt (c := .ints) (rowP a b L i z) i) z))) = rowP a b L i (z + 1) := by
  rw [rowP_at h]
  have e1 := gt_mapTo (c := .int) (f := mvI a b) hz
  have e2 := mapTo_set (c := .int) (f := mvI a b) hz
  have e3 : (mapTo (c := .int) (mvI a b) (gt (c := .ints) L i) z : List Int).set z (mvJ a b (gt (c := .int) (mapTo (c := .int) (mvI a b) (gt (c := .ints) L i) z) z)) = mapTo (c := .int) (mvI a b) (gt (c := .ints) L i) (z + 1) := by
    rw [e1]; exact e2
  rw [e3]
  unfold rowP
  rw [List.set_set]
theorem rowP_full {a b : Int} {L : List (List Int)} {i : Nat} (h : i < L.length) : rowP a b L i (gt (c := .ints) L i : List Int).length = mapTo (c := .ints) (jP a b) L (i + 1) := by
  unfold rowP
  rw [mapTo_full (c := .int)]
  exact mapTo_set (c := .ints) h
attribute [local irreducible] mapTo mvJ rowB rowP jnL
set_option maxHeartbeats 4000000 in
theorem c_join (g : Grf) (a b : Nat) (hB : Bnd g) (ha : a < g.blks.length) (hb : b < g.blks.length) (hab : a ≠ b) (hs : (gt (c := .block) g.blks a).ops.length + (gt (c := .block) g.blks b).ops.length ≤ 1048576) (hn : ∀ x ∈ g.blks, ∀ n ∈ x.next, 0 ≤ n ∧ n ≤ 1048576) (hp : ∀ x ∈ g.pts, ∀ n ∈ x, 0 ≤ n ∧ n ≤ 1048576) (hh : ∀ x ∈ g.hds, 0 ≤ x.block ∧ x.block ≤ 1048576) : Trip Try.prog 79 [.ptr 0 0, .int .i64 (a : Int), .int .i64 (b : Int)] ⟨[], [(0, .cells [.sl ⟨1, []⟩, .int .i64 g.vars, .int .i64 g.keep, .sl ⟨2, []⟩, .int .i64 g.shared, .sl ⟨3, []⟩, .sl ⟨4, []⟩, .sl ⟨5, []⟩]), (1, .list .own .input g.inp), (2, .list .own .array g.arrs), (3, .list .own .block g.blks), (4, .list .own .ints g.pts), (5, .list .own .head g.hds)], 6⟩ (Z := Unit) (fun _ => True) (fun _ => .clo 109 [.ptr 7 0, .ptr 6 0]) (fun _ => ⟨[], [(0, .cells [.sl ⟨1, []⟩, .int .i64 g.vars, .int .i64 g.keep, .sl ⟨2, []⟩, .int .i64 g.shared, .sl ⟨8, []⟩, .sl ⟨4, []⟩, .sl ⟨5, []⟩]), (1, .list .own .input g.inp), (2, .list .own .array g.arrs), (4, .list .own .ints (jn g a b).pts), (5, .list .own .head (jn g a b).hds), (6, .cells [.int .i64 (a : Int)]), (7, .cells [.int .i64 (b : Int)]), (8, .list .own .block (jn g a b).blks)], 9⟩) := by
  obtain ⟨h1, h2, h3, h4, h5, h6, h7, h8, h9⟩ := hB
  have hoa := h7 _ (mem_gt (c := .block) ha)
  have hob := h7 _ (mem_gt (c := .block) hb)
  refine trip_by (rs := [_]) 400 lay_ok Try.func79 rfl (by kernel_rfl) Try.ntmps79 Try.results79 rfl rfl ?_
  repeat' (first | (((with_reducible refine g_id ?_); (conv => arg 3; whnf)); first | (with_reducible refine g_fin ?_ ?_) | (refine g_call lay_ok 400 ?_ ?_ ?_ (c_concat ?_ ?_ ?_ ?_) rfl) | (refine g_storeL lay_ok 400 ?_ rfl rfl ?_ ?_) | (refine g_storeM lay_ok 400 ?_ rfl rfl ?_ ?_) | (refine g_appH lay_ok 400 ?_ rfl rfl rfl rfl rfl rfl rfl ?_ ?_) | (refine g_flow 1 lay_ok mixed_ok 400 40960 [0, 1, 3, 7, 0, 31, 0, 64, 192, 448, 0, 1984, 4032, 0, 8255, 32767] (.q 0 (.q 1 (.q 2 (.q 3 (.q 4 (.q 5 (.q 6 (.q 7 (.q 8 (.q 9 (.q 10 (.q 11 (.q 12 (.e 13 [0, 1, 2, 3, 4, 5, 6, 7, 8, 9, 10, 11, 12] (.q 14 (.e 15 [] (.fin) .stop)) .stop)))))))))))))) (by kernel_rfl) ?_ ?_) | (refine g_flow 2 lay_ok mixed_ok 400 9569792 [0, 0, 0, 0, 8, 24, 56, 0, 128, 504, 1016, 0, 2048, 0, 8192, 2041, 34809, 100345, 237563, 499707, 1023995, 2097151, 4194303, 8388607] (.q 0 (.q 1 (.q 2 (.q 3 (.q 4 (.q 5 (.q 6 (.q 7 (.q 8 (.q 11 (.q 12 (.q 13 (.q 14 (.e 9 [0, 1, 2, 11, 12, 13, 14] (.e 10 [0, 1, 2, 11, 12, 13, 14] (.q 15 (.q 16 (.e 17 [1, 2, 11, 12, 13, 14] (.q 18 (.q 19 (.e 20 [2, 13, 14] (.q 21 (.q 22 (.e 23 [] (.fin) .stop))) .stop))) .stop))) .stop) .stop)))))))))))))) (by kernel_rfl) ?_ ?_) | (refine g_flow 4 lay_ok mixed_ok 400 294912 [0, 0, 2, 6, 14, 0, 0, 126, 0, 256, 768, 1792, 0, 4096, 16128, 32766, 65535, 131071, 262143] (.q 0 (.q 1 (.q 2 (.q 3 (.q 4 (.q 5 (.q 6 (.q 7 (.q 8 (.q 9 (.q 10 (.q 11 (.q 12 (.q 13 (.q 14 (.e 15 [0] (.q 16 (.q 17 (.e 18 [] (.fin) .stop))) .stop)))))))))))))))) (by kernel_rfl) ?_ ?_)) | (((with_reducible refine w_id ?_); (conv => arg 4; whnf)); first | (with_reducible refine w_fin ?_ ?_) | (with_reducible refine w_tt ?_) | (with_reducible refine w_eff lay_ok 400 ?_ rfl rfl ?_ ?_)) | (with_reducible refine q_flow ?_ ?_) | ((with_reducible refine h_id ?_); (conv => arg 1; whnf); (with_reducible refine s_some ?_)) | (with_reducible exact o_nil) | (with_reducible refine o_cons ?_ ?_) | ((with_reducible refine o_id ?_); (conv => arg 1; whnf); first | (with_reducible exact o_nil) | (with_reducible refine o_cons ?_ ?_)) | (intro h; ((try simp only [Int.toNat_natCast] at h); repeat (first | replace h := of_decide_eq_true h)); (try (first | contradiction))) | rfl | omega | assumption | (simp only [List.length_nil, List.length_cons, List.length_append, List.length_take, List.length_set, Int.toNat_natCast, Nat.zero_add]; omega) | (simp only [bnat, List.length_set, Int.toNat_natCast]; omega))
  have hL : (jnL g.blks a b).length = g.blks.length - 1 := jnL_len hb
  have hLn : ∀ x ∈ jnL g.blks a b, x.next.length ≤ 1048576 ∧ ∀ n ∈ x.next, 0 ≤ n ∧ n ≤ 1048576 := jn_next ha hb h8 hn
  refine g_loop lay_ok 400 (Z := Nat) (fun z => z ≤ (jnL g.blks a b).length) (fun z => ⟨[(0, .ptr 0 0), (9, .clo 109 [.ptr 7 0, .ptr 6 0]), (76, .int .i64 ((jnL g.blks a b).length : Int)), (77, .int .i64 (z : Int))], [(0, .cells [.sl ⟨1, []⟩, .int .i64 g.vars, .int .i64 g.keep, .sl ⟨2, []⟩, .int .i64 g.shared, .sl ⟨8, []⟩, .sl ⟨4, []⟩, .sl ⟨5, []⟩]), (1, .list .own .input g.inp), (2, .list .own .array g.arrs), (4, .list .own .ints (g.pts)), (5, .list .own .head (g.hds)), (6, .cells [.int .i64 (a : Int)]), (7, .cells [.int .i64 (b : Int)]), (8, .list .own .block (mapTo (c := .block) (jB a b) (jnL g.blks a b) z))], 9⟩) (fun z => (jnL g.blks a b).length - z) ?_ ⟨0, Nat.zero_le _, ?_⟩ (fun i hi => ?_)
  · repeat' (first | ((with_reducible refine o_id ?_); (conv => arg 1; whnf); first | (with_reducible exact o_nil)))
  · ((with_reducible refine s_id ?_); (conv => arg 1; whnf); (with_reducible refine s_some ?_); repeat' (first | ((with_reducible refine o_id ?_); (conv => arg 1; whnf); first | (with_reducible exact o_nil) | (with_reducible refine o_cons ?_ ?_)) | rfl | (rw [mapTo_zero (c := .block)]; exact (join_start (join_sets ha hab)).symm) | (exact congrArg (fun l : List Blk => (l.length : Int)) (join_start (join_sets ha hab)).symm)))
  by_cases hlt : i < (jnL g.blks a b).length
  · obtain ⟨hnl, hnn⟩ := hLn _ (mem_gt (c := .block) hlt)
    have hm := mapTo_len (c := .block) (f := jB a b) (l := jnL g.blks a b) (i := i)
    have hgi := gt_mapTo (c := .block) (f := jB a b) hlt
    repeat' (first | (((with_reducible refine g_id ?_); (conv => arg 3; whnf)); first | (with_reducible refine g_cond lay_ok 400 ?_ ?_ ?_)) | ((with_reducible refine o_id ?_); (conv => arg 1; whnf); first | (with_reducible exact o_nil)) | (intro h; ((try simp only [Int.toNat_natCast] at h); repeat (first | replace h := of_decide_eq_true h | replace h := of_decide_eq_false h)); (try (first | (exfalso; omega)))))
    refine g_loop lay_ok 400 (Z := Nat) (fun z => z ≤ (gt (c := .block) (jnL g.blks a b) i).next.length) (fun z => ⟨[(0, .ptr 0 0), (9, .clo 109 [.ptr 7 0, .ptr 6 0]), (76, .int .i64 ((jnL g.blks a b).length : Int)), (77, .int .i64 (i : Int)), (10, .int .i64 (i : Int)), (87, .sl ⟨8, [(i, 2)]⟩), (88, .int .i64 ((gt (c := .block) (jnL g.blks a b) i).next.length : Int)), (89, .int .i64 (z : Int))], [(0, .cells [.sl ⟨1, []⟩, .int .i64 g.vars, .int .i64 g.keep, .sl ⟨2, []⟩, .int .i64 g.shared, .sl ⟨8, []⟩, .sl ⟨4, []⟩, .sl ⟨5, []⟩]), (1, .list .own .input g.inp), (2, .list .own .array g.arrs), (4, .list .own .ints (g.pts)), (5, .list .own .head (g.hds)), (6, .cells [.int .i64 (a : Int)]), (7, .cells [.int .i64 (b : Int)]), (8, .list .own .block (rowB a b (jnL g.blks a b) i z))], 9⟩) (fun z => (gt (c := .block) (jnL g.blks a b) i).next.length - z) ?_ ⟨0, Nat.zero_le _, ?_⟩ (fun z hz => ?_)
    · repeat' (first | ((with_reducible refine o_id ?_); (conv => arg 1; whnf); first | (with_reducible exact o_nil) | (with_reducible refine o_cons ?_ ?_)) | omega)
    · ((with_reducible refine s_id ?_); (conv => arg 1; whnf); (with_reducible refine s_some ?_); repeat' (first | ((with_reducible refine o_id ?_); (conv => arg 1; whnf); first | (with_reducible exact o_nil) | (with_reducible refine o_cons ?_ ?_)) | rfl | (exact rowB_zero hlt) | (simp only [Int.toNat_natCast, hgi]; done)))
    have hr := rowB_len (a := a) (b := b) (L := jnL g.blks a b) (i := i) (z := z)
    have hra := rowB_at (a := a) (b := b) (z := z) hlt
    have hml := mapTo_len (c := .int) (f := mvI a b) (l := (gt (c := .block) (jnL g.blks a b) i).next) (i := z)
    by_cases hk : z < (gt (c := .block) (jnL g.blks a b) i).next.length
    · have hv := hnn _ (mem_gt (c := .int) hk)
      have hgz := gt_mapTo (c := .int) (f := mvI a b) hk
      repeat' (first | (((with_reducible refine g_id ?_); (conv => arg 3; whnf)); first | (with_reducible refine g_cond lay_ok 400 ?_ ?_ ?_) | (with_reducible refine g_fin ?_ ?_) | (refine g_call lay_ok 400 ?_ ?_ ?_ (c_mv ?_ ?_ ?_ ?_ ?_ ?_) rfl) | (refine g_flow 11 lay_ok mixed_ok 400 10240 [0, 1, 3, 7, 0, 31, 63, 127, 0, 0, 0, 1536, 4095, 8191] (.q 0 (.q 1 (.q 2 (.q 3 (.q 4 (.q 5 (.q 6 (.q 7 (.q 8 (.q 9 (.q 10 (.e 11 [0, 1, 2, 3, 4, 5, 6, 7, 8] (.q 12 (.e 13 [] (.fin) .stop)) .stop)))))))))))) (by kernel_rfl) ?_ ?_)) | (((with_reducible refine w_id ?_); (conv => arg 4; whnf)); first | (with_reducible refine w_fin ?_ ?_) | (with_reducible refine w_tt ?_) | (with_reducible refine w_eff lay_ok 400 ?_ rfl rfl ?_ ?_)) | (with_reducible refine q_flow ?_ ?_) | ((with_reducible refine h_id ?_); (conv => arg 1; whnf); (with_reducible refine s_some ?_)) | (with_reducible exact o_nil) | ((with_reducible refine o_id ?_); (conv => arg 1; whnf); first | (with_reducible exact o_nil) | (with_reducible refine o_cons ?_ ?_)) | (intro h; ((try simp only [Int.toNat_natCast] at h); repeat (first | replace h := of_decide_eq_true h | replace h := of_decide_eq_false h)); (try (first | (exfalso; omega)))) | rfl | omega | (simp only [Int.toNat_natCast, hra, hml]; omega) | (simp only [Int.toNat_natCast, hra, hgz]; exact hv))
      all_goals (refine q_round ⟨z + 1, by omega, by omega, ?_⟩; ((with_reducible refine s_id ?_); (conv => arg 1; whnf); (with_reducible refine s_some ?_); repeat' (first | ((with_reducible refine o_id ?_); (conv => arg 1; whnf); first | (with_reducible exact o_nil) | (with_reducible refine o_cons ?_ ?_)) | rfl | (exact (rowB_succ hlt hk).symm))))
    · have e : z = (gt (c := .block) (jnL g.blks a b) i).next.length := by omega
      subst e
      repeat' (first | (((with_reducible refine g_id ?_); (conv => arg 3; whnf)); first | (with_reducible refine g_cond lay_ok 400 ?_ ?_ ?_) | (with_reducible refine g_fin ?_ ?_)) | (with_reducible refine q_leave lay_ok 400 ?_) | (with_reducible exact o_nil) | ((with_reducible refine o_id ?_); (conv => arg 1; whnf); first | (with_reducible exact o_nil) | (with_reducible refine o_cons ?_ ?_)) | (intro h; ((try simp only [Int.toNat_natCast] at h); repeat (first | replace h := of_decide_eq_true h | replace h := of_decide_eq_false h)); (try (first | (exfalso; omega)))) | omega)
      all_goals (refine q_round ⟨i + 1, by omega, by omega, ?_⟩; ((with_reducible refine s_id ?_); (conv => arg 1; whnf); (with_reducible refine s_some ?_); repeat' (first | ((with_reducible refine o_id ?_); (conv => arg 1; whnf); first | (with_reducible exact o_nil) | (with_reducible refine o_cons ?_ ?_)) | rfl | (exact (rowB_full hlt).symm))))
  · have e : i = (jnL g.blks a b).length := by omega
    subst e
    have hjb : mapTo (c := .block) (jB a b) (jnL g.blks a b) (jnL g.blks a b).length = (jn g a b).blks := mapTo_full (c := .block)
    have hjp : mapTo (c := .ints) (jP a b) g.pts g.pts.length = (jn g a b).pts := mapTo_full (c := .ints)
    have hjh : mapTo (c := .head) (jH a b) g.hds g.hds.length = (jn g a b).hds := mapTo_full (c := .head)
    repeat' (first | (((with_reducible refine g_id ?_); (conv => arg 3; whnf)); first | (with_reducible refine g_cond lay_ok 400 ?_ ?_ ?_) | (with_reducible refine g_fin ?_ ?_)) | (with_reducible refine q_leave lay_ok 400 ?_) | (with_reducible exact o_nil) | ((with_reducible refine o_id ?_); (conv => arg 1; whnf); first | (with_reducible exact o_nil)) | (intro h; ((try simp only [Int.toNat_natCast] at h); repeat (first | replace h := of_decide_eq_true h | replace h := of_decide_eq_false h)); (try (first | (exfalso; omega)))))
    refine g_loop lay_ok 400 (Z := Nat) (fun z => z ≤ g.pts.length) (fun z => ⟨[(0, .ptr 0 0), (9, .clo 109 [.ptr 7 0, .ptr 6 0]), (112, .sl ⟨4, []⟩), (113, .int .i64 (g.pts.length : Int)), (114, .int .i64 (z : Int))], [(0, .cells [.sl ⟨1, []⟩, .int .i64 g.vars, .int .i64 g.keep, .sl ⟨2, []⟩, .int .i64 g.shared, .sl ⟨8, []⟩, .sl ⟨4, []⟩, .sl ⟨5, []⟩]), (1, .list .own .input g.inp), (2, .list .own .array g.arrs), (4, .list .own .ints (mapTo (c := .ints) (jP a b) g.pts z)), (5, .list .own .head (g.hds)), (6, .cells [.int .i64 (a : Int)]), (7, .cells [.int .i64 (b : Int)]), (8, .list .own .block ((jn g a b).blks))], 9⟩) (fun z => g.pts.length - z) ?_ ⟨0, Nat.zero_le _, ?_⟩ (fun i hi => ?_)
    · repeat' (first | ((with_reducible refine o_id ?_); (conv => arg 1; whnf); first | (with_reducible exact o_nil)))
    · ((with_reducible refine s_id ?_); (conv => arg 1; whnf); (with_reducible refine s_some ?_); repeat' (first | ((with_reducible refine o_id ?_); (conv => arg 1; whnf); first | (with_reducible exact o_nil) | (with_reducible refine o_cons ?_ ?_)) | rfl | (exact hjb.symm) | (exact mapTo_zero (c := .ints))))
    by_cases hlt : i < g.pts.length
    · have hnl := h9 _ (mem_gt (c := .ints) hlt)
      have hnn := hp _ (mem_gt (c := .ints) hlt)
      have hm := mapTo_len (c := .ints) (f := jP a b) (l := g.pts) (i := i)
      have hgi := gt_mapTo (c := .ints) (f := jP a b) hlt
      repeat' (first | (((with_reducible refine g_id ?_); (conv => arg 3; whnf)); first | (with_reducible refine g_cond lay_ok 400 ?_ ?_ ?_)) | ((with_reducible refine o_id ?_); (conv => arg 1; whnf); first | (with_reducible exact o_nil)) | (intro h; ((try simp only [Int.toNat_natCast] at h); repeat (first | replace h := of_decide_eq_true h | replace h := of_decide_eq_false h)); (try (first | (exfalso; omega)))))
      refine g_loop lay_ok 400 (Z := Nat) (fun z => z ≤ (gt (c := .ints) g.pts i : List Int).length) (fun z => ⟨[(0, .ptr 0 0), (9, .clo 109 [.ptr 7 0, .ptr 6 0]), (112, .sl ⟨4, []⟩), (113, .int .i64 (g.pts.length : Int)), (114, .int .i64 (i : Int)), (14, .sl ⟨4, [(i, 0)]⟩), (118, .sl ⟨4, [(i, 0)]⟩), (119, .int .i64 ((gt (c := .ints) g.pts i : List Int).length : Int)), (120, .int .i64 (z : Int))], [(0, .cells [.sl ⟨1, []⟩, .int .i64 g.vars, .int .i64 g.keep, .sl ⟨2, []⟩, .int .i64 g.shared, .sl ⟨8, []⟩, .sl ⟨4, []⟩, .sl ⟨5, []⟩]), (1, .list .own .input g.inp), (2, .list .own .array g.arrs), (4, .list .own .ints (rowP a b g.pts i z)), (5, .list .own .head (g.hds)), (6, .cells [.int .i64 (a : Int)]), (7, .cells [.int .i64 (b : Int)]), (8, .list .own .block ((jn g a b).blks))], 9⟩) (fun z => (gt (c := .ints) g.pts i : List Int).length - z) ?_ ⟨0, Nat.zero_le _, ?_⟩ (fun z hz => ?_)
      · repeat' (first | ((with_reducible refine o_id ?_); (conv => arg 1; whnf); first | (with_reducible exact o_nil) | (with_reducible refine o_cons ?_ ?_)) | omega)
      · ((with_reducible refine s_id ?_); (conv => arg 1; whnf); (with_reducible refine s_some ?_); repeat' (first | ((with_reducible refine o_id ?_); (conv => arg 1; whnf); first | (with_reducible exact o_nil) | (with_reducible refine o_cons ?_ ?_)) | rfl | (simp only [Int.toNat_natCast, hgi]; done) | (exact rowP_zero hlt)))
      have hr := rowP_len (a := a) (b := b) (L := g.pts) (i := i) (z := z)
      have hra := rowP_at (a := a) (b := b) (z := z) hlt
      have hml := mapTo_len (c := .int) (f := mvI a b) (l := gt (c := .ints) g.pts i) (i := z)
      by_cases hk : z < (gt (c := .ints) g.pts i : List Int).length
      · have hv := hnn _ (mem_gt (c := .int) hk)
        have hgz := gt_mapTo (c := .int) (f := mvI a b) hk
        repeat' (first | (((with_reducible refine g_id ?_); (conv => arg 3; whnf)); first | (with_reducible refine g_cond lay_ok 400 ?_ ?_ ?_) | (with_reducible refine g_fin ?_ ?_) | (refine g_call lay_ok 400 ?_ ?_ ?_ (c_mv ?_ ?_ ?_ ?_ ?_ ?_) rfl)) | ((with_reducible refine o_id ?_); (conv => arg 1; whnf); first | (with_reducible exact o_nil) | (with_reducible refine o_cons ?_ ?_)) | (intro h; ((try simp only [Int.toNat_natCast] at h); repeat (first | replace h := of_decide_eq_true h | replace h := of_decide_eq_false h)); (try (first | (exfalso; omega)))) | rfl | omega | (simp only [Int.toNat_natCast, hra, hml]; omega) | (simp only [Int.toNat_natCast, hra, hgz]; exact hv))
        all_goals (refine q_round ⟨z + 1, by omega, by omega, ?_⟩; ((with_reducible refine s_id ?_); (conv => arg 1; whnf); (with_reducible refine s_some ?_); repeat' (first | ((with_reducible refine o_id ?_); (conv => arg 1; whnf); first | (with_reducible exact o_nil) | (with_reducible refine o_cons ?_ ?_)) | rfl | (exact (rowP_succ hlt hk).symm))))
      · have e : z = (gt (c := .ints) g.pts i : List Int).length := by omega
        subst e
        repeat' (first | (((with_reducible refine g_id ?_); (conv => arg 3; whnf)); first | (with_reducible refine g_cond lay_ok 400 ?_ ?_ ?_) | (with_reducible refine g_fin ?_ ?_)) | (with_reducible refine q_leave lay_ok 400 ?_) | (with_reducible exact o_nil) | ((with_reducible refine o_id ?_); (conv => arg 1; whnf); first | (with_reducible exact o_nil) | (with_reducible refine o_cons ?_ ?_)) | (intro h; ((try simp only [Int.toNat_natCast] at h); repeat (first | replace h := of_decide_eq_true h | replace h := of_decide_eq_false h)); (try (first | (exfalso; omega)))) | omega)
        all_goals (refine q_round ⟨i + 1, by omega, by omega, ?_⟩; ((with_reducible refine s_id ?_); (conv => arg 1; whnf); (with_reducible refine s_some ?_); repeat' (first | ((with_reducible refine o_id ?_); (conv => arg 1; whnf); first | (with_reducible exact o_nil) | (with_reducible refine o_cons ?_ ?_)) | rfl | (exact (rowP_full hlt).symm))))
    · have e : i = g.pts.length := by omega
      subst e
      repeat' (first | (((with_reducible refine g_id ?_); (conv => arg 3; whnf)); first | (with_reducible refine g_cond lay_ok 400 ?_ ?_ ?_) | (with_reducible refine g_fin ?_ ?_)) | (with_reducible refine q_leave lay_ok 400 ?_) | (with_reducible exact o_nil) | ((with_reducible refine o_id ?_); (conv => arg 1; whnf); first | (with_reducible exact o_nil)) | (intro h; ((try simp only [Int.toNat_natCast] at h); repeat (first | replace h := of_decide_eq_true h | replace h := of_decide_eq_false h)); (try (first | (exfalso; omega)))))
      refine g_loop lay_ok 400 (Z := Nat) (fun z => z ≤ g.hds.length) (fun z => ⟨[(0, .ptr 0 0), (9, .clo 109 [.ptr 7 0, .ptr 6 0]), (136, .sl ⟨5, []⟩), (137, .int .i64 (g.hds.length : Int)), (138, .int .i64 (z : Int))], [(0, .cells [.sl ⟨1, []⟩, .int .i64 g.vars, .int .i64 g.keep, .sl ⟨2, []⟩, .int .i64 g.shared, .sl ⟨8, []⟩, .sl ⟨4, []⟩, .sl ⟨5, []⟩]), (1, .list .own .input g.inp), (2, .list .own .array g.arrs), (4, .list .own .ints ((jn g a b).pts)), (5, .list .own .head (mapTo (c := .head) (jH a b) g.hds z)), (6, .cells [.int .i64 (a : Int)]), (7, .cells [.int .i64 (b : Int)]), (8, .list .own .block ((jn g a b).blks))], 9⟩) (fun z => g.hds.length - z) ?_ ⟨0, Nat.zero_le _, ?_⟩ (fun z hz => ?_)
      · repeat' (first | ((with_reducible refine o_id ?_); (conv => arg 1; whnf); first | (with_reducible exact o_nil)))
      · ((with_reducible refine s_id ?_); (conv => arg 1; whnf); (with_reducible refine s_some ?_); repeat' (first | ((with_reducible refine o_id ?_); (conv => arg 1; whnf); first | (with_reducible exact o_nil) | (with_reducible refine o_cons ?_ ?_)) | rfl | (exact hjp.symm) | (exact mapTo_zero (c := .head))))
      by_cases hk : z < g.hds.length
      · have hv := hh _ (mem_gt (c := .head) hk)
        have hm := mapTo_len (c := .head) (f := jH a b) (l := g.hds) (i := z)
        have hgz := gt_mapTo (c := .head) (f := jH a b) hk
        repeat' (first | (((with_reducible refine g_id ?_); (conv => arg 3; whnf)); first | (with_reducible refine g_cond lay_ok 400 ?_ ?_ ?_) | (with_reducible refine g_fin ?_ ?_) | (refine g_call lay_ok 400 ?_ ?_ ?_ (c_mv ?_ ?_ ?_ ?_ ?_ ?_) rfl) | (refine g_flow 26 lay_ok mixed_ok 400 2304 [0, 1, 3, 7, 0, 0, 0, 64, 224, 511, 1023, 2047] (.q 0 (.q 1 (.q 2 (.q 3 (.q 4 (.q 5 (.q 6 (.q 7 (.e 8 [0, 1, 2, 3, 4] (.q 9 (.q 10 (.e 11 [] (.fin) .stop))) .stop))))))))) (by kernel_rfl) ?_ ?_)) | (((with_reducible refine w_id ?_); (conv => arg 4; whnf)); first | (with_reducible refine w_fin ?_ ?_) | (with_reducible refine w_tt ?_) | (with_reducible refine w_eff lay_ok 400 ?_ rfl rfl ?_ ?_)) | (with_reducible refine q_flow ?_ ?_) | ((with_reducible refine h_id ?_); (conv => arg 1; whnf); (with_reducible refine s_some ?_)) | (with_reducible exact o_nil) | ((with_reducible refine o_id ?_); (conv => arg 1; whnf); first | (with_reducible exact o_nil) | (with_reducible refine o_cons ?_ ?_)) | (intro h; ((try simp only [Int.toNat_natCast] at h); repeat (first | replace h := of_decide_eq_true h | replace h := of_decide_eq_false h)); (try (first | (exfalso; omega)))) | rfl | omega | (simp only [Int.toNat_natCast, hgz]; exact hv))
        all_goals (refine q_round ⟨z + 1, by omega, by omega, ?_⟩; ((with_reducible refine s_id ?_); (conv => arg 1; whnf); (with_reducible refine s_some ?_); repeat' (first | ((with_reducible refine o_id ?_); (conv => arg 1; whnf); first | (with_reducible exact o_nil) | (with_reducible refine o_cons ?_ ?_)) | rfl | (exact (headP hk).symm))))
      · have e : z = g.hds.length := by omega
        subst e
        repeat' (first | (((with_reducible refine g_id ?_); (conv => arg 3; whnf)); first | (with_reducible refine g_cond lay_ok 400 ?_ ?_ ?_) | (with_reducible refine g_fin ?_ ?_)) | (with_reducible refine q_leave lay_ok 400 ?_) | (with_reducible exact o_nil) | ((with_reducible refine o_id ?_); (conv => arg 1; whnf); first | (with_reducible exact o_nil)) | (intro h; ((try simp only [Int.toNat_natCast] at h); repeat (first | replace h := of_decide_eq_true h | replace h := of_decide_eq_false h)); (try (first | (exfalso; omega)))))
        all_goals (((with_reducible refine e_id ?_); (conv => whnf)); refine ⟨(), trivial, ?_⟩; ((with_reducible refine s_id ?_); (conv => arg 1; whnf); (with_reducible refine s_some ?_); repeat' (first | ((with_reducible refine o_id ?_); (conv => arg 1; whnf); first | (with_reducible exact o_nil) | (with_reducible refine o_cons ?_ ?_)) | rfl | (exact hjh.symm))))
end Go.Proofs.Ytonjbhdfimcedaa
