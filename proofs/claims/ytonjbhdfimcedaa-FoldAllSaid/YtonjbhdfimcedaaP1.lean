/- Graphs that are right: plain facts. No condition on any program. -/
import Derived.Test.YtonjbhdfimcedaaMR
import Derived.Test.YtonjbhdfimcedaaVS
namespace Go.Proofs.Ytonjbhdfimcedaa
set_option linter.unusedSimpArgs false
set_option linter.unusedSectionVars false
set_option linter.unusedVariables false
open Go.RowKit
/-- A list of which the first i members were mapped. -/
def mapTo {c : Ty} (f : El c → El c) (l : List (El c)) (i : Nat) : List (El c) := (l.take i).map f ++ l.drop i
theorem mapTo_zero {c : Ty} {f : El c → El c} {l : List (El c)} : mapTo f l 0 = l := by unfold mapTo; simp
theorem mapTo_len {c : Ty} {f : El c → El c} {l : List (El c)} {i : Nat} : (mapTo f l i).length = l.length := by
  unfold mapTo; rw [List.length_append, List.length_map, List.length_take, List.length_drop]; omega
theorem mapTo_full {c : Ty} {f : El c → El c} {l : List (El c)} : mapTo f l l.length = l.map f := by unfold mapTo; simp
theorem mapTo_at {c : Ty} {f : El c → El c} {l : List (El c)} {i : Nat} (h : i < l.length) : (mapTo f l i)[i]? = l[i]? := by
  unfold mapTo
  rw [List.getElem?_append_right (by rw [List.length_map, List.length_take]; omega), List.getElem?_drop, List.length_map, List.length_take]
  congr 1; omega
theorem gt_mapTo {c : Ty} {f : El c → El c} {l : List (El c)} {i : Nat} (h : i < l.length) : gt (mapTo f l i) i = gt l i := by
  rw [gt_eq (List.getElem?_eq_getElem h)]
  exact gt_eq (by rw [mapTo_at h, List.getElem?_eq_getElem h])
theorem mapTo_set {c : Ty} {f : El c → El c} {l : List (El c)} {i : Nat} (h : i < l.length) : (mapTo f l i).set i (f (gt l i)) = mapTo f l (i + 1) := by
  unfold mapTo
  have hl : ((l.take i).map f).length = i := by rw [List.length_map, List.length_take]; omega
  have hd : l.drop i = gt l i :: l.drop (i + 1) := by
    rw [List.drop_eq_getElem_cons h, gt_eq (List.getElem?_eq_getElem h)]
  rw [List.set_append_right _ _ (by omega), hl, Nat.sub_self, hd, List.set_cons_zero, take_snoc h, List.map_append, List.append_assoc]
  rfl
def rpl (a b : Int) (n : El .int) : El .int := if n = b then a else n
/-- How many operations there are. -/
def osum : List Blk → Nat
  | [] => 0
  | x :: l => x.ops.length + osum l
theorem osum_app : ∀ (l m : List Blk), osum (l ++ m) = osum l + osum m
  | [], m => by simp [osum]
  | x :: l, m => by simp only [List.cons_append, osum, osum_app l m]; omega
theorem osum_mem {l : List Blk} {x : Blk} (h : x ∈ l) : x.ops.length ≤ osum l := by
  induction l with
  | nil => cases h
  | cons y l ih =>
    simp only [osum]
    rcases List.mem_cons.1 h with rfl | h
    · omega
    · have := ih h; omega
theorem opsN_take {l : List Blk} : ∀ {n : Nat}, n ≤ l.length → opsN l n = (osum (l.take n) : Int)
  | 0, _ => rfl
  | n + 1, h => by
    rw [opsN_succ, opsN_take (Nat.le_of_succ_le h), take_snoc (c := .block) h, osum_app]
    simp [osum]
theorem opsN_sum {l : List Blk} : opsN l l.length = (osum l : Int) := by rw [opsN_take (Nat.le_refl _), List.take_length]
/-! ### What holds of a graph that is merged -/
structure Wf (g : Grf) : Prop where
  i : g.inp.length ≤ 1048576
  a : g.arrs.length ≤ 1048576
  b : 0 < g.blks.length ∧ g.blks.length ≤ 64
  p : g.pts.length ≤ 1048576
  h : g.hds.length ≤ 1048576
  s : osum g.blks ≤ 600
  n : ∀ x ∈ g.blks, x.next.length ≤ 2 ∧ ∀ n ∈ x.next, 0 ≤ n ∧ n < g.blks.length
  q : ∀ l ∈ g.pts, l.length ≤ 1048576 ∧ ∀ n ∈ l, 0 ≤ n ∧ n < g.blks.length
  k : ∀ x ∈ g.hds, 0 ≤ x.block ∧ x.block < g.blks.length
theorem Wf.bnd {g : Grf} (w : Wf g) : Bnd g :=
  ⟨w.i, w.a, by have := w.b; omega, w.p, w.h, by rw [opsN_sum]; have := w.s; omega, fun x hx => by have := osum_mem hx; have := w.s; omega, fun x hx => by have := (w.n x hx).1; omega, fun l hl => (w.q l hl).1⟩
theorem mem_at {c : Ty} {l : List (El c)} {x : El c} (h : x ∈ l) : ∃ i, i < l.length ∧ gt l i = x := by
  obtain ⟨i, hi, rfl⟩ := List.mem_iff_getElem.1 h
  exact ⟨i, hi, gt_eq (List.getElem?_eq_getElem hi)⟩
theorem chk_wf {g : Grf} (hB : Bnd g) (h : chkG g = 0) : Wf g := by
  unfold chkG at h
  split at h
  · exact absurd h (by decide)
  · rename_i hl
    split at h
    · rename_i ho
      unfold limG at hl
      unfold okG at ho
      simp only [Bool.and_eq_true, decide_eq_true_eq] at ho
      obtain ⟨o1, o2, o3, o4⟩ := ho
      have hb0 : 0 < g.blks.length := by
        rcases Nat.eq_zero_or_pos g.blks.length with e | e
        · rw [e, endsN_zero] at o2; exact absurd o2 (by decide)
        · exact e
      unfold namB at o4
      rw [Bool.and_eq_true] at o4
      obtain ⟨p1, p2⟩ := o4
      have hops := opsN_sum (l := g.blks)
      refine ⟨hB.i, hB.a, ⟨hb0, by omega⟩, hB.p, hB.h, by omega, fun x hx => ?_, fun x hx => ?_, fun x hx => ?_⟩
      · obtain ⟨i, hi, rfl⟩ := mem_at (c := .block) hx
        have h1 := allN_at o1 hi
        unfold blkB at h1
        simp only [Bool.and_eq_true, Bool.or_eq_true, decide_eq_true_eq] at h1
        obtain ⟨⟨_, h2⟩, h3⟩ := h1
        refine ⟨by omega, fun n hn => ?_⟩
        obtain ⟨j, hj, rfl⟩ := mem_at (c := .int) hn
        have h4 := of_decide_eq_true (allN_at h2 hj)
        unfold id at h4
        have q1 : @LE.le Int _ 1 (gt (c := .int) (gt (c := .block) g.blks i).next j) := h4.1
        exact ⟨Int.le_trans (by decide) q1, h4.2⟩
      · obtain ⟨i, hi, rfl⟩ := mem_at (c := .ints) hx
        refine ⟨hB.q _ hx, fun n hn => ?_⟩
        have h1 := allN_at p1 hi
        unfold ptB at h1
        obtain ⟨j, hj, rfl⟩ := mem_at (c := .int) hn
        have h2 := allN_at h1 hj
        unfold nodB at h2
        rw [Bool.and_eq_true] at h2
        exact of_decide_eq_true h2.1
      · obtain ⟨i, hi, rfl⟩ := mem_at (c := .head) hx
        have h1 := allN_at p2 hi
        unfold hdB at h1
        have h2 := of_decide_eq_true h1
        exact ⟨h2.1, h2.2.1⟩
    · exact absurd h (by decide)

def g00 : Grf := ⟨[], 0, 0, [], 0, [], [], []⟩
theorem g00_bnd : Bnd g00 := ⟨by decide, by decide, by decide, by decide, by decide, by decide, (fun b hb => by cases hb), (fun b hb => by cases hb), (fun b hb => by cases hb)⟩
end Go.Proofs.Ytonjbhdfimcedaa
