/- Merging graphs: plain facts; what the program and the document do is the same. No condition on any program. -/
import Derived.Test.YtonjbhdfimcedaaMX
namespace Go.Proofs.Ytonjbhdfimcedaa
set_option linter.unusedSimpArgs false
set_option linter.unusedSectionVars false
set_option linter.unusedVariables false
open Go.RowKit
/-- How many operations there are. -/
def osum : List Blk → Nat
  | [] => 0
  | x :: l => x.ops.length + osum l
theorem osum_app : ∀ (l m : List Blk), osum (l ++ m) = osum l + osum m
  | [], m => by simp [osum]
  | x :: l, m => by simp only [List.cons_append, osum, osum_app l m]; omega
theorem osum_mem {l : List Blk} {x : Blk} (h : x ∈ l) : x.ops.length ≤ osum l := by
  induction l with
  | nil => cases h
  | cons y l ih =>
    simp only [osum]
    rcases List.mem_cons.1 h with rfl | h
    · omega
    · have := ih h; omega
theorem opsN_take {l : List Blk} : ∀ {n : Nat}, n ≤ l.length → opsN l n = (osum (l.take n) : Int)
  | 0, _ => rfl
  | n + 1, h => by
    rw [opsN_succ, opsN_take (Nat.le_of_succ_le h), take_snoc (c := .block) h, osum_app]
    simp [osum]
theorem opsN_sum {l : List Blk} : opsN l l.length = (osum l : Int) := by rw [opsN_take (Nat.le_refl _), List.take_length]
theorem cut_at {l : List Blk} {i : Nat} (h : i < l.length) : l = l.take i ++ gt (c := .block) l i :: l.drop (i + 1) := by
  have hd : l.drop i = gt (c := .block) l i :: l.drop (i + 1) := by rw [List.drop_eq_getElem_cons h, gt_eq (c := .block) (List.getElem?_eq_getElem h)]
  rw [← hd, List.take_append_drop]
theorem osum_drop {l : List Blk} {b : Nat} (h : b < l.length) : osum (dropB l b) + (gt (c := .block) l b).ops.length = osum l := by
  have e := congrArg osum (cut_at h)
  rw [osum_app] at e
  simp only [osum] at e
  unfold dropB
  rw [osum_app]; omega
theorem osum_set {l : List Blk} {a : Nat} {x : Blk} (h : a < l.length) : osum (l.set a x) + (gt (c := .block) l a).ops.length = osum l + x.ops.length := by
  have h2 : a < (l.set a x).length := by rw [List.length_set]; exact h
  have e1 := osum_drop h
  have e2 := osum_drop h2
  rw [gt_set (c := .block) h] at e2
  have e3 : dropB (l.set a x) a = dropB l a := by
    unfold dropB
    rw [List.take_set_of_le (Nat.le_refl _), List.drop_set_of_lt (Nat.lt_succ_self _)]
  rw [e3] at e2
  omega
theorem osum_jn {l : List Blk} {a b : Nat} (ha : a < l.length) (hb : b < l.length) (hab : a ≠ b) : osum (jnL l a b) = osum l := by
  have e1 := osum_drop (l := l.set a ⟨(gt (c := .block) l a).ops ++ (gt (c := .block) l b).ops, (gt (c := .block) l b).cond, (gt (c := .block) l b).next⟩) (b := b) (by rw [List.length_set]; exact hb)
  rw [gt_set_ne (c := .block) hab.symm] at e1
  have e2 := osum_set (l := l) (x := ⟨(gt (c := .block) l a).ops ++ (gt (c := .block) l b).ops, (gt (c := .block) l b).cond, (gt (c := .block) l b).next⟩) ha
  simp only [List.length_append] at e2
  unfold jnL
  omega
theorem osum_map {a b : Int} : ∀ {l : List Blk}, osum (List.map (α := El .block) (jB a b) l) = osum l
  | [] => rfl
  | x :: l => by
    show x.ops.length + osum (List.map (α := El .block) (jB a b) l) = x.ops.length + osum l
    rw [osum_map]
theorem drop_at {l : List Blk} {b : Nat} {x : Blk} (h : x ∈ dropB l b) : ∃ i, i < l.length ∧ i ≠ b ∧ gt (c := .block) l i = x := by
  unfold dropB at h
  rcases List.mem_append.1 h with h | h
  · obtain ⟨i, hi, rfl⟩ := List.mem_iff_getElem.1 h
    rw [List.length_take] at hi
    exact ⟨i, by omega, by omega, gt_eq (c := .block) (by rw [List.getElem_take]; exact List.getElem?_eq_getElem _)⟩
  · obtain ⟨i, hi, rfl⟩ := List.mem_iff_getElem.1 h
    rw [List.length_drop] at hi
    exact ⟨b + 1 + i, by omega, by omega, gt_eq (c := .block) (by rw [List.getElem_drop]; exact List.getElem?_eq_getElem _)⟩

/-! ### Which blocks lead to a block -/
theorem has_mem {l : List Int} {n : Int} (h : hasB l n = true) : n ∈ l := by
  unfold hasB at h
  obtain ⟨m, h1, h2⟩ := List.any_eq_true.1 h
  have : m = n := of_decide_eq_true h2
  subst this; exact h1
theorem befN_mono {out : List (List Int)} {i n x : Int} {m : Nat} (h : x ∈ (gt (c := .ints) out m : List Int)) : x ∈ (gt (c := .ints) (befN out i n) m : List Int) := by
  by_cases hc : 0 ≤ n ∧ n < out.length ∧ hasB (gt (c := .ints) out n.toNat) i = false
  · obtain ⟨h1, h2, h3⟩ := hc
    rw [befN_y h1 h2 h3]
    by_cases e : m = n.toNat
    · subst e
      rw [gt_set (c := .ints) (by omega)]
      exact List.mem_append_left _ h
    · rw [gt_set_ne (c := .ints) e]; exact h
  · rw [show befN out i n = out from if_neg hc]; exact h
theorem befN_add {out : List (List Int)} {i n : Int} (h1 : 0 ≤ n) (h2 : n < out.length) : i ∈ (gt (c := .ints) (befN out i n) n.toNat : List Int) := by
  cases hh : hasB (gt (c := .ints) out n.toNat) i with
  | true => rw [befN_n2 hh]; exact has_mem hh
  | false =>
    rw [befN_y h1 h2 hh, gt_set (c := .ints) (by omega)]
    exact List.mem_append_right _ (List.mem_singleton_self _)
theorem befK_mono {l : List Int} {i x : Int} {out : List (List Int)} {m : Nat} (h : x ∈ (gt (c := .ints) out m : List Int)) : ∀ {k : Nat}, x ∈ (gt (c := .ints) (befK l i out k) m : List Int)
  | 0 => h
  | k + 1 => befN_mono (befK_mono h)
theorem befK_add {l : List Int} {i : Int} {out : List (List Int)} {j : Nat} (h1 : (0 : Int) ≤ gt (c := .int) l j) (h2 : (gt (c := .int) l j : Int) < out.length) : ∀ {k : Nat}, j < k → i ∈ (gt (c := .ints) (befK l i out k) (Int.toNat (gt (c := .int) l j)) : List Int)
  | 0, h => absurd h (Nat.not_lt_zero _)
  | k + 1, h => by
    rw [befK_succ]
    rcases Nat.lt_succ_iff_lt_or_eq.1 h with h3 | rfl
    · exact befN_mono (befK_add h1 h2 h3)
    · exact befN_add h1 (by rw [befK_len]; exact h2)
theorem befI_mono {l : List Blk} {x : Int} {m k : Nat} : ∀ {k' : Nat}, k ≤ k' → x ∈ (gt (c := .ints) (befI l k) m : List Int) → x ∈ (gt (c := .ints) (befI l k') m : List Int)
  | 0, h, hx => by
    have : k = 0 := Nat.le_zero.1 h
    subst this; exact hx
  | k' + 1, h, hx => by
    rcases Nat.le_succ_iff.1 h with h1 | rfl
    · rw [befI_succ]; exact befK_mono (befI_mono h1 hx)
    · exact hx
theorem bef_mem {l : List Blk} {i j : Nat} (hi : i < l.length) (hj : j < (gt (c := .block) l i).next.length) (h1 : (0 : Int) ≤ gt (c := .int) (gt (c := .block) l i).next j) (h2 : (gt (c := .int) (gt (c := .block) l i).next j : Int) < l.length) : (i : Int) ∈ (gt (c := .ints) (befG l) (Int.toNat (gt (c := .int) (gt (c := .block) l i).next j)) : List Int) := by
  refine befI_mono (k := i + 1) hi ?_
  rw [befI_succ]
  exact befK_add h1 (by rw [befI_len]; exact h2) hj

/-! ### What holds of a graph that is merged -/
structure Wf (g : Grf) : Prop where
  i : g.inp.length ≤ 1048576
  a : g.arrs.length ≤ 1048576
  b : 0 < g.blks.length ∧ g.blks.length ≤ 64
  p : g.pts.length ≤ 1048576
  h : g.hds.length ≤ 1048576
  s : osum g.blks ≤ 600
  n : ∀ x ∈ g.blks, x.next.length ≤ 2 ∧ ∀ n ∈ x.next, 0 ≤ n ∧ n < g.blks.length
  q : ∀ l ∈ g.pts, l.length ≤ 1048576 ∧ ∀ n ∈ l, 0 ≤ n ∧ n < g.blks.length
  k : ∀ x ∈ g.hds, 0 ≤ x.block ∧ x.block < g.blks.length
theorem Wf.bnd {g : Grf} (w : Wf g) : Bnd g :=
  ⟨w.i, w.a, by have := w.b; omega, w.p, w.h, by rw [opsN_sum]; have := w.s; omega, fun x hx => by have := osum_mem hx; have := w.s; omega, fun x hx => by have := (w.n x hx).1; omega, fun l hl => (w.q l hl).1⟩
theorem mem_at {c : Ty} {l : List (El c)} {x : El c} (h : x ∈ l) : ∃ i, i < l.length ∧ gt l i = x := by
  obtain ⟨i, hi, rfl⟩ := List.mem_iff_getElem.1 h
  exact ⟨i, hi, gt_eq (List.getElem?_eq_getElem hi)⟩
theorem chk_wf {g : Grf} (hB : Bnd g) (h : chkG g = 0) : Wf g := by
  unfold chkG at h
  split at h
  · exact absurd h (by decide)
  · rename_i hl
    split at h
    · rename_i ho
      unfold limG at hl
      unfold okG at ho
      simp only [Bool.and_eq_true, decide_eq_true_eq] at ho
      obtain ⟨o1, o2, o3, o4⟩ := ho
      have hb0 : 0 < g.blks.length := by
        rcases Nat.eq_zero_or_pos g.blks.length with e | e
        · rw [e, endsN_zero] at o2; exact absurd o2 (by decide)
        · exact e
      unfold namB at o4
      rw [Bool.and_eq_true] at o4
      obtain ⟨p1, p2⟩ := o4
      have hops := opsN_sum (l := g.blks)
      refine ⟨hB.i, hB.a, ⟨hb0, by omega⟩, hB.p, hB.h, by omega, fun x hx => ?_, fun x hx => ?_, fun x hx => ?_⟩
      · obtain ⟨i, hi, rfl⟩ := mem_at (c := .block) hx
        have h1 := allN_at o1 hi
        unfold blkB at h1
        simp only [Bool.and_eq_true, Bool.or_eq_true, decide_eq_true_eq] at h1
        obtain ⟨⟨_, h2⟩, h3⟩ := h1
        refine ⟨by omega, fun n hn => ?_⟩
        obtain ⟨j, hj, rfl⟩ := mem_at (c := .int) hn
        have h4 := of_decide_eq_true (allN_at h2 hj)
        unfold id at h4
        have q1 : @LE.le Int _ 1 (gt (c := .int) (gt (c := .block) g.blks i).next j) := h4.1
        exact ⟨Int.le_trans (by decide) q1, h4.2⟩
      · obtain ⟨i, hi, rfl⟩ := mem_at (c := .ints) hx
        refine ⟨hB.q _ hx, fun n hn => ?_⟩
        have h1 := allN_at p1 hi
        unfold ptB at h1
        obtain ⟨j, hj, rfl⟩ := mem_at (c := .int) hn
        have h2 := allN_at h1 hj
        unfold nodB at h2
        rw [Bool.and_eq_true] at h2
        exact of_decide_eq_true h2.1
      · obtain ⟨i, hi, rfl⟩ := mem_at (c := .head) hx
        have h1 := allN_at p2 hi
        unfold hdB at h1
        have h2 := of_decide_eq_true h1
        exact ⟨h2.1, h2.2.1⟩
    · exact absurd h (by decide)

/-! ### What a block that is taken is like -/
structure Tk (g : Grf) (a b : Nat) : Prop where
  ha : a < g.blks.length
  hb : b < g.blks.length
  ne : a ≠ b
  eq : nxt g a = (b : Int)
  only : ∀ i, i < g.blks.length → (b : Int) ∈ (gt (c := .block) g.blks i).next → i = a
  hd : ∀ x ∈ g.hds, x.block ≠ (b : Int)
theorem tk_in {g : Grf} (w : Wf g) {a : Nat} (ha : a < g.blks.length) (h1 : (gt (c := .block) g.blks a).next.length = 1) : 0 ≤ nxt g a ∧ nxt g a < g.blks.length :=
  (w.n _ (mem_gt (c := .block) ha)).2 _ (mem_gt (c := .int) (by omega))
theorem tk_of {g : Grf} (w : Wf g) {a : Nat} (ha : a < g.blks.length) (h : tkB g (befG g.blks) a = true) : Tk g a (nxt g a).toNat := by
  unfold tkB at h
  simp only [Bool.and_eq_true, decide_eq_true_eq, Bool.not_eq_true'] at h
  obtain ⟨⟨⟨⟨⟨⟨⟨h1, h2⟩, h3⟩, h4⟩, h5⟩, _⟩, _⟩, _⟩ := h
  obtain ⟨q1, q2⟩ := tk_in w ha h1
  have he : nxt g a = (((nxt g a).toNat : Nat) : Int) := by omega
  have mem : ∀ i, i < g.blks.length → nxt g a ∈ (gt (c := .block) g.blks i).next → (i : Int) ∈ (gt (c := .ints) (befG g.blks) (nxt g a).toNat : List Int) := by
    intro i hi hm
    obtain ⟨j, hj, e⟩ := mem_at (c := .int) hm
    have := bef_mem hi hj (by rw [e]; exact q1) (by rw [e]; exact q2)
    rw [e] at this
    exact this
  have ma := mem a ha (mem_gt (c := .int) (by omega))
  obtain ⟨x, hx⟩ := List.length_eq_one_iff.1 h4
  refine ⟨ha, by omega, fun e => h2 (by omega), he, fun i hi hm => ?_, fun y hy e => ?_⟩
  · rw [← he] at hm
    have mi := mem i hi hm
    rw [hx] at ma mi
    have e1 := List.mem_singleton.1 ma
    have e2 := List.mem_singleton.1 mi
    have : (i : Int) = (a : Int) := e2.trans e1.symm
    omega
  · have : g.hds.any (hdIs (nxt g a)) = true := List.any_eq_true.2 ⟨y, hy, hdIs_t (by rw [e]; exact he.symm)⟩
    rw [this] at h5; cases h5
theorem mv_toB {a b : Nat} {n : Int} (h0 : 0 ≤ n) (h : n ≠ b) : mvJ a b n = toB b n.toNat := by
  unfold mvJ toB
  rw [if_neg h]
  by_cases h2 : (b : Int) < n
  · rw [if_pos h2, if_neg (by omega), if_neg (by omega)]; omega
  · rw [if_neg h2, if_neg (by omega), if_pos (by omega)]; omega
theorem mv_b {a b : Nat} (hab : a ≠ b) : mvJ a b b = toB b a := by
  unfold mvJ toB
  rw [if_pos rfl, if_neg hab]
  by_cases h2 : a < b
  · rw [if_neg (by omega), if_pos h2]
  · rw [if_pos (by omega), if_neg h2]
theorem mv_bd {a b m : Nat} {n : Int} (ha : a < m) (hb : b < m) (hab : a ≠ b) (hn : 0 ≤ n ∧ n < m) : 0 ≤ mvJ a b n ∧ mvJ a b n < ((m - 1 : Nat) : Int) := by
  unfold mvJ
  by_cases h1 : n = b
  · rw [if_pos h1]
    by_cases h2 : (b : Int) < a
    · rw [if_pos h2]; omega
    · rw [if_neg h2]; omega
  · rw [if_neg h1]
    by_cases h2 : (b : Int) < n
    · rw [if_pos h2]; omega
    · rw [if_neg h2]; omega
theorem tI_ne {b m : Nat} {n : Int} (hn : 0 ≤ n ∧ n < m) : tI (toL b m m) n = toB b n.toNat := by
  unfold tI
  exact toL_full (by omega)
/-- A row behind the join: no block leads to the block that is gone. -/
theorem jn_rows {g : Grf} (w : Wf g) {a b : Nat} (t : Tk g a b) : ∀ x ∈ jnL g.blks a b, ∀ n ∈ x.next, (0 ≤ n ∧ n < g.blks.length) ∧ n ≠ (b : Int) := by
  intro x hx n hn
  obtain ⟨i, hi, hib, rfl⟩ := drop_at hx
  rw [List.length_set] at hi
  by_cases e : i = a
  · subst e
    rw [gt_set (c := .block) hi] at hn
    refine ⟨(w.n _ (mem_gt (c := .block) t.hb)).2 n hn, fun q => ?_⟩
    subst q
    exact t.ne (t.only b t.hb hn).symm
  · rw [gt_set_ne (c := .block) e] at hn
    refine ⟨(w.n _ (mem_gt (c := .block) hi)).2 n hn, fun q => ?_⟩
    subst q
    exact e (t.only i hi hn)
theorem rnB_map {tt : List Int} {L : List Blk} {b : Nat} (hs : ∀ i, i < L.length → ((gt (c := .int) tt i : Int) < 0 ↔ i = b)) : ∀ {k : Nat}, k ≤ L.length → rnB tt L k = (dropB (L.take k) b).map (tB tt)
  | 0, _ => by unfold dropB; simp [rnB]
  | k + 1, h => by
    have ih := rnB_map hs (k := k) (Nat.le_of_succ_le h)
    have hk : k < L.length := h
    have hl : (L.take k).length = k := by rw [List.length_take]; omega
    rw [take_snoc (c := .block) hk]
    by_cases e : k = b
    · rw [rnB_no ((hs k hk).2 e), ih]
      unfold dropB
      subst e
      rw [List.take_append_of_le_length (by omega), List.drop_of_length_le (l := L.take k) (by omega), List.drop_of_length_le (l := L.take k ++ [gt (c := .block) L k]) (by rw [List.length_append, hl]; simp)]
    · rw [rnB_yes (fun q => e ((hs k hk).1 q)), ih]
      unfold dropB
      by_cases h2 : k < b
      · rw [List.take_of_length_le (l := L.take k) (by omega), List.drop_of_length_le (l := L.take k) (by omega), List.take_of_length_le (l := L.take k ++ [gt (c := .block) L k]) (by rw [List.length_append, hl]; simp; omega), List.drop_of_length_le (l := L.take k ++ [gt (c := .block) L k]) (by rw [List.length_append, hl]; simp; omega)]
        simp
      · rw [List.take_append_of_le_length (by omega), List.drop_append_of_le_length (by omega), ← List.append_assoc, List.map_append (l₂ := [gt (c := .block) L k])]
        rfl
theorem toB_neg {b i : Nat} : toB b i < 0 ↔ i = b := by
  unfold toB
  by_cases h : i = b
  · rw [if_pos h]; exact ⟨fun _ => h, fun _ => by decide⟩
  · rw [if_neg h]
    split <;> exact ⟨fun q => by omega, fun q => absurd q h⟩
theorem rpl_tI {a b m : Nat} {n : Int} (ha : a < m) (hab : a ≠ b) (hn : 0 ≤ n ∧ n < m) : tI (toL b m m) (rpl a b n) = mvJ a b n := by
  unfold rpl
  by_cases h : n = b
  · subst h
    rw [if_pos rfl, mv_b hab]
    exact (tI_ne (n := (a : Int)) ⟨by omega, by omega⟩).trans (by rw [Int.toNat_natCast])
  · rw [if_neg h, mv_toB hn.1 h]; exact tI_ne hn
theorem rn_jn {g : Grf} (w : Wf g) {a b : Nat} (t : Tk g a b) : rnm (x1G g a b) (toL b g.blks.length g.blks.length) = jn g a b := by
  have e1 : (rnm (x1G g a b) (toL b g.blks.length g.blks.length)).blks = (jn g a b).blks := by
    show rnB (toL b g.blks.length g.blks.length) (x1G g a b).blks (x1G g a b).blks.length = List.map (α := El .block) (jB a b) (jnL g.blks a b)
    have hlx : (x1G g a b).blks.length = g.blks.length := List.length_set
    rw [rnB_map (b := b) (fun i hi => by rw [hlx] at hi; rw [toL_full hi]; exact toB_neg) (Nat.le_refl _), List.take_length]
    refine List.map_congr_left fun x hx => ?_
    have hr := jn_rows w t x hx
    show (⟨x.ops, x.cond, x.next.map (tI _)⟩ : Blk) = ⟨x.ops, x.cond, x.next.map (mvI a b)⟩
    congr 1
    refine List.map_congr_left fun n hn => ?_
    obtain ⟨h1, h2⟩ := hr n hn
    exact (tI_ne h1).trans (mv_toB h1.1 h2).symm
  have e2 : (rnm (x1G g a b) (toL b g.blks.length g.blks.length)).pts = (jn g a b).pts := by
    show List.map (α := El .ints) (tP _) (List.map (α := El .ints) (rpP a b) g.pts) = List.map (α := El .ints) (jP a b) g.pts
    rw [List.map_map]
    refine List.map_congr_left fun x hx => ?_
    have hr := (w.q x hx).2
    show List.filter _ (List.map (tI _) (List.map (rpl a b) (x : List Int))) = List.map (mvI a b) (x : List Int)
    have em : List.map (tI (toL b g.blks.length g.blks.length)) (List.map (rpl a b) (x : List Int)) = List.map (mvI a b) (x : List Int) := by
      rw [List.map_map]
      exact List.map_congr_left fun n hn => rpl_tI t.ha t.ne (hr n hn)
    rw [em]
    refine List.filter_eq_self.2 fun y hy => ?_
    obtain ⟨n, hn, rfl⟩ := List.mem_map.1 hy
    exact decide_eq_true (mv_bd t.ha t.hb t.ne (hr n hn)).1
  have e3 : (rnm (x1G g a b) (toL b g.blks.length g.blks.length)).hds = (jn g a b).hds := by
    show List.filter hP (List.map (α := El .head) (tH _) g.hds) = List.map (α := El .head) (jH a b) g.hds
    have em : List.map (α := El .head) (tH (toL b g.blks.length g.blks.length)) g.hds = List.map (α := El .head) (jH a b) g.hds := by
      refine List.map_congr_left fun x hx => ?_
      have h1 := w.k x hx
      show (⟨tI _ x.block, x.max⟩ : Hd_) = ⟨mvJ a b x.block, x.max⟩
      rw [show mvJ a b x.block = tI (toL b g.blks.length g.blks.length) x.block from (mv_toB h1.1 (t.hd x hx)).trans (tI_ne h1).symm]
    rw [em]
    refine List.filter_eq_self.2 fun y hy => ?_
    obtain ⟨x, hx, rfl⟩ := List.mem_map.1 hy
    exact decide_eq_true (mv_bd t.ha t.hb t.ne (w.k x hx)).1
  show (⟨_, _, _, _, _, (rnm (x1G g a b) (toL b g.blks.length g.blks.length)).blks, (rnm (x1G g a b) (toL b g.blks.length g.blks.length)).pts, (rnm (x1G g a b) (toL b g.blks.length g.blks.length)).hds⟩ : Grf) = _
  rw [e1, e2, e3]
  rfl
theorem one_mv {g : Grf} {a b : Nat} (t : Tk g a b) {n : Int} (hn : 0 ≤ n ∧ n < g.blks.length) : (gt (c := .int) (oneT g a b) n.toNat : Int) = mvJ a b n := by
  unfold oneT
  by_cases h : n = b
  · subst h
    rw [Int.toNat_natCast, gt_set (c := .int) (by rw [toL_len (Nat.le_refl _)]; exact t.hb), mv_b t.ne]
  · rw [gt_set_ne (c := .int) (by omega), toL_full (by omega), mv_toB hn.1 h]
theorem one_len {g : Grf} {a b : Nat} : (oneT g a b).length = g.blks.length := by unfold oneT; rw [List.length_set, toL_len (Nat.le_refl _)]
theorem jn_len {g : Grf} {a b : Nat} (h : b < g.blks.length) : (jn g a b).blks.length = g.blks.length - 1 := by
  show (List.map (α := El .block) (jB a b) (jnL g.blks a b)).length = _
  rw [List.length_map]; exact jnL_len h
theorem jn_wf {g : Grf} (w : Wf g) {a b : Nat} (t : Tk g a b) : Wf (jn g a b) := by
  have hl := jn_len (a := a) t.hb
  have h2 : 2 ≤ g.blks.length := by have := t.ha; have := t.hb; have := t.ne; omega
  refine ⟨w.i, w.a, by rw [hl]; have := w.b; omega, by show (List.map _ g.pts).length ≤ _; rw [List.length_map]; exact w.p, by show (List.map _ g.hds).length ≤ _; rw [List.length_map]; exact w.h, ?_, fun x hx => ?_, fun x hx => ?_, fun x hx => ?_⟩
  · show osum (List.map (α := El .block) (jB a b) (jnL g.blks a b)) ≤ 600
    rw [osum_map, osum_jn t.ha t.hb t.ne]; exact w.s
  · rw [hl]
    obtain ⟨y, hy, rfl⟩ := List.mem_map.1 hx
    obtain ⟨i, hi, hib, hyi⟩ := drop_at hy
    refine ⟨?_, fun n hn => ?_⟩
    · show (List.map (mvI a b) y.next).length ≤ 2
      rw [List.length_map]
      rw [List.length_set] at hi
      by_cases e : i = a
      · subst e; rw [gt_set (c := .block) hi] at hyi; subst hyi; exact (w.n _ (mem_gt (c := .block) t.hb)).1
      · rw [gt_set_ne (c := .block) e] at hyi; subst hyi; exact (w.n _ (mem_gt (c := .block) hi)).1
    · obtain ⟨m, hm, rfl⟩ := List.mem_map.1 hn
      exact mv_bd t.ha t.hb t.ne (jn_rows w t y hy m hm).1
  · rw [hl]
    obtain ⟨y, hy, rfl⟩ := List.mem_map.1 hx
    refine ⟨by show (List.map (mvI a b) (y : List Int)).length ≤ _; rw [List.length_map]; exact (w.q y hy).1, fun n hn => ?_⟩
    obtain ⟨m, hm, rfl⟩ := List.mem_map.1 hn
    exact mv_bd t.ha t.hb t.ne ((w.q y hy).2 m hm)
  · rw [hl]
    obtain ⟨y, hy, rfl⟩ := List.mem_map.1 hx
    exact mv_bd t.ha t.hb t.ne (w.k y hy)
theorem x1_bnd {g : Grf} (w : Wf g) {a b : Nat} (t : Tk g a b) : Bnd (x1G g a b) := by
  have hs := osum_set (l := g.blks) (x := ⟨(gt (c := .block) g.blks a).ops ++ (gt (c := .block) g.blks b).ops, (gt (c := .block) g.blks b).cond, (gt (c := .block) g.blks b).next⟩) t.ha
  simp only [List.length_append] at hs
  have hb := osum_mem (mem_gt (c := .block) t.hb)
  have hs0 := w.s
  have hos : osum (x1G g a b).blks ≤ 1200 := by show osum (g.blks.set a _) ≤ 1200; omega
  refine ⟨w.i, w.a, by show (g.blks.set a _).length ≤ _; rw [List.length_set]; have := w.b; omega, by show (List.map _ g.pts).length ≤ _; rw [List.length_map]; exact w.p, w.h, by rw [opsN_sum]; omega, fun x hx => by have := osum_mem hx; omega, fun x hx => ?_, fun x hx => ?_⟩
  · rcases List.mem_or_eq_of_mem_set hx with h | rfl
    · have := (w.n x h).1; omega
    · have := (w.n _ (mem_gt (c := .block) t.hb)).1; show (gt (c := .block) g.blks b).next.length ≤ _; omega
  · obtain ⟨y, hy, rfl⟩ := List.mem_map.1 hx
    show (List.map (rpl a b) (y : List Int)).length ≤ _
    rw [List.length_map]; exact (w.q y hy).1
theorem x1_next {g : Grf} (w : Wf g) {a b : Nat} (t : Tk g a b) : ∀ x ∈ (x1G g a b).blks, ∀ n ∈ x.next, 0 ≤ n ∧ n < g.blks.length := by
  intro x hx n hn
  rcases List.mem_or_eq_of_mem_set hx with h | rfl
  · exact (w.n x h).2 n hn
  · exact (w.n _ (mem_gt (c := .block) t.hb)).2 n hn
theorem x1_pts {g : Grf} (w : Wf g) {a b : Nat} (t : Tk g a b) : ∀ x ∈ (x1G g a b).pts, ∀ n ∈ x, 0 ≤ n ∧ n < g.blks.length := by
  intro x hx n hn
  obtain ⟨y, hy, rfl⟩ := List.mem_map.1 hx
  obtain ⟨m, hm, rfl⟩ := List.mem_map.1 hn
  show 0 ≤ rpl a b m ∧ rpl a b m < (g.blks.length : Int)
  unfold rpl
  have := (w.q y hy).2 m hm
  have ha := t.ha
  split
  · exact ⟨(by show (0 : Int) ≤ (a : Int); omega), (by show (a : Int) < (g.blks.length : Int); omega)⟩
  · exact this

/-! ### The whole -/
/-- The graph in which no block takes another one, and where each block is. -/
def mrgF : Nat → Grf → Nat → List Int → Grf × List Int
  | 0, g, _, m => (g, m)
  | f + 1, g, a, m => if a < g.blks.length then (if tkB g (befG g.blks) a = true then mrgF f (jn g a (nxt g a).toNat) 0 (m.map (mvJ a (nxt g a))) else mrgF f g (a + 1) m) else (g, m)
theorem mrg_end {f : Nat} {g : Grf} {a : Nat} {m : List Int} (h : ¬ a < g.blks.length) : mrgF f g a m = (g, m) := by
  cases f with
  | zero => rfl
  | succ f => exact if_neg h
theorem mrg_join {f : Nat} {g : Grf} {a : Nat} {m : List Int} (h : a < g.blks.length) (ht : tkB g (befG g.blks) a = true) : mrgF (f + 1) g a m = mrgF f (jn g a (nxt g a).toNat) 0 (m.map (mvJ a (nxt g a))) := by
  show (if _ then (if _ then _ else _) else _) = _
  rw [if_pos h, if_pos ht]
theorem mrg_next {f : Nat} {g : Grf} {a : Nat} {m : List Int} (h : a < g.blks.length) (ht : tkB g (befG g.blks) a = false) : mrgF (f + 1) g a m = mrgF f g (a + 1) m := by
  show (if _ then (if _ then _ else _) else _) = _
  rw [if_pos h, if_neg (by rw [ht]; decide)]
def idL (n : Nat) : List Int := (List.range n).map fun (i : Nat) => (i : Int)
theorem idL_rows {n : Nat} : (idL n).map (fun x => [x]) = idM n := by unfold idL idM; rw [List.map_map]; rfl
theorem idL_len {n : Nat} : (idL n).length = n := by unfold idL; rw [List.length_map, List.length_range]
theorem idL_in {n : Nat} : ∀ x ∈ idL n, 0 ≤ x ∧ x < (n : Int) := by
  intro x hx
  obtain ⟨i, hi, rfl⟩ := List.mem_map.1 hx
  have := List.mem_range.1 hi
  omega
/-- What merging makes of a graph. -/
def mrgG (g : Grf) : Grf × List Int := mrgF (g.blks.length * 66 + 1) g 0 (idL g.blks.length)
end Go.Proofs.Ytonjbhdfimcedaa
