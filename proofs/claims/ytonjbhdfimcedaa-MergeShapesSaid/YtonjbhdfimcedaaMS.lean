/- The blocks ahead of blocks. -/
import Derived.Test.YtonjbhdfimcedaaMR
import Derived.Test.YtonjbhdfimcedaaVE
namespace Go.Proofs.Ytonjbhdfimcedaa
set_option linter.unusedVariables false
set_option linter.unusedSimpArgs false
open Go.RowKit
theorem toNat_lt1 {n : Int} {m : Nat} (h : 0 ≤ n ∧ n ≤ (m : Int) - 1) : n.toNat < m := by omega
theorem toNat_lt2 {n : Int} {m : Nat} (h : 0 ≤ n ∧ n < (m : Int)) : n.toNat < m := by omega
/-- A block is noted among those ahead of another one. -/
def befN (out : List (List Int)) (i n : Int) : List (List Int) := if 0 ≤ n ∧ n < out.length ∧ hasB (gt (c := .ints) out n.toNat) i = false then out.set n.toNat ((gt (c := .ints) out n.toNat : List Int) ++ [i]) else out
def befK (l : List Int) (i : Int) (out : List (List Int)) : Nat → List (List Int)
  | 0 => out
  | k + 1 => befN (befK l i out k) i (gt (c := .int) l k)
/-- The blocks ahead of each block, the first n being looked at. -/
def befI (l : List Blk) : Nat → List (List Int)
  | 0 => List.replicate l.length []
  | i + 1 => befK (gt (c := .block) l i).next (i : Int) (befI l i) (gt (c := .block) l i).next.length
theorem befN_y {out : List (List Int)} {i n : Int} (h1 : 0 ≤ n) (h2 : n < out.length) (h3 : hasB (gt (c := .ints) out n.toNat) i = false) : befN out i n = out.set n.toNat ((gt (c := .ints) out n.toNat : List Int) ++ [i]) := if_pos ⟨h1, h2, h3⟩
theorem befN_n1 {out : List (List Int)} {i n : Int} (h : ¬ (0 ≤ n ∧ n < out.length)) : befN out i n = out := if_neg fun q => h ⟨q.1, q.2.1⟩
theorem befN_n2 {out : List (List Int)} {i n : Int} (h : hasB (gt (c := .ints) out n.toNat) i = true) : befN out i n = out := if_neg fun q => by rw [h] at q; exact Bool.noConfusion q.2.2
theorem befN_len {out : List (List Int)} {i n : Int} : (befN out i n).length = out.length := by
  unfold befN; split <;> simp
theorem befK_len {l : List Int} {i : Int} {out : List (List Int)} : ∀ {k : Nat}, (befK l i out k).length = out.length
  | 0 => rfl
  | k + 1 => by show (befN _ _ _).length = _; rw [befN_len, befK_len]
theorem befI_len {l : List Blk} : ∀ {i : Nat}, (befI l i).length = l.length
  | 0 => List.length_replicate
  | i + 1 => by show (befK _ _ _ _).length = _; rw [befK_len, befI_len]
theorem befK_zero {l : List Int} {i : Int} {out : List (List Int)} : befK l i out 0 = out := rfl
theorem befK_succ {l : List Int} {i : Int} {out : List (List Int)} {k : Nat} : befK l i out (k + 1) = befN (befK l i out k) i (gt (c := .int) l k) := rfl
theorem befI_zero {l : List Blk} : befI l 0 = List.replicate l.length [] := rfl
theorem befI_succ {l : List Blk} {i : Nat} : befI l (i + 1) = befK (gt (c := .block) l i).next (i : Int) (befI l i) (gt (c := .block) l i).next.length := rfl
def BefQ (out : List (List Int)) (i : Nat) : Prop := ∀ m, m < out.length → (gt (c := .ints) out m : List Int).length ≤ i ∨ (hasB (gt (c := .ints) out m) (i : Int) = true ∧ (gt (c := .ints) out m : List Int).length ≤ i + 1)
theorem has_snoc {l : List Int} {n : Int} : hasB (l ++ [n]) n = true := by unfold hasB; rw [List.any_append]; simp [eqB]
theorem befN_Q {out : List (List Int)} {i : Nat} {n : Int} (h : BefQ out i) : BefQ (befN out i n) i := by
  by_cases hc : 0 ≤ n ∧ n < out.length ∧ hasB (gt (c := .ints) out n.toNat) (i : Int) = false
  · obtain ⟨h1, h2, h3⟩ := hc
    rw [befN_y h1 h2 h3]
    intro m hm
    rw [List.length_set] at hm
    by_cases e : m = n.toNat
    · subst e
      rw [gt_set (c := .ints) hm]
      right
      refine ⟨has_snoc, ?_⟩
      rcases h _ hm with g | ⟨g, _⟩
      · show List.length ((gt (c := .ints) out n.toNat : List Int) ++ [(i : Int)]) ≤ _
        rw [List.length_append]; exact Nat.succ_le_succ g
      · rw [g] at h3; cases h3
    · have e2 : gt (c := .ints) (out.set n.toNat ((gt (c := .ints) out n.toNat : List Int) ++ [(i : Int)])) m = gt (c := .ints) out m := by
        unfold gt; simp only [List.getD_eq_getElem?_getD, List.getElem?_set_ne (Ne.symm e)]
      rw [e2]; exact h m hm
  · rw [show befN out i n = out from if_neg hc]; exact h
theorem befK_Q {l : List Int} {i : Nat} {out : List (List Int)} (h : BefQ out i) : ∀ {k : Nat}, BefQ (befK l i out k) i
  | 0 => h
  | k + 1 => befN_Q (befK_Q h)
theorem BefQ.up {out : List (List Int)} {i : Nat} (h : BefQ out i) : ∀ m, m < out.length → (gt (c := .ints) out m : List Int).length ≤ i + 1 := fun m hm => by
  rcases h m hm with g | ⟨_, g⟩
  · exact Nat.le_succ_of_le g
  · exact g
theorem befI_Q {l : List Blk} : ∀ {i : Nat}, BefQ (befI l i) i
  | 0 => fun m hm => by
    left
    rw [befI_zero] at hm ⊢
    rw [List.length_replicate] at hm
    rw [gt_eq (c := .ints) (List.getElem?_eq_getElem (by rw [List.length_replicate]; exact hm)), List.getElem_replicate]
    exact Nat.le_refl _
  | i + 1 => fun m hm => .inl (by
    have h := (befK_Q (l := (gt (c := .block) l i).next) (befI_Q (l := l) (i := i)) (k := (gt (c := .block) l i).next.length)).up
    rw [befI_succ] at hm ⊢
    exact h m hm)
theorem befI_bd {l : List Blk} : ∀ {i : Nat} (m : Nat), m < (befI l i).length → (gt (c := .ints) (befI l i) m : List Int).length ≤ i
  | 0, m, hm => by
    rw [befI_zero] at hm ⊢
    rw [List.length_replicate] at hm
    rw [gt_eq (c := .ints) (List.getElem?_eq_getElem (by rw [List.length_replicate]; exact hm)), List.getElem_replicate]
    exact Nat.le_refl _
  | i + 1, m, hm => by
    have h := (befK_Q (l := (gt (c := .block) l i).next) (befI_Q (l := l) (i := i)) (k := (gt (c := .block) l i).next.length)).up
    rw [befI_succ] at hm ⊢
    exact h m hm
def befG (l : List Blk) : List (List Int) := befI l l.length
theorem befG_len {l : List Blk} : (befG l).length = l.length := befI_len
theorem befG_in {l : List Blk} {x : List Int} (h : x ∈ befG l) : x.length ≤ l.length := by
  obtain ⟨m, hm, rfl⟩ := List.mem_iff_getElem.1 h
  have q : (gt (c := .ints) (befG l) m : List Int).length ≤ l.length := by
    exact befI_bd m hm
  rw [gt_eq (c := .ints) (List.getElem?_eq_getElem hm)] at q
  exact q
attribute [local irreducible] hasB befN befK befI
set_option maxHeartbeats 1000000 in
theorem c_idxI (xs : List Int) (n : Int) (hl : xs.length ≤ 1048576) : Trip Try.prog 120 [.sl ⟨0, []⟩, .int .i64 n] ⟨[], [(0, .list .tmp .int xs)], 1⟩ (Z := Int) (fun z => decide ((0 : Int) ≤ z) = xs.any (eqB n)) (fun z => .int .i64 z) (fun _ => ⟨[], [(0, .list .tmp .int xs)], 1⟩) := by
  refine trip_by (rs := [_]) 400 lay_ok Try.func120 rfl (by kernel_rfl) Try.ntmps120 Try.results120 rfl rfl ?_
  repeat' (first | (((with_reducible refine g_id ?_); (conv => arg 3; whnf)); first | (with_reducible refine g_split lay_ok 400 ?_ ?_ ?_)))
  refine g_loop lay_ok 400 (Z := Nat) (fun i => i ≤ xs.length ∧ ∀ k, k < i → (eqB n) (gt (c := .int) xs k) = false) (fun i => ⟨[(0, .sl ⟨0, []⟩), (1, .int .i64 n), (6, .sl ⟨0, []⟩), (7, .int .i64 (xs.length : Int)), (8, .int .i64 (i : Int))], [(0, .list .tmp .int xs)], 1⟩) (fun i => xs.length - i) ?_ ⟨0, ⟨Nat.zero_le _, fun k hk => by omega⟩, ?_⟩ (fun i hi => ?_)
  · repeat' (first | ((with_reducible refine o_id ?_); (conv => arg 1; whnf); first | (with_reducible exact o_nil)))
  · ((with_reducible refine s_id ?_); (conv => arg 1; whnf); (with_reducible refine s_some ?_); repeat' (first | ((with_reducible refine o_id ?_); (conv => arg 1; whnf); first | (with_reducible exact o_nil) | (with_reducible refine o_cons ?_ ?_)) | rfl))
  obtain ⟨hi, hn⟩ := hi
  repeat' (first | (((with_reducible refine g_id ?_); (conv => arg 3; whnf)); first | (with_reducible refine g_cond lay_ok 400 ?_ ?_ ?_) | (with_reducible refine g_fin ?_ ?_)) | (with_reducible refine q_leave lay_ok 400 ?_) | (with_reducible refine q_ret lay_ok 400 ?_) | (with_reducible exact o_nil) | ((with_reducible refine o_id ?_); (conv => arg 1; whnf); first | (with_reducible exact o_nil) | (with_reducible refine o_cons ?_ ?_)) | (intro h; ((try simp only [Int.toNat_natCast] at h); repeat (first | replace h := of_decide_eq_true h | replace h := of_decide_eq_false h)); (try (first | contradiction))) | omega)
  all_goals first | (refine q_round ⟨i + 1, ⟨by omega, gt_next (c := .int) hn (eq_f (fun q => h q.symm))⟩, by omega, ?_⟩; ((with_reducible refine s_id ?_); (conv => arg 1; whnf); (with_reducible refine s_some ?_); repeat' (first | ((with_reducible refine o_id ?_); (conv => arg 1; whnf); first | (with_reducible exact o_nil) | (with_reducible refine o_cons ?_ ?_)) | rfl))) | (((with_reducible refine e_id ?_); (conv => whnf)); refine ⟨(i : Int), found_gt (c := .int) (by omega) (eq_t h.symm), ?_⟩; ((with_reducible refine s_id ?_); (conv => arg 1; whnf); (with_reducible refine s_some ?_); repeat' (first | ((with_reducible refine o_id ?_); (conv => arg 1; whnf); first | (with_reducible exact o_nil) | (with_reducible refine o_cons ?_ ?_)) | rfl))) | (((with_reducible refine e_id ?_); (conv => whnf)); refine ⟨-1, none_gt (c := .int) hn (by omega), ?_⟩; ((with_reducible refine s_id ?_); (conv => arg 1; whnf); (with_reducible refine s_some ?_); repeat' (first | ((with_reducible refine o_id ?_); (conv => arg 1; whnf); first | (with_reducible exact o_nil) | (with_reducible refine o_cons ?_ ?_)) | rfl)))
theorem any_has {l : List Int} {n : Int} : hasB l n = l.any (eqB n) := by unfold hasB; rfl
set_option maxHeartbeats 1000000 in
theorem c_cont (xs : List Int) (n : Int) (hl : xs.length ≤ 1048576) : Trip Try.prog 106 [.sl ⟨0, []⟩, .int .i64 n] ⟨[], [(0, .list .tmp .int xs)], 1⟩ (Z := Unit) (fun _ => True) (fun _ => .bool (hasB xs n)) (fun _ => ⟨[], [(0, .list .tmp .int xs)], 1⟩) := by
  rw [any_has]
  refine trip_by (rs := [_]) 400 lay_ok Try.func106 rfl (by kernel_rfl) Try.ntmps106 Try.results106 rfl rfl ?_
  repeat' (first | (((with_reducible refine g_id ?_); (conv => arg 3; whnf)); first | (with_reducible refine g_fin ?_ ?_) | (refine g_call lay_ok 400 ?_ ?_ ?_ (c_idxI ?_ ?_ ?_) rfl)) | ((with_reducible refine o_id ?_); (conv => arg 1; whnf); first | (with_reducible exact o_nil) | (with_reducible refine o_cons ?_ ?_)) | (intro h; ((try simp only [Int.toNat_natCast] at h); repeat (first | replace h := of_decide_eq_true h)); (try (first | contradiction))) | rfl | omega)
  all_goals ((((with_reducible refine e_id ?_); (conv => whnf)); refine ⟨(), trivial, ?_⟩; ((with_reducible refine s_id ?_); (conv => arg 1; whnf); (with_reducible refine s_some ?_); repeat' (first | ((with_reducible refine o_id ?_); (conv => arg 1; whnf); first | (with_reducible exact o_nil) | (with_reducible refine o_cons ?_ ?_)) | rfl))); exact h.symm)
set_option maxHeartbeats 4000000 in
theorem c_bef (g : Grf) (hB : Bnd g) : Trip Try.prog 78 [.agg [.sl ⟨0, []⟩, .int .i64 g.vars, .int .i64 g.keep, .sl ⟨1, []⟩, .int .i64 g.shared, .sl ⟨2, []⟩, .sl ⟨3, []⟩, .sl ⟨4, []⟩]] ⟨[], [(0, .list .tmp .input g.inp), (1, .list .tmp .array g.arrs), (2, .list .tmp .block g.blks), (3, .list .tmp .ints g.pts), (4, .list .tmp .head g.hds)], 5⟩ (Z := Unit) (fun _ => True) (fun _ => .sl ⟨5, []⟩) (fun _ => ⟨[], [(0, .list .tmp .input g.inp), (1, .list .tmp .array g.arrs), (2, .list .tmp .block g.blks), (3, .list .tmp .ints g.pts), (4, .list .tmp .head g.hds), (5, .list .own .ints (befG g.blks))], 6⟩) := by
  obtain ⟨h1, h2, h3, h4, h5, h6, h7, h8, h9⟩ := hB
  refine trip_by (rs := [_]) 400 lay_ok Try.func78 rfl (by kernel_rfl) Try.ntmps78 Try.results78 rfl rfl ?_
  repeat' (first | (((with_reducible refine g_id ?_); (conv => arg 3; whnf)); first | (with_reducible refine g_split lay_ok 400 ?_ ?_ ?_)))
  refine g_loop lay_ok 400 (Z := Nat) (fun z => z ≤ g.blks.length) (fun z => ⟨[(1, .ptr 5 0), (3, .sl ⟨6, []⟩), (13, .sl ⟨2, []⟩), (14, .int .i64 (g.blks.length : Int)), (15, .int .i64 (z : Int))], [(0, .list .tmp .input g.inp), (1, .list .tmp .array g.arrs), (2, .list .tmp .block g.blks), (3, .list .tmp .ints g.pts), (4, .list .tmp .head g.hds), (5, .cells [.sl ⟨0, []⟩, .int .i64 g.vars, .int .i64 g.keep, .sl ⟨1, []⟩, .int .i64 g.shared, .sl ⟨2, []⟩, .sl ⟨3, []⟩, .sl ⟨4, []⟩]), (6, .list .own .ints (befI g.blks z))], 7⟩) (fun z => g.blks.length - z) ?_ ⟨0, Nat.zero_le _, ?_⟩ (fun i hi => ?_)
  · repeat' (first | ((with_reducible refine o_id ?_); (conv => arg 1; whnf); first | (with_reducible exact o_nil) | (with_reducible refine o_cons ?_ ?_)) | rfl | omega)
  · ((with_reducible refine s_id ?_); (conv => arg 1; whnf); (with_reducible refine s_some ?_); repeat' (first | ((with_reducible refine o_id ?_); (conv => arg 1; whnf); first | (with_reducible exact o_nil) | (with_reducible refine o_cons ?_ ?_)) | rfl | (exact befI_zero)))
  by_cases hlt : i < g.blks.length
  · have hn := h8 _ (mem_gt (c := .block) hlt)
    repeat' (first | (((with_reducible refine g_id ?_); (conv => arg 3; whnf)); first | (with_reducible refine g_cond lay_ok 400 ?_ ?_ ?_)) | ((with_reducible refine o_id ?_); (conv => arg 1; whnf); first | (with_reducible exact o_nil)) | (intro h; ((try simp only [Int.toNat_natCast] at h); repeat (first | replace h := of_decide_eq_true h | replace h := of_decide_eq_false h)); (try (first | (exfalso; omega)))))
    refine g_loop lay_ok 400 (Z := Nat) (fun z => z ≤ (gt (c := .block) g.blks i).next.length) (fun z => ⟨[(1, .ptr 5 0), (3, .sl ⟨6, []⟩), (4, .int .i64 (i : Int)), (13, .sl ⟨2, []⟩), (14, .int .i64 (g.blks.length : Int)), (15, .int .i64 (i : Int)), (21, .sl ⟨2, [(i, 2)]⟩), (22, .int .i64 ((gt (c := .block) g.blks i).next.length : Int)), (23, .int .i64 (z : Int))], [(0, .list .tmp .input g.inp), (1, .list .tmp .array g.arrs), (2, .list .tmp .block g.blks), (3, .list .tmp .ints g.pts), (4, .list .tmp .head g.hds), (5, .cells [.sl ⟨0, []⟩, .int .i64 g.vars, .int .i64 g.keep, .sl ⟨1, []⟩, .int .i64 g.shared, .sl ⟨2, []⟩, .sl ⟨3, []⟩, .sl ⟨4, []⟩]), (6, .list .own .ints (befK (gt (c := .block) g.blks i).next (i : Int) (befI g.blks i) z))], 7⟩) (fun z => (gt (c := .block) g.blks i).next.length - z) ?_ ⟨0, Nat.zero_le _, ?_⟩ (fun z hz => ?_)
    · repeat' (first | ((with_reducible refine o_id ?_); (conv => arg 1; whnf); first | (with_reducible exact o_nil) | (with_reducible refine o_cons ?_ ?_)) | omega)
    · ((with_reducible refine s_id ?_); (conv => arg 1; whnf); (with_reducible refine s_some ?_); repeat' (first | ((with_reducible refine o_id ?_); (conv => arg 1; whnf); first | (with_reducible exact o_nil) | (with_reducible refine o_cons ?_ ?_)) | rfl | (exact befK_zero)))
    have hlk : (befK (gt (c := .block) g.blks i).next (i : Int) (befI g.blks i) z).length = g.blks.length := by rw [befK_len, befI_len]
    have hQ := (befK_Q (l := (gt (c := .block) g.blks i).next) (befI_Q (l := g.blks) (i := i)) (k := z)).up
    by_cases hk : z < (gt (c := .block) g.blks i).next.length
    · have hbd : ((0 : Int) ≤ gt (c := .int) (gt (c := .block) g.blks i).next z ∧ gt (c := .int) (gt (c := .block) g.blks i).next z ≤ ((befK (gt (c := .block) g.blks i).next (i : Int) (befI g.blks i) z).length : Int) - 1) → (gt (c := .ints) (befK (gt (c := .block) g.blks i).next (i : Int) (befI g.blks i) z) (Int.toNat (gt (c := .int) (gt (c := .block) g.blks i).next z)) : List Int).length ≤ i + 1 := fun q => hQ _ (toNat_lt1 q)
      repeat' (first | (((with_reducible refine g_id ?_); (conv => arg 3; whnf)); first | (with_reducible refine g_split lay_ok 400 ?_ ?_ ?_) | (with_reducible refine g_cond lay_ok 400 ?_ ?_ ?_) | (with_reducible refine g_fin ?_ ?_) | (refine g_call lay_ok 400 ?_ ?_ ?_ (c_between ?_ ?_ ?_) rfl) | (refine g_call lay_ok 400 ?_ ?_ ?_ (c_cont ?_ ?_ ?_) rfl) | (refine g_appN lay_ok 400 ?_ rfl ?_ ?_)) | (with_reducible refine o_cons ?_ ?_) | ((with_reducible refine o_id ?_); (conv => arg 1; whnf); first | (with_reducible exact o_nil) | (with_reducible refine o_cons ?_ ?_)) | (intro h; ((try simp only [Int.toNat_natCast] at h); repeat (first | replace h := of_decide_eq_true h | replace h := of_decide_eq_false h | replace h := not_t h | replace h := not_f h)); (try (first | (exfalso; omega)))) | rfl | omega | (simp only [Int.toNat_natCast]; omega) | (refine Nat.le_trans (hbd (by assumption)) ?_; omega) | (have q := hbd (by assumption); simp only [List.length_cons, List.length_nil, Int.toNat_natCast]; omega))
      all_goals (refine q_round ⟨z + 1, by omega, by omega, ?_⟩; ((with_reducible refine s_id ?_); (conv => arg 1; whnf); (with_reducible refine s_some ?_); repeat' (first | ((with_reducible refine o_id ?_); (conv => arg 1; whnf); first | (with_reducible exact o_nil) | (with_reducible refine o_cons ?_ ?_)) | rfl | (rw [befK_succ, befN_y (by omega) (by rw [hlk]; omega) (by assumption)]) | (rw [befK_succ, befN_n1 (by rw [hlk]; omega)]) | (rw [befK_succ, befN_n2 (by assumption)]))))
    · have e : z = (gt (c := .block) g.blks i).next.length := by omega
      repeat' (first | (((with_reducible refine g_id ?_); (conv => arg 3; whnf)); first | (with_reducible refine g_cond lay_ok 400 ?_ ?_ ?_) | (with_reducible refine g_fin ?_ ?_)) | (with_reducible refine q_leave lay_ok 400 ?_) | (with_reducible exact o_nil) | ((with_reducible refine o_id ?_); (conv => arg 1; whnf); first | (with_reducible exact o_nil) | (with_reducible refine o_cons ?_ ?_)) | (intro h; ((try simp only [Int.toNat_natCast] at h); repeat (first | replace h := of_decide_eq_true h | replace h := of_decide_eq_false h)); (try (first | (exfalso; omega)))) | omega)
      all_goals (refine q_round ⟨i + 1, by omega, by omega, ?_⟩; ((with_reducible refine s_id ?_); (conv => arg 1; whnf); (with_reducible refine s_some ?_); repeat' (first | ((with_reducible refine o_id ?_); (conv => arg 1; whnf); first | (with_reducible exact o_nil) | (with_reducible refine o_cons ?_ ?_)) | rfl | (rw [befI_succ, ← e]))))
  · have e : i = g.blks.length := by omega
    subst e
    repeat' (first | (((with_reducible refine g_id ?_); (conv => arg 3; whnf)); first | (with_reducible refine g_cond lay_ok 400 ?_ ?_ ?_) | (with_reducible refine g_fin ?_ ?_)) | (with_reducible refine q_leave lay_ok 400 ?_) | (with_reducible exact o_nil) | ((with_reducible refine o_id ?_); (conv => arg 1; whnf); first | (with_reducible exact o_nil)) | (intro h; ((try simp only [Int.toNat_natCast] at h); repeat (first | replace h := of_decide_eq_true h | replace h := of_decide_eq_false h)); (try (first | (exfalso; omega)))))
    all_goals (((with_reducible refine e_id ?_); (conv => whnf)); refine ⟨(), trivial, ?_⟩; ((with_reducible refine s_id ?_); (conv => arg 1; whnf); (with_reducible refine s_some ?_); repeat' (first | ((with_reducible refine o_id ?_); (conv => arg 1; whnf); first | (with_reducible exact o_nil) | (with_reducible refine o_cons ?_ ?_)) | rfl)))
set_option maxHeartbeats 4000000 in
theorem r_bef (g : Grf) (hB : Bnd g) : Trip Try.prog 81 [.agg [.sl ⟨0, []⟩, .int .i64 g.vars, .int .i64 g.keep, .sl ⟨1, []⟩, .int .i64 g.shared, .sl ⟨2, []⟩, .sl ⟨3, []⟩, .sl ⟨4, []⟩]] ⟨[], [(0, .list .tmp .input g.inp), (1, .list .tmp .array g.arrs), (2, .list .tmp .block g.blks), (3, .list .tmp .ints g.pts), (4, .list .tmp .head g.hds)], 5⟩ (Z := Unit) (fun _ => True) (fun _ => .sl ⟨5, []⟩) (fun _ => ⟨[], [(0, .list .tmp .input g.inp), (1, .list .tmp .array g.arrs), (2, .list .tmp .block g.blks), (3, .list .tmp .ints g.pts), (4, .list .tmp .head g.hds), (5, .list .own .ints (befG g.blks))], 6⟩) := by
  obtain ⟨h1, h2, h3, h4, h5, h6, h7, h8, h9⟩ := hB
  refine trip_by (rs := [_]) 400 lay_ok Try.func81 rfl (by kernel_rfl) Try.ntmps81 Try.results81 rfl rfl ?_
  repeat' (first | (((with_reducible refine g_id ?_); (conv => arg 3; whnf)); first | (with_reducible refine g_split lay_ok 400 ?_ ?_ ?_)))
  refine g_loop lay_ok 400 (Z := Nat) (fun z => z ≤ g.blks.length) (fun z => ⟨[(1, .ptr 5 0), (3, .sl ⟨6, []⟩), (4, .int .i64 (z : Int))], [(0, .list .tmp .input g.inp), (1, .list .tmp .array g.arrs), (2, .list .tmp .block g.blks), (3, .list .tmp .ints g.pts), (4, .list .tmp .head g.hds), (5, .cells [.sl ⟨0, []⟩, .int .i64 g.vars, .int .i64 g.keep, .sl ⟨1, []⟩, .int .i64 g.shared, .sl ⟨2, []⟩, .sl ⟨3, []⟩, .sl ⟨4, []⟩]), (6, .list .own .ints (befI g.blks z))], 7⟩) (fun z => g.blks.length - z) ?_ ⟨0, Nat.zero_le _, ?_⟩ (fun i hi => ?_)
  · repeat' (first | ((with_reducible refine o_id ?_); (conv => arg 1; whnf); first | (with_reducible exact o_nil) | (with_reducible refine o_cons ?_ ?_)) | rfl | omega)
  · ((with_reducible refine s_id ?_); (conv => arg 1; whnf); (with_reducible refine s_some ?_); repeat' (first | ((with_reducible refine o_id ?_); (conv => arg 1; whnf); first | (with_reducible exact o_nil) | (with_reducible refine o_cons ?_ ?_)) | rfl | (exact befI_zero)))
  by_cases hlt : i < g.blks.length
  · have hn := h8 _ (mem_gt (c := .block) hlt)
    repeat' (first | (((with_reducible refine g_id ?_); (conv => arg 3; whnf)); first | (with_reducible refine g_cond lay_ok 400 ?_ ?_ ?_)) | ((with_reducible refine o_id ?_); (conv => arg 1; whnf); first | (with_reducible exact o_nil)) | (intro h; ((try simp only [Int.toNat_natCast] at h); repeat (first | replace h := of_decide_eq_true h | replace h := of_decide_eq_false h)); (try (first | (exfalso; omega)))))
    refine g_loop lay_ok 400 (Z := Nat) (fun z => z ≤ (gt (c := .block) g.blks i).next.length) (fun z => ⟨[(1, .ptr 5 0), (3, .sl ⟨6, []⟩), (4, .int .i64 (i : Int)), (5, .int .i64 (z : Int))], [(0, .list .tmp .input g.inp), (1, .list .tmp .array g.arrs), (2, .list .tmp .block g.blks), (3, .list .tmp .ints g.pts), (4, .list .tmp .head g.hds), (5, .cells [.sl ⟨0, []⟩, .int .i64 g.vars, .int .i64 g.keep, .sl ⟨1, []⟩, .int .i64 g.shared, .sl ⟨2, []⟩, .sl ⟨3, []⟩, .sl ⟨4, []⟩]), (6, .list .own .ints (befK (gt (c := .block) g.blks i).next (i : Int) (befI g.blks i) z))], 7⟩) (fun z => (gt (c := .block) g.blks i).next.length - z) ?_ ⟨0, Nat.zero_le _, ?_⟩ (fun z hz => ?_)
    · repeat' (first | ((with_reducible refine o_id ?_); (conv => arg 1; whnf); first | (with_reducible exact o_nil)))
    · ((with_reducible refine s_id ?_); (conv => arg 1; whnf); (with_reducible refine s_some ?_); repeat' (first | ((with_reducible refine o_id ?_); (conv => arg 1; whnf); first | (with_reducible exact o_nil) | (with_reducible refine o_cons ?_ ?_)) | rfl | (exact befK_zero)))
    have hlk : (befK (gt (c := .block) g.blks i).next (i : Int) (befI g.blks i) z).length = g.blks.length := by rw [befK_len, befI_len]
    have hQ := (befK_Q (l := (gt (c := .block) g.blks i).next) (befI_Q (l := g.blks) (i := i)) (k := z)).up
    by_cases hk : z < (gt (c := .block) g.blks i).next.length
    · have hbd : ((0 : Int) ≤ gt (c := .int) (gt (c := .block) g.blks i).next z ∧ (gt (c := .int) (gt (c := .block) g.blks i).next z : Int) < ((befK (gt (c := .block) g.blks i).next (i : Int) (befI g.blks i) z).length : Int)) → (gt (c := .ints) (befK (gt (c := .block) g.blks i).next (i : Int) (befI g.blks i) z) (Int.toNat (gt (c := .int) (gt (c := .block) g.blks i).next z)) : List Int).length ≤ i + 1 := fun q => hQ _ (toNat_lt2 q)
      repeat' (first | (((with_reducible refine g_id ?_); (conv => arg 3; whnf)); first | (with_reducible refine g_split lay_ok 400 ?_ ?_ ?_) | (with_reducible refine g_cond lay_ok 400 ?_ ?_ ?_) | (with_reducible refine g_fin ?_ ?_) | (refine g_call lay_ok 400 ?_ ?_ ?_ (r_in ?_ ?_) rfl) | (refine g_call lay_ok 400 ?_ ?_ ?_ (r_has ?_ ?_ ?_) rfl) | (refine g_appN lay_ok 400 ?_ rfl ?_ ?_)) | (with_reducible refine o_cons ?_ ?_) | ((with_reducible refine o_id ?_); (conv => arg 1; whnf); first | (with_reducible exact o_nil) | (with_reducible refine o_cons ?_ ?_)) | (intro h; ((try simp only [Int.toNat_natCast] at h); repeat (first | replace h := of_decide_eq_true h | replace h := of_decide_eq_false h | replace h := not_t h | replace h := not_f h)); (try (first | (exfalso; omega)))) | rfl | omega | assumption | (simp only [Int.toNat_natCast]; omega) | (refine Nat.le_trans (hbd (by assumption)) ?_; omega) | (have q := hbd (by assumption); simp only [List.length_cons, List.length_nil, Int.toNat_natCast]; omega))
      all_goals (refine q_round ⟨z + 1, by omega, by omega, ?_⟩; ((with_reducible refine s_id ?_); (conv => arg 1; whnf); (with_reducible refine s_some ?_); repeat' (first | ((with_reducible refine o_id ?_); (conv => arg 1; whnf); first | (with_reducible exact o_nil) | (with_reducible refine o_cons ?_ ?_)) | rfl | (rw [befK_succ, befN_y (by omega) (by rw [hlk]; omega) (by assumption)]) | (rw [befK_succ, befN_n1 (by rw [hlk]; omega)]) | (rw [befK_succ, befN_n2 (by assumption)]))))
    · have e : z = (gt (c := .block) g.blks i).next.length := by omega
      repeat' (first | (((with_reducible refine g_id ?_); (conv => arg 3; whnf)); first | (with_reducible refine g_cond lay_ok 400 ?_ ?_ ?_) | (with_reducible refine g_fin ?_ ?_)) | (with_reducible refine q_leave lay_ok 400 ?_) | (with_reducible exact o_nil) | ((with_reducible refine o_id ?_); (conv => arg 1; whnf); first | (with_reducible exact o_nil) | (with_reducible refine o_cons ?_ ?_)) | (intro h; ((try simp only [Int.toNat_natCast] at h); repeat (first | replace h := of_decide_eq_true h | replace h := of_decide_eq_false h)); (try (first | (exfalso; omega)))) | omega)
      all_goals (refine q_round ⟨i + 1, by omega, by omega, ?_⟩; ((with_reducible refine s_id ?_); (conv => arg 1; whnf); (with_reducible refine s_some ?_); repeat' (first | ((with_reducible refine o_id ?_); (conv => arg 1; whnf); first | (with_reducible exact o_nil) | (with_reducible refine o_cons ?_ ?_)) | rfl | (rw [befI_succ, ← e]))))
  · have e : i = g.blks.length := by omega
    subst e
    repeat' (first | (((with_reducible refine g_id ?_); (conv => arg 3; whnf)); first | (with_reducible refine g_cond lay_ok 400 ?_ ?_ ?_) | (with_reducible refine g_fin ?_ ?_)) | (with_reducible refine q_leave lay_ok 400 ?_) | (with_reducible exact o_nil) | ((with_reducible refine o_id ?_); (conv => arg 1; whnf); first | (with_reducible exact o_nil)) | (intro h; ((try simp only [Int.toNat_natCast] at h); repeat (first | replace h := of_decide_eq_true h | replace h := of_decide_eq_false h)); (try (first | (exfalso; omega)))))
    all_goals (((with_reducible refine e_id ?_); (conv => whnf)); refine ⟨(), trivial, ?_⟩; ((with_reducible refine s_id ?_); (conv => arg 1; whnf); (with_reducible refine s_some ?_); repeat' (first | ((with_reducible refine o_id ?_); (conv => arg 1; whnf); first | (with_reducible exact o_nil) | (with_reducible refine o_cons ?_ ?_)) | rfl)))
end Go.Proofs.Ytonjbhdfimcedaa
