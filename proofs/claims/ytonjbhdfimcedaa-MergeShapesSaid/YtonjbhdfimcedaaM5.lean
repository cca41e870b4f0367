/- Merging of graphs of any shapes. -/
import Derived.Test.YtonjbhdfimcedaaM3
namespace Go.Proofs.Ytonjbhdfimcedaa
set_option linter.unusedVariables false
set_option linter.unusedSimpArgs false
open Go.RowKit
theorem o_app {l r : List Prop} (hl : AllP l) (hr : AllP r) : AllP (app l r) := AllP_app.2 ⟨hl, hr⟩
section
variable {x : Cx} {Q : Exit → St → Prop} {obs : List Prop} {K : List Kf}
/-- Ahead of a statement, a cell of a block becomes a list of the walk's own. -/
theorem g_ownD (hL : LayOk x.P x.L) (fuel k j : Nat) (c : Ty) {cd : Code} {s s' : St} {ob : List Prop} (ho : AllP obs) (hc : ownC s k j c = some (s', ob)) (ho1 : AllP ob) (hk : Good x Q (run x fuel [] (.code cd) K s')) : Good x Q (.code obs cd K s) := by
  refine ⟨ho, ?_⟩
  have h1 := (run_ok hL hk).2
  exact ⟨fun g V a w hr => by
    obtain ⟨V', hr'⟩ := (ownC_ok hc ho1).run g V a w hr
    exact h1.run g V' a w hr'⟩
end
/-- A block of a built graph. -/
def OKB (x : Blk) : Prop := x.ops.length ≤ 2 ∧ x.next.length ≤ 2
theorem okb_set {l : List Blk} {i : Nat} {y : Blk} (h : ∀ x ∈ l, OKB x) (hy : OKB y) : ∀ x ∈ l.set i y, OKB x := fun x hx => (List.mem_or_eq_of_mem_set hx).elim (h x) (fun e => e ▸ hy)
theorem okb_gt {l : List Blk} {i : Nat} (h : ∀ x ∈ l, OKB x) (hi : i < l.length) : OKB (gt (c := .block) l i) := h _ (mem_gt (c := .block) hi)
theorem okb_setN {l : List Blk} {i : Nat} {c : Int} {N : List Int} (h : ∀ x ∈ l, OKB x) (hi : i < l.length) (hN : N.length ≤ 2) : ∀ x ∈ l.set i ⟨(gt (c := .block) l i).ops, c, N⟩, OKB x := okb_set h ⟨(okb_gt h hi).1, hN⟩
theorem okb_setO {l : List Blk} {i : Nat} {c : Int} {O : List Op_} (h : ∀ x ∈ l, OKB x) (hi : i < l.length) (hO : O.length ≤ 2) : ∀ x ∈ l.set i ⟨O, c, (gt (c := .block) l i).next⟩, OKB x := okb_set h ⟨hO, (okb_gt h hi).2⟩
theorem okb_rep {n : Nat} : ∀ x ∈ List.replicate n (dflt .block), OKB x := fun x hx => by rw [List.eq_of_mem_replicate hx]; exact ⟨by decide, by decide⟩
theorem okb_osum : ∀ {l : List Blk}, (∀ x ∈ l, OKB x) → osum l ≤ 2 * l.length
  | [], _ => Nat.le_refl _
  | x :: l, h => by
    have h1 := (h x List.mem_cons_self).1
    have h2 := okb_osum (l := l) fun y hy => h y (List.mem_cons_of_mem x hy)
    show x.ops.length + osum l ≤ 2 * (l.length + 1)
    omega
theorem shp_bnd {l : List Blk} {ps : List (List Int)} {hs : List Hd_} (hn : l.length ≤ 14) (hl : ∀ x ∈ l, OKB x) (hp : ps.length ≤ 12) (hh : hs.length ≤ 1) (hq : ∀ x ∈ ps, x.length ≤ 2) : Bnd ⟨[], 2, 1, [], 0, l, ps, hs⟩ := by
  have ho := okb_osum hl
  exact ⟨Nat.zero_le _, Nat.zero_le _, by dsimp only; omega, by dsimp only; omega, by dsimp only; omega, by dsimp only; rw [opsN_sum]; omega, fun x hx => Nat.le_trans (hl x hx).1 (by decide), fun x hx => Nat.le_trans (hl x hx).2 (by decide), fun x hx => Nat.le_trans (hq x hx) (by decide)⟩
theorem pts_app {ps : List (List Int)} {r : List Int} (h : ∀ x ∈ ps, x.length ≤ 2) (hr : r.length ≤ 2) : ∀ x ∈ ps ++ [r], x.length ≤ 2 := fun x hx => (List.mem_append.1 hx).elim (h x) (fun e => by rw [List.mem_singleton.1 e]; exact hr)
theorem tdiv2 {k : Nat} : (((k : Nat) : Int).tdiv 2) = ((k / 2 : Nat) : Int) := (Int.ofNat_tdiv k 2).symm
theorem tdiv16 {k : Int} (h : 0 ≤ k ∧ k ≤ 255) : 0 ≤ k.tdiv 16 ∧ k.tdiv 16 ≤ 255 := by
  rw [Int.tdiv_eq_ediv_of_nonneg h.1]; omega
theorem tdiv2_bd {k : Nat} : 0 ≤ (((k : Nat) : Int).tdiv 2) ∧ (((k : Nat) : Int).tdiv 2) ≤ (k : Int) := by rw [tdiv2]; omega
theorem tmod_bd {a b : Int} (ha : 0 ≤ a) (hb : 0 < b) : 0 ≤ a.tmod b ∧ a.tmod b < b := ⟨Int.tmod_nonneg b ha, Int.tmod_lt_of_pos a hb⟩
theorem gt_byte {l : List Int} (h : ∀ x ∈ l, 0 ≤ x ∧ x ≤ 255) (k : Nat) : (0 : Int) ≤ gt (c := .u8) l k ∧ (gt (c := .u8) l k : Int) ≤ 255 := by
  by_cases hk : k < l.length
  · exact h _ (mem_gt (c := .u8) hk)
  · rw [show (gt (c := .u8) l k : Int) = 0 from by unfold gt; rw [List.getD_eq_getElem?_getD, List.getElem?_eq_none (Nat.le_of_not_lt hk)]; rfl]; decide
theorem shN {k : Nat} (hk : k ≤ maxLen) : ∃ n : Nat, 2 + imin (((k : Nat) : Int).tdiv 2) 12 = (n : Int) ∧ 2 ≤ n ∧ n ≤ 14 := by
  rw [tdiv2]
  refine ⟨2 + min (k / 2) 12, ?_, by omega, by omega⟩
  unfold imin; split <;> omega
set_option maxHeartbeats 4000000 in
set_option maxRecDepth 20000 in
theorem l_mergeShapes (e o p : List Int) (he : ∀ x ∈ e, 0 ≤ x ∧ x ≤ 255) (ho : ∀ x ∈ o, 0 ≤ x ∧ x ≤ 255) (hp : ∀ x ∈ p, 0 ≤ x ∧ x ≤ 255) (le : e.length ≤ maxLen) (lo : o.length ≤ maxLen) (lp : p.length ≤ maxLen) : Trip Try.prog 8 [.sl ⟨0, []⟩, .sl ⟨1, []⟩, .sl ⟨2, []⟩] ⟨[], [(0, .list .fz .u8 e), (1, .list .fz .u8 o), (2, .list .fz .u8 p)], 3⟩ (Z := Unit) (fun _ => True) (fun _ => .bool true) (fun _ => ⟨[], [(0, .list .fz .u8 e), (1, .list .fz .u8 o), (2, .list .fz .u8 p)], 3⟩) := by
  obtain ⟨n, hN, h2, h14⟩ := shN le
  obtain ⟨d1, d2⟩ := tdiv2_bd (k := e.length)
  simp only [maxLen] at le lo lp
  refine trip_by (rs := [_]) 400 lay_ok Try.func8 rfl (by kernel_rfl) Try.ntmps8 Try.results8 rfl rfl ?_
  repeat' (first | (((with_reducible refine g_id ?_); (conv => arg 3; whnf)); first | (with_reducible refine g_split lay_ok 400 ?_ ?_ ?_)))
  ((with_reducible refine g_id ?_); (conv => arg 3; whnf))
  refine g_mid lay_ok 1 400 (Z := List Blk) (fun z => z.length = n ∧ ∀ x ∈ z, OKB x) (fun z => ⟨[(0, .sl ⟨0, []⟩), (1, .sl ⟨1, []⟩), (2, .sl ⟨2, []⟩), (7, .int .i64 (n : Int)), (8, .ptr 4 0)], [(0, .list .fz .u8 e), (1, .list .fz .u8 o), (2, .list .fz .u8 p), (3, .list .own .block z), (4, .cells [.val (.slice none 0 0), .int .i64 2, .int .i64 1, .val (.slice none 0 0), .int .i64 0, .sl ⟨3, []⟩, .val (.slice none 0 0), .val (.slice none 0 0)])], 5⟩) rfl ?_ (fun l hz => ?_)
  · refine g_loop lay_ok 400 (Z := Nat × List Blk) (fun z => z.1 + 1 ≤ n ∧ z.2.length = n ∧ ∀ x ∈ z.2, OKB x) (fun z => ⟨[(0, .sl ⟨0, []⟩), (1, .sl ⟨1, []⟩), (2, .sl ⟨2, []⟩), (7, .int .i64 (n : Int)), (8, .ptr 4 0), (9, .int .i64 (z.1 : Int))], [(0, .list .fz .u8 e), (1, .list .fz .u8 o), (2, .list .fz .u8 p), (3, .list .own .block z.2), (4, .cells [.val (.slice none 0 0), .int .i64 2, .int .i64 1, .val (.slice none 0 0), .int .i64 0, .sl ⟨3, []⟩, .val (.slice none 0 0), .val (.slice none 0 0)])], 5⟩) (fun z => n - z.1) ?_ ⟨(0, List.replicate n (dflt .block)), ⟨by dsimp only; omega, List.length_replicate, okb_rep⟩, ?_⟩ (fun z hz => ?_)
    · repeat' (first | (with_reducible exact o_nil) | (with_reducible refine o_app ?_ ?_) | (with_reducible refine o_cons ?_ ?_) | ((with_reducible refine o_id ?_); (conv => arg 1; whnf); first | (with_reducible refine o_cons ?_ ?_)) | rfl | omega)
    · ((with_reducible refine s_id ?_); (conv => arg 1; whnf); (with_reducible refine s_some ?_); repeat' (first | (with_reducible exact o_nil) | (with_reducible refine o_app ?_ ?_) | (with_reducible refine o_cons ?_ ?_) | rfl | omega | (rw [hN]; simp; done)))
    obtain ⟨i, l⟩ := z
    obtain ⟨z1, z2, z3⟩ := hz
    dsimp only at z1 z2 z3
    dsimp only
    by_cases hlt : i + 1 < n
    · obtain ⟨b1, b2⟩ := gt_byte he (Int.toNat (2 * (i : Int)))
      obtain ⟨b3, b4⟩ := gt_byte he (Int.toNat (2 * (i : Int) + 1))
      obtain ⟨b5, b6⟩ := tmod_bd b3 (show 0 < (n : Int) - 1 by omega)
      repeat' (first | (((with_reducible refine g_id ?_); (conv => arg 3; whnf)); first | (with_reducible refine g_split lay_ok 400 ?_ ?_ ?_) | (with_reducible refine g_cond lay_ok 400 ?_ ?_ ?_) | (with_reducible refine g_fin ?_ ?_) | (refine g_storeL lay_ok 400 ?_ rfl rfl ?_ ?_) | (refine g_ownT lay_ok 400 .int ?_ rfl rfl ?_ ?_) | (refine g_flow 12 lay_ok mixed_ok 400 147456 [0, 1, 0, 0, 0, 16, 48, 120, 248, 504, 0, 1024, 4088, 8184, 16376, 32767, 65535, 131071] (.q 0 (.q 1 (.q 2 (.q 3 (.q 4 (.q 5 (.q 6 (.q 7 (.q 8 (.q 9 (.q 10 (.q 11 (.q 12 (.q 13 (.e 14 [0, 1, 2] (.q 15 (.q 16 (.e 17 [] (.fin) .stop))) .stop))))))))))))))) (by kernel_rfl) ?_ ?_)) | (((with_reducible refine w_id ?_); (conv => arg 4; whnf)); first | (with_reducible refine w_fin ?_ ?_) | (with_reducible refine w_tt ?_) | (with_reducible refine w_eff lay_ok 400 ?_ rfl rfl ?_ ?_)) | (with_reducible refine q_flow ?_ ?_) | ((with_reducible refine h_id ?_); (conv => arg 1; whnf); (with_reducible refine s_some ?_)) | (with_reducible exact o_nil) | (with_reducible refine o_app ?_ ?_) | (with_reducible refine o_cons ?_ ?_) | ((with_reducible refine o_id ?_); (conv => arg 1; whnf); first | (with_reducible refine o_cons ?_ ?_)) | (intro h; ((try simp only [Int.toNat_natCast] at h); repeat (first | replace h := of_decide_eq_true h | replace h := of_decide_eq_false h | replace h := not_t h | replace h := not_f h)); (try (first | contradiction | (exfalso; omega)))) | rfl | omega | (simp only [List.length_nil, List.length_cons, List.length_append, List.length_take, List.length_set, Int.toNat_natCast, Nat.zero_add]; omega))
      all_goals first | exact Int.le_trans b4 (by decide) | (refine' q_round ⟨(i + 1, _), ?_, ?_, ?_⟩; rotate_left 3; (focus (((with_reducible refine s_id ?_); (conv => arg 1; whnf); (with_reducible refine s_some ?_); repeat' (first | (with_reducible exact o_nil) | (with_reducible refine o_app ?_ ?_) | (with_reducible refine o_cons ?_ ?_) | rfl)))); all_goals first | (dsimp only; omega) | (refine ⟨by dsimp only; omega, by simp only [List.length_set]; exact z2, ?_⟩; dsimp only; repeat' (first | exact z3 | refine okb_setN ?_ ?_ ?_ | (simp only [List.length_set, Int.toNat_natCast]; omega) | (simp; done))))
    · repeat' (first | (((with_reducible refine g_id ?_); (conv => arg 3; whnf)); first | (with_reducible refine g_cond lay_ok 400 ?_ ?_ ?_) | (with_reducible refine g_fin ?_ ?_)) | (with_reducible refine q_leave lay_ok 400 ?_) | (with_reducible exact o_nil) | (with_reducible refine o_app ?_ ?_) | (with_reducible refine o_cons ?_ ?_) | ((with_reducible refine o_id ?_); (conv => arg 1; whnf); first | (with_reducible refine o_cons ?_ ?_)) | (intro h; ((try simp only [Int.toNat_natCast] at h); repeat (first | replace h := of_decide_eq_true h | replace h := of_decide_eq_false h)); (try (first | (exfalso; omega)))) | omega)
      all_goals (refine q_round ⟨l, ⟨z2, z3⟩, ?_⟩; ((with_reducible refine s_id ?_); (conv => arg 1; whnf); (with_reducible refine s_some ?_); repeat' (first | (with_reducible exact o_nil) | (with_reducible refine o_app ?_ ?_) | (with_reducible refine o_cons ?_ ?_) | rfl)))
  obtain ⟨y2, y3⟩ := hz
  repeat' (first | (((with_reducible refine g_id ?_); (conv => arg 3; whnf)); first | (with_reducible refine g_split lay_ok 400 ?_ ?_ ?_)))
  ((with_reducible refine g_id ?_); (conv => arg 3; whnf))
  refine g_mid lay_ok 1 400 (Z := List Blk) (fun z => z.length = n ∧ ∀ x ∈ z, OKB x) (fun z => ⟨[(0, .sl ⟨0, []⟩), (1, .sl ⟨1, []⟩), (2, .sl ⟨2, []⟩), (7, .int .i64 (n : Int)), (8, .ptr 4 0)], [(0, .list .fz .u8 e), (1, .list .fz .u8 o), (2, .list .fz .u8 p), (3, .list .own .block z), (4, .cells [.val (.slice none 0 0), .int .i64 2, .int .i64 1, .val (.slice none 0 0), .int .i64 0, .sl ⟨3, []⟩, .val (.slice none 0 0), .val (.slice none 0 0)])], 5⟩) rfl ?_ (fun l hz => ?_)
  · refine g_loop lay_ok 400 (Z := Nat × List Blk) (fun z => z.1 ≤ n ∧ z.2.length = n ∧ ∀ x ∈ z.2, OKB x) (fun z => ⟨[(0, .sl ⟨0, []⟩), (1, .sl ⟨1, []⟩), (2, .sl ⟨2, []⟩), (7, .int .i64 (n : Int)), (8, .ptr 4 0), (11, .int .i64 (z.1 : Int))], [(0, .list .fz .u8 e), (1, .list .fz .u8 o), (2, .list .fz .u8 p), (3, .list .own .block z.2), (4, .cells [.val (.slice none 0 0), .int .i64 2, .int .i64 1, .val (.slice none 0 0), .int .i64 0, .sl ⟨3, []⟩, .val (.slice none 0 0), .val (.slice none 0 0)])], 5⟩) (fun z => n - z.1) ?_ ⟨(0, l), ⟨Nat.zero_le _, y2, y3⟩, ?_⟩ (fun z hz => ?_)
    · repeat' (first | (with_reducible exact o_nil) | (with_reducible refine o_app ?_ ?_))
    · ((with_reducible refine s_id ?_); (conv => arg 1; whnf); (with_reducible refine s_some ?_); repeat' (first | (with_reducible exact o_nil) | (with_reducible refine o_app ?_ ?_) | (with_reducible refine o_cons ?_ ?_) | rfl))
    clear y2 y3
    obtain ⟨i, l⟩ := z
    obtain ⟨z1, z2, z3⟩ := hz
    dsimp only at z1 z2 z3
    dsimp only
    obtain ⟨b1, b2⟩ := gt_byte ho i
    by_cases hlt : i < o.length ∧ i < n
    · repeat' (first | (((with_reducible refine g_id ?_); (conv => arg 3; whnf)); first | (with_reducible refine g_split lay_ok 400 ?_ ?_ ?_) | (with_reducible refine g_cond lay_ok 400 ?_ ?_ ?_) | (with_reducible refine g_fin ?_ ?_) | (refine g_storeL lay_ok 400 ?_ rfl rfl ?_ ?_) | (refine g_ownT lay_ok 400 .op ?_ rfl rfl ?_ ?_) | (refine g_flow 22 lay_ok mixed_ok 400 9216 [0, 1, 0, 0, 0, 24, 56, 120, 248, 0, 1016, 2047, 4095, 8191] (.q 0 (.q 1 (.q 2 (.q 3 (.q 4 (.q 5 (.q 6 (.q 7 (.q 8 (.q 9 (.e 10 [0, 1, 2] (.q 11 (.q 12 (.e 13 [] (.fin) .stop))) .stop))))))))))) (by kernel_rfl) ?_ ?_)) | (((with_reducible refine w_id ?_); (conv => arg 4; whnf)); first | (with_reducible refine w_fin ?_ ?_) | (with_reducible refine w_tt ?_) | (with_reducible refine w_eff lay_ok 400 ?_ rfl rfl ?_ ?_)) | (with_reducible refine q_flow ?_ ?_) | ((with_reducible refine h_id ?_); (conv => arg 1; whnf); (with_reducible refine s_some ?_)) | (with_reducible exact o_nil) | (with_reducible refine o_app ?_ ?_) | (with_reducible refine o_cons ?_ ?_) | ((with_reducible refine o_id ?_); (conv => arg 1; whnf); first | (with_reducible refine o_cons ?_ ?_)) | (intro h; ((try simp only [Int.toNat_natCast] at h); repeat (first | replace h := of_decide_eq_true h | replace h := of_decide_eq_false h)); (try (first | contradiction | (exfalso; omega)))) | rfl | omega | (simp only [Int.toNat_natCast]; omega))
      all_goals first | exact Int.le_trans b2 (by decide) | (refine' q_round ⟨(i + 1, _), ?_, ?_, ?_⟩; rotate_left 3; (focus (((with_reducible refine s_id ?_); (conv => arg 1; whnf); (with_reducible refine s_some ?_); repeat' (first | (with_reducible exact o_nil) | (with_reducible refine o_app ?_ ?_) | (with_reducible refine o_cons ?_ ?_) | rfl)))); all_goals first | (dsimp only; omega) | (refine ⟨by dsimp only; omega, by simp only [List.length_set]; exact z2, ?_⟩; dsimp only; repeat' (first | exact z3 | refine okb_setO ?_ ?_ ?_ | (simp only [List.length_set, Int.toNat_natCast]; omega) | (simp; done))))
    · repeat' (first | (((with_reducible refine g_id ?_); (conv => arg 3; whnf)); first | (with_reducible refine g_split lay_ok 400 ?_ ?_ ?_) | (with_reducible refine g_cond lay_ok 400 ?_ ?_ ?_) | (with_reducible refine g_fin ?_ ?_)) | (with_reducible refine q_leave lay_ok 400 ?_) | (with_reducible exact o_nil) | (with_reducible refine o_app ?_ ?_) | (intro h; ((try simp only [Int.toNat_natCast] at h); repeat (first | replace h := of_decide_eq_true h | replace h := of_decide_eq_false h)); (try (first | (exfalso; omega)))))
      all_goals (refine q_round ⟨l, ⟨z2, z3⟩, ?_⟩; ((with_reducible refine s_id ?_); (conv => arg 1; whnf); (with_reducible refine s_some ?_); repeat' (first | (with_reducible exact o_nil) | (with_reducible refine o_app ?_ ?_) | (with_reducible refine o_cons ?_ ?_) | rfl)))
  clear y2 y3
  obtain ⟨y2, y3⟩ := hz
  repeat' (first | (((with_reducible refine g_id ?_); (conv => arg 3; whnf)); first | (with_reducible refine g_split lay_ok 400 ?_ ?_ ?_)))
  ((with_reducible refine g_id ?_); (conv => arg 3; whnf))
  refine g_ownD lay_ok 400 4 6 .ints ?_ rfl ?_ ?_
  · repeat' (first | (with_reducible exact o_nil) | (with_reducible refine o_app ?_ ?_))
  · repeat' (first | (with_reducible exact o_nil))
  ((with_reducible refine g_id ?_); (conv => arg 3; whnf))
  refine g_ownD lay_ok 400 4 7 .head ?_ rfl ?_ ?_
  · repeat' (first | (with_reducible exact o_nil))
  · repeat' (first | (with_reducible exact o_nil))
  ((with_reducible refine g_id ?_); (conv => arg 3; whnf))
  refine g_mid lay_ok 1 400 (Z := List (List Int) × List Hd_) (fun z => z.1.length ≤ 12 ∧ z.2.length ≤ 1 ∧ ∀ x ∈ z.1, x.length ≤ 2) (fun z => ⟨[(8, .ptr 4 0)], [(0, .list .fz .u8 e), (1, .list .fz .u8 o), (2, .list .fz .u8 p), (3, .list .fz .block l), (4, .cells [.val (.slice none 0 0), .int .i64 2, .int .i64 1, .val (.slice none 0 0), .int .i64 0, .sl ⟨3, []⟩, .sl ⟨5, []⟩, .sl ⟨6, []⟩]), (5, .list .fz .ints z.1), (6, .list .fz .head z.2)], 7⟩) rfl ?_ (fun z hz => ?_)
  · refine g_loop lay_ok 400 (Z := Nat × List (List Int) × List Hd_) (fun z => z.1 ≤ 12 ∧ z.2.1.length = z.1 ∧ z.2.2.length ≤ 1 ∧ ∀ x ∈ z.2.1, x.length ≤ 2) (fun z => ⟨[(0, .sl ⟨0, []⟩), (1, .sl ⟨1, []⟩), (2, .sl ⟨2, []⟩), (7, .int .i64 (n : Int)), (8, .ptr 4 0), (12, .int .i64 (z.1 : Int))], [(0, .list .fz .u8 e), (1, .list .fz .u8 o), (2, .list .fz .u8 p), (3, .list .own .block l), (4, .cells [.val (.slice none 0 0), .int .i64 2, .int .i64 1, .val (.slice none 0 0), .int .i64 0, .sl ⟨3, []⟩, .sl ⟨5, []⟩, .sl ⟨6, []⟩]), (5, .list .own .ints z.2.1), (6, .list .own .head z.2.2)], 7⟩) (fun z => 12 - z.1) ?_ ⟨(0, [], []), ⟨by dsimp only; omega, rfl, Nat.zero_le _, fun x hx => absurd hx List.not_mem_nil⟩, ?_⟩ (fun z hz => ?_)
    · repeat' (first | (with_reducible exact o_nil))
    · ((with_reducible refine s_id ?_); (conv => arg 1; whnf); (with_reducible refine s_some ?_); repeat' (first | (with_reducible exact o_nil) | (with_reducible refine o_app ?_ ?_) | (with_reducible refine o_cons ?_ ?_) | rfl))
    obtain ⟨i, ps, hs⟩ := z
    obtain ⟨z1, z2, z3, z4⟩ := hz
    dsimp only at z1 z2 z3 z4
    dsimp only
    obtain ⟨b1, b2⟩ := gt_byte hp i
    obtain ⟨b3, b4⟩ := tdiv16 ⟨b1, b2⟩
    obtain ⟨b5, b6⟩ := tmod_bd b1 (show 0 < (n : Int) by omega)
    obtain ⟨b7, b8⟩ := tmod_bd b3 (show 0 < (n : Int) by omega)
    by_cases hlt : i < p.length ∧ i < 12
    · repeat' (first | (((with_reducible refine g_id ?_); (conv => arg 3; whnf)); first | (with_reducible refine g_split lay_ok 400 ?_ ?_ ?_) | (with_reducible refine g_cond lay_ok 400 ?_ ?_ ?_) | (with_reducible refine g_fin ?_ ?_) | (refine g_ownA lay_ok 400 0 .int ?_ rfl rfl rfl ?_ ?_) | (refine g_flow 26 lay_ok mixed_ok 400 0 [0, 0, 3, 7, 15, 0, 63, 0, 0, 384, 896, 1920, 3968, 0, 16256, 127, 65535] (.q 0 (.q 1 (.q 2 (.q 3 (.q 4 (.q 5 (.q 6 (.q 7 (.q 8 (.q 9 (.q 10 (.q 11 (.q 12 (.q 13 (.q 14 (.q 15 (.q 16 .fin))))))))))))))))) (by kernel_rfl) ?_ ?_)) | (((with_reducible refine w_id ?_); (conv => arg 4; whnf)); first | (with_reducible refine w_fin ?_ ?_)) | (with_reducible exact o_nil) | (with_reducible refine o_app ?_ ?_) | (with_reducible refine o_cons ?_ ?_) | ((with_reducible refine o_id ?_); (conv => arg 1; whnf); first | (with_reducible refine o_cons ?_ ?_)) | (intro h; ((try simp only [Int.toNat_natCast] at h); repeat (first | replace h := of_decide_eq_true h | replace h := of_decide_eq_false h | replace h := not_t h | replace h := not_f h)); (try (first | contradiction | (exfalso; omega)))) | omega | assumption | (simp only [List.length_append, List.length_cons, List.length_nil]; omega) | (simp only [Int.toNat_natCast]; omega))
      all_goals first | exact Int.le_trans b2 (by decide) | (refine' q_round ⟨(i + 1, _, _), ?_, ?_, ?_⟩; rotate_left 4; (focus (((with_reducible refine s_id ?_); (conv => arg 1; whnf); (with_reducible refine s_some ?_); repeat' (first | (with_reducible exact o_nil) | (with_reducible refine o_app ?_ ?_) | (with_reducible refine o_cons ?_ ?_) | rfl)))); all_goals first | (dsimp only; omega) | (refine ⟨by dsimp only; omega, by simp only [List.length_append, List.length_cons, List.length_nil]; omega, ?_, ?_⟩; dsimp only; (first | exact z3 | exact Nat.le_refl _); exact pts_app z4 (by simp)))
    · repeat' (first | (((with_reducible refine g_id ?_); (conv => arg 3; whnf)); first | (with_reducible refine g_split lay_ok 400 ?_ ?_ ?_) | (with_reducible refine g_cond lay_ok 400 ?_ ?_ ?_) | (with_reducible refine g_fin ?_ ?_)) | (with_reducible refine q_leave lay_ok 400 ?_) | (with_reducible exact o_nil) | (with_reducible refine o_app ?_ ?_) | (intro h; ((try simp only [Int.toNat_natCast] at h); repeat (first | replace h := of_decide_eq_true h | replace h := of_decide_eq_false h)); (try (first | (exfalso; omega)))))
      all_goals (refine q_round ⟨(ps, hs), ⟨by dsimp only; omega, z3, z4⟩, ?_⟩; ((with_reducible refine s_id ?_); (conv => arg 1; whnf); (with_reducible refine s_some ?_); repeat' (first | (with_reducible exact o_nil) | (with_reducible refine o_app ?_ ?_) | (with_reducible refine o_cons ?_ ?_) | rfl)))
  obtain ⟨ps, hs⟩ := z
  obtain ⟨z1, z3, z4⟩ := hz
  dsimp only at z1 z3 z4
  dsimp only
  have hB := shp_bnd (by omega) y3 z1 z3 z4
  repeat' (first | (((with_reducible refine g_id ?_); (conv => arg 3; whnf)); first | (with_reducible refine g_fin ?_ ?_) | (refine g_call lay_ok 400 ?_ ?_ ?_ (c_agree ⟨[], 2, 1, [], 0, l, ps, hs⟩ ?_) rfl) | (refine g_call lay_ok 400 ?_ ?_ ?_ (c_awake16) rfl)) | (with_reducible exact o_nil) | (with_reducible refine o_app ?_ ?_) | (with_reducible refine o_cons ?_ ?_) | (intro h; ((try simp only [Int.toNat_natCast] at h); repeat (first | replace h := of_decide_eq_true h)); (try (first | contradiction))) | rfl | omega)
  all_goals (((with_reducible refine e_id ?_); (conv => whnf)); refine ⟨(), trivial, ?_⟩; ((with_reducible refine s_id ?_); (conv => arg 1; whnf); (with_reducible refine s_some ?_); repeat' (first | (with_reducible exact o_nil) | (with_reducible refine o_app ?_ ?_) | (with_reducible refine o_cons ?_ ?_) | rfl)))
end Go.Proofs.Ytonjbhdfimcedaa
