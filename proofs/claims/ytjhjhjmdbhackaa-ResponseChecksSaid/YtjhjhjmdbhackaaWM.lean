/- ResponseChecks: the law. -/
import Derived.Test.YtjhjhjmdbhackaaWL
import Derived.Test.YtjhjhjmdbhackaaS45P
import Derived.Test.YtjhjhjmdbhackaaVK
namespace Go.Proofs.Ytjhjhjmdbhackaa
set_option linter.unusedVariables false
set_option linter.unusedSimpArgs false
open Go.RowKit
theorem all_facts {l : List Job} {x : Par} {an : List Answer} {er : Int} (hg : goodB l x = true) (h : allJ l x = (an, er)) :
    (er = 0 ∧ an.length = l.length ∧ checkJ l x an = 0 ∧ ∀ k : Nat, k < an.length → (0 ≤ (gt (c := .answer) an k).bl ∧ (gt (c := .answer) an k).bl ≤ 16777216) ∧ 0 ≤ (gt (c := .answer) an k).re ∧ (gt (c := .answer) an k).re ≤ 16777216) ∨ (er = 38 ∧ an = []) := by
  obtain ⟨hx, hj⟩ := rok_of hg
  by_cases hn : ∀ k : Nat, k < l.length → (leastJ l x (k : Int)).isSome = true
  · rw [allJ_ok hg hn] at h
    cases h
    have F : ∀ k : Nat, k < l.length → (gt (c := .answer) (ansTo l x l.length) k).bl = blockJ l k x.ins ∧ leastJ l x k = some (gt (c := .answer) (ansTo l x l.length) k).re := fun k hk => ans_facts hx hj hn (gt_at (c := .answer) (by rw [ansTo_len]; exact hk))
    refine .inl ⟨rfl, ansTo_len l x _, check_ok hg (ansTo_len l x _) fun k hk => ?_, fun k hk => ?_⟩
    · rw [ansTo_len] at hk
      obtain ⟨f1, f2⟩ := F k hk
      obtain ⟨a1, a2, a3, a4⟩ := leastJ_some hx hj f2
      unfold wrongB
      rw [decide_eq_false_iff_not]
      omega
    · rw [ansTo_len] at hk
      obtain ⟨f1, f2⟩ := F k hk
      obtain ⟨a1, a2, a3, a4⟩ := leastJ_some hx hj f2
      have b := blockJ_bd (x := x) (k : Int) hx hj
      have o := jobAt_ok hj (i := (k : Int)) (by omega) (by omega)
      obtain ⟨p0, p1⟩ := o.pd; obtain ⟨d0, d1⟩ := o.dl; obtain ⟨j0, j1⟩ := o.ji
      unfold limJ at a2
      rw [f1]
      omega
  · obtain ⟨k, hk, e⟩ := late_of hn
    rw [allJ_late hg hk e] at h
    cases h
    exact .inr ⟨rfl, rfl⟩
theorem check_zero {l : List Job} {x : Par} (hg : goodB l x = true) (h : 1 ≤ l.length) : checkJ l x (List.replicate l.length ⟨0, 0⟩) = 37 := by
  have h0 : 0 < (List.replicate l.length (⟨0, 0⟩ : Answer)).length := by rw [List.length_replicate]; exact h
  refine check_wrong hg (List.length_replicate) (k := 0) h0 ?_
  have e : gt (c := .answer) (List.replicate l.length (⟨0, 0⟩ : Answer)) 0 = ⟨0, 0⟩ := gt_eq (c := .answer) (by rw [List.getElem?_replicate, if_pos (by omega)])
  rw [e]
  unfold wrongB
  rw [decide_eq_true_eq]
  dsimp only
  omega
theorem hb_at {an : List Answer} (HB : ∀ k : Nat, k < an.length → (0 ≤ (gt (c := .answer) an k).bl ∧ (gt (c := .answer) an k).bl ≤ 16777216) ∧ 0 ≤ (gt (c := .answer) an k).re ∧ (gt (c := .answer) an k).re ≤ 16777216) {z : Int} (h : 0 ≤ z ∧ z < (([] ++ an).length : Int)) :
    (0 ≤ (gt (c := .answer) ([] ++ an) z.toNat).bl ∧ (gt (c := .answer) ([] ++ an) z.toNat).bl ≤ 16777216) ∧ 0 ≤ (gt (c := .answer) ([] ++ an) z.toNat).re ∧ (gt (c := .answer) ([] ++ an) z.toNat).re ≤ 16777216 := HB z.toNat (by simp only [List.nil_append] at h; omega)
theorem gt_dflt (n k : Nat) : gt (c := .answer) ([] ++ List.replicate n (dflt .answer)) k = ⟨0, 0⟩ := by
  rw [List.nil_append]
  unfold gt
  rw [List.getD_eq_getElem?_getD, List.getElem?_replicate]
  split <;> rfl
theorem gt_zero {n k : Nat} (h : k < n) : gt (c := .answer) (List.replicate n (⟨0, 0⟩ : Answer)) k = ⟨0, 0⟩ := gt_eq (c := .answer) (by rw [List.getElem?_replicate, if_pos h])
attribute [local irreducible] allJ checkJ goodB MadeJ
set_option maxHeartbeats 8000000 in
theorem l_checks (raw : List Answer) (is : List Int) (by_ : Int) (hr : raw.length ≤ maxLen) (hl : is.length ≤ maxLen) : Trip Try.prog 8 [.sl ⟨0, []⟩, .sl ⟨1, []⟩, .int .i64 by_] ⟨[], [(0, .list .tmp .answer raw), (1, .list .tmp .int is)], 2⟩ (Z := Unit) (fun _ => True) (fun _ => .bool true) (fun _ => ⟨[], [], 2⟩) := by
  have hrm : raw.length ≤ 9223372036854775807 := by simpa only [maxLen] using hr
  refine trip_by (rs := [_]) 400 lay_ok Try.func8 rfl (by kernel_rfl) Try.ntmps8 Try.results8 rfl rfl ?_
  repeat' (first | (((with_reducible refine g_id ?_); (conv => arg 3; whnf)); first | (with_reducible refine g_split lay_ok 400 ?_ ?_ ?_) | (with_reducible refine g_cond lay_ok 400 ?_ ?_ ?_) | (with_reducible refine g_out lay_ok 400 ?_ ?_) | (with_reducible refine g_fin ?_ ?_) | (refine g_call lay_ok 400 ?_ ?_ ?_ (c_awake41) rfl) | (refine g_call lay_ok 400 ?_ ?_ ?_ (c_new ?_) rfl) | (refine g_call lay_ok 400 ?_ ?_ ?_ (c_next ?_ ?_ ?_ ?_ ?_) rfl) | (refine g_call lay_ok 400 ?_ ?_ ?_ (c_mjobs ?_ ?_ ?_ ?_ ?_) rfl) | (refine g_call lay_ok 400 ?_ ?_ ?_ (c_rates ?_ ?_) rfl) | (refine g_draw lay_ok mixed_ok 400 11 [0, 1, 2, 3, 4, 5, 6, 7, 8, 9, 10] rfl (by kernel_rfl) ?_ ?_) | (refine g_draw lay_ok mixed_ok 400 13 [0, 1, 2, 3, 4, 5, 6, 7, 8, 9, 10, 11, 12] rfl (by kernel_rfl) ?_ ?_)) | (((with_reducible refine d_id ?_); (conv => arg 5; whnf)); first | (with_reducible refine d_fin ?_ ?_) | (with_reducible refine d_split lay_ok 400 ?_ ?_ ?_) | (refine d_call lay_ok 400 ?_ ?_ ?_ (c_awake41) rfl rfl) | (refine d_call lay_ok 400 ?_ ?_ ?_ (c_new ?_) rfl rfl) | (refine d_call lay_ok 400 ?_ ?_ ?_ (c_next ?_ ?_ ?_ ?_ ?_) rfl rfl) | (refine d_call lay_ok 400 ?_ ?_ ?_ (c_mjobs ?_ ?_ ?_ ?_ ?_) rfl rfl) | (refine d_call lay_ok 400 ?_ ?_ ?_ (c_rates ?_ ?_) rfl rfl)) | (with_reducible refine q_leave lay_ok 400 ?_) | (with_reducible refine q_ret lay_ok 400 ?_) | (with_reducible exact o_nil) | (with_reducible refine o_cons ?_ ?_) | ((with_reducible refine o_id ?_); (conv => arg 1; whnf); first | (with_reducible exact o_nil) | (with_reducible refine o_cons ?_ ?_)) | (intro h; ((try simp only [Int.toNat_natCast] at h); repeat (first | replace h := of_decide_eq_true h | replace h := of_decide_eq_false h | replace h := not_t h | replace h := not_f h | replace h := eq_of_beq h)); (try (first | contradiction | (exfalso; omega) | exact Bool.noConfusion (h.symm.trans (by assumption) : true = false) | exact Bool.noConfusion (h.symm.trans (by assumption) : false = true) | exact absurd rfl h | exact absurd (by assumption) h | exact absurd h (by assumption)))) | rfl | omega | assumption | (simp only [List.length_append, List.length_cons, List.length_nil]; omega))
  all_goals first | ((((with_reducible refine e_id ?_); (conv => whnf)); refine ⟨(), trivial, ?_⟩; ((with_reducible refine s_id ?_); (conv => arg 1; whnf); (with_reducible refine s_some ?_); repeat' (first | (with_reducible exact o_nil) | (with_reducible refine o_cons ?_ ?_) | ((with_reducible refine o_id ?_); (conv => arg 1; whnf); first | (with_reducible exact o_nil) | (with_reducible refine o_cons ?_ ?_)) | rfl | omega | assumption | (simp only [List.length_append, List.length_cons, List.length_nil]; omega)))); done) | skip
  rename_i hraw u0 v0 c hc xs hxs r hr n hn m
  have hm := h
  have hl4 : (xs.length : Int) ≤ 4 := by omega
  have hs := made_small hxs.1 hl4
  have hg := made_good (ins := n) (miss := m) hxs.1 hl4 hr (by omega) (by omega) (by omega) (by omega)
  have CA := r_all xs ⟨r.d, r.de, r.p, r.pa, r.wi, r.er, n, m⟩ hs
  have CC := fun ys hy => c_check xs ⟨r.d, r.de, r.p, r.pa, r.wi, r.er, n, m⟩ ys hs hy
  have CR := fun ys hy => r_check xs ⟨r.d, r.de, r.p, r.pa, r.wi, r.er, n, m⟩ ys hs hy
  obtain ⟨q, hq⟩ : ∃ q, allJ xs ⟨r.d, r.de, r.p, r.pa, r.wi, r.er, n, m⟩ = q := ⟨_, rfl⟩
  obtain ⟨an, er⟩ := q
  rw [hq] at CA
  rcases all_facts hg hq with ⟨rfl, hal, hch, HB⟩ | ⟨rfl, rfl⟩
  · dsimp only at CA
    repeat' (first | (((with_reducible refine g_id ?_); (conv => arg 3; whnf)); first | (with_reducible refine g_split lay_ok 400 ?_ ?_ ?_) | (with_reducible refine g_cond lay_ok 400 ?_ ?_ ?_) | (with_reducible refine g_out lay_ok 400 ?_ ?_) | (with_reducible refine g_fin ?_ ?_) | (refine g_call lay_ok 400 ?_ ?_ ?_ (c_awake41) rfl) | (refine g_call lay_ok 400 ?_ ?_ ?_ (c_next ?_ ?_ ?_ ?_ ?_) rfl) | (refine g_call lay_ok 400 ?_ ?_ ?_ (CA) rfl) | (refine g_call lay_ok 400 ?_ ?_ ?_ (CC ?_ ?_) rfl) | (refine g_call lay_ok 400 ?_ ?_ ?_ (CR ?_ ?_) rfl) | (refine g_draw lay_ok mixed_ok 400 11 [0, 1, 2, 3, 4, 5, 6, 7, 8, 9, 10] rfl (by kernel_rfl) ?_ ?_) | (refine g_draw lay_ok mixed_ok 400 13 [0, 1, 2, 3, 4, 5, 6, 7, 8, 9, 10, 11, 12] rfl (by kernel_rfl) ?_ ?_) | (with_reducible refine g_rounds lay_ok 400 3 ?_ ?_)) | (((with_reducible refine d_id ?_); (conv => arg 5; whnf)); first | (with_reducible refine d_fin ?_ ?_) | (with_reducible refine d_split lay_ok 400 ?_ ?_ ?_) | (refine d_call lay_ok 400 ?_ ?_ ?_ (c_awake41) rfl rfl) | (refine d_call lay_ok 400 ?_ ?_ ?_ (c_next ?_ ?_ ?_ ?_ ?_) rfl rfl) | (refine d_call lay_ok 400 ?_ ?_ ?_ (CA) rfl rfl) | (refine d_call lay_ok 400 ?_ ?_ ?_ (CC ?_ ?_) rfl rfl) | (refine d_call lay_ok 400 ?_ ?_ ?_ (CR ?_ ?_) rfl rfl)) | (with_reducible refine q_leave lay_ok 400 ?_) | (with_reducible refine q_ret lay_ok 400 ?_) | (with_reducible refine q_next ?_) | (with_reducible exact o_nil) | (with_reducible refine o_cons ?_ ?_) | ((with_reducible refine o_id ?_); (conv => arg 1; whnf); first | (with_reducible exact o_nil) | (with_reducible refine o_cons ?_ ?_)) | (intro h; ((try simp only [Int.toNat_natCast] at h); repeat (first | replace h := of_decide_eq_true h | replace h := of_decide_eq_false h | replace h := not_t h | replace h := not_f h | replace h := eq_of_beq h)); (try (first | contradiction | (exfalso; omega) | exact Bool.noConfusion (h.symm.trans (by assumption) : true = false) | exact Bool.noConfusion (h.symm.trans (by assumption) : false = true) | exact absurd rfl h | exact absurd (by assumption) h | exact absurd h (by assumption) | (exfalso; simp [hch] at h; done)))) | rfl | omega | assumption | (simp only [List.length_append, List.length_cons, List.length_nil]; omega) | (simp only [List.length_set, List.length_replicate]; omega) | (simp only [List.length_set]; omega) | (simp only [List.nil_append, List.length_nil, List.length_replicate, List.length_set, Int.toNat_natCast] at *; omega) | (have q := hb_at HB (by assumption); omega) | (rw [gt_dflt]; dsimp only; omega) | (simp only [List.length_set, List.length_replicate, List.nil_append]; omega))
    all_goals (((with_reducible refine e_id ?_); (conv => whnf)); refine ⟨(), trivial, ?_⟩; ((with_reducible refine s_id ?_); (conv => arg 1; whnf); (with_reducible refine s_some ?_); repeat' (first | (with_reducible exact o_nil) | (with_reducible refine o_cons ?_ ?_) | ((with_reducible refine o_id ?_); (conv => arg 1; whnf); first | (with_reducible exact o_nil) | (with_reducible refine o_cons ?_ ?_)) | rfl | omega | assumption | (simp only [List.length_append, List.length_cons, List.length_nil]; omega))))
  · dsimp only at CA
    have hch : checkJ xs ⟨r.d, r.de, r.p, r.pa, r.wi, r.er, n, m⟩ (List.replicate xs.length (dflt .answer)) = 37 := check_zero hg (by omega : 1 ≤ xs.length)
    repeat' (first | (((with_reducible refine g_id ?_); (conv => arg 3; whnf)); first | (with_reducible refine g_split lay_ok 400 ?_ ?_ ?_) | (with_reducible refine g_cond lay_ok 400 ?_ ?_ ?_) | (with_reducible refine g_out lay_ok 400 ?_ ?_) | (with_reducible refine g_fin ?_ ?_) | (refine g_call lay_ok 400 ?_ ?_ ?_ (c_awake41) rfl) | (refine g_call lay_ok 400 ?_ ?_ ?_ (c_next ?_ ?_ ?_ ?_ ?_) rfl) | (refine g_call lay_ok 400 ?_ ?_ ?_ (CA) rfl) | (refine g_call lay_ok 400 ?_ ?_ ?_ (CC ?_ ?_) rfl) | (refine g_call lay_ok 400 ?_ ?_ ?_ (CR ?_ ?_) rfl) | (refine g_draw lay_ok mixed_ok 400 11 [0, 1, 2, 3, 4, 5, 6, 7, 8, 9, 10] rfl (by kernel_rfl) ?_ ?_) | (refine g_draw lay_ok mixed_ok 400 13 [0, 1, 2, 3, 4, 5, 6, 7, 8, 9, 10, 11, 12] rfl (by kernel_rfl) ?_ ?_) | (with_reducible refine g_rounds lay_ok 400 3 ?_ ?_)) | (((with_reducible refine d_id ?_); (conv => arg 5; whnf)); first | (with_reducible refine d_fin ?_ ?_) | (with_reducible refine d_split lay_ok 400 ?_ ?_ ?_) | (refine d_call lay_ok 400 ?_ ?_ ?_ (c_awake41) rfl rfl) | (refine d_call lay_ok 400 ?_ ?_ ?_ (c_next ?_ ?_ ?_ ?_ ?_) rfl rfl) | (refine d_call lay_ok 400 ?_ ?_ ?_ (CA) rfl rfl) | (refine d_call lay_ok 400 ?_ ?_ ?_ (CC ?_ ?_) rfl rfl) | (refine d_call lay_ok 400 ?_ ?_ ?_ (CR ?_ ?_) rfl rfl)) | (with_reducible refine q_leave lay_ok 400 ?_) | (with_reducible refine q_ret lay_ok 400 ?_) | (with_reducible refine q_next ?_) | (with_reducible exact o_nil) | (with_reducible refine o_cons ?_ ?_) | ((with_reducible refine o_id ?_); (conv => arg 1; whnf); first | (with_reducible exact o_nil) | (with_reducible refine o_cons ?_ ?_)) | (intro h; ((try simp only [Int.toNat_natCast] at h); repeat (first | replace h := of_decide_eq_true h | replace h := of_decide_eq_false h | replace h := not_t h | replace h := not_f h | replace h := eq_of_beq h)); (try (first | contradiction | (exfalso; omega) | exact Bool.noConfusion (h.symm.trans (by assumption) : true = false) | exact Bool.noConfusion (h.symm.trans (by assumption) : false = true) | exact absurd rfl h | exact absurd (by assumption) h | exact absurd h (by assumption) | (exfalso; simp [hch] at h; done)))) | rfl | omega | assumption | (simp only [List.length_append, List.length_cons, List.length_nil]; omega) | (simp only [List.length_set, List.length_replicate]; omega) | (simp only [List.length_set]; omega) | (simp only [List.nil_append, List.length_nil, List.length_replicate, List.length_set, Int.toNat_natCast] at *; omega) | (have q := hb_at HB (by assumption); omega) | (rw [gt_dflt]; dsimp only; omega) | (simp only [List.length_set, List.length_replicate, List.nil_append]; omega))
    all_goals (((with_reducible refine e_id ?_); (conv => whnf)); refine ⟨(), trivial, ?_⟩; ((with_reducible refine s_id ?_); (conv => arg 1; whnf); (with_reducible refine s_some ?_); repeat' (first | (with_reducible exact o_nil) | (with_reducible refine o_cons ?_ ?_) | ((with_reducible refine o_id ?_); (conv => arg 1; whnf); first | (with_reducible exact o_nil) | (with_reducible refine o_cons ?_ ?_)) | rfl | omega | assumption | (simp only [List.length_append, List.length_cons, List.length_nil]; omega))))
end Go.Proofs.Ytjhjhjmdbhackaa
