/- Points and heads that are right: the program. -/
import Derived.Test.YtonjbhdfimcedaaMF
namespace Go.Proofs.Ytonjbhdfimcedaa
set_option linter.unusedVariables false
set_option linter.unusedSimpArgs false
open Go.RowKit
theorem mp_get_set : ∀ {es : List (Int × Int)} {n v x : Int}, mpGet (mpSet es n v) x = if x = n then some v else mpGet es x
  | [], n, v, x => by simp [mpSet, mpGet]
  | (a, u) :: es, n, v, x => by
    have ih := mp_get_set (es := es) (n := n) (v := v) (x := x)
    unfold mpSet
    by_cases h : n = a
    · subst h
      rw [if_pos rfl]
      unfold mpGet
      by_cases h2 : x = n
      · rw [if_pos h2, if_pos h2]
      · rw [if_neg h2, if_neg h2, if_neg h2]
    · rw [if_neg h]
      unfold mpGet
      rw [ih]
      by_cases h2 : x = a
      · rw [if_pos h2, if_pos h2, if_neg (by omega)]
      · rw [if_neg h2, if_neg h2]
/-- The numbers that were met. -/
def seenE (l : List Int) : Nat → List (Int × Int)
  | 0 => []
  | k + 1 => mpSet (seenE l k) (gt (c := .int) l k) 1
theorem seen_zero {l : List Int} : seenE l 0 = [] := rfl
theorem seen_succ {l : List Int} {k : Nat} : mpSet (seenE l k) (gt (c := .int) l k) 1 = seenE l (k + 1) := rfl
def metB (l : List Int) (k : Nat) (x : Int) : Bool := (List.range k).any fun j => decide (@id Int (gt (c := .int) l j) = x)
theorem seen_get {l : List Int} {x : Int} : ∀ {k : Nat}, mpGet (seenE l k) x = if metB l k x = true then some 1 else none
  | 0 => rfl
  | k + 1 => by
    unfold seenE
    rw [mp_get_set, seen_get (k := k)]
    have e : metB l (k + 1) x = (metB l k x || decide (@id Int (gt (c := .int) l k) = x)) := by
      unfold metB; rw [List.range_succ, List.any_append, List.any_cons, List.any_nil, Bool.or_false]
    rw [e]
    by_cases h : x = gt (c := .int) l k
    · rw [if_pos h, decide_eq_true (show @id Int (gt (c := .int) l k) = x from h.symm), Bool.or_true, if_pos rfl]
    · rw [if_neg h, decide_eq_false (show ¬ @id Int (gt (c := .int) l k) = x from fun q => h q.symm), Bool.or_false]
theorem seen_is {l : List Int} {x : Int} {k : Nat} : (decide ((mpGet (seenE l k) x).getD 0 = 1)) = metB l k x := by
  rw [seen_get]
  cases metB l k x <;> rfl
def nodB (n : Int) (l : List Int) (k : Nat) : Bool := decide (0 ≤ @id Int (gt (c := .int) l k) ∧ @id Int (gt (c := .int) l k) < n) && !(metB l k (gt (c := .int) l k))
def ptB (n : Int) (l : List Int) : Bool := allN (nodB n l) l.length
def hdB (n : Int) (l : List Hd_) (k : Nat) : Bool := decide (0 ≤ (gt (c := .head) l k).block ∧ (gt (c := .head) l k).block < n ∧ 0 ≤ (gt (c := .head) l k).max ∧ (gt (c := .head) l k).max ≤ 4000 ∧ (k = 0 ∨ (gt (c := .head) l (k - 1)).block < (gt (c := .head) l k).block))
def namB (n : Int) (p : List (List Int)) (h : List Hd_) : Bool := allN (fun k => ptB n (gt (c := .ints) p k)) p.length && allN (hdB n h) h.length
theorem nod_t {n : Int} {l : List Int} {k : Nat} (h1 : 0 ≤ @id Int (gt (c := .int) l k)) (h2 : @id Int (gt (c := .int) l k) < n) (h3 : metB l k (gt (c := .int) l k) = false) : nodB n l k = true := by
  unfold nodB; rw [decide_eq_true ⟨h1, h2⟩, h3]; rfl
theorem nod_f1 {n : Int} {l : List Int} {k : Nat} (h : ¬ (0 ≤ @id Int (gt (c := .int) l k) ∧ @id Int (gt (c := .int) l k) < n)) : nodB n l k = false := by
  unfold nodB; rw [decide_eq_false h]; rfl
theorem nod_f2 {n : Int} {l : List Int} {k : Nat} (h : metB l k (gt (c := .int) l k) = true) : nodB n l k = false := by
  unfold nodB; rw [h, Bool.not_true, Bool.and_false]
theorem nam_p {n : Int} {p : List (List Int)} {h : List Hd_} {i k : Nat} (hi : i < p.length) (hk : k < (gt (c := .ints) p i : List Int).length) (hf : nodB n (gt (c := .ints) p i) k = false) : namB n p h = false := by
  unfold namB
  rw [allN_no hi (show ptB n (gt (c := .ints) p i) = false from allN_no hk hf)]; rfl
theorem nam_h {n : Int} {p : List (List Int)} {h : List Hd_} {k : Nat} (hk : k < h.length) (hf : hdB n h k = false) : namB n p h = false := by
  unfold namB
  rw [allN_no hk hf, Bool.and_false]
theorem nam_y {n : Int} {p : List (List Int)} {h : List Hd_} (h1 : allN (fun k => ptB n (gt (c := .ints) p k)) p.length = true) (h2 : allN (hdB n h) h.length = true) : namB n p h = true := by
  unfold namB; rw [h1, h2]; rfl
attribute [local irreducible] seenE metB
set_option maxHeartbeats 4000000 in
theorem c_named (g : Grf) (hb : g.blks.length ≤ 1048576) (hp : g.pts.length ≤ 1048576) (hpl : ∀ l ∈ g.pts, l.length ≤ 1048576) (hh : g.hds.length ≤ 1048576) : Trip Try.prog 49 [.agg [.sl ⟨0, []⟩, .int .i64 g.vars, .int .i64 g.keep, .sl ⟨1, []⟩, .int .i64 g.shared, .sl ⟨2, []⟩, .sl ⟨3, []⟩, .sl ⟨4, []⟩]] ⟨[], [(0, .list .tmp .input g.inp), (1, .list .tmp .array g.arrs), (2, .list .tmp .block g.blks), (3, .list .tmp .ints g.pts), (4, .list .tmp .head g.hds)], 5⟩ (Z := Unit) (fun _ => True) (fun _ => .bool (namB g.blks.length g.pts g.hds)) (fun _ => ⟨[], [(0, .list .tmp .input g.inp), (1, .list .tmp .array g.arrs), (2, .list .tmp .block g.blks), (3, .list .tmp .ints g.pts), (4, .list .tmp .head g.hds)], 5⟩) := by
  refine trip_by (rs := [_]) 400 lay_ok Try.func49 rfl (by kernel_rfl) Try.ntmps49 Try.results49 rfl rfl ?_
  repeat' (first | (((with_reducible refine g_id ?_); (conv => arg 3; whnf)); first | (with_reducible refine g_split lay_ok 400 ?_ ?_ ?_)))
  refine g_loop lay_ok 400 (Z := Nat) (fun z => z ≤ g.pts.length ∧ allN (fun k => ptB g.blks.length (gt (c := .ints) g.pts k)) z = true) (fun z => ⟨[(1, .ptr 5 0), (11, .sl ⟨3, []⟩), (12, .int .i64 (g.pts.length : Int)), (13, .int .i64 (z : Int))], [(0, .list .tmp .input g.inp), (1, .list .tmp .array g.arrs), (2, .list .tmp .block g.blks), (3, .list .tmp .ints g.pts), (4, .list .tmp .head g.hds), (5, .cells [.sl ⟨0, []⟩, .int .i64 g.vars, .int .i64 g.keep, .sl ⟨1, []⟩, .int .i64 g.shared, .sl ⟨2, []⟩, .sl ⟨3, []⟩, .sl ⟨4, []⟩])], 6⟩) (fun z => g.pts.length - z) ?_ ⟨0, ⟨Nat.zero_le _, allN_zero⟩, ?_⟩ (fun i hi => ?_)
  · repeat' (first | ((with_reducible refine o_id ?_); (conv => arg 1; whnf); first | (with_reducible exact o_nil)))
  · ((with_reducible refine s_id ?_); (conv => arg 1; whnf); (with_reducible refine s_some ?_); repeat' (first | ((with_reducible refine o_id ?_); (conv => arg 1; whnf); first | (with_reducible exact o_nil) | (with_reducible refine o_cons ?_ ?_)) | rfl))
  obtain ⟨hi, hf⟩ := hi
  by_cases hlt : i < g.pts.length
  · have hpi := hpl _ (mem_gt (c := .ints) hlt)
    repeat' (first | (((with_reducible refine g_id ?_); (conv => arg 3; whnf)); first | (with_reducible refine g_cond lay_ok 400 ?_ ?_ ?_)) | ((with_reducible refine o_id ?_); (conv => arg 1; whnf); first | (with_reducible exact o_nil)) | (intro h; ((try simp only [Int.toNat_natCast] at h); repeat (first | replace h := of_decide_eq_true h | replace h := of_decide_eq_false h)); (try (first | (exfalso; omega)))))
    refine g_loop lay_ok 400 (Z := Nat) (fun z => z ≤ (gt (c := .ints) g.pts i : List Int).length ∧ allN (nodB g.blks.length (gt (c := .ints) g.pts i)) z = true) (fun z => ⟨[(1, .ptr 5 0), (11, .sl ⟨3, []⟩), (12, .int .i64 (g.pts.length : Int)), (13, .int .i64 (i : Int)), (5, .mp 6), (18, .sl ⟨3, [(i, 0)]⟩), (19, .int .i64 ((gt (c := .ints) g.pts i : List Int).length : Int)), (20, .int .i64 (z : Int))], [(0, .list .tmp .input g.inp), (1, .list .tmp .array g.arrs), (2, .list .tmp .block g.blks), (3, .list .tmp .ints g.pts), (4, .list .tmp .head g.hds), (5, .cells [.sl ⟨0, []⟩, .int .i64 g.vars, .int .i64 g.keep, .sl ⟨1, []⟩, .int .i64 g.shared, .sl ⟨2, []⟩, .sl ⟨3, []⟩, .sl ⟨4, []⟩]), (6, .mp ⟨true, seenE (gt (c := .ints) g.pts i) z⟩)], 7⟩) (fun z => (gt (c := .ints) g.pts i : List Int).length - z) ?_ ⟨0, ⟨Nat.zero_le _, allN_zero⟩, ?_⟩ (fun z hz => ?_)
    · repeat' (first | ((with_reducible refine o_id ?_); (conv => arg 1; whnf); first | (with_reducible exact o_nil) | (with_reducible refine o_cons ?_ ?_)) | omega)
    · ((with_reducible refine s_id ?_); (conv => arg 1; whnf); (with_reducible refine s_some ?_); repeat' (first | ((with_reducible refine o_id ?_); (conv => arg 1; whnf); first | (with_reducible exact o_nil) | (with_reducible refine o_cons ?_ ?_)) | rfl | (rw [seen_zero])))
    obtain ⟨hz, hf2⟩ := hz
    by_cases hk : z < (gt (c := .ints) g.pts i : List Int).length
    · repeat' (first | (((with_reducible refine g_id ?_); (conv => arg 3; whnf)); first | (with_reducible refine g_split lay_ok 400 ?_ ?_ ?_) | (with_reducible refine g_cond lay_ok 400 ?_ ?_ ?_) | (with_reducible refine g_fin ?_ ?_) | (refine g_call lay_ok 400 ?_ ?_ ?_ (c_between ?_ ?_ ?_) rfl)) | (with_reducible refine q_ret lay_ok 400 ?_) | (with_reducible exact o_nil) | ((with_reducible refine o_id ?_); (conv => arg 1; whnf); first | (with_reducible exact o_nil) | (with_reducible refine o_cons ?_ ?_)) | (intro h; ((try simp only [Int.toNat_natCast] at h); repeat (first | replace h := of_decide_eq_true h | replace h := of_decide_eq_false h | replace h := not_t h | replace h := not_f h)); (try (first | (exfalso; omega)))) | rfl | omega)
      all_goals first | (refine q_round ⟨z + 1, ⟨by omega, allN_yes hf2 (nod_t (by unfold id; omega) (by unfold id; omega) (by rw [← seen_is]; exact decide_eq_false (by assumption)))⟩, by omega, ?_⟩; ((with_reducible refine s_id ?_); (conv => arg 1; whnf); (with_reducible refine s_some ?_); repeat' (first | ((with_reducible refine o_id ?_); (conv => arg 1; whnf); first | (with_reducible exact o_nil) | (with_reducible refine o_cons ?_ ?_)) | rfl | (rw [← seen_succ])))) | ((((with_reducible refine e_id ?_); (conv => whnf)); refine ⟨(), trivial, ?_⟩; ((with_reducible refine s_id ?_); (conv => arg 1; whnf); (with_reducible refine s_some ?_); repeat' (first | ((with_reducible refine o_id ?_); (conv => arg 1; whnf); first | (with_reducible exact o_nil) | (with_reducible refine o_cons ?_ ?_)) | rfl | (exact nam_p hlt hk (nod_f1 (by unfold id; omega))) | (exact nam_p hlt hk (nod_f2 (by rw [← seen_is]; exact decide_eq_true h)))))))
    · have e : z = (gt (c := .ints) g.pts i : List Int).length := by omega
      repeat' (first | (((with_reducible refine g_id ?_); (conv => arg 3; whnf)); first | (with_reducible refine g_cond lay_ok 400 ?_ ?_ ?_) | (with_reducible refine g_fin ?_ ?_)) | (with_reducible refine q_leave lay_ok 400 ?_) | (with_reducible exact o_nil) | ((with_reducible refine o_id ?_); (conv => arg 1; whnf); first | (with_reducible exact o_nil) | (with_reducible refine o_cons ?_ ?_)) | (intro h; ((try simp only [Int.toNat_natCast] at h); repeat (first | replace h := of_decide_eq_true h | replace h := of_decide_eq_false h)); (try (first | (exfalso; omega)))) | omega)
      all_goals (refine q_round ⟨i + 1, ⟨by omega, allN_yes hf (by unfold ptB; rw [← e]; exact hf2)⟩, by omega, ?_⟩; ((with_reducible refine s_id ?_); (conv => arg 1; whnf); (with_reducible refine s_some ?_); repeat' (first | ((with_reducible refine o_id ?_); (conv => arg 1; whnf); first | (with_reducible exact o_nil) | (with_reducible refine o_cons ?_ ?_)) | rfl)))
  · have e : i = g.pts.length := by omega
    subst e
    repeat' (first | (((with_reducible refine g_id ?_); (conv => arg 3; whnf)); first | (with_reducible refine g_cond lay_ok 400 ?_ ?_ ?_) | (with_reducible refine g_fin ?_ ?_)) | (with_reducible refine q_leave lay_ok 400 ?_) | (with_reducible exact o_nil) | ((with_reducible refine o_id ?_); (conv => arg 1; whnf); first | (with_reducible exact o_nil)) | (intro h; ((try simp only [Int.toNat_natCast] at h); repeat (first | replace h := of_decide_eq_true h | replace h := of_decide_eq_false h)); (try (first | (exfalso; omega)))))
    refine g_loop lay_ok 400 (Z := Nat) (fun z => z ≤ g.hds.length ∧ allN (hdB g.blks.length g.hds) z = true) (fun z => ⟨[(1, .ptr 5 0), (41, .sl ⟨4, []⟩), (42, .int .i64 (g.hds.length : Int)), (43, .int .i64 (z : Int))], [(0, .list .tmp .input g.inp), (1, .list .tmp .array g.arrs), (2, .list .tmp .block g.blks), (3, .list .tmp .ints g.pts), (4, .list .tmp .head g.hds), (5, .cells [.sl ⟨0, []⟩, .int .i64 g.vars, .int .i64 g.keep, .sl ⟨1, []⟩, .int .i64 g.shared, .sl ⟨2, []⟩, .sl ⟨3, []⟩, .sl ⟨4, []⟩])], 6⟩) (fun z => g.hds.length - z) ?_ ⟨0, ⟨Nat.zero_le _, allN_zero⟩, ?_⟩ (fun z hz => ?_)
    · repeat' (first | ((with_reducible refine o_id ?_); (conv => arg 1; whnf); first | (with_reducible exact o_nil)))
    · ((with_reducible refine s_id ?_); (conv => arg 1; whnf); (with_reducible refine s_some ?_); repeat' (first | ((with_reducible refine o_id ?_); (conv => arg 1; whnf); first | (with_reducible exact o_nil) | (with_reducible refine o_cons ?_ ?_)) | rfl))
    obtain ⟨hz, hf2⟩ := hz
    by_cases hk : z < g.hds.length
    · have hp1 : ((z : Int) - 1).toNat = z - 1 := by omega
      repeat' (first | (((with_reducible refine g_id ?_); (conv => arg 3; whnf)); first | (with_reducible refine g_cond lay_ok 400 ?_ ?_ ?_) | (with_reducible refine g_fin ?_ ?_) | (refine g_call lay_ok 400 ?_ ?_ ?_ (c_between ?_ ?_ ?_) rfl) | (refine g_flow 16 lay_ok mixed_ok 400 2112 [0, 1, 0, 4, 12, 28, 63, 127, 255, 511, 1023, 2047, 4095, 8191, 16383, 32767, 65535, 131071, 262143, 524287, 262143, 1310719, 262143, 4456447, 15990783, 32767999, 66322431, 134217727, 268435455, 536870911] (.q 0 (.q 1 (.q 2 (.q 3 (.q 4 (.q 5 (.e 6 [] (.q 7 (.q 8 (.q 9 (.q 10 (.e 11 [] (.q 12 (.q 13 (.q 14 (.q 15 (.q 16 (.q 17 (.q 18 (.q 19 (.q 20 (.q 21 (.q 22 (.q 23 (.q 24 (.q 25 (.q 26 (.q 27 (.q 28 (.q 29 .fin)))))))))))))))))) .stop))))) .stop))))))) (by kernel_rfl) ?_ ?_)) | (((with_reducible refine w_id ?_); (conv => arg 4; whnf)); first | (with_reducible refine w_fin ?_ ?_) | (with_reducible refine w_split lay_ok 400 ?_ ?_ ?_) | (with_reducible refine w_tt ?_) | (with_reducible refine w_eff lay_ok 400 ?_ rfl rfl ?_ ?_)) | (with_reducible refine q_flow ?_ ?_) | ((with_reducible refine h_id ?_); (conv => arg 1; whnf); (with_reducible refine s_some ?_)) | (with_reducible refine q_ret lay_ok 400 ?_) | (with_reducible exact o_nil) | ((with_reducible refine o_id ?_); (conv => arg 1; whnf); first | (with_reducible exact o_nil) | (with_reducible refine o_cons ?_ ?_)) | (intro h; ((try simp only [Int.toNat_natCast] at h); repeat (first | replace h := of_decide_eq_true h | replace h := of_decide_eq_false h | replace h := not_t h | replace h := not_f h)); (try (first | (exfalso; omega)))) | rfl | omega)
      all_goals (try simp only [hp1] at *)
      all_goals first | (refine q_round ⟨z + 1, ⟨by omega, allN_yes hf2 (by unfold hdB; exact decide_eq_true (by omega))⟩, by omega, ?_⟩; ((with_reducible refine s_id ?_); (conv => arg 1; whnf); (with_reducible refine s_some ?_); repeat' (first | ((with_reducible refine o_id ?_); (conv => arg 1; whnf); first | (with_reducible exact o_nil) | (with_reducible refine o_cons ?_ ?_)) | rfl))) | ((((with_reducible refine e_id ?_); (conv => whnf)); refine ⟨(), trivial, ?_⟩; ((with_reducible refine s_id ?_); (conv => arg 1; whnf); (with_reducible refine s_some ?_); repeat' (first | ((with_reducible refine o_id ?_); (conv => arg 1; whnf); first | (with_reducible exact o_nil) | (with_reducible refine o_cons ?_ ?_)) | rfl | (exact nam_h hk (by unfold hdB; exact decide_eq_false (by omega)))))))
    · have e : z = g.hds.length := by omega
      subst e
      repeat' (first | (((with_reducible refine g_id ?_); (conv => arg 3; whnf)); first | (with_reducible refine g_cond lay_ok 400 ?_ ?_ ?_) | (with_reducible refine g_fin ?_ ?_)) | (with_reducible refine q_leave lay_ok 400 ?_) | (with_reducible exact o_nil) | ((with_reducible refine o_id ?_); (conv => arg 1; whnf); first | (with_reducible exact o_nil)) | (intro h; ((try simp only [Int.toNat_natCast] at h); repeat (first | replace h := of_decide_eq_true h | replace h := of_decide_eq_false h)); (try (first | (exfalso; omega)))))
      all_goals (((with_reducible refine e_id ?_); (conv => whnf)); refine ⟨(), trivial, ?_⟩; ((with_reducible refine s_id ?_); (conv => arg 1; whnf); (with_reducible refine s_some ?_); repeat' (first | ((with_reducible refine o_id ?_); (conv => arg 1; whnf); first | (with_reducible exact o_nil) | (with_reducible refine o_cons ?_ ?_)) | rfl | (exact nam_y hf hf2))))
end Go.Proofs.Ytonjbhdfimcedaa
