/- Decks, made rates. -/
import Derived.Test.YtjhjhjmdbhackaaVC
import Derived.Test.YtjhjhjmdbhackaaVL
namespace Go.Proofs.Ytjhjhjmdbhackaa
set_option linter.unusedVariables false
set_option linter.unusedSimpArgs false
open Go.RowKit
def modI (n k : Int) : Int := (n.tmod k + k).tmod k
theorem modI_bd (n : Int) {k : Int} (h : 1 ≤ k) : 0 ≤ modI n k ∧ modI n k < k := by
  unfold modI
  have h1 := Int.tmod_lt_of_pos n (show 0 < k by omega)
  have h2 : -k < n.tmod k := by
    have := Int.tmod_lt_of_pos (-n) (show 0 < k by omega)
    rw [Int.neg_tmod] at this; omega
  rw [Int.tmod_eq_emod_of_nonneg (by omega)]
  exact ⟨Int.emod_nonneg _ (by omega), Int.emod_lt_of_pos _ (by omega)⟩
theorem tmod_bd2 (n : Int) {k : Int} (h : 1 ≤ k) : -k < n.tmod k ∧ n.tmod k < k := by
  have h1 := Int.tmod_lt_of_pos n (show 0 < k by omega)
  have := Int.tmod_lt_of_pos (-n) (show 0 < k by omega)
  rw [Int.neg_tmod] at this; omega
theorem c_mod (n k : Int) (h1 : 1 ≤ k) (h2 : k ≤ 1152921504606846976) : Trip Try.prog 25 [.int .i64 n, .int .i64 k] ⟨[], [], 0⟩ (Z := Unit) (fun _ => True) (fun _ => .int .i64 (modI n k)) (fun _ => ⟨[], [], 0⟩) := by
  have hb := tmod_bd2 n (k := k) (by omega)
  have hb2 := tmod_bd2 (n.tmod k + k) (k := k) (by omega)
  refine trip_by (rs := [_]) 400 lay_ok Try.func25 rfl (by kernel_rfl) Try.ntmps25 Try.results25 rfl rfl ?_
  repeat' (first | (((with_reducible refine g_id ?_); (conv => arg 3; whnf)); first | (with_reducible refine g_split lay_ok 400 ?_ ?_ ?_) | (with_reducible refine g_cond lay_ok 400 ?_ ?_ ?_) | (with_reducible refine g_out lay_ok 400 ?_ ?_) | (with_reducible refine g_fin ?_ ?_)) | (with_reducible refine q_leave lay_ok 400 ?_) | (with_reducible refine q_ret lay_ok 400 ?_) | (with_reducible exact o_nil) | (with_reducible refine o_cons ?_ ?_) | ((with_reducible refine o_id ?_); (conv => arg 1; whnf); first | (with_reducible exact o_nil) | (with_reducible refine o_cons ?_ ?_)) | (intro h; ((try simp only [Int.toNat_natCast] at h); repeat (first | replace h := of_decide_eq_true h | replace h := of_decide_eq_false h | replace h := not_t h | replace h := not_f h | replace h := eq_of_beq h)); (try (first | contradiction | (exfalso; omega) | exact Bool.noConfusion (h.symm.trans (by assumption) : true = false) | exact Bool.noConfusion (h.symm.trans (by assumption) : false = true) | exact absurd rfl h | exact absurd (by assumption) h | exact absurd h (by assumption)))) | rfl | omega | assumption | (simp only [List.length_append, List.length_cons, List.length_nil]; omega))
  all_goals (((with_reducible refine e_id ?_); (conv => whnf)); refine ⟨(), trivial, ?_⟩; ((with_reducible refine s_id ?_); (conv => arg 1; whnf); (with_reducible refine s_some ?_); repeat' (first | (with_reducible exact o_nil) | (with_reducible refine o_cons ?_ ?_) | ((with_reducible refine o_id ?_); (conv => arg 1; whnf); first | (with_reducible exact o_nil) | (with_reducible refine o_cons ?_ ?_)) | rfl | omega | assumption | (simp only [List.length_append, List.length_cons, List.length_nil]; omega))))
theorem c_next (is : List Int) (n : Int) (h1 : 1 ≤ n) (h2 : n ≤ 1152921504606846976) (hl : is.length ≤ maxLen) : Trip Try.prog 18 [.ptr 0 0, .int .i64 n] ⟨[], [(0, .deck (.sl ⟨1, []⟩)), (1, .list .tmp .int is)], 2⟩ (Z := Int) (fun z => 0 ≤ z ∧ z < n) (fun z => .int .i64 z) (fun _ => ⟨[], [(0, .deck (.sl ⟨1, []⟩)), (1, .list .tmp .int is)], 2⟩) := by
  have hmx : is.length ≤ 9223372036854775807 := by simpa only [maxLen] using hl
  clear hl
  refine trip_open (rs := [_]) 0 400 lay_ok Try.func18 rfl (by kernel_rfl) Try.ntmps18 Try.results18 rfl rfl rfl rfl (fun p hp0 hp1 => ?_)
  repeat' (first | (((with_reducible refine g_id ?_); (conv => arg 3; whnf)); first | (with_reducible refine g_split lay_ok 400 ?_ ?_ ?_) | (with_reducible refine g_cond lay_ok 400 ?_ ?_ ?_) | (with_reducible refine g_out lay_ok 400 ?_ ?_) | (with_reducible refine g_fin ?_ ?_) | (refine g_call lay_ok 400 ?_ ?_ ?_ (c_mod ?_ ?_ ?_ ?_) rfl) | (refine g_draw lay_ok mixed_ok 400 14 [0, 1, 2, 3, 4, 5, 6, 7, 8, 9, 10, 11, 12, 13] rfl (by kernel_rfl) ?_ ?_)) | (((with_reducible refine d_id ?_); (conv => arg 5; whnf)); first | (with_reducible refine d_fin ?_ ?_) | (with_reducible refine d_split lay_ok 400 ?_ ?_ ?_) | (refine d_call lay_ok 400 ?_ ?_ ?_ (c_mod ?_ ?_ ?_ ?_) rfl rfl)) | (with_reducible refine q_leave lay_ok 400 ?_) | (with_reducible refine q_ret lay_ok 400 ?_) | (with_reducible exact o_nil) | (with_reducible refine o_cons ?_ ?_) | ((with_reducible refine o_id ?_); (conv => arg 1; whnf); first | (with_reducible exact o_nil) | (with_reducible refine o_cons ?_ ?_)) | (intro h; ((try simp only [Int.toNat_natCast] at h); repeat (first | replace h := of_decide_eq_true h | replace h := of_decide_eq_false h | replace h := not_t h | replace h := not_f h | replace h := eq_of_beq h)); (try (first | contradiction | (exfalso; omega) | exact Bool.noConfusion (h.symm.trans (by assumption) : true = false) | exact Bool.noConfusion (h.symm.trans (by assumption) : false = true) | exact absurd rfl h | exact absurd (by assumption) h | exact absurd h (by assumption)))) | rfl | omega | assumption | (simp only [List.length_append, List.length_cons, List.length_nil]; omega))
  all_goals (((with_reducible refine e_id ?_); (conv => whnf)); apply ex_i; ((with_reducible refine s_id ?_); (conv => arg 1; whnf); (with_reducible refine s_some ?_); repeat' (first | (with_reducible exact o_nil) | (with_reducible refine o_cons ?_ ?_) | ((with_reducible refine o_id ?_); (conv => arg 1; whnf); first | (with_reducible exact o_nil) | (with_reducible refine o_cons ?_ ?_)) | rfl | omega | assumption | (simp only [List.length_append, List.length_cons, List.length_nil]; omega))))
  exact modI_bd _ (by omega)
theorem c_new (is : List Int) : Trip Try.prog 16 [.sl ⟨0, []⟩] ⟨[], [(0, .list .tmp .int is)], 1⟩ (Z := Unit) (fun _ => True) (fun _ => .ptr 1 0) (fun _ => ⟨[], [(0, .list .tmp .int is), (1, .deck (.sl ⟨0, []⟩))], 2⟩) := by
  refine trip_by (rs := [_]) 400 lay_ok Try.func16 rfl (by kernel_rfl) Try.ntmps16 Try.results16 rfl rfl ?_
  repeat' (first | (((with_reducible refine g_id ?_); (conv => arg 3; whnf)); first | (with_reducible refine g_split lay_ok 400 ?_ ?_ ?_) | (with_reducible refine g_cond lay_ok 400 ?_ ?_ ?_) | (with_reducible refine g_out lay_ok 400 ?_ ?_) | (with_reducible refine g_fin ?_ ?_)) | (with_reducible refine q_leave lay_ok 400 ?_) | (with_reducible refine q_ret lay_ok 400 ?_) | (with_reducible exact o_nil) | (with_reducible refine o_cons ?_ ?_) | ((with_reducible refine o_id ?_); (conv => arg 1; whnf); first | (with_reducible exact o_nil) | (with_reducible refine o_cons ?_ ?_)) | (intro h; ((try simp only [Int.toNat_natCast] at h); repeat (first | replace h := of_decide_eq_true h | replace h := of_decide_eq_false h | replace h := not_t h | replace h := not_f h | replace h := eq_of_beq h)); (try (first | contradiction | (exfalso; omega) | exact Bool.noConfusion (h.symm.trans (by assumption) : true = false) | exact Bool.noConfusion (h.symm.trans (by assumption) : false = true) | exact absurd rfl h | exact absurd (by assumption) h | exact absurd h (by assumption)))) | rfl | omega | assumption | (simp only [List.length_append, List.length_cons, List.length_nil]; omega))
  all_goals (((with_reducible refine e_id ?_); (conv => whnf)); refine ⟨(), trivial, ?_⟩; ((with_reducible refine s_id ?_); (conv => arg 1; whnf); (with_reducible refine s_some ?_); repeat' (first | (with_reducible exact o_nil) | (with_reducible refine o_cons ?_ ?_) | ((with_reducible refine o_id ?_); (conv => arg 1; whnf); first | (with_reducible exact o_nil) | (with_reducible refine o_cons ?_ ?_)) | rfl | omega | assumption | (simp only [List.length_append, List.length_cons, List.length_nil]; omega))))
/-- What made rates are like. -/
structure RateOk (d de p pa wi er : Int) : Prop where
  d0 : 0 ≤ d ∧ d ≤ 259
  de0 : 0 ≤ de ∧ de ≤ 7 ∧ (0 < d ∨ de = 0)
  p0 : 0 ≤ p ∧ p ≤ 279
  pa0 : 0 ≤ pa ∧ pa ≤ 3 ∧ (0 < p ∨ pa = 0)
  w0 : 0 ≤ wi ∧ wi ≤ 299
  e0 : 0 ≤ er ∧ er ≤ 2 ∧ (0 < wi ∨ er = 0)
  e1 : wi ≤ 0 ∨ 1 ≤ er
  d1 : d = 0 ∨ 60 ≤ d
  p1 : p = 0 ∨ 80 ≤ p
  w1 : wi = 0 ∨ 100 ≤ wi
/-- Rates. -/
structure Rts where
  d : Int
  de : Int
  p : Int
  pa : Int
  wi : Int
  er : Int
def Rts.agg (x : Rts) : SV := .agg [.int .i64 x.d, .int .i64 x.de, .int .i64 x.p, .int .i64 x.pa, .int .i64 x.wi, .int .i64 x.er]
def Rts.Ok (x : Rts) : Prop := RateOk x.d x.de x.p x.pa x.wi x.er
theorem ex_rts {B : Rts → Prop} (d de p pa wi er : Int) (hb : B ⟨d, de, p, pa, wi, er⟩) (ha : RateOk d de p pa wi er) : ∃ z : Rts, z.Ok ∧ B z := ⟨⟨d, de, p, pa, wi, er⟩, ha, hb⟩
set_option maxHeartbeats 2000000 in
theorem c_rates (is : List Int) (hl : is.length ≤ maxLen) : Trip Try.prog 23 [.ptr 0 0] ⟨[], [(0, .deck (.sl ⟨1, []⟩)), (1, .list .tmp .int is)], 2⟩ (Z := Rts) (Rts.Ok) (fun z => .agg [.int .i64 z.d, .int .i64 z.de, .int .i64 z.p, .int .i64 z.pa, .int .i64 z.wi, .int .i64 z.er]) (fun _ => ⟨[], [(0, .deck (.sl ⟨1, []⟩)), (1, .list .tmp .int is)], 2⟩) := by
  refine trip_by (rs := [_]) 400 lay_ok Try.func23 rfl (by kernel_rfl) Try.ntmps23 Try.results23 rfl rfl ?_
  repeat' (first | (((with_reducible refine g_id ?_); (conv => arg 3; whnf)); first | (with_reducible refine g_split lay_ok 400 ?_ ?_ ?_) | (with_reducible refine g_cond lay_ok 400 ?_ ?_ ?_) | (with_reducible refine g_out lay_ok 400 ?_ ?_) | (with_reducible refine g_fin ?_ ?_) | (refine g_call lay_ok 400 ?_ ?_ ?_ (c_next ?_ ?_ ?_ ?_ ?_) rfl)) | (with_reducible refine q_leave lay_ok 400 ?_) | (with_reducible refine q_ret lay_ok 400 ?_) | (with_reducible exact o_nil) | (with_reducible refine o_cons ?_ ?_) | ((with_reducible refine o_id ?_); (conv => arg 1; whnf); first | (with_reducible exact o_nil) | (with_reducible refine o_cons ?_ ?_)) | (intro h; ((try simp only [Int.toNat_natCast] at h); repeat (first | replace h := of_decide_eq_true h | replace h := of_decide_eq_false h | replace h := not_t h | replace h := not_f h | replace h := eq_of_beq h)); (try (first | contradiction | (exfalso; omega) | exact Bool.noConfusion (h.symm.trans (by assumption) : true = false) | exact Bool.noConfusion (h.symm.trans (by assumption) : false = true) | exact absurd rfl h | exact absurd (by assumption) h | exact absurd h (by assumption)))) | rfl | omega | assumption | (simp only [List.length_append, List.length_cons, List.length_nil]; omega))
  all_goals (((with_reducible refine e_id ?_); (conv => whnf)); apply ex_rts; ((with_reducible refine s_id ?_); (conv => arg 1; whnf); (with_reducible refine s_some ?_); repeat' (first | (with_reducible exact o_nil) | (with_reducible refine o_cons ?_ ?_) | ((with_reducible refine o_id ?_); (conv => arg 1; whnf); first | (with_reducible exact o_nil) | (with_reducible refine o_cons ?_ ?_)) | rfl | omega | assumption | (simp only [List.length_append, List.length_cons, List.length_nil]; omega))))
  all_goals (constructor <;> omega)
end Go.Proofs.Ytjhjhjmdbhackaa
