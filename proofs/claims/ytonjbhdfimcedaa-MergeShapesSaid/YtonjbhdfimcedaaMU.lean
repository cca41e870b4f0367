/- What joining needs. -/
import Derived.Test.YtonjbhdfimcedaaMT
namespace Go.Proofs.Ytonjbhdfimcedaa
set_option linter.unusedVariables false
set_option linter.unusedSimpArgs false
open Go.RowKit
/-- Where a block is, when block b has gone into block a. -/
def mvJ (a b n : Int) : Int := if n = b then (if b < a then a - 1 else a) else if b < n then n - 1 else n
theorem mv_1 {a b n : Int} (h : n = b) (h2 : b < a) : mvJ a b n = a - 1 := by unfold mvJ; rw [if_pos h, if_pos h2]
theorem mv_2 {a b n : Int} (h : n = b) (h2 : ¬ b < a) : mvJ a b n = a := by unfold mvJ; rw [if_pos h, if_neg h2]
theorem mv_3 {a b n : Int} (h : ¬ n = b) (h2 : b < n) : mvJ a b n = n - 1 := by unfold mvJ; rw [if_neg h, if_pos h2]
theorem mv_4 {a b n : Int} (h : ¬ n = b) (h2 : ¬ b < n) : mvJ a b n = n := by unfold mvJ; rw [if_neg h, if_neg h2]
theorem c_mv (a b n : Int) (ha : 0 ≤ a ∧ a ≤ 1048576) (hb : 0 ≤ b ∧ b ≤ 1048576) (hn : 0 ≤ n ∧ n ≤ 1048576) : Trip Try.prog 109 [.int .i64 n, .ptr 0 0, .ptr 1 0] ⟨[], [(0, .cells [.int .i64 b]), (1, .cells [.int .i64 a])], 2⟩ (Z := Unit) (fun _ => True) (fun _ => .int .i64 (mvJ a b n)) (fun _ => ⟨[], [(0, .cells [.int .i64 b]), (1, .cells [.int .i64 a])], 2⟩) := by
  refine trip_by (rs := [_]) 400 lay_ok Try.func109 rfl (by kernel_rfl) Try.ntmps109 Try.results109 rfl rfl ?_
  repeat' (first | (((with_reducible refine g_id ?_); (conv => arg 3; whnf)); first | (with_reducible refine g_cond lay_ok 400 ?_ ?_ ?_) | (with_reducible refine g_fin ?_ ?_)) | ((with_reducible refine o_id ?_); (conv => arg 1; whnf); first | (with_reducible exact o_nil) | (with_reducible refine o_cons ?_ ?_)) | (intro h; ((try simp only [Int.toNat_natCast] at h); repeat (first | replace h := of_decide_eq_true h | replace h := of_decide_eq_false h)); (try (first | contradiction))) | omega)
  all_goals (((with_reducible refine e_id ?_); (conv => whnf)); refine ⟨(), trivial, ?_⟩; ((with_reducible refine s_id ?_); (conv => arg 1; whnf); (with_reducible refine s_some ?_); repeat' (first | ((with_reducible refine o_id ?_); (conv => arg 1; whnf); first | (with_reducible exact o_nil) | (with_reducible refine o_cons ?_ ?_)) | rfl | (exact mv_1 (by omega) (by omega)) | (exact mv_2 (by omega) (by omega)) | (exact mv_3 (by omega) (by omega)) | (exact mv_4 (by omega) (by omega)))))
theorem e_capN {x : Cx} {s : St} (hL : LayOk x.P x.L) {args : Array Operand} {ts : Array TypeId} {a : Operand} {T : TypeId} {ti : TI} {e es : Nat} {ea : Bool} (hargs : args.toList = [a]) (hts : ts.toList = [T]) (hT : find x.L T = some ti) (htd : ti.td = .slice e es ea) (ha : s.get a = some (.val (.slice none 0 0))) : EvTo x s (.call ⟨.builtin .cap, args, ts⟩) (.int .i64 0) := by
  obtain ⟨d, h4, h5⟩ := (hL.at hT).desc
  rw [htd] at h5
  obtain ⟨i, de, rfl, _⟩ := td_slice h5
  have e1 : args = #[a] := by apply Array.ext'; simpa using hargs
  have e2 : ts = #[T] := by apply Array.ext'; simpa using hts
  subst e1
  subst e2
  refine ⟨fun D0 V ac w he hE dst ty pos after guard => ?_⟩
  have h0 : (#[T] : Array TypeId)[0]? = some T := rfl
  have h1 : (#[Value.slice none 0 0] : Array Value)[0]? = some (.slice none 0 0) := rfl
  simp only [execOp, resolve, invoke, builtin, Builtin.cap_, Sem.run_bind, Sem.run_pure, Result.andThen_ok, List.map_toArray, List.map_cons, List.map_nil, he.get ha, den, h0, h1, r_underlying h4]
  rfl
theorem c_grow (n : Int) (h0 : 0 ≤ n) (hn : n ≤ 4194304) : Trip Try.prog 122 [.val (.slice none 0 0), .int .i64 n] ⟨[], [], 0⟩ (Z := Unit) (fun _ => True) (fun _ => .sl ⟨0, []⟩) (fun _ => ⟨[], [(0, .list .own .op [])], 1⟩) := by
  refine trip_by (rs := [_]) 400 lay_ok Try.func122 rfl (by kernel_rfl) Try.ntmps122 Try.results122 rfl rfl ?_
  repeat' (first | (((with_reducible refine g_id ?_); (conv => arg 3; whnf)); first | (with_reducible refine g_cond lay_ok 400 ?_ ?_ ?_) | (with_reducible refine g_fin ?_ ?_) | (refine g_appZ lay_ok 400 ?_ rfl rfl rfl rfl rfl rfl rfl ?_ ?_) | (refine g_ev lay_ok 400 ?_ (e_capN lay_ok rfl rfl rfl rfl rfl) rfl rfl rfl ?_)) | (with_reducible exact o_nil) | (with_reducible refine o_cons ?_ ?_) | ((with_reducible refine o_id ?_); (conv => arg 1; whnf); first | (with_reducible exact o_nil) | (with_reducible refine o_cons ?_ ?_)) | (intro h; ((try simp only [Int.toNat_natCast] at h); repeat (first | replace h := of_decide_eq_true h | replace h := of_decide_eq_false h)); (try (first | (exfalso; omega)))) | rfl | omega)
  all_goals (((with_reducible refine e_id ?_); (conv => whnf)); refine ⟨(), trivial, ?_⟩; ((with_reducible refine s_id ?_); (conv => arg 1; whnf); (with_reducible refine s_some ?_); repeat' (first | ((with_reducible refine o_id ?_); (conv => arg 1; whnf); first | (with_reducible exact o_nil) | (with_reducible refine o_cons ?_ ?_)) | rfl | (simp [bnat]; done))))
set_option maxHeartbeats 1000000 in
theorem c_concat (a b : List Op_) (ha : a.length ≤ 1048576) (hb : b.length ≤ 1048576) : Trip Try.prog 108 [.slc 0 0 2 2] ⟨[], [(0, .cells [.sl ⟨1, []⟩, .sl ⟨2, []⟩]), (1, .list .tmp .op a), (2, .list .tmp .op b)], 3⟩ (Z := Unit) (fun _ => True) (fun _ => .sl ⟨3, []⟩) (fun _ => ⟨[], [(0, .cells [.sl ⟨1, []⟩, .sl ⟨2, []⟩]), (1, .list .tmp .op a), (2, .list .tmp .op b), (3, .list .own .op (a ++ b))], 4⟩) := by
  have he : ((0 : Int) + (a.length : Int)) + (b.length : Int) = ((a.length + b.length : Nat) : Int) := by omega
  refine trip_by (rs := [_]) 400 lay_ok Try.func108 rfl (by kernel_rfl) Try.ntmps108 Try.results108 rfl rfl ?_
  repeat' (first | (((with_reducible refine g_id ?_); (conv => arg 3; whnf)); first | (with_reducible refine g_cond lay_ok 400 ?_ ?_ ?_) | (with_reducible refine g_fin ?_ ?_) | (refine g_call lay_ok 400 ?_ ?_ ?_ (c_grow ?_ ?_ ?_) rfl) | (with_reducible refine g_rounds lay_ok 400 3 ?_ ?_)) | (with_reducible refine q_leave lay_ok 400 ?_) | (with_reducible refine q_next ?_) | (with_reducible exact o_nil) | ((with_reducible refine o_id ?_); (conv => arg 1; whnf); first | (with_reducible exact o_nil) | (with_reducible refine o_cons ?_ ?_)) | (intro h; ((try simp only [Int.toNat_natCast] at h); repeat (first | replace h := of_decide_eq_true h | replace h := of_decide_eq_false h)); (try (first | contradiction))) | rfl | omega | (simp only [List.length_append, List.length_cons, List.length_nil]; omega))
  all_goals (((with_reducible refine e_id ?_); (conv => whnf)); refine ⟨(), trivial, ?_⟩; ((with_reducible refine s_id ?_); (conv => arg 1; whnf); (with_reducible refine s_some ?_); repeat' (first | ((with_reducible refine o_id ?_); (conv => arg 1; whnf); first | (with_reducible exact o_nil) | (with_reducible refine o_cons ?_ ?_)) | rfl)))
end Go.Proofs.Ytonjbhdfimcedaa
