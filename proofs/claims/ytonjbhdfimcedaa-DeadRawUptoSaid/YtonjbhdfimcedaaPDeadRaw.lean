/- What is proved: the statement of DeadRaw: for every input the law returns true and its arguments read as they did. Its conditions: none beyond the given row's own. -/
import Derived.Test.YtonjbhdfimcedaaQ8
import Derived.Test.YtonjbhdfimcedaaRows
import Derived.WalkKit
import Derived.ProofKit
import Derived.OpenShut
import Derived.ShutString
import Derived.ChangeOld
import Derived.Below
import Derived.Carry
import Derived.JoinedCond
namespace Go.Proofs.Ytonjbhdfimcedaa.deadRaw
open Go.ChangeShapes Go.WideShapes Go.ChangeAt Go.RowKit
open Go.ChangeMaps (open_string shut_string)
set_option linter.unusedVariables false
set_option linter.unusedSimpArgs false
theorem own : ownKnob Try.prog.godebug = none := by kernel_rfl
theorem laidOut : laidOutB Try.prog = true := by kernel_rfl
set_option maxRecDepth 100000 in
theorem contract (H : Type) (enc : TypeId × Value → H) (W : World) (base : Nat) (args : Array Value) (ds gs : List (DataW H)) (before : List MemPlace)
    (hval0 : ∀ (j : Nat) t v, Try.f6.params[j]? = some t → args[j]? = some v → Value.okWide Try.prog W .any base t v)
    (hW : DataW.Whole enc Try.prog Try.f6.params.toList Rows.deadRawSpec.vars false W args.toList ds gs before) (hk : Rows.uptoSmall H (ds ++ gs) = true) :
    Calls Try.prog 6 args W fun e W' => ∃ v, e = .returned v ∧ Rows.deadRawSpec.post enc Try.prog Try.f6 false true false false W args v W' := by
  have hval : ∀ (j : Nat) t v, Try.f6.params[j]? = some t → args[j]? = some v → Value.okWide Try.prog W .any base t v := hval0
  have hW' := hW
  obtain ⟨p, q, hA0, hV, rfl, hfz, hnd⟩ := hW
  have hA : DataW.TrodAll enc Try.prog W 0 (fun _ => true) true Try.f6.params.toList args.toList ds p := hA0
  rw [Try.params6] at hA hval
  obtain ⟨v0, vs0, d0, ds0, p0, q0, hargs, rfl, rfl, h0, r0⟩ := trodAll_cons hA
  obtain ⟨rfl, rfl, rfl⟩ := trodAll_nil r0
  obtain rfl : args = #[v0] := by cases args; simp_all
  obtain ⟨rfl, rfl⟩ := trodVars_none hV
  have k0 := h0
  have lt0 : ∀ x ∈ p0, x.block < W.heap.size := by obtain ⟨m, hm⟩ := k0; exact DataW.trod_lt m _ _ _ hm
  obtain ⟨cs0, rfl, hs0⟩ := okWide_struct Try.underlying28 (hval 0 28 v0 rfl rfl)
  obtain ⟨fuel0, hf0⟩ := h0
  have hf0' : DataW.trod enc Try.prog W 0 (fun _ => true) true fuel0 28 cs0.toList = some _ := hf0
  obtain ⟨g0, q0⟩ := flat_ok 9 28 [.sl 33, .int .i64, .int .i64, .sl 35, .int .i64, .sl 40, .sl 38, .sl 57] (by kernel_rfl) hf0'
  obtain ⟨dsb0, _, gb0, qb0⟩ := flat_bulk 9 28 [.sl 33, .int .i64, .int .i64, .sl 35, .int .i64, .sl 40, .sl 38, .sl 57] (by kernel_rfl) hf0'
  obtain ⟨v0_0, y0_0, z0_0⟩ := q0 0 _ rfl
  obtain ⟨t0_0, x0_0, f0_0, _, u0_0, tr0_0⟩ := z0_0
  obtain ⟨c0_0, l0_0, rfl, o0_0⟩ := open_list codes_ok f0_0 f0_0 (Nat.le_refl _) u0_0 rfl tr0_0
  obtain ⟨vb0_0, db0_0, yb0_0, hdb0_0, kb0_0⟩ := qb0 0 _ rfl
  rw [y0_0] at yb0_0
  cases yb0_0
  obtain ⟨tb0_0, xb0_0, fb0_0, _, ub0_0, trb0_0, eb0_0⟩ := kb0_0
  have b0_0 := list_bulk codes_ok ub0_0 rfl trb0_0 o0_0
  have m0_0 := bk_part (List.mem_of_getElem? hdb0_0)
  rw [eb0_0] at m0_0
  obtain ⟨v0_1, y0_1, z0_1⟩ := q0 1 _ rfl
  obtain ⟨a0_1, rfl, w0_1⟩ := z0_1
  obtain ⟨v0_2, y0_2, z0_2⟩ := q0 2 _ rfl
  obtain ⟨a0_2, rfl, w0_2⟩ := z0_2
  obtain ⟨v0_3, y0_3, z0_3⟩ := q0 3 _ rfl
  obtain ⟨t0_3, x0_3, f0_3, _, u0_3, tr0_3⟩ := z0_3
  obtain ⟨c0_3, l0_3, rfl, o0_3⟩ := open_list codes_ok f0_3 f0_3 (Nat.le_refl _) u0_3 rfl tr0_3
  obtain ⟨vb0_3, db0_3, yb0_3, hdb0_3, kb0_3⟩ := qb0 3 _ rfl
  rw [y0_3] at yb0_3
  cases yb0_3
  obtain ⟨tb0_3, xb0_3, fb0_3, _, ub0_3, trb0_3, eb0_3⟩ := kb0_3
  have b0_3 := list_bulk codes_ok ub0_3 rfl trb0_3 o0_3
  have m0_3 := bk_part (List.mem_of_getElem? hdb0_3)
  rw [eb0_3] at m0_3
  obtain ⟨v0_4, y0_4, z0_4⟩ := q0 4 _ rfl
  obtain ⟨a0_4, rfl, w0_4⟩ := z0_4
  obtain ⟨v0_5, y0_5, z0_5⟩ := q0 5 _ rfl
  obtain ⟨t0_5, x0_5, f0_5, _, u0_5, tr0_5⟩ := z0_5
  obtain ⟨c0_5, l0_5, rfl, o0_5⟩ := open_list codes_ok f0_5 f0_5 (Nat.le_refl _) u0_5 rfl tr0_5
  obtain ⟨vb0_5, db0_5, yb0_5, hdb0_5, kb0_5⟩ := qb0 5 _ rfl
  rw [y0_5] at yb0_5
  cases yb0_5
  obtain ⟨tb0_5, xb0_5, fb0_5, _, ub0_5, trb0_5, eb0_5⟩ := kb0_5
  have b0_5 := list_bulk codes_ok ub0_5 rfl trb0_5 o0_5
  have m0_5 := bk_part (List.mem_of_getElem? hdb0_5)
  rw [eb0_5] at m0_5
  obtain ⟨v0_6, y0_6, z0_6⟩ := q0 6 _ rfl
  obtain ⟨t0_6, x0_6, f0_6, _, u0_6, tr0_6⟩ := z0_6
  obtain ⟨c0_6, l0_6, rfl, o0_6⟩ := open_list codes_ok f0_6 f0_6 (Nat.le_refl _) u0_6 rfl tr0_6
  obtain ⟨vb0_6, db0_6, yb0_6, hdb0_6, kb0_6⟩ := qb0 6 _ rfl
  rw [y0_6] at yb0_6
  cases yb0_6
  obtain ⟨tb0_6, xb0_6, fb0_6, _, ub0_6, trb0_6, eb0_6⟩ := kb0_6
  have b0_6 := list_bulk codes_ok ub0_6 rfl trb0_6 o0_6
  have m0_6 := bk_part (List.mem_of_getElem? hdb0_6)
  rw [eb0_6] at m0_6
  obtain ⟨v0_7, y0_7, z0_7⟩ := q0 7 _ rfl
  obtain ⟨t0_7, x0_7, f0_7, _, u0_7, tr0_7⟩ := z0_7
  obtain ⟨c0_7, l0_7, rfl, o0_7⟩ := open_list codes_ok f0_7 f0_7 (Nat.le_refl _) u0_7 rfl tr0_7
  obtain ⟨vb0_7, db0_7, yb0_7, hdb0_7, kb0_7⟩ := qb0 7 _ rfl
  rw [y0_7] at yb0_7
  cases yb0_7
  obtain ⟨tb0_7, xb0_7, fb0_7, _, ub0_7, trb0_7, eb0_7⟩ := kb0_7
  have b0_7 := list_bulk codes_ok ub0_7 rfl trb0_7 o0_7
  have m0_7 := bk_part (List.mem_of_getElem? hdb0_7)
  rw [eb0_7] at m0_7
  obtain rfl : cs0 = #[.slice c0_0.a c0_0.len c0_0.cap, .int .i64 a0_1, .int .i64 a0_2, .slice c0_3.a c0_3.len c0_3.cap, .int .i64 a0_4, .slice c0_5.a c0_5.len c0_5.cap, .slice c0_6.a c0_6.len c0_6.cap, .slice c0_7.a c0_7.len c0_7.cap] := arr_of (vs := [.slice c0_0.a c0_0.len c0_0.cap, .int .i64 a0_1, .int .i64 a0_2, .slice c0_3.a c0_3.len c0_3.cap, .int .i64 a0_4, .slice c0_5.a c0_5.len c0_5.cap, .slice c0_6.a c0_6.len c0_6.cap, .slice c0_7.a c0_7.len c0_7.cap]) g0 ⟨y0_0, y0_1, y0_2, y0_3, y0_4, y0_5, y0_6, y0_7, trivial⟩
  clear hA0 hval0
  have hbk := bk_small hk
  have hb0 : Rows.uptoBulk d0 ≤ 1048576 := Nat.le_trans (bk_part (List.mem_append_left _ (by simp))) hbk
  dsimp only at gb0
  have key := law_ofF (P := Try.prog) (g := 6) (svs := [.agg [.sl ⟨0, []⟩, .int .i64 a0_1, .int .i64 a0_2, .sl ⟨1, []⟩, .int .i64 a0_4, .sl ⟨2, []⟩, .sl ⟨3, []⟩, .sl ⟨4, []⟩]]) (vs := [.agg #[.slice c0_0.a c0_0.len c0_0.cap, .int .i64 a0_1, .int .i64 a0_2, .slice c0_3.a c0_3.len c0_3.cap, .int .i64 a0_4, .slice c0_5.a c0_5.len c0_5.cap, .slice c0_6.a c0_6.len c0_6.cap, .slice c0_7.a c0_7.len c0_7.cap]]) (w := W) [⟨_, c0_0, l0_0⟩, ⟨_, c0_3, l0_3⟩, ⟨_, c0_5, l0_5⟩, ⟨_, c0_6, l0_6⟩, ⟨_, c0_7, l0_7⟩] 5 rfl (List.forall_mem_cons.2 ⟨o0_0, List.forall_mem_cons.2 ⟨o0_3, List.forall_mem_cons.2 ⟨o0_5, List.forall_mem_cons.2 ⟨o0_6, List.forall_mem_cons.2 ⟨o0_7, fun a h => absurd h List.not_mem_nil⟩⟩⟩⟩⟩) (l_deadRaw ⟨l0_0, a0_1, a0_2, l0_3, a0_4, l0_5, l0_6, l0_7⟩ (grf_bnd (by dsimp only; omega) (by dsimp only; omega) (by dsimp only; omega) (by dsimp only; omega) (by dsimp only; omega))) rfl
  refine key.mono fun e W' ⟨he, bel⟩ => ?_
  subst he
  exact ⟨_, rfl, _, _, _, [], _, [], hW', trodAll_mk1 (shut_bool Try.underlying4 _), (trodAll_cons_mk (Below.trod laidOut (by kernel_rfl) (of_decide_eq_true (by kernel_rfl)) k0 bel lt0) trodAll_mk0), rfl, bel.frame _, fun h => by cases h⟩
set_option maxRecDepth 100000 in
theorem lifted (os : Os) (started : os.Started) (H : Type) (enc : TypeId × Value → H) (F : Stop.Interp) :
    ReturnsInHanded {} Try.checked os 6 .any ((Rows.OpenSpec.upto Rows.deadRawSpec).pre6 enc Try.prog Try.f6 Rows.deadRawUptoRow.domain false) (((Rows.OpenSpec.upto Rows.deadRawSpec).at F).post enc Try.prog Try.f6 false true false false) := by
  refine returnsInHanded_of_cond (C := Try.checked) (s := Rows.OpenSpec.upto Rows.deadRawSpec) (k := Rows.uptoSmall) rfl own started (by kernel_rfl) Try.func6
    (OpenSpec.witness (enc := enc) (C := Try.checked) (s := Rows.OpenSpec.upto Rows.deadRawSpec) (k := Rows.uptoSmall) rfl false ⟨#[], #[.agg #[.slice none 0 0, .int .i64 0, .int .i64 0, .slice none 0 0, .int .i64 0, .slice none 0 0, .slice none 0 0, .slice none 0 0]], []⟩ 8 (by kernel_rfl) (by kernel_rfl) (by kernel_rfl)
      (x := ([.agg [.nil, .lit (.int .i64 0), .lit (.int .i64 0), .nil, .lit (.int .i64 0), .nil, .nil, .nil]], [], [])) (by kernel_rfl) rfl (by kernel_rfl)) ?_
  intro W base args ds gs before hval hW _ hk _
  exact contract H enc W base args ds gs before hval hW hk
theorem over : Rows.deadRawUptoRow.holds Try.pinned (Rows.OpenSpec.upto Rows.deadRawSpec) :=
  OpenClaim.holds_of_cond 6 Try.f6 rfl rfl rfl rfl rfl rfl rfl ⟨rfl, rfl, rfl, rfl, rfl⟩ rfl rfl rfl rfl rfl (by kernel_rfl) Try.func6 (by kernel_rfl)
    (of_decide_eq_true (by kernel_rfl)) (by unfold Func.isWrapper; first | (rw [if_pos (by decide +kernel)]; kernel_rfl) | (rw [if_neg (by decide +kernel)]; exact ⟨rfl, rfl⟩))
    (fun os started H enc _ F => lifted os started H enc F)
theorem proved : Rows.DeadRawUptoSaid := over
#print axioms proved
end Go.Proofs.Ytonjbhdfimcedaa.deadRaw
