/- Facts of a block: the program. -/
import Derived.Test.YtonjbhdfimcedaaNA
import Derived.Test.YtonjbhdfimcedaaVU
/- N7 -/
namespace Go.Proofs.Ytonjbhdfimcedaa
set_option linter.unusedVariables false
set_option linter.unusedSimpArgs false
open Go.RowKit
/-- What is left of the copies when a variable is forgotten. -/
def swp (cs : List (Int × Int)) (v : Int) : List (Int × Int) := (mpDel cs v).filter fun p => !decide (p.2 = v)
set_option maxHeartbeats 1000000 in
theorem c_forget (ws cs : List (Int × Int)) (v : Int) : Trip Try.prog 60 [.ptr 0 0, .int .i64 v] ⟨[], [(0, .cells [.mp 1, .mp 2]), (1, .mp ⟨false, ws⟩), (2, .mp ⟨false, cs⟩)], 3⟩ (Z := Unit) (fun _ => True) (fun _ => .tup []) (fun _ => ⟨[], [(0, .cells [.mp 1, .mp 2]), (1, .mp ⟨false, mpDel ws v⟩), (2, .mp ⟨false, swp cs v⟩)], 3⟩) := by
  refine trip_by (rs := []) 19 lay_ok Try.func60 rfl (by kernel_rfl) Try.ntmps60 Try.results60 rfl rfl ?_
  ((with_reducible refine g_id ?_); (conv => arg 3; whnf))
  refine g_mid lay_ok 0 0 (Z := Unit) (fun _ => True) (fun _ => ⟨swE v, swM ⟨false, mpDel ws v⟩ (mpDel cs v), 3⟩) rfl ?_ (fun z hz => ?_)
  · repeat' (first | (((with_reducible refine g_id ?_); (conv => arg 3; whnf)); first | (with_reducible refine g_out lay_ok 400 ?_ ?_) | (with_reducible refine g_fin ?_ ?_)) | (with_reducible exact o_nil) | ((with_reducible refine o_id ?_); (conv => arg 1; whnf); first | (with_reducible exact o_nil)))
    all_goals (refine q_round ⟨(), trivial, ?_⟩; ((with_reducible refine s_id ?_); (conv => arg 1; whnf); (with_reducible refine s_some ?_); repeat' (first | ((with_reducible refine o_id ?_); (conv => arg 1; whnf); first | (with_reducible exact o_nil) | (with_reducible refine o_cons ?_ ?_)) | rfl)))
  · refine ⟨trivial, ?_⟩
    refine tr_sweep lay_ok (tM := 19) (tI := 20) (tN := 21) (tC := 22) (tE := 23) (tX := 4) (tV := 5) (tB := 28) (tD := 32) (tK := 33) v ⟨false, mpDel ws v⟩ (mpDel cs v) 4 5 rfl rfl rfl rfl rfl rfl rfl rfl rfl rfl rfl rfl rfl ⟨_, _, rfl, trivial, rfl, rfl, rfl, trivial⟩ (fun r es => ⟨_, _, rfl, trivial, rfl, rfl, rfl, trivial⟩) (fun r es k u => ⟨_, _, rfl, trivial, rfl, rfl, rfl, rfl, trivial⟩) (fun r es k u => ⟨_, _, rfl, trivial, rfl, rfl, rfl, rfl, rfl, trivial⟩) (fun r es k u => ⟨_, _, rfl, trivial, rfl, rfl, rfl, rfl, rfl, trivial⟩) (fun r es k => ⟨_, _, rfl, trivial, rfl, rfl, rfl, rfl, rfl, trivial⟩) (by decide) (by decide) ?_
    show endS _ _ _ _ _
    (((with_reducible refine e_id ?_); (conv => whnf)); refine ⟨(), trivial, ?_⟩; ((with_reducible refine s_id ?_); (conv => arg 1; whnf); (with_reducible refine s_some ?_); repeat' (first | ((with_reducible refine o_id ?_); (conv => arg 1; whnf); first | (with_reducible exact o_nil) | (with_reducible refine o_cons ?_ ?_)) | rfl)))
end Go.Proofs.Ytonjbhdfimcedaa

/- N8 -/
namespace Go.Proofs.Ytonjbhdfimcedaa
set_option linter.unusedVariables false
set_option linter.unusedSimpArgs false
open Go.RowKit
/-- What stands for a variable. -/
def useP (cs : List (Int × Int)) (v : Int) : Int := (mpGet cs v).getD v
theorem useP_y {cs : List (Int × Int)} {v : Int} (h : (mpGet cs v).isSome = true) : useP cs v = (mpGet cs v).getD 0 := by
  unfold useP
  cases e : mpGet cs v with
  | none => rw [e] at h; cases h
  | some u => rfl
theorem useP_n {cs : List (Int × Int)} {v : Int} (h : (mpGet cs v).isSome = false) : useP cs v = v := by
  unfold useP
  cases e : mpGet cs v with
  | none => rfl
  | some u => rw [e] at h; cases h
def opAt (L : List Blk) (i j : Nat) : Op_ := gt (c := .op) (gt (c := .block) L i).ops j
/-- One operation of a block is set. -/
def setO (L : List Blk) (i j : Nat) (o : Op_) : List Blk := L.set i ⟨(gt (c := .block) L i).ops.set j o, (gt (c := .block) L i).cond, (gt (c := .block) L i).next⟩
theorem setO_same {L : List Blk} {i j : Nat} (hi : i < L.length) (hj : j < (gt (c := .block) L i).ops.length) : setO L i j (opAt L i j) = L := by
  unfold setO opAt
  rw [set_gt (c := .op) hj]
  exact set_gt (c := .block) hi
theorem setO_eq {L : List Blk} {i j : Nat} {o o' : Op_} (h : o = o') : setO L i j o = setO L i j o' := by rw [h]
theorem setO_len {L : List Blk} {i j : Nat} {o : Op_} : (setO L i j o).length = L.length := by unfold setO; rw [List.length_set]
theorem setO_row {L : List Blk} {i j : Nat} {o : Op_} (hi : i < L.length) : gt (c := .block) (setO L i j o) i = ⟨(gt (c := .block) L i).ops.set j o, (gt (c := .block) L i).cond, (gt (c := .block) L i).next⟩ := gt_set (c := .block) hi
theorem setO_at {L : List Blk} {i j : Nat} {o : Op_} (hi : i < L.length) (hj : j < (gt (c := .block) L i).ops.length) : opAt (setO L i j o) i j = o := by
  unfold opAt; rw [setO_row hi]; exact gt_set (c := .op) hj
theorem setO_two {L : List Blk} {i j : Nat} {o o' : Op_} (hi : i < L.length) : setO (setO L i j o) i j o' = setO L i j o' := by
  rw [show setO (setO L i j o) i j o' = (setO L i j o).set i ⟨(gt (c := .block) (setO L i j o) i).ops.set j o', (gt (c := .block) (setO L i j o) i).cond, (gt (c := .block) (setO L i j o) i).next⟩ from rfl, setO_row hi]
  unfold setO
  rw [List.set_set, List.set_set]
/-- The condition of a block is set. -/
def setCd (L : List Blk) (i : Nat) (v : Int) : List Blk := L.set i ⟨(gt (c := .block) L i).ops, v, (gt (c := .block) L i).next⟩
theorem setCd_same {L : List Blk} {i : Nat} (hi : i < L.length) : setCd L i (gt (c := .block) L i).cond = L := set_gt (c := .block) hi
set_option maxHeartbeats 1000000 in
theorem c_repA (ws cs : List (Int × Int)) (L : List Blk) (i j : Nat) (hi : i < L.length) (hj : j < (gt (c := .block) L i).ops.length) : Trip Try.prog 29 [.ptr 0 0, .el ⟨3, [(i, 0)]⟩ 5 j 2] ⟨[], [(0, .cells [.mp 1, .mp 2]), (1, .mp ⟨false, ws⟩), (2, .mp ⟨false, cs⟩), (3, .list .own .block L)], 4⟩ (Z := Unit) (fun _ => True) (fun _ => .tup []) (fun _ => ⟨[], [(0, .cells [.mp 1, .mp 2]), (1, .mp ⟨false, ws⟩), (2, .mp ⟨false, cs⟩), (3, .list .own .block (setO L i j ⟨(opAt L i j).kind, (opAt L i j).dst, useP cs (opAt L i j).a, (opAt L i j).b, (opAt L i j).imm⟩))], 4⟩) := by
  refine trip_by (rs := []) 400 lay_ok Try.func29 rfl (by kernel_rfl) Try.ntmps29 Try.results29 rfl rfl ?_
  repeat' (first | (((with_reducible refine g_id ?_); (conv => arg 3; whnf)); first | (with_reducible refine g_cond lay_ok 400 ?_ ?_ ?_) | (with_reducible refine g_fin ?_ ?_) | (refine g_flow 0 lay_ok mixed_ok 400 0 [0, 1, 3, 7, 0, 16, 48, 127, 255, 511, 511, 1023, 4095] (.q 0 (.q 1 (.q 2 (.q 3 (.q 4 (.q 5 (.q 6 (.q 7 (.q 8 (.q 9 (.q 10 (.q 11 (.q 12 .fin))))))))))))) (by kernel_rfl) ?_ ?_)) | (((with_reducible refine w_id ?_); (conv => arg 4; whnf)); first | (with_reducible refine w_fin ?_ ?_)) | (with_reducible exact o_nil) | ((with_reducible refine o_id ?_); (conv => arg 1; whnf); first | (with_reducible exact o_nil) | (with_reducible refine o_cons ?_ ?_)) | (intro h; ((try simp only [Int.toNat_natCast] at h); repeat (first | replace h := of_decide_eq_true h)); (try (first | contradiction))) | rfl | omega)
  all_goals (((with_reducible refine e_id ?_); (conv => whnf)); refine ⟨(), trivial, ?_⟩; ((with_reducible refine s_id ?_); (conv => arg 1; whnf); (with_reducible refine s_some ?_); repeat' (first | ((with_reducible refine o_id ?_); (conv => arg 1; whnf); first | (with_reducible exact o_nil) | (with_reducible refine o_cons ?_ ?_)) | rfl | (rw [useP_y (by assumption)]; rfl) | (unfold opAt; rw [useP_n (by assumption)]; exact setO_same hi hj))))
set_option maxHeartbeats 1000000 in
theorem c_repB (ws cs : List (Int × Int)) (L : List Blk) (i j : Nat) (hi : i < L.length) (hj : j < (gt (c := .block) L i).ops.length) : Trip Try.prog 29 [.ptr 0 0, .el ⟨3, [(i, 0)]⟩ 5 j 3] ⟨[], [(0, .cells [.mp 1, .mp 2]), (1, .mp ⟨false, ws⟩), (2, .mp ⟨false, cs⟩), (3, .list .own .block L)], 4⟩ (Z := Unit) (fun _ => True) (fun _ => .tup []) (fun _ => ⟨[], [(0, .cells [.mp 1, .mp 2]), (1, .mp ⟨false, ws⟩), (2, .mp ⟨false, cs⟩), (3, .list .own .block (setO L i j ⟨(opAt L i j).kind, (opAt L i j).dst, (opAt L i j).a, useP cs (opAt L i j).b, (opAt L i j).imm⟩))], 4⟩) := by
  refine trip_by (rs := []) 400 lay_ok Try.func29 rfl (by kernel_rfl) Try.ntmps29 Try.results29 rfl rfl ?_
  repeat' (first | (((with_reducible refine g_id ?_); (conv => arg 3; whnf)); first | (with_reducible refine g_cond lay_ok 400 ?_ ?_ ?_) | (with_reducible refine g_fin ?_ ?_) | (refine g_flow 0 lay_ok mixed_ok 400 0 [0, 1, 3, 7, 0, 16, 48, 127, 255, 511, 511, 1023, 4095] (.q 0 (.q 1 (.q 2 (.q 3 (.q 4 (.q 5 (.q 6 (.q 7 (.q 8 (.q 9 (.q 10 (.q 11 (.q 12 .fin))))))))))))) (by kernel_rfl) ?_ ?_)) | (((with_reducible refine w_id ?_); (conv => arg 4; whnf)); first | (with_reducible refine w_fin ?_ ?_)) | (with_reducible exact o_nil) | ((with_reducible refine o_id ?_); (conv => arg 1; whnf); first | (with_reducible exact o_nil) | (with_reducible refine o_cons ?_ ?_)) | (intro h; ((try simp only [Int.toNat_natCast] at h); repeat (first | replace h := of_decide_eq_true h)); (try (first | contradiction))) | rfl | omega)
  all_goals (((with_reducible refine e_id ?_); (conv => whnf)); refine ⟨(), trivial, ?_⟩; ((with_reducible refine s_id ?_); (conv => arg 1; whnf); (with_reducible refine s_some ?_); repeat' (first | ((with_reducible refine o_id ?_); (conv => arg 1; whnf); first | (with_reducible exact o_nil) | (with_reducible refine o_cons ?_ ?_)) | rfl | (rw [useP_y (by assumption)]; rfl) | (unfold opAt; rw [useP_n (by assumption)]; exact setO_same hi hj))))
set_option maxHeartbeats 1000000 in
theorem c_repC (ws cs : List (Int × Int)) (L : List Blk) (i : Nat) (hi : i < L.length) : Trip Try.prog 29 [.ptr 0 0, .el ⟨3, []⟩ 3 i 1] ⟨[], [(0, .cells [.mp 1, .mp 2]), (1, .mp ⟨false, ws⟩), (2, .mp ⟨false, cs⟩), (3, .list .own .block L)], 4⟩ (Z := Unit) (fun _ => True) (fun _ => .tup []) (fun _ => ⟨[], [(0, .cells [.mp 1, .mp 2]), (1, .mp ⟨false, ws⟩), (2, .mp ⟨false, cs⟩), (3, .list .own .block (setCd L i (useP cs (gt (c := .block) L i).cond)))], 4⟩) := by
  refine trip_by (rs := []) 400 lay_ok Try.func29 rfl (by kernel_rfl) Try.ntmps29 Try.results29 rfl rfl ?_
  repeat' (first | (((with_reducible refine g_id ?_); (conv => arg 3; whnf)); first | (with_reducible refine g_cond lay_ok 400 ?_ ?_ ?_) | (with_reducible refine g_fin ?_ ?_) | (refine g_flow 0 lay_ok mixed_ok 400 0 [0, 1, 3, 7, 0, 16, 48, 127, 255, 511, 511, 1023, 4095] (.q 0 (.q 1 (.q 2 (.q 3 (.q 4 (.q 5 (.q 6 (.q 7 (.q 8 (.q 9 (.q 10 (.q 11 (.q 12 .fin))))))))))))) (by kernel_rfl) ?_ ?_)) | (((with_reducible refine w_id ?_); (conv => arg 4; whnf)); first | (with_reducible refine w_fin ?_ ?_)) | (with_reducible exact o_nil) | ((with_reducible refine o_id ?_); (conv => arg 1; whnf); first | (with_reducible exact o_nil) | (with_reducible refine o_cons ?_ ?_)) | (intro h; ((try simp only [Int.toNat_natCast] at h); repeat (first | replace h := of_decide_eq_true h)); (try (first | contradiction))) | rfl | omega)
  all_goals (((with_reducible refine e_id ?_); (conv => whnf)); refine ⟨(), trivial, ?_⟩; ((with_reducible refine s_id ?_); (conv => arg 1; whnf); (with_reducible refine s_some ?_); repeat' (first | ((with_reducible refine o_id ?_); (conv => arg 1; whnf); first | (with_reducible exact o_nil) | (with_reducible refine o_cons ?_ ?_)) | rfl | (rw [useP_y (by assumption)]; rfl) | (rw [useP_n (by assumption)]; exact setCd_same hi))))
end Go.Proofs.Ytonjbhdfimcedaa

/- N9 -/
namespace Go.Proofs.Ytonjbhdfimcedaa
set_option linter.unusedVariables false
set_option linter.unusedSimpArgs false
open Go.RowKit
abbrev MS := List (Int × Int) × List (Int × Int)
/-- The operands replaced. -/
def useOP (cs : List (Int × Int)) (o : Op_) : Op_ := if o.kind = 2 ∨ o.kind = 4 then ⟨o.kind, o.dst, useP cs o.a, o.b, o.imm⟩ else if o.kind = 3 ∨ o.kind = 5 then ⟨o.kind, o.dst, useP cs o.a, useP cs o.b, o.imm⟩ else o
/-- What is known becomes a constant. -/
def cstP (ws : List (Int × Int)) (o : Op_) : Op_ :=
  if o.kind = 2 ∧ (mpGet ws o.a).isSome = true then ⟨1, o.dst, 0, 0, (mpGet ws o.a).getD 0⟩
  else if o.kind = 3 ∧ (mpGet ws o.a).isSome = true ∧ (mpGet ws o.b).isSome = true then ⟨1, o.dst, 0, 0, doI o.imm ((mpGet ws o.a).getD 0) ((mpGet ws o.b).getD 0)⟩ else o
/-- What is known behind an operation. -/
def updP (o : Op_) (s : MS) : MS :=
  if o.kind = 1 then (mpSet (mpDel s.1 o.dst) o.dst o.imm, swp s.2 o.dst)
  else if o.kind = 2 then (mpDel s.1 o.dst, if o.a = o.dst then swp s.2 o.dst else mpSet (swp s.2 o.dst) o.dst o.a)
  else if o.kind = 3 ∨ o.kind = 4 then (mpDel s.1 o.dst, swp s.2 o.dst) else s
/-- An operation folded, and what is known behind it. -/
def fldP (o : Op_) (s : MS) : Op_ × MS := (cstP s.1 (useOP s.2 o), updP (cstP s.1 (useOP s.2 o)) s)
set_option maxHeartbeats 1000000 in
theorem c_opnd1 (L : List Blk) (i j : Nat) (hi : i < L.length) (hj : j < (gt (c := .block) L i).ops.length) (hk : (opAt L i j).kind = 2 ∨ (opAt L i j).kind = 4) : Trip Try.prog 57 [.el ⟨0, [(i, 0)]⟩ 5 j 0] ⟨[], [(0, .list .own .block L)], 1⟩ (Z := Unit) (fun _ => True) (fun _ => .slc 1 0 1 1) (fun _ => ⟨[], [(0, .list .own .block L), (1, .cells [.el ⟨0, [(i, 0)]⟩ 5 j 2])], 2⟩) := by
  unfold opAt at *
  refine trip_by (rs := [_]) 400 lay_ok Try.func57 rfl (by kernel_rfl) Try.ntmps57 Try.results57 rfl rfl ?_
  repeat' (first | (((with_reducible refine g_id ?_); (conv => arg 3; whnf)); first | (with_reducible refine g_cond lay_ok 400 ?_ ?_ ?_) | (with_reducible refine g_fin ?_ ?_)) | (with_reducible exact o_nil) | ((with_reducible refine o_id ?_); (conv => arg 1; whnf); first | (with_reducible exact o_nil) | (with_reducible refine o_cons ?_ ?_)) | (intro h; ((try simp only [Int.toNat_natCast] at h); repeat (first | replace h := of_decide_eq_true h | replace h := of_decide_eq_false h)); (try (first | contradiction | (exfalso; omega)))) | omega)
  all_goals (((with_reducible refine e_id ?_); (conv => whnf)); refine ⟨(), trivial, ?_⟩; ((with_reducible refine s_id ?_); (conv => arg 1; whnf); (with_reducible refine s_some ?_); repeat' (first | ((with_reducible refine o_id ?_); (conv => arg 1; whnf); first | (with_reducible exact o_nil) | (with_reducible refine o_cons ?_ ?_)) | rfl)))
set_option maxHeartbeats 1000000 in
theorem c_opnd2 (L : List Blk) (i j : Nat) (hi : i < L.length) (hj : j < (gt (c := .block) L i).ops.length) (hk : (opAt L i j).kind = 3 ∨ (opAt L i j).kind = 5) : Trip Try.prog 57 [.el ⟨0, [(i, 0)]⟩ 5 j 0] ⟨[], [(0, .list .own .block L)], 1⟩ (Z := Unit) (fun _ => True) (fun _ => .slc 1 0 2 2) (fun _ => ⟨[], [(0, .list .own .block L), (1, .cells [.el ⟨0, [(i, 0)]⟩ 5 j 2, .el ⟨0, [(i, 0)]⟩ 5 j 3])], 2⟩) := by
  unfold opAt at *
  refine trip_by (rs := [_]) 400 lay_ok Try.func57 rfl (by kernel_rfl) Try.ntmps57 Try.results57 rfl rfl ?_
  repeat' (first | (((with_reducible refine g_id ?_); (conv => arg 3; whnf)); first | (with_reducible refine g_cond lay_ok 400 ?_ ?_ ?_) | (with_reducible refine g_fin ?_ ?_) | (refine g_flow 7 lay_ok mixed_ok 400 64 [0, 1, 3, 0, 8, 24, 63, 127] (.q 0 (.q 1 (.q 2 (.q 3 (.q 4 (.q 5 (.e 6 [] (.q 7 .fin) .stop))))))) (by kernel_rfl) ?_ ?_)) | (((with_reducible refine w_id ?_); (conv => arg 4; whnf)); first | (with_reducible refine w_fin ?_ ?_) | (with_reducible refine w_tt ?_) | (with_reducible refine w_eff lay_ok 400 ?_ rfl rfl ?_ ?_)) | (with_reducible refine q_flow ?_ ?_) | ((with_reducible refine h_id ?_); (conv => arg 1; whnf); (with_reducible refine s_some ?_)) | (with_reducible exact o_nil) | ((with_reducible refine o_id ?_); (conv => arg 1; whnf); first | (with_reducible exact o_nil) | (with_reducible refine o_cons ?_ ?_)) | (intro h; ((try simp only [Int.toNat_natCast] at h); repeat (first | replace h := of_decide_eq_true h | replace h := of_decide_eq_false h)); (try (first | contradiction | (exfalso; omega)))) | omega)
  all_goals (((with_reducible refine e_id ?_); (conv => whnf)); refine ⟨(), trivial, ?_⟩; ((with_reducible refine s_id ?_); (conv => arg 1; whnf); (with_reducible refine s_some ?_); repeat' (first | ((with_reducible refine o_id ?_); (conv => arg 1; whnf); first | (with_reducible exact o_nil) | (with_reducible refine o_cons ?_ ?_)) | rfl)))
set_option maxHeartbeats 1000000 in
theorem c_opnd0 (L : List Blk) (i j : Nat) (hi : i < L.length) (hj : j < (gt (c := .block) L i).ops.length) (hk : ¬ ((opAt L i j).kind = 2 ∨ (opAt L i j).kind = 4)) (hk2 : ¬ ((opAt L i j).kind = 3 ∨ (opAt L i j).kind = 5)) : Trip Try.prog 57 [.el ⟨0, [(i, 0)]⟩ 5 j 0] ⟨[], [(0, .list .own .block L)], 1⟩ (Z := Unit) (fun _ => True) (fun _ => .val (.slice none 0 0)) (fun _ => ⟨[], [(0, .list .own .block L)], 1⟩) := by
  unfold opAt at *
  refine trip_by (rs := [_]) 400 lay_ok Try.func57 rfl (by kernel_rfl) Try.ntmps57 Try.results57 rfl rfl ?_
  repeat' (first | (((with_reducible refine g_id ?_); (conv => arg 3; whnf)); first | (with_reducible refine g_cond lay_ok 400 ?_ ?_ ?_) | (with_reducible refine g_fin ?_ ?_)) | ((with_reducible refine o_id ?_); (conv => arg 1; whnf); first | (with_reducible exact o_nil) | (with_reducible refine o_cons ?_ ?_)) | (intro h; ((try simp only [Int.toNat_natCast] at h); repeat (first | replace h := of_decide_eq_true h | replace h := of_decide_eq_false h)); (try (first | (exfalso; omega)))) | omega)
  all_goals (((with_reducible refine e_id ?_); (conv => whnf)); refine ⟨(), trivial, ?_⟩; ((with_reducible refine s_id ?_); (conv => arg 1; whnf); (with_reducible refine s_some ?_); repeat' (first | ((with_reducible refine o_id ?_); (conv => arg 1; whnf); first | (with_reducible exact o_nil) | (with_reducible refine o_cons ?_ ?_)) | rfl)))
set_option maxHeartbeats 1000000 in
theorem c_resY (o : Op_) (hk : o.kind = 1 ∨ o.kind = 2 ∨ o.kind = 3 ∨ o.kind = 4) : Trip Try.prog 59 [.agg [.int .i64 o.kind, .int .i64 o.dst, .int .i64 o.a, .int .i64 o.b, .int .i64 o.imm]] ⟨[], [], 0⟩ (Z := Unit) (fun _ => True) (fun _ => .tup [.int .i64 o.dst, .tf true]) (fun _ => ⟨[], [], 0⟩) := by
  refine trip_by (rs := [_, _]) 400 lay_ok Try.func59 rfl (by kernel_rfl) Try.ntmps59 Try.results59 rfl rfl ?_
  repeat' (first | (((with_reducible refine g_id ?_); (conv => arg 3; whnf)); first | (with_reducible refine g_cond lay_ok 400 ?_ ?_ ?_) | (with_reducible refine g_fin ?_ ?_)) | (with_reducible exact o_nil) | ((with_reducible refine o_id ?_); (conv => arg 1; whnf); first | (with_reducible exact o_nil)) | (intro h; ((try simp only [Int.toNat_natCast] at h); repeat (first | replace h := of_decide_eq_true h | replace h := of_decide_eq_false h)); (try (first | contradiction | (exfalso; omega)))))
  all_goals (((with_reducible refine e_id ?_); (conv => whnf)); refine ⟨(), trivial, ?_⟩; ((with_reducible refine s_id ?_); (conv => arg 1; whnf); (with_reducible refine s_some ?_); repeat' (first | ((with_reducible refine o_id ?_); (conv => arg 1; whnf); first | (with_reducible exact o_nil) | (with_reducible refine o_cons ?_ ?_)) | rfl)))
set_option maxHeartbeats 1000000 in
theorem c_resN (o : Op_) (hk : ¬ (o.kind = 1 ∨ o.kind = 2 ∨ o.kind = 3 ∨ o.kind = 4)) : Trip Try.prog 59 [.agg [.int .i64 o.kind, .int .i64 o.dst, .int .i64 o.a, .int .i64 o.b, .int .i64 o.imm]] ⟨[], [], 0⟩ (Z := Unit) (fun _ => True) (fun _ => .tup [.int .i64 0, .tf false]) (fun _ => ⟨[], [], 0⟩) := by
  refine trip_by (rs := [_, _]) 400 lay_ok Try.func59 rfl (by kernel_rfl) Try.ntmps59 Try.results59 rfl rfl ?_
  repeat' (first | (((with_reducible refine g_id ?_); (conv => arg 3; whnf)); first | (with_reducible refine g_cond lay_ok 400 ?_ ?_ ?_) | (with_reducible refine g_fin ?_ ?_)) | ((with_reducible refine o_id ?_); (conv => arg 1; whnf); first | (with_reducible exact o_nil)) | (intro h; ((try simp only [Int.toNat_natCast] at h); repeat (first | replace h := of_decide_eq_true h | replace h := of_decide_eq_false h)); (try (first | (exfalso; omega)))))
  all_goals (((with_reducible refine e_id ?_); (conv => whnf)); refine ⟨(), trivial, ?_⟩; ((with_reducible refine s_id ?_); (conv => arg 1; whnf); (with_reducible refine s_some ?_); repeat' (first | ((with_reducible refine o_id ?_); (conv => arg 1; whnf); first | (with_reducible exact o_nil) | (with_reducible refine o_cons ?_ ?_)) | rfl)))
attribute [local irreducible] doI
theorem cst_1 {ws : List (Int × Int)} {o : Op_} (h : o.kind = 2) (h1 : (mpGet ws o.a).isSome = true) : cstP ws o = ⟨1, o.dst, 0, 0, (mpGet ws o.a).getD 0⟩ := if_pos ⟨h, h1⟩
theorem cst_2 {ws : List (Int × Int)} {o : Op_} (h : o.kind = 3) (h1 : (mpGet ws o.a).isSome = true) (h2 : (mpGet ws o.b).isSome = true) : cstP ws o = ⟨1, o.dst, 0, 0, doI o.imm ((mpGet ws o.a).getD 0) ((mpGet ws o.b).getD 0)⟩ := by
  unfold cstP; rw [if_neg (fun q => by have := q.1; omega), if_pos ⟨h, h1, h2⟩]
theorem cst_3 {ws : List (Int × Int)} {o : Op_} (h : ¬ o.kind = 2) (h2 : ¬ o.kind = 3) : cstP ws o = o := by
  unfold cstP; rw [if_neg (fun q => h q.1), if_neg (fun q => h2 q.1)]
theorem cst_4 {ws : List (Int × Int)} {o : Op_} (h1 : (mpGet ws o.a).isSome = false) : cstP ws o = o := by
  unfold cstP; rw [if_neg (fun q => by rw [h1] at q; exact Bool.noConfusion q.2), if_neg (fun q => by rw [h1] at q; exact Bool.noConfusion q.2.1)]
theorem cst_5 {ws : List (Int × Int)} {o : Op_} (h : o.kind = 3) (h1 : (mpGet ws o.b).isSome = false) : cstP ws o = o := by
  unfold cstP; rw [if_neg (fun q => by have := q.1; omega), if_neg (fun q => by rw [h1] at q; exact Bool.noConfusion q.2.2)]
set_option maxHeartbeats 2000000 in
theorem c_simp (ws cs : List (Int × Int)) (L : List Blk) (i j : Nat) (hi : i < L.length) (hj : j < (gt (c := .block) L i).ops.length) (him : (opAt L i j).kind = 3 → 1 ≤ (opAt L i j).imm ∧ (opAt L i j).imm ≤ 14) : Trip Try.prog 58 [.ptr 0 0, .el ⟨3, [(i, 0)]⟩ 5 j 0] ⟨[], [(0, .cells [.mp 1, .mp 2]), (1, .mp ⟨false, ws⟩), (2, .mp ⟨false, cs⟩), (3, .list .own .block L)], 4⟩ (Z := Unit) (fun _ => True) (fun _ => .tup []) (fun _ => ⟨[], [(0, .cells [.mp 1, .mp 2]), (1, .mp ⟨false, ws⟩), (2, .mp ⟨false, cs⟩), (3, .list .own .block (setO L i j (cstP ws (opAt L i j))))], 4⟩) := by
  have him1 := fun q => (him q).1
  have him2 := fun q => (him q).2
  unfold opAt at him him1 him2
  refine trip_by (rs := []) 400 lay_ok Try.func58 rfl (by kernel_rfl) Try.ntmps58 Try.results58 rfl rfl ?_
  repeat' (first | (((with_reducible refine g_id ?_); (conv => arg 3; whnf)); first | (with_reducible refine g_split lay_ok 400 ?_ ?_ ?_) | (with_reducible refine g_cond lay_ok 400 ?_ ?_ ?_) | (with_reducible refine g_fin ?_ ?_) | (refine g_call lay_ok 400 ?_ ?_ ?_ (c_do ?_ ?_ ?_ ?_ ?_) rfl) | (refine g_flow 0 lay_ok mixed_ok 400 0 [0, 1, 3, 7, 0, 16, 48, 112, 255, 511, 1023, 1023, 2047, 8191] (.q 0 (.q 1 (.q 2 (.q 3 (.q 4 (.q 5 (.q 6 (.q 7 (.q 8 (.q 9 (.q 10 (.q 11 (.q 12 (.q 13 .fin)))))))))))))) (by kernel_rfl) ?_ ?_) | (refine g_flow 6 lay_ok mixed_ok 400 0 [0, 1, 3, 7, 0, 16, 48, 112, 255, 511, 1023, 1023, 2047, 8191] (.q 0 (.q 1 (.q 2 (.q 3 (.q 4 (.q 5 (.q 6 (.q 7 (.q 8 (.q 9 (.q 10 (.q 11 (.q 12 (.q 13 .fin)))))))))))))) (by kernel_rfl) ?_ ?_)) | (((with_reducible refine w_id ?_); (conv => arg 4; whnf)); first | (with_reducible refine w_fin ?_ ?_)) | (with_reducible exact o_nil) | ((with_reducible refine o_id ?_); (conv => arg 1; whnf); first | (with_reducible exact o_nil) | (with_reducible refine o_cons ?_ ?_)) | (intro h; ((try simp only [Int.toNat_natCast] at h); repeat (first | replace h := of_decide_eq_true h | replace h := of_decide_eq_false h)); (try (first | contradiction))) | rfl | omega | (rw [setO_eq (cst_3 (by assumption) (by assumption)), setO_same hi hj]) | (rw [setO_eq (cst_4 (by assumption)), setO_same hi hj]) | (rw [setO_eq (cst_5 (by assumption) (by assumption)), setO_same hi hj]) | fail)
  all_goals (((with_reducible refine e_id ?_); (conv => whnf)); refine ⟨(), trivial, ?_⟩; ((with_reducible refine s_id ?_); (conv => arg 1; whnf); (with_reducible refine s_some ?_); repeat' (first | ((with_reducible refine o_id ?_); (conv => arg 1; whnf); first | (with_reducible exact o_nil) | (with_reducible refine o_cons ?_ ?_)) | rfl | (rw [setO_eq (cst_1 (by assumption) (by assumption))]; rfl) | (rw [setO_eq (cst_2 (by assumption) (by assumption) (by assumption))]; rfl) | fail)))
end Go.Proofs.Ytonjbhdfimcedaa

/- O1 -/
namespace Go.Proofs.Ytonjbhdfimcedaa
set_option linter.unusedVariables false
set_option linter.unusedSimpArgs false
open Go.RowKit
theorem useOP_1 {cs : List (Int × Int)} {o : Op_} (h : o.kind = 2 ∨ o.kind = 4) : useOP cs o = ⟨o.kind, o.dst, useP cs o.a, o.b, o.imm⟩ := if_pos h
theorem useOP_2 {cs : List (Int × Int)} {o : Op_} (h : o.kind = 3 ∨ o.kind = 5) : useOP cs o = ⟨o.kind, o.dst, useP cs o.a, useP cs o.b, o.imm⟩ := by
  unfold useOP; rw [if_neg (by omega), if_pos h]
theorem useOP_0 {cs : List (Int × Int)} {o : Op_} (h : ¬ (o.kind = 2 ∨ o.kind = 4)) (h2 : ¬ (o.kind = 3 ∨ o.kind = 5)) : useOP cs o = o := by
  unfold useOP; rw [if_neg h, if_neg h2]
theorem updP_1 {o : Op_} {s : MS} (h : o.kind = 1) : updP o s = (mpSet (mpDel s.1 o.dst) o.dst o.imm, swp s.2 o.dst) := if_pos h
theorem updP_2 {o : Op_} {s : MS} (h : o.kind = 2) (h2 : o.a = o.dst) : updP o s = (mpDel s.1 o.dst, swp s.2 o.dst) := by
  unfold updP; rw [if_neg (by omega), if_pos h, if_pos h2]
theorem updP_2n {o : Op_} {s : MS} (h : o.kind = 2) (h2 : ¬ o.a = o.dst) : updP o s = (mpDel s.1 o.dst, mpSet (swp s.2 o.dst) o.dst o.a) := by
  unfold updP; rw [if_neg (by omega), if_pos h, if_neg h2]
theorem updP_3 {o : Op_} {s : MS} (h : o.kind = 3 ∨ o.kind = 4) : updP o s = (mpDel s.1 o.dst, swp s.2 o.dst) := by
  unfold updP; rw [if_neg (by omega), if_neg (by omega), if_pos h]
theorem updP_0 {o : Op_} {s : MS} (h : ¬ (o.kind = 1 ∨ o.kind = 2 ∨ o.kind = 3 ∨ o.kind = 4)) : updP o s = s := by
  unfold updP; rw [if_neg (by omega), if_neg (by omega), if_neg (by omega)]
theorem setO_in {L : List Blk} {i j : Nat} {o : Op_} (hi : i < L.length) (hj : j < (gt (c := .block) L i).ops.length) : i < (setO L i j o).length ∧ j < (gt (c := .block) (setO L i j o) i).ops.length := by
  rw [setO_len, setO_row hi]; exact ⟨hi, by dsimp only; rw [List.length_set]; exact hj⟩
theorem useOP_kind {cs : List (Int × Int)} {o : Op_} : (useOP cs o).kind = o.kind := by unfold useOP; split; rfl; split <;> rfl
theorem useOP_imm {cs : List (Int × Int)} {o : Op_} : (useOP cs o).imm = o.imm := by unfold useOP; split; rfl; split <;> rfl
theorem p1_1 {cs : List (Int × Int)} {L : List Blk} {i j : Nat} (h : (opAt L i j).kind = 2 ∨ (opAt L i j).kind = 4) :
    setO L i j ⟨(opAt L i j).kind, (opAt L i j).dst, useP cs (opAt L i j).a, (opAt L i j).b, (opAt L i j).imm⟩ = setO L i j (useOP cs (opAt L i j)) := by rw [useOP_1 h]
theorem p1_2 {cs : List (Int × Int)} {L L1 : List Blk} {i j : Nat} (hi : i < L.length) (hj : j < (gt (c := .block) L i).ops.length) (h : (opAt L i j).kind = 3 ∨ (opAt L i j).kind = 5)
    (e1 : L1 = setO L i j ⟨(opAt L i j).kind, (opAt L i j).dst, useP cs (opAt L i j).a, (opAt L i j).b, (opAt L i j).imm⟩) :
    setO L1 i j ⟨(opAt L1 i j).kind, (opAt L1 i j).dst, (opAt L1 i j).a, useP cs (opAt L1 i j).b, (opAt L1 i j).imm⟩ = setO L i j (useOP cs (opAt L i j)) := by
  subst e1
  rw [setO_two hi, setO_at hi hj, useOP_2 h]
theorem p1_0 {cs : List (Int × Int)} {L : List Blk} {i j : Nat} (hi : i < L.length) (hj : j < (gt (c := .block) L i).ops.length) (h : ¬ ((opAt L i j).kind = 2 ∨ (opAt L i j).kind = 4)) (h2 : ¬ ((opAt L i j).kind = 3 ∨ (opAt L i j).kind = 5)) :
    L = setO L i j (useOP cs (opAt L i j)) := by rw [useOP_0 h h2, setO_same hi hj]
attribute [local irreducible] swp useP cstP useOP setO opAt
set_option maxHeartbeats 4000000 in
theorem c_opP (ws cs : List (Int × Int)) (L : List Blk) (i j : Nat) (hi : i < L.length) (hj : j < (gt (c := .block) L i).ops.length) (him : (opAt L i j).kind = 3 → 1 ≤ (opAt L i j).imm ∧ (opAt L i j).imm ≤ 14) : Trip Try.prog 28 [.ptr 0 0, .el ⟨3, [(i, 0)]⟩ 5 j 0] ⟨[], [(0, .cells [.mp 1, .mp 2]), (1, .mp ⟨false, ws⟩), (2, .mp ⟨false, cs⟩), (3, .list .own .block L)], 4⟩ (Z := Op_ × MS) (fun z => fldP (opAt L i j) (ws, cs) = z) (fun _ => .tup []) (fun z => ⟨[], [(0, .cells [.mp 1, .mp 2]), (1, .mp ⟨false, z.2.1⟩), (2, .mp ⟨false, z.2.2⟩), (3, .list .own .block (setO L i j z.1))], 4⟩) := by
  refine trip_by (rs := []) 5 lay_ok Try.func28 rfl (by kernel_rfl) Try.ntmps28 Try.results28 rfl rfl ?_
  ((with_reducible refine g_id ?_); (conv => arg 3; whnf))
  refine g_mid lay_ok 1 400 (Z := List Blk) (fun L' => L' = setO L i j (useOP cs (opAt L i j))) (fun L' => ⟨[(0, .ptr 0 0), (1, .el ⟨3, [(i, 0)]⟩ 5 j 0)], [(0, .cells [.mp 1, .mp 2]), (1, .mp ⟨false, ws⟩), (2, .mp ⟨false, cs⟩), (3, .list .own .block L')], 4⟩) rfl ?_ (fun L1 hz1 => ?_)
  · by_cases hk : (opAt L i j).kind = 2 ∨ (opAt L i j).kind = 4
    · repeat' (first | (((with_reducible refine g_id ?_); (conv => arg 3; whnf)); first | (with_reducible refine g_cond lay_ok 400 ?_ ?_ ?_) | (with_reducible refine g_fin ?_ ?_) | (refine g_call lay_ok 400 ?_ ?_ ?_ (c_opnd1 ?_ ?_ ?_ ?_ ?_ ?_) rfl) | (refine g_call lay_ok 400 ?_ ?_ ?_ (c_repA ?_ ?_ ?_ ?_ ?_ ?_ ?_) rfl) | (with_reducible refine g_rounds lay_ok 400 4 ?_ ?_)) | (with_reducible refine q_leave lay_ok 400 ?_) | (with_reducible refine q_next ?_) | (with_reducible exact o_nil) | ((with_reducible refine o_id ?_); (conv => arg 1; whnf); first | (with_reducible exact o_nil) | (with_reducible refine o_cons ?_ ?_)) | (intro h; ((try simp only [Int.toNat_natCast] at h); repeat (first | replace h := of_decide_eq_true h | replace h := of_decide_eq_false h)); (try (first | contradiction))) | rfl | omega)
      all_goals (refine q_round ⟨_, rfl, ?_⟩; ((with_reducible refine s_id ?_); (conv => arg 1; whnf); (with_reducible refine s_some ?_); repeat' (first | ((with_reducible refine o_id ?_); (conv => arg 1; whnf); first | (with_reducible exact o_nil) | (with_reducible refine o_cons ?_ ?_)) | rfl | (exact Eq.symm (p1_1 hk)))))
    by_cases hk2 : (opAt L i j).kind = 3 ∨ (opAt L i j).kind = 5
    · repeat' (first | (((with_reducible refine g_id ?_); (conv => arg 3; whnf)); first | (with_reducible refine g_cond lay_ok 400 ?_ ?_ ?_) | (with_reducible refine g_fin ?_ ?_) | (refine g_call lay_ok 400 ?_ ?_ ?_ (c_opnd2 ?_ ?_ ?_ ?_ ?_ ?_) rfl) | (refine g_call lay_ok 400 ?_ ?_ ?_ (c_repA ?_ ?_ ?_ ?_ ?_ ?_ ?_) rfl) | (refine g_call lay_ok 400 ?_ ?_ ?_ (c_repB ?_ ?_ ?_ ?_ ?_ ?_ ?_) rfl) | (with_reducible refine g_rounds lay_ok 400 4 ?_ ?_)) | (with_reducible refine q_leave lay_ok 400 ?_) | (with_reducible refine q_next ?_) | (with_reducible exact o_nil) | ((with_reducible refine o_id ?_); (conv => arg 1; whnf); first | (with_reducible exact o_nil) | (with_reducible refine o_cons ?_ ?_)) | (intro h; ((try simp only [Int.toNat_natCast] at h); repeat (first | replace h := of_decide_eq_true h | replace h := of_decide_eq_false h)); (try (first | contradiction))) | rfl | omega | (exact (setO_in hi hj).1) | (exact (setO_in hi hj).2))
      all_goals (refine q_round ⟨_, rfl, ?_⟩; ((with_reducible refine s_id ?_); (conv => arg 1; whnf); (with_reducible refine s_some ?_); repeat' (first | ((with_reducible refine o_id ?_); (conv => arg 1; whnf); first | (with_reducible exact o_nil) | (with_reducible refine o_cons ?_ ?_)) | rfl | (exact Eq.symm (p1_2 hi hj hk2 rfl)))))
    · repeat' (first | (((with_reducible refine g_id ?_); (conv => arg 3; whnf)); first | (with_reducible refine g_cond lay_ok 400 ?_ ?_ ?_) | (with_reducible refine g_fin ?_ ?_) | (refine g_call lay_ok 400 ?_ ?_ ?_ (c_opnd0 ?_ ?_ ?_ ?_ ?_ ?_ ?_) rfl) | (with_reducible refine g_rounds lay_ok 400 4 ?_ ?_)) | (with_reducible refine q_leave lay_ok 400 ?_) | (with_reducible exact o_nil) | ((with_reducible refine o_id ?_); (conv => arg 1; whnf); first | (with_reducible exact o_nil) | (with_reducible refine o_cons ?_ ?_)) | (intro h; ((try simp only [Int.toNat_natCast] at h); repeat (first | replace h := of_decide_eq_true h | replace h := of_decide_eq_false h)); (try (first | contradiction))) | rfl | omega)
      all_goals (refine q_round ⟨_, rfl, ?_⟩; ((with_reducible refine s_id ?_); (conv => arg 1; whnf); (with_reducible refine s_some ?_); repeat' (first | ((with_reducible refine o_id ?_); (conv => arg 1; whnf); first | (with_reducible exact o_nil) | (with_reducible refine o_cons ?_ ?_)) | rfl | (exact Eq.symm (p1_0 hi hj hk hk2)))))
  have hi1 : i < L1.length := by rw [hz1]; exact (setO_in hi hj).1
  have hj1 : j < (gt (c := .block) L1 i).ops.length := by rw [hz1]; exact (setO_in hi hj).2
  have ho1 : opAt L1 i j = useOP cs (opAt L i j) := by rw [hz1]; exact setO_at hi hj
  have hm1 : (opAt L1 i j).kind = 3 → 1 ≤ (opAt L1 i j).imm ∧ (opAt L1 i j).imm ≤ 14 := by rw [ho1, useOP_kind, useOP_imm]; exact him
  ((with_reducible refine g_id ?_); (conv => arg 3; whnf))
  refine g_mid lay_ok 0 400 (Z := List Blk) (fun L' => L' = setO L1 i j (cstP ws (opAt L1 i j))) (fun L' => ⟨[(0, .ptr 0 0), (1, .el ⟨3, [(i, 0)]⟩ 5 j 0)], [(0, .cells [.mp 1, .mp 2]), (1, .mp ⟨false, ws⟩), (2, .mp ⟨false, cs⟩), (3, .list .own .block L')], 4⟩) rfl ?_ (fun L' hz2 => ?_)
  · repeat' (first | (((with_reducible refine g_id ?_); (conv => arg 3; whnf)); first | (with_reducible refine g_fin ?_ ?_) | (refine g_call lay_ok 400 ?_ ?_ ?_ (c_simp ?_ ?_ ?_ ?_ ?_ ?_ ?_ ?_) rfl)) | (with_reducible exact o_nil) | ((with_reducible refine o_id ?_); (conv => arg 1; whnf); first | (with_reducible exact o_nil) | (with_reducible refine o_cons ?_ ?_)) | (intro h; ((try simp only [Int.toNat_natCast] at h); repeat (first | replace h := of_decide_eq_true h)); (try (first | contradiction))) | rfl | omega)
    all_goals (refine q_round ⟨_, rfl, ?_⟩; ((with_reducible refine s_id ?_); (conv => arg 1; whnf); (with_reducible refine s_some ?_); repeat' (first | ((with_reducible refine o_id ?_); (conv => arg 1; whnf); first | (with_reducible exact o_nil) | (with_reducible refine o_cons ?_ ?_)) | rfl)))
  have hi2 : i < L'.length := by rw [hz2]; exact (setO_in hi1 hj1).1
  have hj2 : j < (gt (c := .block) L' i).ops.length := by rw [hz2]; exact (setO_in hi1 hj1).2
  have ho2 : opAt L' i j = cstP ws (useOP cs (opAt L i j)) := by rw [hz2, setO_at hi1 hj1, ho1]
  have he : fldP (opAt L i j) (ws, cs) = (opAt L' i j, updP (opAt L' i j) (ws, cs)) := by rw [ho2]; rfl
  have hs : setO L i j (opAt L' i j) = L' := by rw [ho2, hz2, ho1, hz1, setO_two hi]
  clear hz1 hz2 ho1 hm1 ho2 hi1 hj1
  have hx : opAt L' i j = (gt (c := .op) (gt (c := .block) L' i).ops j) := by unfold opAt; rfl
  rw [hx] at he hs
  clear hx
  by_cases k1 : (gt (c := .op) (gt (c := .block) L' i).ops j).kind = 1
  · have hk : (gt (c := .op) (gt (c := .block) L' i).ops j).kind = 1 ∨ (gt (c := .op) (gt (c := .block) L' i).ops j).kind = 2 ∨ (gt (c := .op) (gt (c := .block) L' i).ops j).kind = 3 ∨ (gt (c := .op) (gt (c := .block) L' i).ops j).kind = 4 := .inl k1
    · repeat' (first | (((with_reducible refine g_id ?_); (conv => arg 3; whnf)); first | (with_reducible refine g_cond lay_ok 400 ?_ ?_ ?_) | (with_reducible refine g_fin ?_ ?_) | (refine g_call lay_ok 400 ?_ ?_ ?_ (c_resY ?_ ?_) rfl) | (refine g_call lay_ok 400 ?_ ?_ ?_ (c_forget ?_ ?_ ?_) rfl) | (refine g_flow 10 lay_ok mixed_ok 400 512 [0, 1, 3, 7, 0, 0, 32, 96, 224, 511] (.q 0 (.q 1 (.q 2 (.q 3 (.q 4 (.q 5 (.q 6 (.q 7 (.q 8 (.e 9 [] (.fin) .stop)))))))))) (by kernel_rfl) ?_ ?_)) | (((with_reducible refine w_id ?_); (conv => arg 4; whnf)); first | (with_reducible refine w_fin ?_ ?_) | (with_reducible refine w_tt ?_) | (with_reducible refine w_eff lay_ok 400 ?_ rfl rfl ?_ ?_)) | (with_reducible refine q_flow ?_ ?_) | ((with_reducible refine h_id ?_); (conv => arg 1; whnf); (with_reducible refine s_some ?_)) | (with_reducible exact o_nil) | ((with_reducible refine o_id ?_); (conv => arg 1; whnf); first | (with_reducible exact o_nil) | (with_reducible refine o_cons ?_ ?_)) | (intro h; ((try simp only [Int.toNat_natCast] at h); repeat (first | replace h := of_decide_eq_true h | replace h := of_decide_eq_false h)); (try (first | contradiction))) | rfl | omega)
      all_goals (((with_reducible refine e_id ?_); (conv => whnf)); refine ⟨((gt (c := .op) (gt (c := .block) L' i).ops j), (mpSet (mpDel ws (gt (c := .op) (gt (c := .block) L' i).ops j).dst) (gt (c := .op) (gt (c := .block) L' i).ops j).dst (gt (c := .op) (gt (c := .block) L' i).ops j).imm, swp cs (gt (c := .op) (gt (c := .block) L' i).ops j).dst)), ?_, ?_⟩; rotate_left; (focus (((with_reducible refine s_id ?_); (conv => arg 1; whnf); (with_reducible refine s_some ?_); repeat' (first | ((with_reducible refine o_id ?_); (conv => arg 1; whnf); first | (with_reducible exact o_nil) | (with_reducible refine o_cons ?_ ?_)) | rfl | omega)))); all_goals first | (rw [he, updP_1 k1]; done))
  by_cases k2 : (gt (c := .op) (gt (c := .block) L' i).ops j).kind = 2
  · have hk : (gt (c := .op) (gt (c := .block) L' i).ops j).kind = 1 ∨ (gt (c := .op) (gt (c := .block) L' i).ops j).kind = 2 ∨ (gt (c := .op) (gt (c := .block) L' i).ops j).kind = 3 ∨ (gt (c := .op) (gt (c := .block) L' i).ops j).kind = 4 := .inr (.inl k2)
    by_cases k3 : (gt (c := .op) (gt (c := .block) L' i).ops j).a = (gt (c := .op) (gt (c := .block) L' i).ops j).dst
    · repeat' (first | (((with_reducible refine g_id ?_); (conv => arg 3; whnf)); first | (with_reducible refine g_split lay_ok 400 ?_ ?_ ?_) | (with_reducible refine g_cond lay_ok 400 ?_ ?_ ?_) | (with_reducible refine g_fin ?_ ?_) | (refine g_call lay_ok 400 ?_ ?_ ?_ (c_resY ?_ ?_) rfl) | (refine g_call lay_ok 400 ?_ ?_ ?_ (c_forget ?_ ?_ ?_) rfl)) | (with_reducible exact o_nil) | ((with_reducible refine o_id ?_); (conv => arg 1; whnf); first | (with_reducible exact o_nil) | (with_reducible refine o_cons ?_ ?_)) | (intro h; ((try simp only [Int.toNat_natCast] at h); repeat (first | replace h := of_decide_eq_true h | replace h := of_decide_eq_false h | replace h := not_t h | replace h := not_f h)); (try (first | contradiction))) | rfl | omega)
      all_goals (((with_reducible refine e_id ?_); (conv => whnf)); refine ⟨((gt (c := .op) (gt (c := .block) L' i).ops j), (mpDel ws (gt (c := .op) (gt (c := .block) L' i).ops j).dst, swp cs (gt (c := .op) (gt (c := .block) L' i).ops j).dst)), ?_, ?_⟩; rotate_left; (focus (((with_reducible refine s_id ?_); (conv => arg 1; whnf); (with_reducible refine s_some ?_); repeat' (first | ((with_reducible refine o_id ?_); (conv => arg 1; whnf); first | (with_reducible exact o_nil) | (with_reducible refine o_cons ?_ ?_)) | rfl | omega)))); all_goals first | (rw [he, updP_2 k2 k3]; done))
    · repeat' (first | (((with_reducible refine g_id ?_); (conv => arg 3; whnf)); first | (with_reducible refine g_split lay_ok 400 ?_ ?_ ?_) | (with_reducible refine g_cond lay_ok 400 ?_ ?_ ?_) | (with_reducible refine g_fin ?_ ?_) | (refine g_call lay_ok 400 ?_ ?_ ?_ (c_resY ?_ ?_) rfl) | (refine g_call lay_ok 400 ?_ ?_ ?_ (c_forget ?_ ?_ ?_) rfl) | (refine g_flow 12 lay_ok mixed_ok 400 512 [0, 1, 3, 7, 0, 0, 32, 96, 224, 511] (.q 0 (.q 1 (.q 2 (.q 3 (.q 4 (.q 5 (.q 6 (.q 7 (.q 8 (.e 9 [] (.fin) .stop)))))))))) (by kernel_rfl) ?_ ?_)) | (((with_reducible refine w_id ?_); (conv => arg 4; whnf)); first | (with_reducible refine w_fin ?_ ?_) | (with_reducible refine w_tt ?_) | (with_reducible refine w_eff lay_ok 400 ?_ rfl rfl ?_ ?_)) | (with_reducible refine q_flow ?_ ?_) | ((with_reducible refine h_id ?_); (conv => arg 1; whnf); (with_reducible refine s_some ?_)) | (with_reducible exact o_nil) | ((with_reducible refine o_id ?_); (conv => arg 1; whnf); first | (with_reducible exact o_nil) | (with_reducible refine o_cons ?_ ?_)) | (intro h; ((try simp only [Int.toNat_natCast] at h); repeat (first | replace h := of_decide_eq_true h | replace h := of_decide_eq_false h | replace h := not_t h | replace h := not_f h)); (try (first | contradiction))) | rfl | omega)
      all_goals (((with_reducible refine e_id ?_); (conv => whnf)); refine ⟨((gt (c := .op) (gt (c := .block) L' i).ops j), (mpDel ws (gt (c := .op) (gt (c := .block) L' i).ops j).dst, mpSet (swp cs (gt (c := .op) (gt (c := .block) L' i).ops j).dst) (gt (c := .op) (gt (c := .block) L' i).ops j).dst (gt (c := .op) (gt (c := .block) L' i).ops j).a)), ?_, ?_⟩; rotate_left; (focus (((with_reducible refine s_id ?_); (conv => arg 1; whnf); (with_reducible refine s_some ?_); repeat' (first | ((with_reducible refine o_id ?_); (conv => arg 1; whnf); first | (with_reducible exact o_nil) | (with_reducible refine o_cons ?_ ?_)) | rfl | omega)))); all_goals first | (rw [he, updP_2n k2 k3]; done))
  by_cases k4 : (gt (c := .op) (gt (c := .block) L' i).ops j).kind = 3 ∨ (gt (c := .op) (gt (c := .block) L' i).ops j).kind = 4
  · have hk : (gt (c := .op) (gt (c := .block) L' i).ops j).kind = 1 ∨ (gt (c := .op) (gt (c := .block) L' i).ops j).kind = 2 ∨ (gt (c := .op) (gt (c := .block) L' i).ops j).kind = 3 ∨ (gt (c := .op) (gt (c := .block) L' i).ops j).kind = 4 := .inr (.inr k4)
    · repeat' (first | (((with_reducible refine g_id ?_); (conv => arg 3; whnf)); first | (with_reducible refine g_split lay_ok 400 ?_ ?_ ?_) | (with_reducible refine g_cond lay_ok 400 ?_ ?_ ?_) | (with_reducible refine g_fin ?_ ?_) | (refine g_call lay_ok 400 ?_ ?_ ?_ (c_resY ?_ ?_) rfl) | (refine g_call lay_ok 400 ?_ ?_ ?_ (c_forget ?_ ?_ ?_) rfl)) | ((with_reducible refine o_id ?_); (conv => arg 1; whnf); first | (with_reducible exact o_nil) | (with_reducible refine o_cons ?_ ?_)) | (intro h; ((try simp only [Int.toNat_natCast] at h); repeat (first | replace h := of_decide_eq_true h | replace h := of_decide_eq_false h)); (try (first | contradiction))) | rfl | omega)
      all_goals (((with_reducible refine e_id ?_); (conv => whnf)); refine ⟨((gt (c := .op) (gt (c := .block) L' i).ops j), (mpDel ws (gt (c := .op) (gt (c := .block) L' i).ops j).dst, swp cs (gt (c := .op) (gt (c := .block) L' i).ops j).dst)), ?_, ?_⟩; rotate_left; (focus (((with_reducible refine s_id ?_); (conv => arg 1; whnf); (with_reducible refine s_some ?_); repeat' (first | ((with_reducible refine o_id ?_); (conv => arg 1; whnf); first | (with_reducible exact o_nil) | (with_reducible refine o_cons ?_ ?_)) | rfl | omega)))); all_goals first | (rw [he, updP_3 k4]; done))
  · have hk : ¬ ((gt (c := .op) (gt (c := .block) L' i).ops j).kind = 1 ∨ (gt (c := .op) (gt (c := .block) L' i).ops j).kind = 2 ∨ (gt (c := .op) (gt (c := .block) L' i).ops j).kind = 3 ∨ (gt (c := .op) (gt (c := .block) L' i).ops j).kind = 4) := by omega
    · repeat' (first | (((with_reducible refine g_id ?_); (conv => arg 3; whnf)); first | (with_reducible refine g_fin ?_ ?_) | (refine g_call lay_ok 400 ?_ ?_ ?_ (c_resN ?_ ?_) rfl)) | ((with_reducible refine o_id ?_); (conv => arg 1; whnf); first | (with_reducible exact o_nil) | (with_reducible refine o_cons ?_ ?_)) | (intro h; ((try simp only [Int.toNat_natCast] at h); repeat (first | replace h := of_decide_eq_true h)); (try (first | contradiction))) | rfl | omega)
      all_goals (((with_reducible refine e_id ?_); (conv => whnf)); refine ⟨((gt (c := .op) (gt (c := .block) L' i).ops j), (ws, cs)), ?_, ?_⟩; rotate_left; (focus (((with_reducible refine s_id ?_); (conv => arg 1; whnf); (with_reducible refine s_some ?_); repeat' (first | ((with_reducible refine o_id ?_); (conv => arg 1; whnf); first | (with_reducible exact o_nil) | (with_reducible refine o_cons ?_ ?_)) | rfl | omega)))); all_goals first | (rw [he, updP_0 hk]; done))
end Go.Proofs.Ytonjbhdfimcedaa
