/- Operations made of bytes. -/
import Derived.Test.YtonjbhdfimcedaaFA
/- F5 -/
namespace Go.Proofs.Ytonjbhdfimcedaa
set_option linter.unusedVariables false
set_option linter.unusedSimpArgs false
open Go.RowKit
/-- An operation that the laws make. -/
structure OpMk (o : Op_) : Prop where
  k : o.kind = 1 ∨ o.kind = 2 ∨ o.kind = 3 ∨ o.kind = 4 ∨ o.kind = 5
  b : opB 4 1 o = true
theorem mk_o {o : Op_} (h : (o.kind = 1 ∧ (0 ≤ o.dst ∧ o.dst ≤ 4) ∧ o.a = 0 ∧ o.b = 0 ∧ -2147483648 ≤ o.imm ∧ o.imm ≤ 2147483647) ∨
  (o.kind = 2 ∧ (0 ≤ o.dst ∧ o.dst ≤ 4) ∧ (0 ≤ o.a ∧ o.a ≤ 4) ∧ o.b = 0 ∧ o.imm = 0) ∨
  (o.kind = 3 ∧ (0 ≤ o.dst ∧ o.dst ≤ 4) ∧ (0 ≤ o.a ∧ o.a ≤ 4) ∧ (0 ≤ o.b ∧ o.b ≤ 4) ∧ 1 ≤ o.imm ∧ o.imm ≤ 14) ∨
  (o.kind = 4 ∧ (0 ≤ o.dst ∧ o.dst ≤ 4) ∧ (0 ≤ o.a ∧ o.a ≤ 4) ∧ o.b = 0 ∧ 0 ≤ o.imm ∧ o.imm < 1) ∨
  (o.kind = 5 ∧ (0 ≤ o.a ∧ o.a ≤ 4) ∧ (0 ≤ o.b ∧ o.b ≤ 4) ∧ o.dst = 0 ∧ 0 ≤ o.imm ∧ o.imm < 1)) : OpMk o :=
  ⟨by rcases h with h | h | h | h | h <;> simp [h.1], by
    unfold opB
    refine decide_eq_true ?_
    rcases h with h | h | h | h | h
    · exact .inl h
    · exact .inr (.inl h)
    · exact .inr (.inr (.inl h))
    · exact .inr (.inr (.inr (.inl h)))
    · exact .inr (.inr (.inr (.inr (.inl h))))⟩
theorem mk_ok {o : Op_} (h : OpMk o) : OpOK 5 o := by
  have hb := of_decide_eq_true (show decide _ = true from h.b)
  unfold OpOK
  rcases hb with h | h | h | h | h | h
  · exact ⟨fun _ => by omega, fun _ => by omega, fun _ => by omega, fun _ => by omega⟩
  · exact ⟨fun _ => by omega, fun _ => by omega, fun _ => by omega, fun _ => by omega⟩
  · exact ⟨fun _ => by omega, fun _ => by omega, fun _ => by omega, fun _ => by omega⟩
  · exact ⟨fun _ => by omega, fun _ => by omega, fun _ => by omega, fun _ => by omega⟩
  · exact ⟨fun _ => by omega, fun _ => by omega, fun _ => by omega, fun _ => by omega⟩
  · obtain ⟨h1, _⟩ := h
    exact ⟨fun q => by omega, fun q => by omega, fun q => by omega, fun q => by omega⟩
theorem mk_app {l : List Op_} {o : Op_} (h : ∀ x ∈ l, OpMk x) (ho : OpMk o) : ∀ x ∈ l ++ [o], OpMk x := fun x hx => (List.mem_append.1 hx).elim (h x) (fun e => by rw [List.mem_singleton.1 e]; exact ho)
theorem gt_byte8 {l : List Int} (h : ∀ x ∈ l, 0 ≤ x ∧ x ≤ 255) (k : Nat) : @LE.le Int _ 0 (gt (c := .u8) l k) ∧ @LE.le Int _ (gt (c := .u8) l k) 255 := by
  by_cases hk : k < l.length
  · exact h _ (mem_gt (c := .u8) hk)
  · rw [show (gt (c := .u8) l k : Int) = 0 from by unfold gt; rw [List.getD_eq_getElem?_getD, List.getElem?_eq_none (Nat.le_of_not_lt hk)]; rfl]; decide
theorem tm_bd {a b : Int} (ha : 0 ≤ a) (hb : 0 < b) : 0 ≤ a.tmod b ∧ a.tmod b < b := ⟨Int.tmod_nonneg b ha, Int.tmod_lt_of_pos a hb⟩
theorem td_bd {a : Int} (ha : 0 ≤ a ∧ a ≤ 255) : 0 ≤ a.tdiv 5 ∧ a.tdiv 5 ≤ 255 := by
  rw [Int.tdiv_eq_ediv_of_nonneg ha.1]; omega
set_option maxHeartbeats 4000000 in
theorem c_mkops (l : List Int) (hb : ∀ x ∈ l, 0 ≤ x ∧ x ≤ 255) (hl : l.length ≤ maxLen) : Trip Try.prog 12 [.sl ⟨0, []⟩] ⟨[], [(0, .list .fz .u8 l)], 1⟩ (Z := List Op_) (fun O => O.length ≤ 30 ∧ ∀ o ∈ O, OpMk o) (fun O => .sl ⟨1, []⟩) (fun O => ⟨[], [(0, .list .fz .u8 l), (1, .list .own .op O)], 2⟩) := by
  simp only [maxLen] at hl
  refine trip_by (rs := [_]) 400 lay_ok Try.func12 rfl (by kernel_rfl) Try.ntmps12 Try.results12 rfl rfl ?_
  repeat' (first | (((with_reducible refine g_id ?_); (conv => arg 3; whnf)); first | (with_reducible refine g_split lay_ok 400 ?_ ?_ ?_) | fail) | fail)
  refine g_loop lay_ok 400 (Z := (Nat × List Op_)) (fun z => z.1 ≤ 30 ∧ z.2.length = z.1 ∧ ∀ o ∈ z.2, OpMk o) (fun z => ⟨[(0, .sl ⟨0, []⟩), (3, .sl ⟨1, []⟩), (4, .int .i64 (3 * (z.1 : Int)))], [(0, .list .fz .u8 l), (1, .list .own .op z.2)], 2⟩) (fun z => 30 - z.1) ?_ ⟨(0, []), ⟨Nat.zero_le _, rfl, fun o h => absurd h List.not_mem_nil⟩, ?_⟩ (fun z hz => ?_)
  · repeat' (first | ((with_reducible refine o_id ?_); (conv => arg 1; whnf); first | (with_reducible exact o_nil) | fail) | fail)
  · ((with_reducible refine s_id ?_); (conv => arg 1; whnf); (with_reducible refine s_some ?_); repeat' (first | ((with_reducible refine o_id ?_); (conv => arg 1; whnf); first | (with_reducible exact o_nil) | (with_reducible refine o_cons ?_ ?_)) | rfl | fail))
  obtain ⟨i, O⟩ := z
  obtain ⟨hz1, hz2, hz3⟩ := hz
  dsimp only at hz1 hz2 hz3 ⊢
  obtain ⟨x0, y0⟩ := gt_byte8 hb ((3 * (i : Int)).toNat)
  obtain ⟨u0, v0⟩ := tm_bd (b := 5) x0 (by decide)
  obtain ⟨x1, y1⟩ := gt_byte8 hb ((3 * (i : Int) + 1).toNat)
  obtain ⟨u1, v1⟩ := tm_bd (b := 5) x1 (by decide)
  obtain ⟨x2, y2⟩ := gt_byte8 hb ((3 * (i : Int) + 2).toNat)
  obtain ⟨u2, v2⟩ := tm_bd (b := 5) x2 (by decide)
  obtain ⟨d0, d1⟩ := td_bd ⟨x0, y0⟩
  obtain ⟨e0, e1⟩ := tm_bd (b := 5) d0 (by decide)
  obtain ⟨f0, f1⟩ := tm_bd (b := 14) x2 (by decide)
  by_cases hlt : 3 * (i : Int) + 2 < (l.length : Int) ∧ i < 30
  · repeat' (first | (((with_reducible refine g_id ?_); (conv => arg 3; whnf)); first | (with_reducible refine g_split lay_ok 400 ?_ ?_ ?_) | (with_reducible refine g_cond lay_ok 400 ?_ ?_ ?_) | (with_reducible refine g_fin ?_ ?_) | (refine g_flow 5 lay_ok mixed_ok 400 0 [0, 0, 3, 7, 15, 31, 0, 0, 128, 448, 960, 1984, 4032, 0, 0, 16384, 57344, 122880, 253952, 516096, 63, 1056767, 4194303] (.q 0 (.q 1 (.q 2 (.q 3 (.q 4 (.q 5 (.q 6 (.q 7 (.q 8 (.q 9 (.q 10 (.q 11 (.q 12 (.q 13 (.q 14 (.q 15 (.q 16 (.q 17 (.q 18 (.q 19 (.q 20 (.q 21 (.q 22 .fin))))))))))))))))))))))) (by kernel_rfl) ?_ ?_) | fail) | (((with_reducible refine w_id ?_); (conv => arg 4; whnf)); first | (with_reducible refine w_fin ?_ ?_) | fail) | (with_reducible exact o_nil) | ((with_reducible refine o_id ?_); (conv => arg 1; whnf); first | (with_reducible exact o_nil) | (with_reducible refine o_cons ?_ ?_)) | (intro h; ((try simp only [Int.toNat_natCast] at h); repeat (first | replace h := of_decide_eq_true h | replace h := of_decide_eq_false h | fail)); (try (first | contradiction | (exfalso; omega) | fail))) | omega | (simp only [List.length_append, List.length_cons, List.length_nil]; omega) | fail)
    trace_state
    all_goals (refine' q_round ⟨(i + 1, O ++ [_]), ?_, ?_, ?_⟩; rotate_right 1; (focus (((with_reducible refine s_id ?_); (conv => arg 1; whnf); (with_reducible refine s_some ?_); repeat' (first | ((with_reducible refine o_id ?_); (conv => arg 1; whnf); first | (with_reducible exact o_nil) | (with_reducible refine o_cons ?_ ?_)) | rfl | fail)))); all_goals first | (dsimp only; omega) | (refine ⟨(by dsimp only; omega), (by dsimp only; simp [hz2]), mk_app hz3 (mk_o ?_)⟩; dsimp only; omega))
  · repeat' (first | (((with_reducible refine g_id ?_); (conv => arg 3; whnf)); first | (with_reducible refine g_split lay_ok 400 ?_ ?_ ?_) | (with_reducible refine g_cond lay_ok 400 ?_ ?_ ?_) | (with_reducible refine g_fin ?_ ?_) | fail) | (with_reducible refine q_leave lay_ok 400 ?_) | (with_reducible exact o_nil) | ((with_reducible refine o_id ?_); (conv => arg 1; whnf); first | (with_reducible exact o_nil) | (with_reducible refine o_cons ?_ ?_)) | (intro h; ((try simp only [Int.toNat_natCast] at h); repeat (first | replace h := of_decide_eq_true h | replace h := of_decide_eq_false h | fail)); (try (first | (exfalso; omega) | fail))) | omega | fail)
    all_goals first | (((with_reducible refine e_id ?_); (conv => whnf)); refine ⟨O, ⟨(by omega), hz3⟩, ?_⟩; ((with_reducible refine s_id ?_); (conv => arg 1; whnf); (with_reducible refine s_some ?_); repeat' (first | ((with_reducible refine o_id ?_); (conv => arg 1; whnf); first | (with_reducible exact o_nil) | (with_reducible refine o_cons ?_ ?_)) | rfl | fail)))
end Go.Proofs.Ytonjbhdfimcedaa

/- F6 -/
namespace Go.Proofs.Ytonjbhdfimcedaa
set_option linter.unusedVariables false
set_option linter.unusedSimpArgs false
open Go.RowKit
def Wd (x : Int) : Prop := -2147483648 ≤ x ∧ x ≤ 2147483647
/-- What is known are words, and variables in range. -/
structure KW (n : Nat) (m : MS) : Prop where
  k1 : (m.1.map Prod.fst).Nodup
  k2 : (m.2.map Prod.fst).Nodup
  w : ∀ v x : Int, 0 ≤ v → v < n → mpGet m.1 v = some x → Wd x
  c : ∀ v u : Int, 0 ≤ v → v < n → mpGet m.2 v = some u → 0 ≤ u ∧ u < n
theorem kw_zero {n : Nat} : KW n ([], []) := ⟨List.nodup_nil, List.nodup_nil, fun v x _ _ h => (by cases h), fun v u _ _ h => (by cases h)⟩
theorem kw_use {n : Nat} {m : MS} (K : KW n m) {v : Int} (h0 : 0 ≤ v) (h1 : v < n) : 0 ≤ useP m.2 v ∧ useP m.2 v < n := by
  unfold useP
  cases h : mpGet m.2 v with
  | none => exact ⟨h0, h1⟩
  | some u => exact K.c v u h0 h1 h
/-- An operation that is right, over the variables up to n - 1. -/
def OpR (n : Nat) (na : Int) (o : Op_) : Prop := opB ((n : Int) - 1) na o = true
theorem opr_cases {n : Nat} {na : Int} {o : Op_} (h : OpR n na o) : (o.kind = 1 ∧ (0 ≤ o.dst ∧ o.dst < (n : Int)) ∧ o.a = 0 ∧ o.b = 0 ∧ Wd o.imm) ∨
  (o.kind = 2 ∧ (0 ≤ o.dst ∧ o.dst < (n : Int)) ∧ (0 ≤ o.a ∧ o.a < (n : Int)) ∧ o.b = 0 ∧ o.imm = 0) ∨
  (o.kind = 3 ∧ (0 ≤ o.dst ∧ o.dst < (n : Int)) ∧ (0 ≤ o.a ∧ o.a < (n : Int)) ∧ (0 ≤ o.b ∧ o.b < (n : Int)) ∧ 1 ≤ o.imm ∧ o.imm ≤ 14) ∨
  (o.kind = 4 ∧ (0 ≤ o.dst ∧ o.dst < (n : Int)) ∧ (0 ≤ o.a ∧ o.a < (n : Int)) ∧ o.b = 0 ∧ 0 ≤ o.imm ∧ o.imm < na) ∨
  (o.kind = 5 ∧ (0 ≤ o.a ∧ o.a < (n : Int)) ∧ (0 ≤ o.b ∧ o.b < (n : Int)) ∧ o.dst = 0 ∧ 0 ≤ o.imm ∧ o.imm < na) ∨
  ((o.kind = 6 ∨ o.kind = 7) ∧ o.dst = 0 ∧ o.a = 0 ∧ o.b = 0 ∧ 0 ≤ o.imm ∧ o.imm ≤ 3) := by
  have hb := of_decide_eq_true (show decide _ = true from h)
  unfold Wd
  rcases hb with h | h | h | h | h | h
  · exact .inl (by omega)
  · exact .inr (.inl (by omega))
  · exact .inr (.inr (.inl (by omega)))
  · exact .inr (.inr (.inr (.inl (by omega))))
  · exact .inr (.inr (.inr (.inr (.inl (by omega)))))
  · exact .inr (.inr (.inr (.inr (.inr h))))
theorem opr_of {n : Nat} {na : Int} {o : Op_} (h : (o.kind = 1 ∧ (0 ≤ o.dst ∧ o.dst < (n : Int)) ∧ o.a = 0 ∧ o.b = 0 ∧ Wd o.imm) ∨
  (o.kind = 2 ∧ (0 ≤ o.dst ∧ o.dst < (n : Int)) ∧ (0 ≤ o.a ∧ o.a < (n : Int)) ∧ o.b = 0 ∧ o.imm = 0) ∨
  (o.kind = 3 ∧ (0 ≤ o.dst ∧ o.dst < (n : Int)) ∧ (0 ≤ o.a ∧ o.a < (n : Int)) ∧ (0 ≤ o.b ∧ o.b < (n : Int)) ∧ 1 ≤ o.imm ∧ o.imm ≤ 14) ∨
  (o.kind = 4 ∧ (0 ≤ o.dst ∧ o.dst < (n : Int)) ∧ (0 ≤ o.a ∧ o.a < (n : Int)) ∧ o.b = 0 ∧ 0 ≤ o.imm ∧ o.imm < na) ∨
  (o.kind = 5 ∧ (0 ≤ o.a ∧ o.a < (n : Int)) ∧ (0 ≤ o.b ∧ o.b < (n : Int)) ∧ o.dst = 0 ∧ 0 ≤ o.imm ∧ o.imm < na) ∨
  ((o.kind = 6 ∨ o.kind = 7) ∧ o.dst = 0 ∧ o.a = 0 ∧ o.b = 0 ∧ 0 ≤ o.imm ∧ o.imm ≤ 3)) : OpR n na o := by
  unfold OpR opB
  refine decide_eq_true ?_
  unfold Wd at h
  rcases h with h | h | h | h | h | h
  · exact .inl (by omega)
  · exact .inr (.inl (by omega))
  · exact .inr (.inr (.inl (by omega)))
  · exact .inr (.inr (.inr (.inl (by omega))))
  · exact .inr (.inr (.inr (.inr (.inl (by omega)))))
  · exact .inr (.inr (.inr (.inr (.inr h))))
theorem opr_use {n : Nat} {na : Int} {m : MS} (K : KW n m) {o : Op_} (h : OpR n na o) : OpR n na (useOP m.2 o) := by
  rcases opr_cases h with q | q | q | q | q | q
  · rw [useOP_0 (by omega) (by omega)]; exact h
  · rw [useOP_1 (.inl q.1)]
    have := kw_use K q.2.2.1.1 q.2.2.1.2
    exact opr_of (.inr (.inl ⟨q.1, q.2.1, this, q.2.2.2.1, q.2.2.2.2⟩))
  · rw [useOP_2 (.inl q.1)]
    have h1 := kw_use K q.2.2.1.1 q.2.2.1.2
    have h2 := kw_use K q.2.2.2.1.1 q.2.2.2.1.2
    exact opr_of (.inr (.inr (.inl ⟨q.1, q.2.1, h1, h2, q.2.2.2.2⟩)))
  · rw [useOP_1 (.inr q.1)]
    have := kw_use K q.2.2.1.1 q.2.2.1.2
    exact opr_of (.inr (.inr (.inr (.inl ⟨q.1, q.2.1, this, q.2.2.2⟩))))
  · rw [useOP_2 (.inr q.1)]
    have h1 := kw_use K q.2.1.1 q.2.1.2
    have h2 := kw_use K q.2.2.1.1 q.2.2.1.2
    exact opr_of (.inr (.inr (.inr (.inr (.inl ⟨q.1, h1, h2, q.2.2.2⟩)))))
  · rw [useOP_0 (by omega) (by omega)]; exact h
theorem opr_cst {n : Nat} {na : Int} {m : MS} (K : KW n m) {o : Op_} (h : OpR n na o) : OpR n na (cstP m.1 o) := by
  have word : ∀ v, 0 ≤ v → v < (n : Int) → (mpGet m.1 v).isSome = true → Wd ((mpGet m.1 v).getD 0) := by
    intro v h0 h1 hs
    obtain ⟨x, hx⟩ := Option.isSome_iff_exists.1 hs
    rw [hx]; exact K.w v x h0 h1 hx
  by_cases h2 : o.kind = 2 ∧ (mpGet m.1 o.a).isSome = true
  · rcases opr_cases h with q | q | q | q | q | q <;> try (exfalso; omega)
    rw [cst_1 h2.1 h2.2]
    exact opr_of (.inl ⟨rfl, q.2.1, rfl, rfl, word _ q.2.2.1.1 q.2.2.1.2 h2.2⟩)
  · by_cases h3 : o.kind = 3 ∧ (mpGet m.1 o.a).isSome = true ∧ (mpGet m.1 o.b).isSome = true
    · rcases opr_cases h with q | q | q | q | q | q <;> try (exfalso; omega)
      rw [cst_2 h3.1 h3.2.1 h3.2.2]
      refine opr_of (.inl ⟨rfl, q.2.1, rfl, rfl, ?_⟩)
      dsimp only
      rw [doI_in q.2.2.2.2.1 q.2.2.2.2.2]
      exact ⟨wr_lo _, wr_hi _⟩
    · have e : cstP m.1 o = o := by unfold cstP; rw [if_neg h2, if_neg h3]
      rw [e]; exact h
theorem kw_fgt {n : Nat} {m : MS} (K : KW n m) (d : Int) : KW n (mpDel m.1 d, swp m.2 d) := by
  refine ⟨mpDel_keys K.k1, swp_keys K.k2, fun v x v0 v1 hv => ?_, fun v u v0 v1 hv => ?_⟩
  · dsimp only at hv
    rw [mpGet_del K.k1] at hv
    split at hv
    · cases hv
    · exact K.w v x v0 v1 hv
  · dsimp only at hv
    rw [mpGet_swp K.k2] at hv
    split at hv
    · cases hv
    · split at hv
      · cases hv
      · exact K.c v u v0 v1 hv
theorem kw_upd {n : Nat} {na : Int} {m : MS} (K : KW n m) {o : Op_} (h : OpR n na o) : KW n (updP o m) := by
  have F := kw_fgt K o.dst
  rcases opr_cases h with q | q | q | q | q | q
  · rw [updP_1 q.1]
    refine ⟨mpSet_keys F.k1, F.k2, fun v x v0 v1 hv => ?_, F.c⟩
    dsimp only at hv
    rw [mpGet_set] at hv
    split at hv
    · cases hv; exact q.2.2.2.2
    · exact F.w v x v0 v1 hv
  · by_cases h3 : o.a = o.dst
    · rw [updP_2 q.1 h3]; exact F
    · rw [updP_2n q.1 h3]
      refine ⟨F.k1, mpSet_keys F.k2, F.w, fun v u v0 v1 hv => ?_⟩
      dsimp only at hv
      rw [mpGet_set] at hv
      split at hv
      · cases hv; exact q.2.2.1
      · exact F.c v u v0 v1 hv
  · rw [updP_3 (.inl q.1)]; exact F
  · rw [updP_3 (.inr q.1)]; exact F
  · rw [updP_0 (by omega)]; exact K
  · rw [updP_0 (by omega)]; exact K
theorem kw_fld {n : Nat} {na : Int} {m : MS} (K : KW n m) {o : Op_} (h : OpR n na o) : OpR n na (fldP o m).1 ∧ KW n (fldP o m).2 := by
  have h2 := opr_cst K (opr_use K h)
  exact ⟨h2, kw_upd K h2⟩
theorem kw_fldL {n : Nat} {na : Int} : ∀ {l : List Op_} {m : MS}, KW n m → (∀ o ∈ l, OpR n na o) → (∀ o ∈ (mpL l m).1, OpR n na o) ∧ KW n (mpL l m).2
  | [], m, K, _ => ⟨fun o h => absurd h List.not_mem_nil, K⟩
  | o :: l, m, K, h => by
    obtain ⟨h1, K2⟩ := kw_fld K (h o List.mem_cons_self)
    obtain ⟨h2, K3⟩ := kw_fldL (l := l) K2 fun q hq => h q (List.mem_cons_of_mem o hq)
    exact ⟨List.forall_mem_cons.2 ⟨h1, h2⟩, K3⟩
/-- Locks and unlocks stay as they are. -/
theorem fld_kind {o : Op_} {m : MS} {k : Int} (hk : k = 6 ∨ k = 7) (h : (fldP o m).1.kind = k) : o.kind = k := by
  have h' : (cstP m.1 (useOP m.2 o)).kind = k := h
  rw [← useOP_kind (cs := m.2) (o := o)]
  unfold cstP at h'
  split at h'
  · exfalso; dsimp only at h'; omega
  · split at h'
    · exfalso; dsimp only at h'; omega
    · exact h'
theorem mpL_kind {k : Int} (hk : k = 6 ∨ k = 7) : ∀ {l : List Op_} {m : MS} {i : Nat}, i < l.length → (gt (c := .op) (mpL l m).1 i).kind = k → (gt (c := .op) l i).kind = k
  | [], m, i, hi, _ => absurd hi (Nat.not_lt_zero _)
  | o :: l, m, 0, hi, h => fld_kind hk h
  | o :: l, m, i + 1, hi, h => mpL_kind hk (l := l) (m := (fldP o m).2) (i := i) (Nat.lt_of_succ_lt_succ hi) h
theorem blkB_fold {n : Nat} {na nb : Int} {b : Blk} (h : blkB ((n : Int) - 1) na nb b = true) : blkB ((n : Int) - 1) na nb (blkP b) = true := by
  unfold blkB at h
  simp only [Bool.and_eq_true, Bool.or_eq_true, decide_eq_true_eq] at h
  obtain ⟨⟨h0, hx⟩, h3⟩ := h
  have hr : ∀ o ∈ b.ops, OpR n na o := fun o ho => by
    obtain ⟨j, hj, rfl⟩ := mem_at (c := .op) ho
    have h4 := allN_at h0 hj
    unfold opkB at h4
    simp only [Bool.and_eq_true] at h4
    exact h4.1.1
  obtain ⟨r1, K⟩ := kw_fldL kw_zero hr
  have hops : (blkP b).ops = (mpL b.ops ([], [])).1 := by unfold blkP; split <;> rfl
  have g0 : allN (opkB ((n : Int) - 1) na (blkP b).ops) (blkP b).ops.length = true := by
    rw [hops]
    refine allN_iff.2 fun j hj => ?_
    rw [mpL_len] at hj
    have h4 := allN_at h0 hj
    unfold opkB at h4
    simp only [Bool.and_eq_true, Bool.not_eq_true', Bool.and_eq_false_iff, decide_eq_false_iff_not] at h4
    obtain ⟨⟨_, q6⟩, q7⟩ := h4
    refine opk_t (r1 _ (mem_gt (c := .op) (by rw [mpL_len]; exact hj))) (fun q => ?_) (fun q => ?_)
    · have := mpL_kind (.inl rfl) hj q
      rcases q6 with q6 | q6
      · exact absurd this q6
      · omega
    · have := mpL_kind (.inr rfl) hj q
      rw [mpL_len]
      rcases q7 with q7 | q7
      · exact absurd this q7
      · omega
  have fin : ∀ {nx : List Int} {cd : Int}, (blkP b).next = nx → (blkP b).cond = cd → allN (fun k => decide (1 ≤ @id Int (gt (c := .int) nx k) ∧ @id Int (gt (c := .int) nx k) < nb)) nx.length = true → ((nx.length < 2 ∧ cd = 0) ∨ (nx.length = 2 ∧ @id Int (gt (c := .int) nx 0) ≠ gt (c := .int) nx 1 ∧ 0 ≤ cd ∧ cd ≤ (n : Int) - 1)) → blkB ((n : Int) - 1) na nb (blkP b) = true := by
    intro nx cd e1 e2 h1 h2
    unfold blkB
    rw [g0, e1, e2, h1]
    simp only [Bool.true_and, Bool.or_eq_true, decide_eq_true_eq]
    exact h2
  cases hk : knwP b with
  | true =>
    have e : blkP b = ⟨(mpL b.ops ([], [])).1, 0, [wayP b]⟩ := if_pos hk
    have hl : b.next.length = 2 := by
      unfold knwP at hk
      rw [Bool.and_eq_true] at hk
      have := of_decide_eq_true hk.1
      rcases h3 with h3 | h3
      · omega
      · exact h3.1
    refine fin (nx := [wayP b]) (cd := 0) (by rw [e]) (by rw [e]) ?_ (.inl ⟨by simp, rfl⟩)
    refine allN_iff.2 fun j hj => ?_
    have : j = 0 := by simp at hj; omega
    subst this
    have e1 : (gt (c := .int) [wayP b] 0 : Int) = wayP b := rfl
    show decide (1 ≤ @id Int (gt (c := .int) [wayP b] 0) ∧ @id Int (gt (c := .int) [wayP b] 0) < nb) = true
    rw [e1]
    unfold wayP
    split
    · exact allN_at hx (by omega)
    · exact allN_at hx (by omega)
  | false =>
    have e : blkP b = ⟨(mpL b.ops ([], [])).1, cndP b, b.next⟩ := if_neg (by rw [hk]; decide)
    refine fin (nx := b.next) (cd := cndP b) (by rw [e]) (by rw [e]) hx ?_
    rcases h3 with h3 | h3
    · exact .inl ⟨h3.1, by rw [show cndP b = b.cond from if_neg (by omega)]; exact h3.2⟩
    · refine .inr ⟨h3.1, h3.2.1, ?_⟩
      rw [show cndP b = useP (mpL b.ops ([], [])).2.2 b.cond from if_pos (by omega)]
      have := kw_use K h3.2.2.1 (by omega : b.cond < (n : Int))
      omega
theorem blkP_ends {b : Blk} (h : b.next.length ≤ 2) : (blkP b).next.length = 0 ↔ b.next.length = 0 := by
  unfold blkP
  cases hk : knwP b with
  | false => exact Iff.rfl
  | true =>
    unfold knwP at hk
    rw [Bool.and_eq_true] at hk
    have := of_decide_eq_true hk.1
    rw [if_pos rfl]
    simp
    intro h; rw [h] at this; exact absurd this (by decide)
/-- A folded graph is right. -/
theorem chk_fold_ok {g : Grf} (hB : Bnd g) (he : chkG g = 0) : chkG (fldGP g) = 0 := by
  have w := chk_wf hB he
  have hv := (chk_fold he).1
  have hn : ((g.vars.toNat : Nat) : Int) = g.vars := Int.toNat_of_nonneg hv.1
  have hl : ¬ limG g := fun q => by rw [chk_lim q] at he; exact absurd he (by decide)
  have ho : okG g = true := by
    cases hb : okG g with
    | true => rfl
    | false => rw [chk_no hl hb] at he; exact absurd he (by decide)
  have hlen : (fldGP g).blks.length = g.blks.length := List.length_map _
  have hops : opsN (fldGP g).blks (fldGP g).blks.length = opsN g.blks g.blks.length := by
    rw [opsN_sum, opsN_sum]
    show ((osum (g.blks.map blkP) : Nat) : Int) = _
    rw [osum_mapP]
  refine chk_yes ?_ ?_
  · unfold limG at hl ⊢
    rw [hops, hlen]
    exact hl
  · unfold okG at ho ⊢
    simp only [Bool.and_eq_true, decide_eq_true_eq] at ho ⊢
    obtain ⟨o1, o2, o3, o4⟩ := ho
    rw [hlen]
    refine ⟨allN_iff.2 fun i hi => ?_, ?_, o3, o4⟩
    · have e : gt (c := .block) (fldGP g).blks i = blkP (gt (c := .block) g.blks i) := gt_map hi
      rw [e]
      have := allN_at o1 hi
      rw [← hn] at this
      show blkB (g.vars - 1) _ _ _ = true
      rw [← hn]
      exact blkB_fold this
    · rw [← o2]
      unfold endsN
      refine sumN_congr fun i hi => ?_
      have e : gt (c := .block) (fldGP g).blks i = blkP (gt (c := .block) g.blks i) := gt_map hi
      have hx := (w.n _ (mem_gt (c := .block) hi)).1
      show (if (gt (c := .block) (fldGP g).blks i).next.length = 0 then (1 : Int) else 0) = _
      rw [e]
      by_cases q : (gt (c := .block) g.blks i).next.length = 0
      · rw [if_pos ((blkP_ends hx).2 q), if_pos q]
      · rw [if_neg (fun r => q ((blkP_ends hx).1 r)), if_neg q]
theorem chk_fok {g : Grf} (hB : Bnd g) (he : chkG g = 0) : FOk g.vars.toNat g := by
  have w := chk_wf hB he
  have hf := (chk_fold he).2
  exact ⟨fun b hb => (hf b hb).1, fun b hb => (hf b hb).2, fun b hb => w.n b hb⟩
/-! ### Graphs that the laws make -/
def gMk (inp : List Inp) (O B1 : List Op_) (c : Int) : Grf := ⟨inp, 5, 5, [⟨⟨#[97]⟩, 4⟩], 0, [⟨O, c, [1, 2]⟩, ⟨B1, 0, [2]⟩, ⟨[], 0, []⟩], [], []⟩
theorem gMk_bnd {inp : List Inp} {O B1 : List Op_} {c : Int} (hi : inp.length ≤ 5) (hO : O.length ≤ 40) (hB : B1.length ≤ 2) : Bnd (gMk inp O B1 c) := by
  refine ⟨by show inp.length ≤ _; omega, by show 1 ≤ _; decide, by show 3 ≤ _; decide, by show 0 ≤ _; decide, by show 0 ≤ _; decide, ?_, fun b hb => ?_, fun b hb => ?_, fun l hl => by cases hl⟩
  · rw [opsN_sum]
    show ((O.length + (B1.length + (0 + 0)) : Nat) : Int) ≤ _
    omega
  · simp only [gMk, List.mem_cons, List.not_mem_nil, or_false] at hb
    rcases hb with rfl | rfl | rfl
    · show O.length ≤ _; omega
    · show B1.length ≤ _; omega
    · show 0 ≤ _; decide
  · simp only [gMk, List.mem_cons, List.not_mem_nil, or_false] at hb
    rcases hb with rfl | rfl | rfl
    · show 2 ≤ _; decide
    · show 1 ≤ _; decide
    · show 0 ≤ _; decide
theorem mk_ops {O : List Op_} (h : ∀ o ∈ O, OpMk o) : allN (opkB 4 1 O) O.length = true := allN_iff.2 fun j hj => by
  have hm := h _ (mem_gt (c := .op) hj)
  have := hm.k
  exact opk_t hm.b (fun q => by omega) (fun q => by omega)
theorem gMk_chk {inp : List Inp} {O B1 : List Op_} {c : Int} (hi : inp.length ≤ 5) (hin : allN (fun k => inpB (gt (c := .input) inp k)) inp.length = true) (hO : O.length ≤ 40) (hB : B1.length ≤ 2) (h0 : ∀ o ∈ O, OpMk o) (h1 : ∀ o ∈ B1, OpMk o) (hc : 0 ≤ c ∧ c ≤ 4) : chkG (gMk inp O B1 c) = 0 := by
  refine chk_yes ?_ ?_
  · unfold limG
    rw [opsN_sum]
    have e1 : (gMk inp O B1 c).blks.length = 3 := rfl
    have e2 : osum (gMk inp O B1 c).blks = O.length + (B1.length + (0 + 0)) := rfl
    have e3 : (gMk inp O B1 c).vars = 5 := rfl
    have e4 : (gMk inp O B1 c).arrs.length = 1 := rfl
    have e5 : (gMk inp O B1 c).pts.length = 0 := rfl
    rw [e1, e2, e3, e4, e5]
    omega
  · unfold okG
    simp only [Bool.and_eq_true, decide_eq_true_eq]
    refine ⟨?_, rfl, ?_, rfl⟩
    · show ((true && blkB 4 1 3 ⟨O, c, [1, 2]⟩) && blkB 4 1 3 ⟨B1, 0, [2]⟩) && blkB 4 1 3 ⟨[], 0, []⟩ = true
      have b0 : blkB 4 1 3 ⟨O, c, [1, 2]⟩ = true := by
        unfold blkB
        dsimp only
        rw [mk_ops h0]
        have : decide (([1, 2] : List Int).length = 2 ∧ @id Int (gt (c := .int) [1, 2] 0) ≠ gt (c := .int) [1, 2] 1 ∧ 0 ≤ c ∧ c ≤ 4) = true := decide_eq_true ⟨rfl, by decide, hc.1, hc.2⟩
        rw [this]
        simp
        decide
      have b1 : blkB 4 1 3 ⟨B1, 0, [2]⟩ = true := by
        unfold blkB
        dsimp only
        rw [mk_ops h1]
        rfl
      rw [b0, b1]
      decide
    · unfold decB
      simp only [Bool.and_eq_true, decide_eq_true_eq]
      refine ⟨⟨by show (0 : Int) ≤ 5; decide, by show (0 : Int) ≤ 5; decide, by show (5 : Int) ≤ 5; decide, by show (inp.length : Int) ≤ 5; omega, by show (0 : Int) ≤ 0; decide, by show (0 : Int) ≤ 1; decide⟩, hin, rfl⟩
end Go.Proofs.Ytonjbhdfimcedaa

/- F7 -/
namespace Go.Proofs.Ytonjbhdfimcedaa
set_option linter.unusedVariables false
set_option linter.unusedSimpArgs false
open Go.RowKit
/-- The first k variables are known. -/
def Ful (k : Nat) (m : MS) : Prop := ∀ v : Int, 0 ≤ v → v < k → (mpGet m.1 v).isSome = true
theorem ful_set {k : Nat} {m : MS} (K : (m.1.map Prod.fst).Nodup) (h : Ful k m) {o : Op_} (ho : o.kind = 1) : Ful k (updP o m) := by
  intro v v0 v1
  rw [updP_1 ho]
  dsimp only
  rw [mpGet_set]
  split
  · rfl
  · rename_i hne; rw [mpGet_del K, if_neg hne]; exact h v v0 v1
theorem ful_next {k : Nat} {m : MS} (K : (m.1.map Prod.fst).Nodup) (h : Ful k m) {o : Op_} (ho : o.kind = 1) (hd : o.dst = (k : Int)) : Ful (k + 1) (updP o m) := by
  intro v v0 v1
  by_cases hv : v < (k : Int)
  · exact ful_set K h ho v v0 hv
  · have : v = o.dst := by omega
    subst this
    rw [updP_1 ho]
    dsimp only
    rw [mpGet_set, if_pos rfl]; rfl
theorem fld_const {o : Op_} {m : MS} (h : o.kind = 1) : fldP o m = (o, updP o m) := by
  have e1 : useOP m.2 o = o := useOP_0 (by omega) (by omega)
  have e2 : cstP m.1 o = o := cst_3 (by omega) (by omega)
  show (cstP m.1 (useOP m.2 o), updP (cstP m.1 (useOP m.2 o)) m) = _
  rw [e1, e2]
/-- An operation without a load, or a lock. -/
def NoLd (o : Op_) : Prop := o.kind = 1 ∨ o.kind = 2 ∨ o.kind = 3 ∨ o.kind = 5
theorem ful_fld {n : Nat} {na : Int} {m : MS} (K : KW n m) (h : Ful n m) {o : Op_} (ho : OpR n na o) (hl : NoLd o) : (o.kind = 5 ∨ (fldP o m).1.kind = 1) ∧ Ful n (fldP o m).2 := by
  have one : (fldP o m).1.kind = 1 → (o.kind = 5 ∨ (fldP o m).1.kind = 1) ∧ Ful n (fldP o m).2 := fun e => ⟨.inr e, ful_set K.k1 h e⟩
  rcases opr_cases ho with q | q | q | q | q | q
  · refine one ?_; rw [fld_const q.1]; exact q.1
  · have a := kw_use K q.2.2.1.1 q.2.2.1.2
    have e1 : useOP m.2 o = ⟨o.kind, o.dst, useP m.2 o.a, o.b, o.imm⟩ := useOP_1 (.inl q.1)
    refine one ?_
    show (cstP m.1 (useOP m.2 o)).kind = 1
    rw [e1, cst_1 (o := ⟨o.kind, o.dst, useP m.2 o.a, o.b, o.imm⟩) q.1 (h _ a.1 a.2)]
  · have a := kw_use K q.2.2.1.1 q.2.2.1.2
    have b := kw_use K q.2.2.2.1.1 q.2.2.2.1.2
    have e1 : useOP m.2 o = ⟨o.kind, o.dst, useP m.2 o.a, useP m.2 o.b, o.imm⟩ := useOP_2 (.inl q.1)
    refine one ?_
    show (cstP m.1 (useOP m.2 o)).kind = 1
    rw [e1, cst_2 (o := ⟨o.kind, o.dst, useP m.2 o.a, useP m.2 o.b, o.imm⟩) q.1 (h _ a.1 a.2) (h _ b.1 b.2)]
  · unfold NoLd at hl; exfalso; omega
  · have hk : (cstP m.1 (useOP m.2 o)).kind = 5 := by
      have := useOP_kind (cs := m.2) (o := o)
      rw [cst_3 (by omega) (by omega)]; omega
    refine ⟨.inl q.1, ?_⟩
    show Ful n (updP (cstP m.1 (useOP m.2 o)) m)
    rw [updP_0 (by omega)]; exact h
  · unfold NoLd at hl; exfalso; omega
theorem ful_fldL {n : Nat} {na : Int} : ∀ {l : List Op_} {m : MS}, KW n m → Ful n m → (∀ o ∈ l, OpR n na o ∧ NoLd o) → (∀ i, i < l.length → (gt (c := .op) l i).kind = 5 ∨ (gt (c := .op) (mpL l m).1 i).kind = 1) ∧ Ful n (mpL l m).2 ∧ KW n (mpL l m).2
  | [], m, K, F, _ => ⟨fun i hi => absurd hi (Nat.not_lt_zero _), F, K⟩
  | o :: l, m, K, F, h => by
    obtain ⟨h1, h2⟩ := h o List.mem_cons_self
    obtain ⟨k1, F2⟩ := ful_fld K F h1 h2
    obtain ⟨_, K2⟩ := kw_fld K h1
    obtain ⟨k2, F3, K3⟩ := ful_fldL (l := l) K2 F2 fun q hq => h q (List.mem_cons_of_mem o hq)
    refine ⟨fun i hi => ?_, F3, K3⟩
    cases i with
    | zero => exact k1
    | succ i => exact k2 i (Nat.lt_of_succ_lt_succ hi)
def cst5 (x0 x1 x2 x3 x4 : Int) : List Op_ := [⟨1, 0, 0, 0, x0⟩, ⟨1, 1, 0, 0, x1⟩, ⟨1, 2, 0, 0, x2⟩, ⟨1, 3, 0, 0, x3⟩, ⟨1, 4, 0, 0, x4⟩]
theorem cst5_mk {x0 x1 x2 x3 x4 : Int} (h0 : Wd x0) (h1 : Wd x1) (h2 : Wd x2) (h3 : Wd x3) (h4 : Wd x4) : ∀ o ∈ cst5 x0 x1 x2 x3 x4, OpMk o := by
  unfold Wd at *
  intro o ho
  simp only [cst5, List.mem_cons, List.not_mem_nil, or_false] at ho
  rcases ho with rfl | rfl | rfl | rfl | rfl <;> exact mk_o (.inl (by dsimp only; omega))
theorem opmk_r {o : Op_} (h : OpMk o) : OpR 5 1 o := h.b
/-- What becomes of the first block. -/
theorem all_const {x0 x1 x2 x3 x4 : Int} {M : List Op_} (h : ∀ o ∈ cst5 x0 x1 x2 x3 x4, OpMk o) (hM : ∀ o ∈ M, OpMk o ∧ o.kind ≠ 4) :
    (∀ i, i < (cst5 x0 x1 x2 x3 x4 ++ M).length → (gt (c := .op) (cst5 x0 x1 x2 x3 x4 ++ M) i).kind = 5 ∨ (gt (c := .op) (mpL (cst5 x0 x1 x2 x3 x4 ++ M) ([], [])).1 i).kind = 1) ∧ Ful 5 (mpL (cst5 x0 x1 x2 x3 x4 ++ M) ([], [])).2 ∧ KW 5 (mpL (cst5 x0 x1 x2 x3 x4 ++ M) ([], [])).2 := by
  have hk : ∀ x d : Int, (⟨1, d, 0, 0, x⟩ : Op_).kind = 1 := fun _ _ => rfl
  have hr : ∀ o ∈ cst5 x0 x1 x2 x3 x4, OpR 5 1 o := fun o ho => opmk_r (h o ho)
  let m1 := updP ⟨1, 0, 0, 0, x0⟩ (([], []) : MS)
  let m2 := updP ⟨1, 1, 0, 0, x1⟩ m1
  let m3 := updP ⟨1, 2, 0, 0, x2⟩ m2
  let m4 := updP ⟨1, 3, 0, 0, x3⟩ m3
  let m5 := updP ⟨1, 4, 0, 0, x4⟩ m4
  have K1 : KW 5 m1 := kw_upd (na := 1) kw_zero (hr _ (by simp [cst5]))
  have K2 : KW 5 m2 := kw_upd (na := 1) K1 (hr _ (by simp [cst5]))
  have K3 : KW 5 m3 := kw_upd (na := 1) K2 (hr _ (by simp [cst5]))
  have K4 : KW 5 m4 := kw_upd (na := 1) K3 (hr _ (by simp [cst5]))
  have K5 : KW 5 m5 := kw_upd (na := 1) K4 (hr _ (by simp [cst5]))
  have F1 : Ful 1 m1 := ful_next (k := 0) (m := ([], [])) List.nodup_nil (fun v v0 v1 => by omega) rfl rfl
  have F2 : Ful 2 m2 := ful_next (k := 1) K1.k1 F1 rfl rfl
  have F3 : Ful 3 m3 := ful_next (k := 2) K2.k1 F2 rfl rfl
  have F4 : Ful 4 m4 := ful_next (k := 3) K3.k1 F3 rfl rfl
  have F5 : Ful 5 m5 := ful_next (k := 4) K4.k1 F4 rfl rfl
  obtain ⟨k, F, K⟩ := ful_fldL (na := 1) (l := M) K5 F5 fun o ho => ⟨opmk_r (hM o ho).1, by have := (hM o ho).1.k; have := (hM o ho).2; unfold NoLd; omega⟩
  have e : mpL (cst5 x0 x1 x2 x3 x4 ++ M) ([], []) = (cst5 x0 x1 x2 x3 x4 ++ (mpL M m5).1, (mpL M m5).2) := by
    show mpL (_ :: _ :: _ :: _ :: _ :: M) ([], []) = _
    have st : ∀ (o : Op_) (l : List Op_) (m : MS), o.kind = 1 → mpL (o :: l) m = (o :: (mpL l (updP o m)).1, (mpL l (updP o m)).2) := fun o l m h => by
      show ((fldP o m).1 :: (mpL l (fldP o m).2).1, (mpL l (fldP o m).2).2) = _
      rw [fld_const h]
    rw [st _ _ _ rfl, st _ _ _ rfl, st _ _ _ rfl, st _ _ _ rfl, st _ _ _ rfl]
    rfl
  rw [e]
  refine ⟨fun i hi => ?_, F, K⟩
  match i with
  | 0 => exact .inr rfl
  | 1 => exact .inr rfl
  | 2 => exact .inr rfl
  | 3 => exact .inr rfl
  | 4 => exact .inr rfl
  | j + 5 => exact k j (by simp [cst5] at hi; omega)
/-! ### Runs -/
theorem runG_end {g : Grf} {f i : Nat} {s : VS} {left steps : Int} {counts : List Int} (h1 : ¬ left < 1 + ((gt (c := .block) g.blks i).ops.length : Int)) (h2 : (gt (c := .block) g.blks i).next.length = 0) :
    runG g (f + 1) i s left counts steps = some (execL (gt (c := .block) g.blks i).ops s, counts.set i (gt (c := .int) counts i + 1), steps + ((gt (c := .block) g.blks i).ops.length : Int)) := by
  show (if _ then _ else if _ then _ else _) = _
  rw [if_neg h1, if_pos h2]
theorem runG_mid {g : Grf} {f i : Nat} {s : VS} {left steps : Int} {counts : List Int} (h1 : ¬ left < 1 + ((gt (c := .block) g.blks i).ops.length : Int)) (h2 : ¬ (gt (c := .block) g.blks i).next.length = 0) :
    runG g (f + 1) i s left counts steps = runG g f (nextB (gt (c := .block) g.blks i) (execL (gt (c := .block) g.blks i).ops s).1).toNat (execL (gt (c := .block) g.blks i).ops s) (left - 1 - ((gt (c := .block) g.blks i).ops.length : Int)) (counts.set i (gt (c := .int) counts i + 1)) (steps + ((gt (c := .block) g.blks i).ops.length : Int)) := by
  show (if _ then _ else if _ then _ else _) = _
  rw [if_neg h1, if_neg h2]
def outM (O B1 : List Op_) (c : Int) (s : VS) : Out := if nextB ⟨O, c, [1, 2]⟩ (execL O s).1 = 1 then (execL B1 (execL O s), [1, 1, 1], 0 + (O.length : Int) + (B1.length : Int) + 0) else (execL O s, [1, 0, 1], 0 + (O.length : Int) + 0)
theorem nextB_12 {O : List Op_} {c : Int} {vs : List Int} : nextB ⟨O, c, [1, 2]⟩ vs = 1 ∨ nextB ⟨O, c, [1, 2]⟩ vs = 2 := by
  unfold nextB
  split
  · exact .inl rfl
  · exact .inr rfl
theorem gMk_run {inp : List Inp} {O B1 : List Op_} {c : Int} {s : VS} (hO : O.length ≤ 40) (hB : B1.length ≤ 2) : runG (gMk inp O B1 c) 3 0 s 1000 [0, 0, 0] 0 = some (outM O B1 c s) := by
  have g0 : gt (c := .block) (gMk inp O B1 c).blks 0 = ⟨O, c, [1, 2]⟩ := rfl
  have g1 : gt (c := .block) (gMk inp O B1 c).blks 1 = ⟨B1, 0, [2]⟩ := rfl
  have g2 : gt (c := .block) (gMk inp O B1 c).blks 2 = ⟨[], 0, []⟩ := rfl
  rw [runG_mid (by rw [g0]; dsimp only; omega) (by rw [g0]; simp), g0]
  unfold outM
  rcases nextB_12 (O := O) (c := c) (vs := (execL O s).1) with e | e
  · rw [e]
    show runG _ 2 1 _ _ _ _ = _
    rw [runG_mid (by rw [g1]; dsimp only; omega) (by rw [g1]; simp), g1]
    have e2 : nextB ⟨B1, 0, [2]⟩ (execL B1 (execL O s)).1 = 2 := by unfold nextB; rw [if_pos (.inl rfl)]; rfl
    dsimp only
    rw [e2]
    show runG _ 1 2 _ _ _ _ = _
    rw [runG_end (by rw [g2]; dsimp only [List.length_nil]; omega) (by rw [g2]; rfl), g2]
    rfl
  · rw [e]
    show runG _ 2 2 _ _ _ _ = _
    rw [runG_end (by rw [g2]; dsimp only [List.length_nil]; omega) (by rw [g2]; rfl), g2]
    rfl
/-- What the law of constants asks of the first block. -/
theorem all_block {x0 x1 x2 x3 x4 : Int} {M : List Op_} {s : VS} (hs : s.1.length = 5) (h : ∀ o ∈ cst5 x0 x1 x2 x3 x4, OpMk o) (hM : ∀ o ∈ M, OpMk o ∧ o.kind ≠ 4) :
    blkP ⟨cst5 x0 x1 x2 x3 x4 ++ M, 3, [1, 2]⟩ = ⟨(mpL (cst5 x0 x1 x2 x3 x4 ++ M) ([], [])).1, 0, [nextB ⟨cst5 x0 x1 x2 x3 x4 ++ M, 3, [1, 2]⟩ (execL (cst5 x0 x1 x2 x3 x4 ++ M) s).1]⟩ := by
  obtain ⟨_, F, K⟩ := all_const h hM
  have hall : ∀ o ∈ cst5 x0 x1 x2 x3 x4 ++ M, OpMk o := fun o ho => (List.mem_append.1 ho).elim (h o) fun q => (hM o q).1
  have u := kw_use K (v := 3) (by decide) (by decide)
  have hk : knwP ⟨cst5 x0 x1 x2 x3 x4 ++ M, 3, [1, 2]⟩ = true := by
    unfold knwP
    rw [Bool.and_eq_true]
    exact ⟨decide_eq_true (Nat.le_refl 2), F _ u.1 u.2⟩
  have e : blkP ⟨cst5 x0 x1 x2 x3 x4 ++ M, 3, [1, 2]⟩ = ⟨(mpL (cst5 x0 x1 x2 x3 x4 ++ M) ([], [])).1, 0, [wayP ⟨cst5 x0 x1 x2 x3 x4 ++ M, 3, [1, 2]⟩]⟩ := if_pos hk
  obtain ⟨_, _, _, b4⟩ := blkP_run (n := 5) (b := ⟨cst5 x0 x1 x2 x3 x4 ++ M, 3, [1, 2]⟩) hs (fun o ho => mk_ok (hall o ho)) (fun _ => by dsimp only; omega) (by simp)
  have b5 := b4 (by simp)
  rw [e] at b5
  have e2 : nextB ⟨(mpL (cst5 x0 x1 x2 x3 x4 ++ M) ([], [])).1, 0, [wayP ⟨cst5 x0 x1 x2 x3 x4 ++ M, 3, [1, 2]⟩]⟩ (execL (cst5 x0 x1 x2 x3 x4 ++ M) s).1 = wayP ⟨cst5 x0 x1 x2 x3 x4 ++ M, 3, [1, 2]⟩ := by unfold nextB; rw [if_pos (.inl rfl)]; rfl
  rw [e2] at b5
  rw [e, b5]
end Go.Proofs.Ytonjbhdfimcedaa

/- F8 -/
namespace Go.Proofs.Ytonjbhdfimcedaa
set_option linter.unusedVariables false
set_option linter.unusedSimpArgs false
open Go.RowKit
section
variable {x : Cx} {Q : Exit → St → Prop} {obs : List Prop} {K : List Kf}
/-- Where the machine has paused, a cell of a block becomes a list of the walk's own. -/
theorem g_ownO (hL : LayOk x.P x.L) (fuel k j : Nat) (c : Ty) {d : Code} {s s' : St} {ob : List Prop} (ho : AllP obs) (hc : ownC s k j c = some (s', ob)) (ho1 : AllP ob) (hk : Good x Q (run x fuel [] (.code d) K s')) : Good x Q (.out obs (.code d) K s) := by
  refine ⟨ho, ?_⟩
  have h1 := (run_ok hL hk).2
  exact ⟨fun g V a w hr => by
    obtain ⟨V', hr'⟩ := (ownC_ok hc ho1).run g V a w hr
    exact h1.run g V' a w hr'⟩
end
theorem gMk_kinds {inp : List Inp} {O B1 : List Op_} {c : Int} (h0 : ∀ o ∈ O, OpMk o) (h1 : ∀ o ∈ B1, OpMk o) : ∀ b ∈ (gMk inp O B1 c).blks, ∀ o ∈ b.ops, o.kind = 1 ∨ o.kind = 2 ∨ o.kind = 3 ∨ o.kind = 4 ∨ o.kind = 5 := by
  intro b hb o ho
  simp only [gMk, List.mem_cons, List.not_mem_nil, or_false] at hb
  rcases hb with rfl | rfl | rfl
  · exact (h0 o ho).k
  · exact (h1 o ho).k
  · exact absurd ho List.not_mem_nil
end Go.Proofs.Ytonjbhdfimcedaa
