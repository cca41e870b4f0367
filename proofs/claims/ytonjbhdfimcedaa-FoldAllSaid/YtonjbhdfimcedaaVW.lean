/- A row of a list of blocks is stored back, one of its lists being new. No condition on any program. -/
import Derived.Test.YtonjbhdfimcedaaVD
namespace Go.Proofs.Ytonjbhdfimcedaa
set_option linter.unusedSimpArgs false
set_option linter.unusedSectionVars false
set_option linter.unusedVariables false
open Go.RowKit
/-- A frame with two slots more. -/
def vAct (a : Act) (n N : Nat) (p u : Value) : Act := { a with tmps := (a.tmps ++ Array.replicate (N - n) Go.undef ++ #[p, u]) }
theorem vAct_lt {a : Act} {n N t : Nat} {p u : Value} (hs : a.tmps.size = n) (h : t < N) : (vAct a n N p u).tmps.getD t Go.undef = a.tmps.getD t Go.undef := by
  unfold vAct
  simp only [Array.getD_eq_getD_getElem?]
  by_cases h1 : t < n
  · rw [Array.getElem?_append_left (by simp; omega), Array.getElem?_append_left (by omega)]
  · rw [Array.getElem?_eq_none (xs := a.tmps) (by omega), Array.getElem?_append_left (by simp; omega), Array.getElem?_append_right (by omega)]
    rw [Array.getElem?_replicate]
    split <;> rfl
theorem vAct_p {a : Act} {n N : Nat} {p u : Value} (hs : a.tmps.size = n) (h : n ≤ N) : (vAct a n N p u).tmps.getD N Go.undef = p := by
  unfold vAct
  simp only [Array.getD_eq_getD_getElem?]
  rw [Array.getElem?_append_right (by simp; omega)]
  have : N - (a.tmps ++ Array.replicate (N - n) Go.undef).size = 0 := by simp; omega
  rw [this]; rfl
theorem vAct_u {a : Act} {n N : Nat} {p u : Value} (hs : a.tmps.size = n) (h : n ≤ N) : (vAct a n N p u).tmps.getD (N + 1) Go.undef = u := by
  unfold vAct
  simp only [Array.getD_eq_getD_getElem?]
  rw [Array.getElem?_append_right (by simp; omega)]
  have : N + 1 - (a.tmps ++ Array.replicate (N - n) Go.undef).size = 1 := by simp; omega
  rw [this]; rfl
abbrev Cx.two (x : Cx) (N : Nat) : Cx := ⟨x.P, x.L, N + 2, x.kb⟩
section
variable {x : Cx} {g : Gx} {V : Vl} {s : St} {a : Act} {w : World}
theorem Rep.virt (hr : Rep x g V s a w) {p u : SV} (hp : okV s.nb p = true) (hu : okV s.nb u = true) {N : Nat} (hN : x.n ≤ N) (hk : ∀ t v, find s.env t = some v → t < N) :
    Rep (x.two N) g V ⟨(N + 1, u) :: (N, p) :: s.env, s.mem, s.nb⟩ (vAct a x.n N (den V p) (den V u)) w := by
  refine ⟨hr.defers, ?_, fun t v hv => ?_, fun t v hv => ?_, hr.ents.env, hr.frame, hr.own, hr.pin, hr.d0⟩
  · have := hr.size
    show (vAct a x.n N (den V p) (den V u)).tmps.size = N + 2
    unfold vAct
    simp; omega
  · simp only [find_cons] at hv
    split at hv
    · rename_i e; subst e; cases hv; exact vAct_u hr.size hN
    · split at hv
      · rename_i e; subst e; cases hv; exact vAct_p hr.size hN
      · rw [vAct_lt hr.size (hk t v hv)]; exact hr.env t v hv
  · simp only [find_cons] at hv
    split at hv
    · cases hv; exact hu
    · split at hv
      · cases hv; exact hp
      · exact hr.envOk t v hv
theorem Rep.back (hr : Rep x g V s a w) {N : Nat} {p u : Value} {V' : Vl} {e' e1 : List (Nat × SV)} {m' : List (Nat × MB)} {nb' : Nat} {w' : World} (h : Rep (x.two N) g V' ⟨e', m', nb'⟩ (vAct a x.n N p u) w')
    (he : ∀ t v, find e1 t = some v → find e' t = some v ∧ t < N) : Rep x g V' ⟨e1, m', nb'⟩ a w' :=
  ⟨hr.defers, hr.size, fun t v hv => by obtain ⟨h1, h2⟩ := he t v hv; rw [← vAct_lt hr.size h2]; exact h.env t v h1, fun t v hv => h.envOk t v (he t v hv).1, h.ents.env, h.frame, h.own, h.pin, h.d0⟩
theorem store_out {P : Program} {T : TypeId} {p y : Operand} {ty : TypeId} {pos : String} {after : Array Edge} {gd : Option (Nat × Bool)} {K : Act → World → Prop} (h : Oper.wp P ⟨none, .store T p y, ty, pos, after, gd⟩ a w K (fun _ _ _ => False)) :
    ∃ w', (Instr.storeAt T (a.eval p) (a.eval y)).run P w = .ok () w' ∧ K a w' := by
  unfold Oper.wp at h
  cases hr : (Instr.storeAt T (a.eval p) (a.eval y)).run P w with
  | ok u w' =>
    refine ⟨w', rfl, ?_⟩
    simp only [execOp, Sem.run_bind, hr, Result.andThen_ok, Sem.run_pure] at h
    exact h
  | halt hh w' =>
    exfalso
    have e : (execOp a.eval ⟨none, .store T p y, ty, pos, after, gd⟩).run P w = .halt hh w' := by
      simp only [execOp, Sem.run_bind, hr]; rfl
    rw [e] at h
    cases hh <;> exact h
theorem run_at {P : Program} {T : TypeId} {b o : Nat} {cs : Array Value} {t : TypeId} {v : Value} {vs : List Value} (hT : True) (hrun : (Sem.run P (sizeOf T) w) = .ok vs.length w) (hv : v.cells = vs.toArray) (hb : w.heap[b]? = some (.cells cs t)) (hs : o + vs.length ≤ cs.size) (h1 : ∀ v ∈ vs, v.oneCell' = true) :
    (Instr.storeAt T (.pointer (some ⟨b, o, none⟩)) v).run P w = .ok () (w.setRow b (cs.toList.take o ++ vs ++ cs.toList.drop (o + vs.length)).toArray) := by
  simp only [Instr.storeAt, Instr.sureAddr, Sem.run_bind, Sem.run_pure, Result.andThen_ok, storeVar, hrun, hv]
  rw [if_neg (by simp)]
  have := run_storeCells_at (P := P) b o t vs 0 cs w hb (by omega) h1
  simp only [Nat.add_zero] at this
  exact this
theorem setRow_setRow {w : World} {b : Nat} {c1 c2 : Array Value} : (w.setRow b c1).setRow b c2 = w.setRow b c2 := by
  unfold World.setRow
  simp only
  congr 1
  apply Array.ext
  · simp
  · intro i h1 h2
    simp only [Array.getElem_modify]
    split
    · rename_i e; subst e
      split <;> rename_i e1 <;> split at e1 <;> first | (cases e1; rfl) | (rename_i h3; exact absurd e1 (h3 _ _ _)) | skip
      all_goals first | rfl | (simp_all; done) | skip
    · rfl
theorem splice3 {α : Type} {L : List α} {o : Nat} {v0 v1 v2 c1 c2 : α} {cs1 : List α} (h0 : L[o]? = some v0) (h1 : L[o + 1]? = some c1) (h2 : L[o + 2]? = some c2) (e : cs1 = L.take (o + 1) ++ [v1] ++ L.drop (o + 2)) :
    cs1.take (o + 2) ++ [v2] ++ cs1.drop (o + 3) = L.take o ++ [v0, v1, v2] ++ L.drop (o + 3) := by
  subst e
  obtain ⟨l0, e0⟩ := List.getElem?_eq_some_iff.1 h0
  obtain ⟨l1, e1⟩ := List.getElem?_eq_some_iff.1 h1
  obtain ⟨l2, e2⟩ := List.getElem?_eq_some_iff.1 h2
  have hL : L = L.take o ++ v0 :: c1 :: c2 :: L.drop (o + 3) := by
    have a0 := List.drop_eq_getElem_cons l0
    have a1 := List.drop_eq_getElem_cons l1
    have a2 := List.drop_eq_getElem_cons l2
    rw [e0] at a0; rw [e1] at a1; rw [e2] at a2
    rw [a2] at a1; rw [a1] at a0
    have := (List.take_append_drop o L).symm
    rw [a0] at this
    exact this
  generalize hA : L.take o = A at hL
  generalize hB : L.drop (o + 3) = B at hL ⊢
  have hAl : A.length = o := by rw [← hA, List.length_take]; omega
  subst hL
  subst hAl
  have t1 : (A ++ v0 :: c1 :: c2 :: B).take (A.length + 1) = A ++ [v0] := by
    rw [show A ++ v0 :: c1 :: c2 :: B = (A ++ [v0]) ++ (c1 :: c2 :: B) by simp, show A.length + 1 = (A ++ [v0]).length by simp]
    exact List.take_left
  have t2 : (A ++ v0 :: c1 :: c2 :: B).drop (A.length + 2) = c2 :: B := by
    rw [show A ++ v0 :: c1 :: c2 :: B = (A ++ [v0, c1]) ++ (c2 :: B) by simp, show A.length + 2 = (A ++ [v0, c1]).length by simp]
    exact List.drop_left
  rw [t1, t2]
  have t3 : (A ++ [v0] ++ [v1] ++ c2 :: B).take (A.length + 2) = A ++ [v0] ++ [v1] := by
    rw [List.take_append_of_le_length (by simp)]; rw [List.take_of_length_le (by simp)]
  have t4 : (A ++ [v0] ++ [v1] ++ c2 :: B).drop (A.length + 3) = B := by
    rw [show A.length + 3 = (A ++ [v0] ++ [v1] ++ [c2]).length by simp]
    rw [show A ++ [v0] ++ [v1] ++ c2 :: B = (A ++ [v0] ++ [v1] ++ [c2]) ++ B by simp]
    exact List.drop_left
  rw [t3, t4]
  simp
/-- What lies in a row of a list of blocks. -/
theorem Rep.rowB (hr : Rep x g V s a w) {k i : Nat} {m : Md} {l : List Blk} (hm : find s.mem k = some (.list m .block l)) (ho : (m.at []).own? = true) (hi : i < l.length) :
    ∃ ad cs t, (V ⟨k, []⟩).a = some ad ∧ ad.spot = none ∧ w.heap[ad.block]? = some (.cells cs t) ∧ ad.off + i * 3 + 3 ≤ cs.size ∧ cs.toList[ad.off + i * 3]? = some (den V (.sl ⟨k, [(i, 0)]⟩)) ∧ cs.toList[ad.off + i * 3 + 1]? = some (.int .i64 (gt (c := .block) l i).cond) ∧ cs.toList[ad.off + i * 3 + 2]? = some (den V (.sl ⟨k, [(i, 2)]⟩)) := by
  have hc : cont s.mem ⟨k, []⟩ = some (.list (m.at []) .block l) := cont_iff.2 ⟨_, hm, by simp only [contB, desc]⟩
  have hkd := Kd.own?_eq ho
  have hat := hr.ents.at_ _ _ hc
  obtain ⟨q1, q2, q3, q4⟩ := hat
  obtain ⟨ad, cs, tt, b1, b2, b3, b4, b5⟩ : ∃ a cs t, (V ⟨k, []⟩).a = some a ∧ a.spot = none ∧ w.heap[a.block]? = some (.cells cs t) ∧ a.off + (V ⟨k, []⟩).cap * wid .block ≤ cs.size ∧ (V ⟨k, []⟩).cap ≤ maxLen := by
    rcases q3 hkd with h | h
    · omega
    · exact h
  have hw : wid .block = 3 := rfl
  rw [hw] at b4
  have cell : ∀ j d, (tcells .block (gt (c := .block) l i))[j]? = some d → cs.toList[ad.off + i * 3 + j]? = some (denT V ⟨k, [(i, j)]⟩ d) := by
    intro j d hj
    obtain ⟨a2, y1, y2, y3⟩ := q4 i _ (gt_at (c := .block) hi) j d hj
    rw [b1] at y1
    cases y1
    simp only [World.cell?, b3, Option.isSome_none, Bool.false_eq_true, if_false] at y3
    rw [Array.getElem?_toList, show ad.off + i * 3 + j = ad.off + (i * wid .block + j) by rw [hw]; omega]
    exact y3
  exact ⟨ad, cs, tt, b1, b2, b3, by omega, cell 0 _ rfl, cell 1 _ rfl, cell 2 _ rfl⟩
theorem step_storeB (hL : LayOk x.P x.L) {T tI tS : TypeId} {tp ty : Nat} {tyy : TypeId} {pos : String} {after : Array Edge} {gd : Option (Nat × Bool)} {k i : Nat} {n : Int} {q : SV} {tiT tiI tiS : TI} {m : Md} {l : List Blk} {N : Nat} {s2 : St} {e3 : List (Nat × SV)}
    (hp : find s.env tp = some (.el ⟨k, []⟩ 3 i 0)) (hy : find s.env ty = some (.agg [.sl ⟨k, [(i, 0)]⟩, .int .i64 n, q])) (hT : find x.L T = some tiT) (hT3 : tiT.zs.length = 3) (hI : find x.L tI = some tiI) (hI1 : tiI.zs.length = 1) (hS : find x.L tS = some tiS) (hS1 : tiS.zs.length = 1)
    (hm : find s.mem k = some (.list m .block l)) (ho : (m.at []).own? = true) (hi : i < l.length) (hN : x.n ≤ N) (hk : ∀ t v, find s.env t = some v → t < N) (hq : oneC q = true) (hcq : ∀ V, (den V q).cells = #[den V q])
    (step2 : StepTo (x.two N) ⟨(N + 1, q) :: (N, .el ⟨k, []⟩ 3 i 2) :: s.env, (k, .list m .block (l.set i ⟨(gt (c := .block) l i).ops, n, (gt (c := .block) l i).next⟩)) :: s.mem, s.nb⟩ ⟨none, .store tS (.tmp N) (.tmp (N + 1)), 0, "", #[], none⟩ s2)
    (he : ∀ t v, find e3 t = some v → find s2.env t = some v ∧ t < N) : StepTo x s ⟨none, .store T (.tmp tp) (.tmp ty), tyy, pos, after, gd⟩ ⟨e3, s2.mem, s2.nb⟩ :=
  ⟨fun g V a w Q hr => by
    obtain ⟨ad, cs, tt, b1, b2, b3, b4, c0, c1, c2⟩ := hr.rowB hm ho hi
    have hkn := (hr.ents.ok _ _ hm).1
    have hkb : Nat.blt k s.nb = true := by rw [Nat.blt_eq]; exact hkn
    have hqo : okV s.nb q = true := by
      have := hr.envOk ty _ hy
      simp only [okV] at this
      exact (okL_iff _ _).1 this q (by simp)
    have vp : ∀ j, den V (.el ⟨k, []⟩ 3 i j) = .pointer (some ⟨ad.block, ad.off + (i * 3 + j), none⟩) := fun j => by simp only [den, Loc.at, b1, Option.map_some]
    -- the number
    have hr1 := hr.virt (p := .el ⟨k, []⟩ 3 i 1) (u := .int .i64 n) hkb rfl hN hk
    have hsz1 : ∀ {t ti}, find x.L t = some ti → ti.zs.length = 1 → ∀ w : World, (sizeOf t).run x.P w = .ok 1 w := by
      intro t ti h1 h2 w
      obtain ⟨ii, g1, g2, _⟩ := (hL.at h1).info
      rw [r_sizeOf g1, g2, TI.zero_len, h2]
    have st1 := step_storeEl (x := x.two N) (s := ⟨(N + 1, .int .i64 n) :: (N, .el ⟨k, []⟩ 3 i 1) :: s.env, s.mem, s.nb⟩) hL (e := tI) (p := .tmp N) (y := .tmp (N + 1)) (ty := 0) (pos := "") (after := #[]) (gd := none) (k := k) (pa := []) (es := 3) (i := i) (f := 1) (n := 3) (u := .int .i64 n) (ti := tiI) (m := m) (c := .block) (l := l) (l' := l.set i ⟨(gt (c := .block) l i).ops, n, (gt (c := .block) l i).next⟩) (vs := [.int .i64 n]) (ts := [.int .i64 n]) (obs := [i < l.length])
      (by simp [St.get, find_cons]) (by simp [St.get, find_cons]) hI hm rfl rfl (by rw [hI1]; rfl) ho rfl rfl ⟨hi, trivial⟩
    obtain ⟨w1, run1, V1, hr1'⟩ := store_out (P := x.P) (st1.run g V _ w (fun _ _ _ => False) hr1)
    have ev1 : (vAct a x.n N (den V (.el ⟨k, []⟩ 3 i 1)) (den V (.int .i64 n))).eval (.tmp N) = .pointer (some ⟨ad.block, ad.off + (i * 3 + 1), none⟩) := by rw [← vp 1]; exact vAct_p hr.size hN
    have ev2 : (vAct a x.n N (den V (.el ⟨k, []⟩ 3 i 1)) (den V (.int .i64 n))).eval (.tmp (N + 1)) = .int .i64 n := vAct_u hr.size hN
    rw [ev1, ev2, run_at (vs := [.int .i64 n]) trivial (hsz1 hI hI1 w) rfl b3 (by simp; omega) (by simp [Value.oneCell'])] at run1
    simp only [Result.ok.injEq, true_and, List.length_cons, List.length_nil, Nat.zero_add] at run1
    have hr1'' : Rep x g V1 ⟨s.env, (k, .list m .block (l.set i ⟨(gt (c := .block) l i).ops, n, (gt (c := .block) l i).next⟩)) :: s.mem, s.nb⟩ a w1 := hr.back hr1' (e1 := s.env) fun t v hv => ⟨by
      have := hk t v hv
      simp only [find_cons]
      rw [if_neg (by omega), if_neg (by omega)]; exact hv, hk t v hv⟩
    -- the list
    have hr2 := hr1''.virt (p := .el ⟨k, []⟩ 3 i 2) (u := q) hkb hqo hN hk
    obtain ⟨w2, run2, V2, hr2'⟩ := store_out (P := x.P) (step2.run g V1 _ w1 (fun _ _ _ => False) hr2)
    have e1 : den V1 (.el ⟨k, []⟩ 3 i 0) = den V (.el ⟨k, []⟩ 3 i 0) := (hr1''.env tp _ hp).symm.trans (hr.env tp _ hp)
    have e2 : den V1 q = den V q := by
      have := (hr1''.env ty _ hy).symm.trans (hr.env ty _ hy)
      simp only [den, denL, Value.agg.injEq, Array.mk.injEq, List.cons.injEq] at this
      exact this.2.2.1
    have e3' : den V1 (.el ⟨k, []⟩ 3 i 2) = .pointer (some ⟨ad.block, ad.off + (i * 3 + 2), none⟩) := by
      rw [vp 0] at e1
      simp only [den, Loc.at] at e1 ⊢
      cases h : (V1 ⟨k, []⟩).a with
      | none => rw [h] at e1; simp at e1
      | some a1 =>
        rw [h] at e1
        simp only [Option.map_some, Value.pointer.injEq, Option.some.injEq, Addr.mk.injEq] at e1 ⊢
        refine ⟨e1.1, by omega, trivial⟩
    have ev3 : (vAct a x.n N (den V1 (.el ⟨k, []⟩ 3 i 2)) (den V1 q)).eval (.tmp N) = .pointer (some ⟨ad.block, ad.off + (i * 3 + 2), none⟩) := by rw [← e3']; exact vAct_p hr.size hN
    have ev4 : (vAct a x.n N (den V1 (.el ⟨k, []⟩ 3 i 2)) (den V1 q)).eval (.tmp (N + 1)) = den V q := by rw [← e2]; exact vAct_u hr.size hN
    have hb1 := setRow_heap w ad.block cs (cs.toList.take (ad.off + (i * 3 + 1)) ++ [Value.int .i64 n] ++ cs.toList.drop (ad.off + (i * 3 + 1) + 1)).toArray tt (0, 0) b3
    rw [← run1, ev3, ev4, run_at (vs := [den V q]) trivial (hsz1 hS hS1 _) (hcq V) hb1 (by simp; omega) (by intro v hv; simp only [List.mem_singleton] at hv; subst hv; exact oneC_den _ hq)] at run2
    simp only [Result.ok.injEq, true_and] at run2
    -- both at once
    have hsz3 : (sizeOf T).run x.P w = .ok 3 w := by
      obtain ⟨ii, g1, g2, _⟩ := (hL.at hT).info
      rw [r_sizeOf g1, g2, TI.zero_len, hT3]
    have run : (execOp a.eval ⟨none, .store T (.tmp tp) (.tmp ty), tyy, pos, after, gd⟩).run x.P w = .ok .skip w2 := by
      have ep : a.eval (.tmp tp) = .pointer (some ⟨ad.block, ad.off + (i * 3 + 0), none⟩) := by rw [← vp 0]; exact hr.env tp _ hp
      have ey : a.eval (.tmp ty) = .agg #[den V (.sl ⟨k, [(i, 0)]⟩), .int .i64 n, den V q] := hr.env ty _ hy
      have := run_at (P := x.P) (w := w) (T := T) (o := ad.off + (i * 3 + 0)) (v := .agg #[den V (.sl ⟨k, [(i, 0)]⟩), .int .i64 n, den V q]) (vs := [den V (.sl ⟨k, [(i, 0)]⟩), .int .i64 n, den V q]) trivial hsz3 rfl b3 (by simp; omega) (by
        intro v hv
        simp only [List.mem_cons, List.not_mem_nil, or_false] at hv
        rcases hv with rfl | rfl | rfl
        · exact oneC_den _ rfl
        · rfl
        · exact oneC_den _ hq)
      simp only [execOp, ep, ey, Sem.run_bind, this, Result.andThen_ok, Sem.run_pure, Result.ok.injEq, true_and]
      rw [← run2, setRow_setRow]
      congr 1
      apply Array.ext'
      simp only
      exact (splice3 (L := cs.toList) (o := ad.off + i * 3) c0 c1 c2 rfl).symm
    unfold Oper.wp
    rw [run]
    exact ⟨V2, hr.back hr2' he⟩⟩
theorem step_selfB (hL : LayOk x.P x.L) {tS : TypeId} {tp ty : Nat} {tyy : TypeId} {pos : String} {after : Array Edge} {gd : Option (Nat × Bool)} {k i : Nat} {tiS : TI} {m : Md} {l : List Blk}
    (hp : find s.env tp = some (.el ⟨k, []⟩ 3 i 2)) (hy : find s.env ty = some (.sl ⟨k, [(i, 2)]⟩)) (hS : find x.L tS = some tiS) (hS1 : tiS.zs.length = 1)
    (hm : find s.mem k = some (.list m .block l)) (ho : (m.at []).own? = true) (hi : i < l.length) : StepTo x s ⟨none, .store tS (.tmp tp) (.tmp ty), tyy, pos, after, gd⟩ s :=
  ⟨fun g V a w Q hr => by
    obtain ⟨ad, cs, tt, b1, b2, b3, b4, c0, c1, c2⟩ := hr.rowB hm ho hi
    have hsz1 : (sizeOf tS).run x.P w = .ok 1 w := by
      obtain ⟨ii, g1, g2, _⟩ := (hL.at hS).info
      rw [r_sizeOf g1, g2, TI.zero_len, hS1]
    have ep : a.eval (.tmp tp) = .pointer (some ⟨ad.block, ad.off + (i * 3 + 2), none⟩) := by
      have : a.eval (.tmp tp) = den V (.el ⟨k, []⟩ 3 i 2) := hr.env tp _ hp
      rw [this]; simp only [den, Loc.at, b1, Option.map_some]
    have ey : a.eval (.tmp ty) = den V (.sl ⟨k, [(i, 2)]⟩) := hr.env ty _ hy
    have hw : w.setRow ad.block (cs.toList.take (ad.off + (i * 3 + 2)) ++ [den V (.sl ⟨k, [(i, 2)]⟩)] ++ cs.toList.drop (ad.off + (i * 3 + 2) + 1)).toArray = w := by
      have e : (cs.toList.take (ad.off + (i * 3 + 2)) ++ [den V (.sl ⟨k, [(i, 2)]⟩)] ++ cs.toList.drop (ad.off + (i * 3 + 2) + 1)).toArray = cs := by
        apply Array.ext'
        simp only
        obtain ⟨l2, e2⟩ := List.getElem?_eq_some_iff.1 c2
        have a2 := List.drop_eq_getElem_cons l2
        rw [e2] at a2
        rw [List.append_assoc, ← Nat.add_assoc, List.singleton_append, ← a2, List.take_append_drop]
      rw [e]; exact setRow_self w ad.block cs tt (0, 0) b3
    have run : (execOp a.eval ⟨none, .store tS (.tmp tp) (.tmp ty), tyy, pos, after, gd⟩).run x.P w = .ok .skip w := by
      have := run_at (P := x.P) (w := w) (T := tS) (o := ad.off + (i * 3 + 2)) (v := den V (.sl ⟨k, [(i, 2)]⟩)) (vs := [den V (.sl ⟨k, [(i, 2)]⟩)]) trivial hsz1 rfl b3 (by simp; omega) (by intro v hv; simp only [List.mem_singleton] at hv; subst hv; exact oneC_den _ rfl)
      simp only [List.length_cons, List.length_nil, Nat.zero_add, hw] at this
      simp only [execOp, ep, ey, Sem.run_bind, this, Result.andThen_ok, Sem.run_pure]
    unfold Oper.wp
    rw [run]
    exact ⟨V, hr⟩⟩
def keysE : List (Nat × SV) → Nat → Bool
  | [], _ => true
  | (t, _) :: l, N => match Nat.blt t N with
    | true => keysE l N
    | false => false
theorem keysE_ok : ∀ {l : List (Nat × SV)} {N : Nat}, keysE l N = true → ∀ t v, find l t = some v → t < N
  | [], N, h, t, v, hf => by simp [find] at hf
  | (u, z) :: l, N, h, t, v, hf => by
    unfold keysE at h
    split at h
    · rename_i hb
      rw [find_cons] at hf
      split at hf
      · rename_i e; subst e; rw [Nat.blt_eq] at hb; exact hb
      · exact keysE_ok h t v hf
    · cases h
theorem find_envT {φ : Rid → Rid} : ∀ {l : List (Nat × SV)} {t : Nat}, find (envT φ l) t = (find l t).map (svT φ)
  | [], t => rfl
  | (u, z) :: l, t => by
    show find ((u, svT φ z) :: envT φ l) t = _
    rw [find_cons, find_cons]
    split
    · rfl
    · exact find_envT
end
section
variable {x : Cx} {Q : Exit → St → Prop} {obs : List Prop} {K : List Kf} {all lo : List Oper} {env : List (Nat × SV)} {mem : List (Nat × MB)} {nb : Nat}
/-- A row of a list of blocks is stored back, with another number. -/
theorem g_storeF (hL : LayOk x.P x.L) (fuel : Nat) {T : TypeId} (tI tS : TypeId) {tp ty : Nat} {tyy : TypeId} {pos : String} {after : Array Edge} {gd : Option (Nat × Bool)} {k i : Nat} {n : Int} {tiT tiI tiS : TI} {m : Md} {l : List Blk} (ho : AllP obs) (hg : goes all env gd = some true)
    (hp : find env tp = some (.el ⟨k, []⟩ 3 i 0)) (hy : find env ty = some (.agg [.sl ⟨k, [(i, 0)]⟩, .int .i64 n, .sl ⟨k, [(i, 2)]⟩])) (hT : find x.L T = some tiT) (hT3 : tiT.zs.length = 3) (hI : find x.L tI = some tiI) (hI1 : tiI.zs.length = 1) (hS : find x.L tS = some tiS) (hS1 : tiS.zs.length = 1)
    (hm : find mem k = some (.list m .block l)) (hw : (m.at []).own? = true) (hi : i < l.length) (hk : keysE env x.n = true)
    (h : Good x Q (run x fuel [] (.ops all lo) K ⟨env, (k, .list m .block (l.set i ⟨(gt (c := .block) l i).ops, n, (gt (c := .block) l i).next⟩)) :: mem, nb⟩)) :
    Good x Q (.ops obs all (⟨none, .store T (.tmp tp) (.tmp ty), tyy, pos, after, gd⟩ :: lo) K ⟨env, mem, nb⟩) := by
  have hi2 : i < (l.set i ⟨(gt (c := .block) l i).ops, n, (gt (c := .block) l i).next⟩).length := by rw [List.length_set]; exact hi
  refine ⟨ho, sq_step hg (step_storeB (s := ⟨env, mem, nb⟩) (N := x.n) (e3 := env) hL hp hy hT hT3 hI hI1 hS hS1 hm hw hi (Nat.le_refl _) (keysE_ok hk) rfl (fun V => rfl)
    (step_selfB (x := x.two x.n) (tyy := 0) (k := k) (i := i) (m := m) (l := l.set i ⟨(gt (c := .block) l i).ops, n, (gt (c := .block) l i).next⟩) hL (by simp [find_cons]) (by simp [find_cons]) hS hS1 (by rw [find_cons, if_pos rfl]) hw hi2) (fun t v hv => ⟨by
      have := keysE_ok hk t v hv
      simp only [find_cons]
      rw [if_neg (by omega), if_neg (by omega)]; exact hv, keysE_ok hk t v hv⟩)) (run_ok hL h).2⟩
/-- A row of a list of blocks is stored back, with another number and another list. -/
theorem g_storeT (hL : LayOk x.P x.L) (fuel : Nat) {T : TypeId} (tI tS : TypeId) {tp ty : Nat} {tyy : TypeId} {pos : String} {after : Array Edge} {gd : Option (Nat × Bool)} {k i : Nat} {n : Int} {q u' : SV} {tiT tiI tiS : TI} {m : Md} {l : List Blk} {e' : List (Nat × SV)} {m' : List (Nat × MB)} {nb' : Nat} {ob : List Prop} {d : StoreD} (ho : AllP obs) (hg : goes all env gd = some true)
    (hp : find env tp = some (.el ⟨k, []⟩ 3 i 0)) (hy : find env ty = some (.agg [.sl ⟨k, [(i, 0)]⟩, .int .i64 n, q])) (hT : find x.L T = some tiT) (hT3 : tiT.zs.length = 3) (hI : find x.L tI = some tiI) (hI1 : tiI.zs.length = 1) (hS : find x.L tS = some tiS) (hS1 : tiS.zs.length = 1)
    (hm : find mem k = some (.list m .block l)) (hw : (m.at []).own? = true) (hi : i < l.length) (hk : keysE env x.n = true) (hq : oneC q = true) (hcq : ∀ V, (den V q).cells = #[den V q])
    (hown : ownE ⟨(x.n + 1, q) :: (x.n, .el ⟨k, []⟩ 3 i 2) :: env, (k, .list m .block (l.set i ⟨(gt (c := .block) l i).ops, n, (gt (c := .block) l i).next⟩)) :: mem, nb⟩ (x.n + 1) .int = some (⟨e', m', nb'⟩, ob)) (ho1 : AllP ob)
    (he' : e' = (x.n + 1, u') :: (x.n + 1, q) :: (x.n, .el ⟨k, []⟩ 3 i 2) :: env) (hd : storeD x.L ⟨e', m', nb'⟩ tS (.tmp x.n) (.tmp (x.n + 1)) = some d) (ho2 : AllP d.obs)
    (h : Good x Q (storeR d ⟨env, m', nb'⟩ fun s' => run x fuel [] (.ops all lo) K s')) :
    Good x Q (.ops obs all (⟨none, .store T (.tmp tp) (.tmp ty), tyy, pos, after, gd⟩ :: lo) K ⟨env, mem, nb⟩) := by
  obtain ⟨k0, i0, fc, n0, ks, mv, m0, ob0⟩ := d
  simp only [storeR, killP_eq, memTP_eq, envTP_eq, nx_eq] at h
  have st := step_storeL (x := x.two x.n) (ty := 0) (pos := "") (after := #[]) (gd := none) hL hd ho2
  have tw := ownE_ok (x := x.two x.n) hown ho1
  refine ⟨ho, sq_step hg (step_storeB (s := ⟨env, mem, nb⟩) (N := x.n) (e3 := envT (ridT k0 nb' fc n0 i0 mv) env) (s2 := ⟨envT (ridT k0 nb' fc n0 i0 mv) e', memT (ridT k0 nb' fc n0 i0 mv) ((nb', m0) :: killL (k0 :: ks) m'), nb' + 1⟩) hL hp hy hT hT3 hI hI1 hS hS1 hm hw hi (Nat.le_refl _) (keysE_ok hk) hq hcq
    ⟨fun g V a w Q hr => by obtain ⟨V', hr'⟩ := tw.run g V a w hr; exact st.run g V' a w Q hr'⟩ (fun t v hv => ?_)) (run_ok hL h).2⟩
  rw [find_envT] at hv
  cases hf : find env t with
  | none => rw [hf] at hv; cases hv
  | some z =>
    have hlt := keysE_ok hk t z hf
    refine ⟨?_, hlt⟩
    show find (envT _ e') t = some v
    rw [find_envT, he', find_cons, if_neg (by omega), find_cons, if_neg (by omega), find_cons, if_neg (by omega)]
    exact hv
end
end Go.Proofs.Ytonjbhdfimcedaa
