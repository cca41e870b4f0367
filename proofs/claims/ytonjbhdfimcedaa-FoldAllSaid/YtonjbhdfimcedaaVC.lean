/- Walks, third framework, twenty-fourth part: calls by contract. No condition on any program. -/
import Derived.Test.YtonjbhdfimcedaaVB
import Derived.Test.YtonjbhdfimcedaaRegion
import Derived.WalkKit
import Derived.ProofKit
/- V24 -/
namespace Go.Proofs.Ytonjbhdfimcedaa
set_option linter.unusedSimpArgs false
set_option linter.unusedSectionVars false
set_option linter.unusedVariables false
open Go.RowKit

theorem run_call {P : Program} {g : Nat} (hb : callB P g = true) {caps args : Array Value} {w : World} {dst : Option Tmp} {f : Operand} {as : Array Operand} {ts : Array TypeId} {ty pos after guard} {ev : Operand → Value}
    (hf : ev f = .func (.func g) #[] caps) (ha : as.map ev = args) : (execOp ev ⟨dst, .call ⟨.value f, as, ts⟩, ty, pos, after, guard⟩).run P w = .ok (.enter g (args ++ caps)) w := by
  unfold callB at hb
  cases hfn : P.funcs[g]? with
  | none => simp [hfn] at hb
  | some fn =>
    simp only [hfn, Bool.and_eq_true, bne_iff_ne, ne_eq] at hb
    obtain ⟨h1, h2⟩ := hb
    have hc : ∀ as' : Array Value, (callFunc g as').run P w = .ok (.enter g as') w := by
      intro as'
      show (match P.funcs[g]? with | none => (stuck _ : Sem Next) | some fn => if fn.name == "runtime.NumGoroutine" then pure .numGoroutine else if fn.body.isNone then _ else pure (.enter g as')).run P w = _
      rw [hfn]
      have e1 : (fn.name == "runtime.NumGoroutine") = false := by simpa using h2
      have e2 : fn.body.isNone = false := by cases hb : fn.body <;> simp_all
      simp only [e1, e2, Bool.false_eq_true, if_false]
      rfl
    simp only [execOp, resolve, hf, ha, Deferred.ofValue, Sem.run_bind, Sem.run_pure, Result.andThen_ok, invoke]
    rw [show (#[] : Array Value) ++ args = args by simp]
    exact hc _
/-! ### Names behind a call -/
def okSg (nb : Nat) : Sg → Bool
  | [] => true
  | (_, .root k) :: l => match Nat.blt k nb with
    | true => okSg nb l
    | false => false
  | (_, .rd v) :: l => match okV nb v with
    | true => okSg nb l
    | false => false
theorem okSg_spec {nb : Nat} : ∀ {σ : Sg}, okSg nb σ = true → ∀ k, (∀ k', find σ k = some (.root k') → k' < nb) ∧ ∀ v, find σ k = some (.rd v) → okV nb v = true
  | [], _, k => ⟨(fun k' h => by simp [find] at h), (fun v h => by simp [find] at h)⟩
  | (a, y) :: l, h, k => by
    have tail : okSg nb l = true := by
      unfold okSg at h
      split at h
      · rename_i e; cases e
      · rename_i e; cases e; split at h <;> first | exact h | cases h
      · rename_i e; cases e; split at h <;> first | exact h | cases h
    obtain ⟨h1, h2⟩ := okSg_spec tail k
    refine ⟨fun k' hk => ?_, fun v hk => ?_⟩
    · rw [find_cons] at hk
      split at hk
      · cases hk
        unfold okSg at h
        split at h
        · rename_i hb; simpa [Nat.blt_eq] using hb
        · cases h
      · exact h1 k' hk
    · rw [find_cons] at hk
      split at hk
      · cases hk
        unfold okSg at h
        split at h
        · assumption
        · cases h
      · exact h2 v hk
/-- Numbers from p on become numbers from n on. -/
def newSg : Nat → Nat → Nat → Sg
  | 0, _, _ => []
  | c + 1, p, n => (p, .root n) :: newSg c (p + 1) (n + 1)
theorem newSg_find : ∀ {c p n k : Nat}, find (newSg c p n) k = if p ≤ k ∧ k < p + c then some (.root (k - p + n)) else none
  | 0, p, n, k => by simp only [newSg, find]; rw [if_neg (by omega)]
  | c + 1, p, n, k => by
    simp only [newSg, find_cons, newSg_find]
    by_cases h : p = k
    · subst h; rw [if_pos rfl, if_pos (by omega)]; congr 2; omega
    · rw [if_neg h]
      by_cases h2 : p + 1 ≤ k ∧ k < p + 1 + c
      · rw [if_pos h2, if_pos (by omega)]; congr 2; omega
      · rw [if_neg h2, if_neg (by omega)]
/-- What the function leaves, in the caller's words: its own blocks, and new ones. -/
def renM (σ : Sg) : MB → Option MB
  | .cells c => match renL σ c with
    | some c' => some (.cells c')
    | none => none
  | .deck v => match renS σ v with
    | some v' => some (.deck v')
    | none => none
  | .mp es => some (.mp es)
  | .list m c l => some (.list m c l)
  | .hole _ _ _ => none
  | .dead => some .dead
/-- 'p': how many numbers the function was given. -/
def renMs (σ : Sg) (p : Nat) : List (Nat × MB) → Option (List (Nat × MB))
  | [] => some []
  | (k, m) :: l => match renMs σ p l with
    | none => none
    | some r => match m, Nat.blt k p with
      | .list .tmp _ _, true => some r
      | .list .fz _ _, true => some r
      | .list .tmp _ _, false => none
      | m, _ => match find σ k, renM σ m with
        | some (.root k'), some m' => some ((k', m') :: r)
        | _, _ => none
def okMs (nb : Nat) : List (Nat × MB) → Bool
  | [] => true
  | (k, m) :: l => match Nat.blt k nb, okM nb m with
    | true, true => okMs nb l
    | _, _ => false
theorem okMs_spec {nb : Nat} : ∀ {l : List (Nat × MB)}, okMs nb l = true → ∀ k m, find l k = some m → k < nb ∧ okM nb m = true
  | [], _, k, v, h => by simp [find] at h
  | (a, b) :: l, ho, k, v, h => by
    unfold okMs at ho
    rw [find_cons] at h
    split at ho
    · rename_i h1 h2
      split at h
      · rename_i e; subst e; cases h; exact ⟨by simpa [Nat.blt_eq] using h1, h2⟩
      · exact okMs_spec ho k v h
    · cases ho
/-- Is number k among those that are handed on as one's own? -/
theorem renMs_get {σ : Sg} {p : Nat} : ∀ {l mm : List (Nat × MB)}, renMs σ p l = some mm → ∀ {j : Nat} {m' : MB}, find mm j = some m' → ∃ k m, (k, m) ∈ l ∧ find σ k = some (.root j) ∧ renM σ m = some m' ∧ (k < p → (∀ c l, m ≠ .list .tmp c l) ∧ ∀ c l, m ≠ .list .fz c l) ∧ (p ≤ k → ∀ c l, m ≠ .list .tmp c l)
  | [], mm, h, j, m', hj => by simp only [renMs, Option.some.injEq] at h; subst h; simp [find] at hj
  | (a, m) :: l, mm, h, j, m', hj => by
    unfold renMs at h
    split at h
    · cases h
    · rename_i r hr
      have ih : find r j = some m' → _ := fun h => renMs_get hr h
      have up : find r j = some m' → ∃ k m0, (k, m0) ∈ (a, m) :: l ∧ find σ k = some (.root j) ∧ renM σ m0 = some m' ∧ (k < p → (∀ c l, m0 ≠ .list .tmp c l) ∧ ∀ c l, m0 ≠ .list .fz c l) ∧ (p ≤ k → ∀ c l, m0 ≠ .list .tmp c l) := by
        intro h
        obtain ⟨k, m0, h1, h2⟩ := ih h
        exact ⟨k, m0, List.mem_cons_of_mem _ h1, h2⟩
      split at h
      · cases h; exact up hj
      · cases h; exact up hj
      · cases h
      · rename_i n1 n2 n3
        split at h
        · rename_i k' m1 h1 h2
          cases h
          rw [find_cons] at hj
          split at hj
          · rename_i e
            subst e
            cases hj
            refine ⟨a, _, List.mem_cons_self, h1, h2, fun hlt => ?_, fun hle c l e => ?_⟩
            · have hb : Nat.blt a p = true := by simpa [Nat.blt_eq] using hlt
              exact ⟨fun c l e => n1 c l e hb, fun c l e => n2 c l e hb⟩
            · have hb : Nat.blt a p = false := by
                cases hh : Nat.blt a p with
                | false => rfl
                | true => simp [Nat.blt_eq] at hh; omega
              exact n3 c l e hb
          · exact up hj
        · cases h
def keysB : List (Nat × MB) → List Nat
  | [] => []
  | (k, _) :: l => k :: keysB l
theorem find_of_mem : ∀ {l : List (Nat × MB)} {k : Nat} {m : MB}, nodupB (keysB l) = true → (k, m) ∈ l → find l k = some m
  | [], k, m, _, h => by simp at h
  | (a, b) :: l, k, m, hn, h => by
    unfold keysB nodupB at hn
    split at hn
    · rename_i hni
      rw [find_cons]
      rcases List.mem_cons.1 h with e | h
      · cases e; rw [if_pos rfl]
      · have hk : ∀ {l : List (Nat × MB)}, (k, m) ∈ l → k ∈ keysB l := by
          intro l
          induction l with
          | nil => intro h; simp at h
          | cons y l ih =>
            intro h
            obtain ⟨y1, y2⟩ := y
            rcases List.mem_cons.1 h with e | h
            · cases e; exact List.mem_cons_self
            · exact List.mem_cons_of_mem _ (ih h)
        rw [if_neg (fun e => by subst e; exact notIn_spec hni (hk h))]
        exact find_of_mem hn h
    · cases hn
def mixV (V V' : Vl) (n p : Nat) : Vl := fun r => if r.k < n then V r else V' ⟨r.k - n + p, r.p⟩
theorem mixV_agr {V V' : Vl} {n p : Nat} : AgrB n (mixV V V' n p) V := fun r hr => if_pos hr
/-- The callee's valuation is the caller's, in other words. -/
theorem mix_vl {σ : Sg} {V V' : Vl} {n p c : Nat} (hok : okSg n σ = true) (hp : ∀ k y, find σ k = some y → k < p) (hall : ∀ k, k < p → ∃ y, find σ k = some y) (hag : AgrB p V' (σ.vl V)) : ∀ r : Rid, r.k < p + c → Sg.vl (app σ (newSg c p n)) (mixV V V' n p) r = V' r := by
  intro r hr
  obtain ⟨k, q⟩ := r
  simp only at hr
  by_cases hk : k < p
  · have e := hag ⟨k, q⟩ hk
    rw [e]
    obtain ⟨y, hy⟩ := hall k hk
    obtain ⟨g1, g2⟩ := okSg_spec hok k
    have hfind : find (app σ (newSg c p n)) k = some y := by rw [app_eq, find_append, hy]
    cases y with
    | root k' =>
      simp only [Sg.vl, hfind, hy]
      exact mixV_agr _ (g1 k' hy)
    | rd v =>
      simp only [Sg.vl, hfind, hy]
      have hv := g2 v hy
      cases v <;> simp only [rdL] <;> first | rfl | skip
      case sl r0 => simp only [okV, Nat.blt_eq] at hv; exact mixV_agr ⟨r0.k, r0.p ++ q⟩ hv
      case vw r0 es i m cx =>
        simp only [okV, Nat.blt_eq] at hv
        cases q with
        | nil => simp only [rdL]; rw [mixV_agr r0 hv]
        | cons ajj q => obtain ⟨a, j⟩ := ajj; simp only [rdL]; exact mixV_agr ⟨r0.k, _⟩ hv
      case slc k0 o m cc =>
        simp only [okV, Nat.blt_eq] at hv
        cases q with
        | nil => simp only [rdL]; rw [mixV_agr ⟨k0, []⟩ hv]
        | cons ajj q => simp only [rdL]
  · have hno : find σ k = none := by
      cases hf : find σ k with
      | none => rfl
      | some y => exact absurd (hp k y hf) hk
    have hfind : find (app σ (newSg c p n)) k = some (.root (k - p + n)) := by
      rw [app_eq, find_append, hno]
      simp only
      rw [newSg_find, if_pos (by omega)]
    simp only [Sg.vl, hfind, mixV]
    rw [if_neg (by omega)]
    congr 2
    omega
end Go.Proofs.Ytonjbhdfimcedaa

/- V25 -/
namespace Go.Proofs.Ytonjbhdfimcedaa
set_option linter.unusedSimpArgs false
set_option linter.unusedSectionVars false
set_option linter.unusedVariables false
open Go.RowKit
/-- **Behind a call.** -/
theorem Rep.call {x : Cx} {g : Gx} {V V' : Vl} {s : St} {a : Act} {w w' : World} (hr : Rep x g V s a w) {σ : Sg} {pm : List (Nat × MB)} {p : Nat} {obs : List Prop} {owns reads : List Nat} (hm : memB true σ p s pm = some (obs, owns, reads)) (hn : nodupB owns = true) (hni : noneIn reads owns = true) (ho : AllP obs) (hσ : okSg s.nb σ = true) (hσp : ∀ k y, find σ k = some y → k < p) (hall : ∀ k, k < p → ∃ y, find σ k = some y)
    {t' : St} (hE' : Ents (fun b => g.D0 b ∨ (Dl V s.mem b ∧ ¬ Dl (σ.vl V) pm b)) V' t' w') (hag : AgrB p V' (σ.vl V)) (hfr : Go.Proofs.Ytonjbhdfimcedaa.Fr (Dl (σ.vl V) pm) w w') (hfresh : ∀ b, Dl V' t'.mem b → w.heap.size ≤ b ∨ Dl (σ.vl V) pm b) {c : Nat} (hc : t'.nb = p + c) {mm : List (Nat × MB)} {N : Nat} (hmm : renMs (app σ (newSg c p s.nb)) p t'.mem = some mm) (hkeys : nodupB (keysB t'.mem) = true) (hN : N = s.nb + c) (hokm : okMs N mm = true) (hks : ∀ k ∈ owns, k < s.nb) :
    Rep x g (mixV V V' s.nb p) ⟨s.env, mm ++ killL owns s.mem, N⟩ a w' := by
  obtain ⟨_, hdl, _⟩ := memB_ok (e := []) (nb := p) hr.ents hm hn hni ho hr.d0w
  have hvl := mix_vl (c := c) hσ hσp hall hag
  have old : ∀ r : Rid, r.k < s.nb → mixV V V' s.nb p r = V r := fun r h => mixV_agr r h
  have dlS : ∀ b, Dl (σ.vl V) pm b → Dl V s.mem b := fun b h => by obtain ⟨r, y, h1, h2, h3, h4, _⟩ := hdl b h; exact ⟨r, y, h1, h2, h3, h4⟩
  -- entries of the function's
  have look : ∀ j m', find mm j = some m' → ∃ k m, find t'.mem k = some m ∧ k < p + c ∧ find (app σ (newSg c p s.nb)) k = some (.root j) ∧ renM (app σ (newSg c p s.nb)) m = some m' ∧ (∀ q, mixV V V' s.nb p ⟨j, q⟩ = V' ⟨k, q⟩) ∧ ∀ c l, m ≠ .list .tmp c l := by
    intro j m' hj
    obtain ⟨k, m, h1, h2, h3, h4, h5⟩ := renMs_get hmm hj
    have hf := find_of_mem hkeys h1
    have hlt := (hE'.ok k m hf).1
    refine ⟨k, m, hf, by omega, h2, h3, fun q => ?_, fun c l => ?_⟩
    · have := hvl ⟨k, q⟩ (by simp only; omega)
      simp only [Sg.vl, h2] at this
      exact this
    · rcases Nat.lt_or_ge k p with h | h
      · exact (h4 h).1 c l
      · exact h5 h c l
  have denE : ∀ v u, okV t'.nb v = true → renS (app σ (newSg c p s.nb)) v = some u → den (mixV V V' s.nb p) u = den V' v := by
    intro v u hv hu
    rw [← ren_den (mixV V V' s.nb p) hu]
    exact den_agree (nb := t'.nb) (fun r hr => hvl r (by omega)) v hv
  have denLE : ∀ v u, okL t'.nb v = true → renL (app σ (newSg c p s.nb)) v = some u → denL (mixV V V' s.nb p) u = denL V' v := by
    intro v u hv hu
    rw [← renL_den (mixV V V' s.nb p) hu]
    exact denL_agree (nb := t'.nb) (fun r hr => hvl r (by omega)) v hv
  have mmC : ∀ r b, (∃ m', find mm r.k = some m' ∧ contB m' r.p = some b) → ∃ k b0, cont t'.mem ⟨k, r.p⟩ = some b0 ∧ kindB b0 = kindB b ∧ mixV V V' s.nb p r = V' ⟨k, r.p⟩ ∧ (liveB (V' ⟨k, r.p⟩) b0 ↔ liveB (V' ⟨k, r.p⟩) b) ∧ find (app σ (newSg c p s.nb)) k = some (.root r.k) ∧ kindB b ≠ .tmp ∧ AtB (mixV V V' s.nb p) w' r b := by
    rintro ⟨j, q⟩ b ⟨m', h1, h2⟩
    simp only at h1 h2
    obtain ⟨k, m, g1, g2, g3, g4, g5, g6⟩ := look j m' h1
    have e0 := g5 q
    cases m with
    | dead => simp only [renM, Option.some.injEq] at g4; subst g4; rw [contB_dead] at h2; cases h2
    | hole _ _ _ => simp only [renM] at g4; cases g4
    | cells cc =>
      simp only [renM] at g4
      split at g4
      · rename_i cc' hcc
        cases g4
        obtain ⟨rfl, rfl⟩ := contB_cells h2
        have hct : cont t'.mem ⟨k, []⟩ = some (.cells cc) := cont_iff.2 ⟨_, g1, rfl⟩
        have hok := (hE'.ok k _ g1).2
        obtain ⟨bk, tt, y1, y2⟩ := hE'.at_ _ _ hct
        refine ⟨k, _, hct, rfl, e0, Iff.rfl, g3, by simp [kindB], bk, tt, by rw [e0]; exact y1, ?_⟩
        rw [denLE cc cc' hok hcc]; exact y2
      · cases g4
    | deck v =>
      simp only [renM] at g4
      split at g4
      · rename_i v' hv
        cases g4
        have hb1 : q = [] ∧ b = .deck v' := by
          cases q with
          | nil => simp only [contB, Option.some.injEq] at h2; exact ⟨rfl, h2.symm⟩
          | cons _ _ => simp [contB] at h2
        obtain ⟨rfl, rfl⟩ := hb1
        have hct : cont t'.mem ⟨k, []⟩ = some (.deck v) := cont_iff.2 ⟨_, g1, rfl⟩
        have hok := (hE'.ok k _ g1).2
        obtain ⟨bk, tt, p0, a0, n0, c0, y1, y2⟩ := hE'.at_ _ _ hct
        refine ⟨k, _, hct, rfl, e0, Iff.rfl, g3, by simp [kindB], bk, tt, p0, a0, n0, c0, by rw [e0]; exact y1, ?_⟩
        rw [denE v v' hok hv]; exact y2
      · cases g4
    | mp es =>
      simp only [renM, Option.some.injEq] at g4
      subst g4
      have hb1 : q = [] ∧ b = .mp es := by
        cases q with
        | nil => simp only [contB, Option.some.injEq] at h2; exact ⟨rfl, h2.symm⟩
        | cons _ _ => simp [contB] at h2
      obtain ⟨rfl, rfl⟩ := hb1
      have hct : cont t'.mem ⟨k, []⟩ = some (.mp es) := cont_iff.2 ⟨_, g1, rfl⟩
      obtain ⟨bk, arr, cl, y1, y2⟩ := hE'.at_ _ _ hct
      exact ⟨k, _, hct, rfl, e0, Iff.rfl, g3, by simp [kindB], bk, arr, cl, by rw [e0]; exact y1, y2⟩
    | list md cc ll =>
      simp only [renM, Option.some.injEq] at g4
      subst g4
      simp only [contB] at h2
      split at h2
      · rename_i c2 l2 hd
        cases h2
        have hct : cont t'.mem ⟨k, q⟩ = some (.list (md.at q) c2 l2) := cont_iff.2 ⟨_, g1, by simp only [contB, hd]⟩
        refine ⟨k, _, hct, rfl, e0, Iff.rfl, g3, ?_, (hE'.at_ _ _ hct).move e0 (fun i j' => by rw [Rid.ch, Rid.ch]; exact g5 _) (fun h => h) (fun _ => rfl)⟩
        simp only [kindB]
        cases md with
        | tmp => exact absurd rfl (g6 cc ll)
        | own => simp [Md.at]
        | sh => cases q <;> simp [Md.at]
        | fz => simp [Md.at]
        | pt n f =>
          cases q with
          | nil => simp [Md.at]
          | cons x q => simp only [Md.at]; split <;> simp
      · cases h2
  have split : ∀ r b, cont (mm ++ killL owns s.mem) r = some b → (∃ m', find mm r.k = some m' ∧ contB m' r.p = some b) ∨ (find mm r.k = none ∧ r.k ∉ owns ∧ cont s.mem r = some b) := by
    intro r b hcb
    obtain ⟨m', h1, h2⟩ := cont_iff.1 hcb
    rw [find_append] at h1
    cases hf : find mm r.k with
    | some m0 => rw [hf] at h1; cases h1; exact .inl ⟨_, rfl, h2⟩
    | none =>
      rw [hf] at h1
      simp only [find_kill] at h1
      split at h1
      · cases h1; rw [contB_dead] at h2; cases h2
      · rename_i hk; exact .inr ⟨rfl, hk, cont_iff.2 ⟨m', h1, h2⟩⟩
  -- blocks of the caller's that the function was not given
  have far : ∀ r b, cont s.mem r = some b → liveB (V r) b → r.k ∉ owns → ¬ Dl (σ.vl V) pm (V r).b := by
    intro r b h1 h2 h3 hd
    obtain ⟨r0, y, g1, g2, g3, g4, g5⟩ := hdl _ hd
    have := hr.ents.sep r0 r y b g1 h1 g2 h2 g3 g4
    subst this
    exact h3 g5
  have sameS : ∀ r b, cont s.mem r = some b → liveB (V r) b → r.k ∉ owns → w'.heap[(V r).b]? = w.heap[(V r).b]? := fun r b h1 h2 h3 => hfr.2.1 _ (hr.ents.lt h1 h2) (far r b h1 h2 h3)
  have hNs : s.nb ≤ N := by omega
  refine ⟨hr.defers, hr.size, fun t v hv => ?_, fun t v hv => okV_mono hNs _ (hr.envOk t v hv), ⟨fun k m hk => ?_, fun r b hcb => ?_, fun r1 r2 b1 b2 c1 c2 l1 l2 hk1 he => ?_, fun r b hcb hl hk hd => ?_⟩, hr.frame.trans hfr (fun k _ hd => ?_), fun b hb => ?_, ⟨Nat.le_trans hr.pin.1 hNs, (mixV_agr.le hr.pin.1).trans hr.pin.2⟩, hr.d0⟩
  · rw [den_agree mixV_agr v (hr.envOk t v hv)]; exact hr.env t v hv
  · rw [find_append] at hk
    cases hf : find mm k with
    | some m0 => rw [hf] at hk; cases hk; exact okMs_spec hokm k _ hf
    | none =>
      rw [hf] at hk
      simp only [find_kill] at hk
      split at hk
      · rename_i h; cases hk; exact ⟨Nat.lt_of_lt_of_le (hks k h) hNs, rfl⟩
      · obtain ⟨h1, h2⟩ := hr.ents.ok k m hk
        exact ⟨Nat.lt_of_lt_of_le h1 hNs, okM_mono hNs h2⟩
  · rcases split r b hcb with h | ⟨h1, h2, h3⟩
    · obtain ⟨_, _, _, _, _, _, _, _, h⟩ := mmC r b h; exact h
    · obtain ⟨g1, g2⟩ := hr.ents.okc h3
      exact (hr.ents.at_ r b h3).keep g2 g1 mixV_agr fun hl => sameS r b h3 hl h2
  · rcases split r1 b1 c1 with h1 | ⟨h1, h1', h1''⟩ <;> rcases split r2 b2 c2 with h2 | ⟨h2, h2', h2''⟩
    · obtain ⟨k1, d1, p1, p2, p3, p4, p5, p6, _⟩ := mmC r1 b1 h1
      obtain ⟨k2, d2, q1, q2, q3, q4, q5, q6, _⟩ := mmC r2 b2 h2
      rw [p3] at l1 he
      rw [q3] at l2 he
      have := hE'.sep ⟨k1, r1.p⟩ ⟨k2, r2.p⟩ d1 d2 p1 q1 (p4.2 l1) (q4.2 l2) (p2.trans hk1) he
      simp only [Rid.mk.injEq] at this
      obtain ⟨rfl, hpp⟩ := this
      rw [p5] at q5
      simp only [Option.some.injEq, Sr.root.injEq] at q5
      obtain ⟨j1, pp1⟩ := r1
      obtain ⟨j2, pp2⟩ := r2
      simp only at q5 hpp
      rw [q5, hpp]
    · exfalso
      obtain ⟨k1, d1, p1, p2, p3, p4, p5, p6, _⟩ := mmC r1 b1 h1
      have e2 := old r2 (hr.ents.okc h2'').1
      rw [p3] at l1 he
      rw [e2] at l2 he
      rcases hfresh (V' ⟨k1, r1.p⟩).b ⟨⟨k1, r1.p⟩, d1, p1, p4.2 l1, p2.trans hk1, rfl⟩ with h | h
      · have := hr.ents.lt h2'' l2; omega
      · rw [he] at h; exact far r2 b2 h2'' l2 h2' h
    · exfalso
      obtain ⟨k2, d2, q1, q2, q3, q4, q5, q6, _⟩ := mmC r2 b2 h2
      have e1 := old r1 (hr.ents.okc h1'').1
      rw [e1] at l1 he
      rw [q3] at l2 he
      refine hE'.d0 ⟨k2, r2.p⟩ d2 q1 (q4.2 l2) (by rw [q2]; exact q6) (.inr ⟨⟨r1, b1, h1'', l1, hk1, he⟩, ?_⟩)
      rw [← he]
      exact far r1 b1 h1'' l1 h1'
    · have e1 := old r1 (hr.ents.okc h1'').1
      have e2 := old r2 (hr.ents.okc h2'').1
      rw [e1] at l1 he
      rw [e2] at l2 he
      exact hr.ents.sep r1 r2 b1 b2 h1'' h2'' l1 l2 hk1 he
  · rcases split r b hcb with h | ⟨h1, h2, h3⟩
    · obtain ⟨k1, d1, p1, p2, p3, p4, p5, p6, _⟩ := mmC r b h
      rw [p3] at hl hd
      exact hE'.d0 ⟨k1, r.p⟩ d1 p1 (p4.2 hl) (by rw [p2]; exact p6) (.inl hd)
    · rw [old r (hr.ents.okc h3).1] at hl hd
      exact hr.ents.d0 r b h3 hl hk hd
  · rcases hr.own k (dlS k hd) with h | h
    · omega
    · exact h
  · obtain ⟨r, y, hcb, hl, hk, rfl⟩ := hb
    rcases split r y hcb with h | ⟨h1, h2, h3⟩
    · obtain ⟨k1, d1, p1, p2, p3, p4, p5, p6, _⟩ := mmC r y h
      rw [p3] at hl ⊢
      rcases hfresh _ ⟨⟨k1, r.p⟩, d1, p1, p4.2 hl, p2.trans hk, rfl⟩ with h | h
      · exact .inl (Nat.le_trans hr.frame.1 h)
      · exact hr.own _ (dlS _ h)
    · rw [old r (hr.ents.okc h3).1] at hl ⊢
      exact hr.own _ ⟨r, y, h3, hl, hk, rfl⟩
end Go.Proofs.Ytonjbhdfimcedaa

/- V26 -/
namespace Go.Proofs.Ytonjbhdfimcedaa
set_option linter.unusedSimpArgs false
set_option linter.unusedSectionVars false
set_option linter.unusedVariables false
open Go.RowKit

def slotsE : List Operand → List SV → List (Nat × SV)
  | .tmp t :: l, a :: as => (t, a) :: slotsE l as
  | _ :: l, _ :: as => slotsE l as
  | _, _ => []
/-- Are the keys those below p? -/
def keysLt (p : Nat) : Sg → Bool
  | [] => true
  | (k, _) :: l => match Nat.blt k p with
    | true => keysLt p l
    | false => false
def coverB (σ : Sg) : Nat → Bool
  | 0 => true
  | k + 1 => match find σ k with
    | some _ => coverB σ k
    | none => false
theorem keysLt_spec {p : Nat} : ∀ {σ : Sg}, keysLt p σ = true → ∀ k y, find σ k = some y → k < p
  | [], _, k, y, h => by simp [find] at h
  | (a, b) :: l, ho, k, y, h => by
    unfold keysLt at ho
    split at ho
    · rename_i hb
      rw [find_cons] at h
      split at h
      · rename_i e; subst e; simpa [Nat.blt_eq] using hb
      · exact keysLt_spec ho k y h
    · cases ho
theorem coverB_spec {σ : Sg} : ∀ {p : Nat}, coverB σ p = true → ∀ k, k < p → ∃ y, find σ k = some y
  | 0, _, k, h => absurd h (Nat.not_lt_zero _)
  | p + 1, h, k, hk => by
    unfold coverB at h
    split at h
    · rename_i y hy
      rcases Nat.lt_succ_iff_lt_or_eq.1 hk with h1 | rfl
      · exact coverB_spec h k h1
      · exact ⟨y, hy⟩
    · cases h
def chkB (nb p gf g' : Nat) (σ : Sg) (owns reads : List Nat) : Bool := nodupB owns && (noneIn reads owns && (okSg nb σ && (keysLt p σ && (coverB σ p && (ltAll nb owns && Nat.beq g' gf)))))
abbrev CallO := Option (List Prop × Sg × List Nat × St)
/-- What is asked for a call by a contract; the names; the blocks that are handed over. -/
def callR (gf : FuncId) (as : List SV) (pm : List (Nat × MB)) (p : Nat) (all : List Oper) (o : Oper) (s : St) : CallO := match o.op with
  | .call ⟨.value f, args, _⟩ => match goes all s.env o.guard, s.get f with
    | some true, some (.clo g0 _) => match Nat.beq g0 gf with
      | true => match convE pm (slotsE args.toList as) s [] with
        | some (s1, o1) => match convP pm (slotsE args.toList as) s1 o1 with
          | some (s2, o2) => match argsS s2 args.toList, s2.get f with
            | some q, some (.clo g' caps) => mt2 (mtV pm s2.mem 12) as (app q caps) [] fun σ => match renL σ as, memB true σ p s2 pm with
              | some as', some (o3, owns, reads) => match eqL as' (app q caps), chkB s2.nb p gf g' σ owns reads with
                | some o4, true => plK owns fun owns => some (app o4 (app o3 o2), σ, owns, s2)
                | _, _ => none
              | _, _ => none
            | _, _ => none
          | none => none
        | none => none
      | false => none
    | _, _ => none
  | _ => none
universe u
def plSg {β : Type u} : Sg → (Sg → β) → β
  | [], f => f []
  | (k, .root j) :: l, f => plSg l fun l => f ((k, .root j) :: l)
  | (k, .rd v) :: l, f => plV v fun v => plSg l fun l => f ((k, .rd v) :: l)
theorem plSg_eq {β : Type u} : ∀ (σ : Sg) (f : Sg → β), plSg σ f = f σ
  | [], f => rfl
  | (k, .root j) :: l, f => by simp only [plSg, plSg_eq l]
  | (k, .rd v) :: l, f => by simp only [plSg, plV_eq, plSg_eq l]
/-- New names, as numerals. -/
def newN {β : Type u} : Nat → Nat → Nat → (Sg → Nat → β) → β
  | 0, _, n, f => f [] n
  | c + 1, p, n, f => nx p fun p' => nx n fun n' => newN c p' n' fun l N => f ((p, .root n) :: l) N
theorem newN_eq {β : Type u} : ∀ (c p n : Nat) (f : Sg → Nat → β), newN c p n f = f (newSg c p n) (n + c)
  | 0, p, n, f => rfl
  | c + 1, p, n, f => by simp only [newN, nx_eq, newN_eq c, newSg]; congr 1; omega
def pushM {β : Type u} : List (Nat × MB) → List (Nat × MB) → (List (Nat × MB) → β) → β
  | [], m, f => f m
  | (k, b) :: l, m, f => plMB b fun b => pushM l m fun r => f ((k, b) :: r)
theorem pushM_eq {β : Type u} : ∀ (l m : List (Nat × MB)) (f : List (Nat × MB) → β), pushM l m f = f (l ++ m)
  | [], m, f => rfl
  | (k, b) :: l, m, f => by simp only [pushM, plMB_eq, pushM_eq l, List.cons_append]
def killP {β : Type u} : List Nat → List (Nat × MB) → (List (Nat × MB) → β) → β
  | [], m, f => f m
  | k :: l, m, f => killP l m fun r => f ((k, .dead) :: r)
theorem killP_eq {β : Type u} : ∀ (l : List Nat) (m : List (Nat × MB)) (f : List (Nat × MB) → β), killP l m f = f (killL l m)
  | [], m, f => rfl
  | k :: l, m, f => by simp only [killP, killP_eq l, killL]
/-- The state behind the call. -/
def aftR (n : Nat) (σ : Sg) (p : Nat) (owns : List Nat) (v : SV) (post : St) (dst : Option Nat) (s : St) (f : St → Res) : Res := match s, post with
  | ⟨env, mem, nb⟩, ⟨_, tm, tn⟩ => match Nat.ble p tn, nodupB (keysB tm), okV tn v with
    | true, true, true => newN (tn - p) p nb fun ns N => plSg (app σ ns) fun σ2 => match renS σ2 v, renMs σ2 p tm with
      | some u, some mm => match okMs N mm, okV N u with
        | true, true => plV u fun u => killP owns mem fun m0 => pushM mm m0 fun m1 => match dst with
          | some t => match Nat.blt t n with
            | true => f ⟨(t, u) :: env, m1, N⟩
            | false => .out [False] (.exit .ret) [] ⟨[], [], 0⟩
          | none => f ⟨env, m1, N⟩
        | _, _ => .out [False] (.exit .ret) [] ⟨[], [], 0⟩
      | _, _ => .out [False] (.exit .ret) [] ⟨[], [], 0⟩
    | _, _, _ => .out [False] (.exit .ret) [] ⟨[], [], 0⟩
/-- What is known behind a check of a call. -/
structure CallK (x : Cx) (gf : FuncId) (as : List SV) (pm : List (Nat × MB)) (p : Nat) (all : List Oper) (o : Oper) (s : St) (σ : Sg) (owns : List Nat) (s2 : St) (f : Operand) (args : Array Operand) (ts : Array TypeId) (caps q : List SV) (reads : List Nat) (o3 : List Prop) : Prop where
  op : o.op = .call ⟨.value f, args, ts⟩
  goes : goes all s.env o.guard = some true
  tow : Toward x s s2
  arg : argsS s2 args.toList = some q
  fn : s2.get f = some (.clo gf caps)
  mem : memB true σ p s2 pm = some (o3, owns, reads)
  obs : AllP o3
  eq : ∀ V, denL (σ.vl V) as = denL V (q ++ caps)
  n1 : nodupB owns = true
  n2 : noneIn reads owns = true
  n3 : okSg s2.nb σ = true
  n4 : keysLt p σ = true
  n5 : coverB σ p = true
  n6 : ltAll s2.nb owns = true
theorem callR_ok {x : Cx} {gf : FuncId} {as : List SV} {pm : List (Nat × MB)} {p : Nat} {all : List Oper} {o : Oper} {s : St} {o2 : List Prop} {σ : Sg} {owns : List Nat} {s2 : St} (hc : callR gf as pm p all o s = some (o2, σ, owns, s2)) (ho2 : AllP o2) : ∃ f args ts caps q reads o3, CallK x gf as pm p all o s σ owns s2 f args ts caps q reads o3 := by
  unfold callR at hc
  split at hc
  · rename_i f args ts hop
    split at hc
    · rename_i g0 caps0 hg hf
      split at hc
      · split at hc
        · rename_i s1 o1 h1
          split at hc
          · rename_i s2' o2' h2
            split at hc
            · rename_i q g' caps hq hf2
              have key := mt2_ok (f := mtV pm s2'.mem 12) (P := fun y => y = some (o2, σ, owns, s2)) (fun a b τ k h => mtV_ok (tm := pm) (sm := s2'.mem) (n := 12) (P := fun y => y = some (o2, σ, owns, s2)) h) hc
              clear hc
              obtain ⟨σ', hc'⟩ := key
              split at hc'
              · rename_i as' o3 owns' reads has hm
                split at hc'
                · rename_i o4 he hchk
                  simp only [chkB, Bool.and_eq_true] at hchk
                  obtain ⟨hn, hni, hok, hkl, hcv, hlt, hgf⟩ := hchk
                  have := Nat.eq_of_beq_eq_true hgf
                  subst this
                  rw [plK_eq] at hc'
                  simp only [Option.some.injEq, Prod.mk.injEq] at hc'
                  obtain ⟨rfl, rfl, rfl, rfl⟩ := hc'
                  obtain ⟨p1, p2⟩ := AllP_app.1 ho2
                  obtain ⟨p3, p4⟩ := AllP_app.1 p2
                  obtain ⟨q1, q2⟩ := convP_ok (x := x) h2 p4
                  obtain ⟨_, q4⟩ := convE_ok (x := x) h1 q1
                  exact ⟨f, args, ts, caps, q, reads, o3, hop, hg, q4.trans q2, hq, hf2, hm, p3, fun V => by rw [renL_den V has, eqL_den V he p1, app_eq], hn, hni, hok, hkl, hcv, hlt⟩
                · cases hc'
              · cases hc'
            · cases hc
          · cases hc
        · cases hc
      · cases hc
    · cases hc
  · cases hc
section
variable {x : Cx} {Q : Exit → St → Prop} {obs : List Prop} {K : List Kf} {all l : List Oper} {o : Oper} {s : St}
theorem no_false {m : Mo} {K : List Kf} {s : St} (h : Good x Q (.out [False] m K s)) : False := h.1.1
theorem aftR_ok {n : Nat} {σ : Sg} {p : Nat} {owns : List Nat} {v : SV} {te : List (Nat × SV)} {tm : List (Nat × MB)} {tn : Nat} {dst : Option Nat} {env : List (Nat × SV)} {mem : List (Nat × MB)} {nb : Nat} {f : St → Res} (h : Good x Q (aftR n σ p owns v ⟨te, tm, tn⟩ dst ⟨env, mem, nb⟩ f)) :
    ∃ u mm, p ≤ tn ∧ nodupB (keysB tm) = true ∧ renS (app σ (newSg (tn - p) p nb)) v = some u ∧ renMs (app σ (newSg (tn - p) p nb)) p tm = some mm ∧ okMs (nb + (tn - p)) mm = true ∧ okV (nb + (tn - p)) u = true ∧
      ((∃ t, dst = some t ∧ Nat.blt t n = true ∧ Good x Q (f ⟨(t, u) :: env, mm ++ killL owns mem, nb + (tn - p)⟩)) ∨ (dst = none ∧ Good x Q (f ⟨env, mm ++ killL owns mem, nb + (tn - p)⟩))) := by
  unfold aftR at h
  simp only at h
  split at h
  · rename_i hble hkeys hokv
    rw [newN_eq] at h
    simp only [plSg_eq] at h
    split at h
    · rename_i u mm hu hmm
      split at h
      · rename_i hokm hoku
        simp only [plV_eq, killP_eq, pushM_eq] at h
        refine ⟨u, mm, Nat.le_of_ble_eq_true hble, hkeys, hu, hmm, hokm, hoku, ?_⟩
        split at h
        · rename_i t
          split at h
          · rename_i ht; exact .inl ⟨t, rfl, ht, h⟩
          · exact (no_false h).elim
        · exact .inr ⟨rfl, h⟩
      · exact (no_false h).elim
    · exact (no_false h).elim
  · exact (no_false h).elim
/-- **A call by its contract.** -/
theorem g_call (hL : LayOk x.P x.L) (n : Nat) {gf : FuncId} {as : List SV} {pm : List (Nat × MB)} {p : Nat} {Z : Type} {ψ : Z → Prop} {res : Z → SV} {post : Z → St} {o2 : List Prop} {σ : Sg} {owns : List Nat} {s2 : St} (ho : AllP obs) (ho2 : AllP o2)
    (hk : ∀ z, ψ z → Good x Q (aftR x.n σ p owns (res z) (post z) o.dst s2 fun s' => run x n [] (.ops all l) K s')) (T : Trip x.P gf as ⟨[], pm, p⟩ ψ res post) (hc : callR gf as pm p all o s = some (o2, σ, owns, s2)) : Good x Q (.ops obs all (o :: l) K s) := by
  refine ⟨ho, ⟨fun g Q0 V0 a w hQ hr0 => ?_⟩⟩
  obtain ⟨f, args, ts, caps, q, reads, o3, C⟩ := callR_ok (x := x) hc ho2
  obtain ⟨V, hr⟩ := C.tow.run g V0 a w hr0
  have hgoes := goes_wanted C.goes hr0.env
  obtain ⟨e1, e2, e3⟩ := memB_ok (e := []) (nb := p) hr.ents C.mem C.n1 C.n2 C.obs hr.d0w
  have hE1 : Ents (fun b => g.D0 b ∨ (Dl V s2.mem b ∧ ¬ Dl (σ.vl V) pm b)) (σ.vl V) ⟨[], pm, p⟩ w := by
    refine ⟨e1.ok, e1.at_, e1.sep, fun r b hcb hl hk hd => ?_⟩
    rcases hd with hd | ⟨hd1, hd2⟩
    · exact e1.d0 r b hcb hl hk hd
    · cases hkb : kindB b with
      | own => exact hd2 ⟨r, b, hcb, hl, hkb, rfl⟩
      | fz => exact e3 rfl r b hcb hl hkb hd1
      | tmp => exact hk hkb
  have hC := T.runs (σ.vl V) _ w hE1 (fun b hb => by
    rcases hb with hb | ⟨⟨r, y, h1, h2, h3, h4⟩, _⟩
    · exact hr.d0w b hb
    · rw [← h4]; exact hr.ents.lt h1 h2)
  obtain ⟨dst, op, ty, pos, after, gd⟩ := o
  have hop : op = .call ⟨.value f, args, ts⟩ := C.op
  subst hop
  have hfv : a.eval f = .func (.func gf) #[] (denL V caps).toArray := hr.env.get C.fn
  have hav : args.map a.eval = (denL V q).toArray := args_arr hr.env C.arg
  have harg : (denL V q).toArray ++ (denL V caps).toArray = (denL (σ.vl V) as).toArray := by
    rw [C.eq, denL_append]; simp
  have hrun := run_call (P := x.P) (w := w) (dst := dst) (ts := ts) (ty := ty) (pos := pos) (after := after) (guard := gd) T.can hfv hav
  rw [harg] at hrun
  unfold wpList
  rw [if_pos hgoes]
  refine .inl ?_
  unfold Oper.wp
  rw [hrun]
  refine hC.mono fun e w' ⟨z, V', hz, hev, hou, hpn, hag, hE', hfr, hfresh⟩ => ?_
  subst hev
  have hgood := hk z hz
  obtain ⟨env, mem, nb⟩ := s2
  cases hpost : post z with
  | mk te tm tn =>
    rw [hpost] at hgood hE' hou hpn hfresh
    obtain ⟨u, mm, hle, hkeys, hu, hmm, hokm, hoku, hfin⟩ := aftR_ok hgood
    have hcov := coverB_spec C.n5
    have hrep := hr.call (t' := ⟨te, tm, tn⟩) (c := tn - p) (N := nb + (tn - p)) C.mem C.n1 C.n2 C.obs C.n3 (keysLt_spec C.n4) hcov hE' hag hfr hfresh (by simp only; omega) hmm hkeys rfl hokm (ltAll_spec C.n6)
    have hden : den (mixV V V' nb p) u = den V' (res z) := by
      rw [← ren_den (mixV V V' nb p) hu]
      refine (den_agree (nb := tn) (fun r hrk => ?_) _ hou)
      exact mix_vl (c := tn - p) C.n3 (keysLt_spec C.n4) hcov hag r (by omega)
    rcases hfin with ⟨t, rfl, ht, hg⟩ | ⟨rfl, hg⟩
    · have hk2 := (run_ok hL hg).2
      have hput := hrep.put (t := t) (v := u) ht hoku
      rw [hden] at hput
      exact hk2.run g Q0 _ _ w' hQ hput
    · exact (run_ok hL hg).2.run g Q0 _ _ w' hQ hrep
end
end Go.Proofs.Ytonjbhdfimcedaa

/- V27 -/
namespace Go.Proofs.Ytonjbhdfimcedaa
set_option linter.unusedSimpArgs false
set_option linter.unusedSectionVars false
set_option linter.unusedVariables false
open Go.RowKit

def DeckAt (w : World) (b : Nat) (L : Value) : Prop := ∃ (t : TypeId) (a : Option Addr) (n c : Nat) (p : Int), w.heap[b]? = some (.cells #[L, .int .i64 p] t) ∧ L = .slice a n c ∧ 0 ≤ p ∧ p ≤ n
/-- What a region's head may do: new blocks; decks may be drawn from. -/
structure Er (DK : Nat → Value → Prop) (w w' : World) : Prop where
  size : w.heap.size ≤ w'.heap.size
  same : ∀ b, b < w.heap.size → (∀ L, ¬ DK b L) → w'.heap[b]? = w.heap[b]?
  deck : ∀ b L, DK b L → DeckAt w b L → DeckAt w' b L
  io : SIO w w'
theorem Er.refl (DK : Nat → Value → Prop) (w : World) : Er DK w w := ⟨Nat.le_refl _, fun _ _ _ => rfl, fun _ _ _ h => h, ⟨rfl, rfl, rfl⟩⟩
theorem Er.trans {DK : Nat → Value → Prop} {a b c : World} (h : Er DK a b) (g : Er DK b c) : Er DK a c :=
  ⟨Nat.le_trans h.size g.size, fun k hk hd => (g.same k (Nat.lt_of_lt_of_le hk h.size) hd).trans (h.same k hk hd), fun k L hd hk => g.deck k L hd (h.deck k L hd hk), h.io.trans g.io⟩
theorem Er.of_same {DK : Nat → Value → Prop} {a b : World} (hs : a.heap.size ≤ b.heap.size) (h : ∀ k, k < a.heap.size → b.heap[k]? = a.heap[k]?) (io : SIO a b) : Er DK a b :=
  ⟨hs, fun k hk _ => h k hk, fun k L _ ⟨t, aa, n, c, p, h0, h1⟩ => ⟨t, aa, n, c, p, (h k (lt_of_heap h0)).trans h0, h1⟩, io⟩
theorem er_stays {DK : Nat → Value → Prop} {u : World} (hDK : ∀ b L, DK b L → b < u.heap.size) : Stays (Er DK) u :=
  ⟨Er.refl DK, fun _ _ _ h g => h.trans g, fun _ _ h => h.size, fun w c t => Er.of_same (by rw [alloc_size]; omega) (fun k hk => alloc_old w _ hk) ⟨rfl, rfl, rfl⟩, fun a b k h hk hka => h.same k hka fun L hd => by have := hDK k L hd; omega⟩
def DKof (V : Vl) (m0 : List (Nat × MB)) (b : Nat) (L : Value) : Prop := ∃ k v, find m0 k = some (.deck v) ∧ (V ⟨k, []⟩).a = some ⟨b, 0, none⟩ ∧ den V v = L

def edgeL (i : Nat) : List Edge → Bool
  | [] => false
  | e :: l => match Nat.beq e.on i with
    | true => match e.ground with
      | .textOnly _ => edgeL i l
      | .gcOnly _ => edgeL i l
      | _ => true
    | false => edgeL i l
def waitsL (ops : List Oper) (j i : Nat) : Bool :=
  match nthC ops j with
  | none => false
  | some o => edgeL i o.after.toList
theorem edgeL_spec {i : Nat} : ∀ {l : List Edge}, edgeL i l = true → ∃ e ∈ l, Region.binds .any e = true ∧ e.on = i
  | [], h => by cases h
  | e :: l, h => by
    have ih : edgeL i l = true → ∃ e' ∈ e :: l, Region.binds .any e' = true ∧ e'.on = i := fun h => by
      obtain ⟨e', h1, h2⟩ := edgeL_spec h
      exact ⟨e', List.mem_cons_of_mem _ h1, h2⟩
    unfold edgeL at h
    cases hb : Nat.beq e.on i with
    | false => simp only [hb] at h; exact ih h
    | true =>
      simp only [hb] at h
      have hi := Nat.eq_of_beq_eq_true hb
      cases hg : e.ground <;> simp only [hg] at h <;> first | exact ih h | exact ⟨e, List.mem_cons_self, by simp [Region.binds, hg], hi⟩
theorem waitsL_spec {ops : List Oper} {j i : Nat} (h : waitsL ops j i = true) : Region.waitsFor .any ops.toArray j i = true := by
  unfold waitsL at h
  unfold Region.waitsFor
  rw [show ops.toArray[j]? = nthC ops j by rw [nthC_eq]; simp]
  cases ho : nthC ops j with
  | none => simp [ho] at h
  | some o =>
    simp only [ho] at h ⊢
    obtain ⟨e, h1, h2, h3⟩ := edgeL_spec h
    exact Array.any_eq_true'.2 ⟨e, by simpa using h1, by simp [h2, h3]⟩
/-- The blocks that operation 'j' may look at: those from before the region, and those laid by operations for which it waits. -/
def vis (ops : List Oper) (j : Nat) (tags : List (Nat × Nat)) : List (Nat × MB) → List (Nat × MB)
  | [] => []
  | (k, c) :: m => match find tags k with
    | none => (k, c) :: vis ops j tags m
    | some i => match waitsL ops j i with
      | true => (k, c) :: vis ops j tags m
      | false => vis ops j tags m
theorem vis_find {ops : List Oper} {j : Nat} {tags : List (Nat × Nat)} : ∀ {m : List (Nat × MB)} {k : Nat} {c : MB}, find (vis ops j tags m) k = some c →
    find m k = some c ∧ (find tags k = none ∨ ∃ i, find tags k = some i ∧ waitsL ops j i = true)
  | [], k, c, h => by simp [vis, find] at h
  | (k0, c0) :: m, k, c, h => by
    have ih : find (vis ops j tags m) k = some c → k ≠ k0 → find ((k0, c0) :: m) k = some c ∧ (find tags k = none ∨ ∃ i, find tags k = some i ∧ waitsL ops j i = true) := by
      intro h1 hne
      obtain ⟨h2, h3⟩ := vis_find h1
      exact ⟨by rw [find_cons, if_neg (Ne.symm hne)]; exact h2, h3⟩
    unfold vis at h
    split at h
    · rename_i hn
      rw [find_cons] at h
      split at h
      · rename_i e; subst e; cases h
        exact ⟨by rw [find_cons, if_pos rfl], .inl hn⟩
      · rename_i e; exact ih h (Ne.symm e)
    · rename_i i hi
      split at h
      · rename_i hw
        rw [find_cons] at h
        split at h
        · rename_i e; subst e; cases h
          exact ⟨by rw [find_cons, if_pos rfl], .inr ⟨i, hi, hw⟩⟩
        · rename_i e; exact ih h (Ne.symm e)
      · rename_i hw
        by_cases e : k = k0
        · subst e
          exfalso
          obtain ⟨h2, h3⟩ := vis_find h
          rcases h3 with h3 | ⟨i', h3, h4⟩
          · rw [hi] at h3; cases h3
          · rw [hi] at h3; cases h3; rw [hw] at h4; cases h4
        · exact ih h e
theorem contB_deck {v : SV} {q : Path} {b : AB} (h : contB (.deck v) q = some b) : q = [] ∧ b = .deck v := by
  cases q with
  | nil => simp only [contB, Option.some.injEq] at h; exact ⟨rfl, h.symm⟩
  | cons _ _ => simp [contB] at h
/-- What stands during the head: 'u': the world in which the region begins; 'm0': the blocks of then. -/
structure HI (x : Cx) (g : Gx) (u : World) (m0 : List (Nat × MB)) (tags : List (Nat × Nat)) (V : Vl) (env : List (Nat × SV)) (mem : List (Nat × MB)) (nb : Nat) (fs : List Fact) (a : Act) : Prop where
  defers : a.defers = []
  size : a.tmps.size = x.n
  envR : EnvR V env a
  envOk : ∀ t v, find env t = some v → okV nb v = true
  memOk : ∀ k m, find mem k = some m → k < nb ∧ okM nb m = true
  ents : Ents g.D0 V ⟨env, m0, nb⟩ u
  own : ∀ b, Dl V m0 b → g.w0.heap.size ≤ b ∨ g.D b
  pin : x.kb ≤ nb ∧ AgrB x.kb V g.pin
  d0 : ∀ b, g.D0 b → b < g.w0.heap.size ∧ ¬ g.D b
  frame : Fr g.D g.w0 u
  keep0 : ∀ k c, find m0 k = some c → find tags k = none ∧ find mem k = some c
  old : ∀ k c, find mem k = some c → find tags k = none → find m0 k = some c
  new : ∀ k i, find tags k = some i → k < nb ∧ ∃ b, (V ⟨k, []⟩).a = some ⟨b, 0, none⟩ ∧ u.heap.size ≤ b ∧ ∃ f ∈ fs, f.idx = i ∧ f.lo = b ∧ f.hi = b + 1 ∧ ∃ c, find mem k = some (.cells c) ∧ ∃ t, ∀ w : World, f.holds w → w.heap[b]? = some (.cells (denL V c).toArray t)
  injT : ∀ i j a b, find tags i = some a → find tags j = some b → (V ⟨i, []⟩).b = (V ⟨j, []⟩).b → i = j
theorem Loc.b_eq {L : Loc} {a : Addr} (h : L.a = some a) : L.b = a.block := by unfold Loc.b; rw [h]
/-- Numbers that are not used may be valued anew. -/
theorem Ents.widen {D0 : Nat → Prop} {V V' : Vl} {e e' : List (Nat × SV)} {m : List (Nat × MB)} {nb nb' : Nat} {w : World} (h : Ents D0 V ⟨e, m, nb⟩ w) (ag : AgrB nb V' V) (hn : nb ≤ nb') : Ents D0 V' ⟨e', m, nb'⟩ w := by
  have old : ∀ {r b}, cont m r = some b → V' r = V r := fun hc => ag _ (h.okc hc).1
  refine ⟨fun k m' hk => ?_, fun r b hc => ?_, fun r r' b b' hc hc' hl hl' hk he => ?_, fun r b hc hl hk => ?_⟩
  · obtain ⟨h1, h2⟩ := h.ok k m' hk
    exact ⟨Nat.lt_of_lt_of_le h1 hn, okM_mono hn h2⟩
  · obtain ⟨h1, h2⟩ := h.okc hc
    exact (h.at_ r b hc).keep h2 h1 ag fun _ => rfl
  · rw [old hc, old hc'] at he
    rw [old hc] at hl
    rw [old hc'] at hl'
    exact h.sep r r' b b' hc hc' hl hl' hk he
  · rw [old hc] at hl ⊢
    exact h.d0 r b hc hl hk
theorem Ents.heap {D0 : Nat → Prop} {V : Vl} {s : St} {w w' : World} (h : Ents D0 V s w) (hs : w'.heap = w.heap) : Ents D0 V s w' :=
  ⟨h.ok, fun r b hc => (h.at_ r b hc).keep (h.okc hc).2 (h.okc hc).1 (fun _ _ => rfl) fun _ => by rw [hs], h.sep, h.d0⟩
section
variable {x : Cx} {g : Gx} {u : World} {m0 : List (Nat × MB)} {tags : List (Nat × Nat)} {V : Vl} {env : List (Nat × SV)} {mem : List (Nat × MB)} {nb : Nat} {fs : List Fact} {a : Act}
/-- What is visible in a world behind. -/
theorem HI.see (h : HI x g u m0 tags V env mem nb fs a) {w : World} (he : Er (DKof V m0) u w) (e' : List (Nat × SV)) (M : List (Nat × MB)) (hM : ∀ k m, find M k = some m → find mem k = some m) (hF : ∀ k m i, find M k = some m → find tags k = some i → ∀ f ∈ fs, f.idx = i → f.holds w) :
    Ents g.D0 V ⟨e', M, nb⟩ w := by
  have hE := h.ents
  have cas : ∀ r b, cont M r = some b → (find tags r.k = none ∧ cont m0 r = some b) ∨ ∃ i c t bk, find tags r.k = some i ∧ r.p = [] ∧ b = .cells c ∧ (V r).a = some ⟨bk, 0, none⟩ ∧ u.heap.size ≤ bk ∧ w.heap[bk]? = some (.cells (denL V c).toArray t) := by
    intro r b hc
    obtain ⟨m, h1, h2⟩ := cont_iff.1 hc
    cases ht : find tags r.k with
    | none => exact .inl ⟨rfl, cont_iff.2 ⟨m, h.old _ m (hM _ m h1) ht, h2⟩⟩
    | some i =>
      obtain ⟨g1, bk, g2, g3, f, hf, e1, e2, e3, c, e4, t, e5⟩ := h.new _ i ht
      rw [hM _ m h1] at e4
      cases e4
      obtain ⟨q1, q2⟩ := contB_cells h2
      obtain ⟨k, p⟩ := r
      simp only at q1
      subst q1
      exact .inr ⟨i, c, t, bk, rfl, rfl, q2, g2, g3, e5 w (hF _ _ i h1 ht f hf e1)⟩
  have same : ∀ r b, cont m0 r = some b → liveB (V r) b → (∀ v, b ≠ .deck v) → w.heap[(V r).b]? = u.heap[(V r).b]? := by
    intro r b hc hl hne
    refine he.same _ (hE.lt hc hl) fun L ⟨k, v, g1, g2, _⟩ => ?_
    have hc2 : cont m0 ⟨k, []⟩ = some (.deck v) := cont_iff.2 ⟨_, g1, rfl⟩
    have := hE.sep ⟨k, []⟩ r _ b hc2 hc trivial hl rfl (Loc.b_eq g2)
    subst this
    exact hne v (Option.some.inj (hc.symm.trans hc2))
  refine ⟨fun k m hk => h.memOk k m (hM k m hk), fun r b hc => ?_, fun r r' b b' hc hc' hl hl' hk heq => ?_, fun r b hc hl hk hd => ?_⟩
  · rcases cas r b hc with ⟨_, h0⟩ | ⟨i, c, t, bk, _, _, rfl, g2, _, g4⟩
    · by_cases hdk : ∃ v, b = .deck v
      · obtain ⟨v, rfl⟩ := hdk
        obtain ⟨bk, t, p, aa, n, c, y1, y2, y3, y4⟩ := hE.at_ r _ h0
        obtain ⟨m, q1, q2⟩ := cont_iff.1 h0
        have q3 : m = .deck v ∧ r.p = [] := by
          cases m with
          | cells c => exact absurd (contB_cells q2).2 (fun e => by cases e)
          | deck v' => obtain ⟨z1, z2⟩ := contB_deck q2; cases z2; exact ⟨rfl, z1⟩
          | mp es => exfalso; revert q2; cases r.p <;> simp [contB]
          | hole b1 c1 l1 =>
            exfalso
            revert q2
            cases r.p with
            | nil => simp [contB]
            | cons x q => obtain ⟨i1, j1⟩ := x; simp only [contB]; split; · simp
                          · split <;> simp
          | dead => rw [contB_dead] at q2; cases q2
          | list m1 c1 l1 => simp only [contB] at q2; split at q2 <;> cases q2
        obtain ⟨rfl, q4⟩ := q3
        obtain ⟨k, pp⟩ := r
        simp only at q4 q1
        subst q4
        obtain ⟨t', a', n', c', p', z1, z2, z3⟩ := he.deck bk (den V v) ⟨k, v, q1, y1, rfl⟩ ⟨t, aa, n, c, p, y2, y3, y4⟩
        exact ⟨bk, t', p', a', n', c', y1, z1, z2, z3⟩
      · exact (hE.at_ r b h0).keep (hE.okc h0).2 (hE.okc h0).1 (fun _ _ => rfl) fun hl => same r b h0 hl fun v e => hdk ⟨v, e⟩
    · exact ⟨bk, t, g2, g4⟩
  · rcases cas r b hc with ⟨_, h0⟩ | ⟨i, c, t, bk, g0, g1, rfl, g2, g3, g4⟩ <;> rcases cas r' b' hc' with ⟨_, h0'⟩ | ⟨i', c', t', bk', g0', g1', rfl, g2', g3', g4'⟩
    · exact hE.sep r r' b b' h0 h0' hl hl' hk heq
    · exfalso
      have := hE.lt h0 hl
      rw [heq, Loc.b_eq g2'] at this
      simp only at this
      omega
    · exfalso
      have := hE.lt h0' hl'
      rw [← heq, Loc.b_eq g2] at this
      simp only at this
      omega
    · obtain ⟨k, p⟩ := r
      obtain ⟨k', p'⟩ := r'
      simp only at g1 g1'
      subst g1
      subst g1'
      rw [h.injT k k' i i' g0 g0' heq]
  · rcases cas r b hc with ⟨_, h0⟩ | ⟨i, c, t, bk, g0, g1, rfl, g2, g3, g4⟩
    · exact hE.d0 r b h0 hl hk hd
    · rw [Loc.b_eq g2] at hd
      have h1 := (h.d0 _ hd).1
      have h2 := h.frame.1
      simp only at h1
      omega
theorem HI.put {t : Nat} {v : SV} (h : HI x g u m0 tags V env mem nb fs a) (ht : Nat.blt t x.n = true) (hv : okV nb v = true) : HI x g u m0 tags V ((t, v) :: env) mem nb fs (a.put (some t) (den V v)) := by
  have hlt : t < a.tmps.size := by rw [h.size]; simpa [Nat.blt_eq] using ht
  exact ⟨h.defers, by show (a.tmps.setIfInBounds t _).size = _; rw [Array.size_setIfInBounds, h.size], h.envR.put hlt, envOk_put h.envOk hv, h.memOk, h.ents.env, h.own, h.pin, h.d0, h.frame, h.keep0, h.old, h.new, h.injT⟩
theorem HI.more (h : HI x g u m0 tags V env mem nb fs a) (f : Fact) : HI x g u m0 tags V env mem nb (f :: fs) a :=
  ⟨h.defers, h.size, h.envR, h.envOk, h.memOk, h.ents, h.own, h.pin, h.d0, h.frame, h.keep0, h.old, fun k i hk => by
    obtain ⟨h1, b, h2, h3, q, hq, h4⟩ := h.new k i hk
    exact ⟨h1, b, h2, h3, q, List.mem_cons_of_mem _ hq, h4⟩, h.injT⟩
theorem HI.know {t : Nat} {p v : SV} (h : HI x g u m0 tags V env mem nb fs a) (hf : find env t = some p) (he : ∀ V, den V v = den V p) (hk : okV nb v = true) : HI x g u m0 tags V ((t, v) :: env) mem nb fs a := by
  refine ⟨h.defers, h.size, fun y z hy => ?_, envOk_put h.envOk hk, h.memOk, h.ents.env, h.own, h.pin, h.d0, h.frame, h.keep0, h.old, h.new, h.injT⟩
  rw [find_cons] at hy
  split at hy
  · rename_i e; subst e; cases hy; rw [he]; exact h.envR _ _ hf
  · exact h.envR _ _ hy
theorem HI.newB (h : HI x g u m0 tags V env mem nb fs a) {c : List SV} (hc : okL nb c = true) {b j : Nat} {t : TypeId} (hb : u.heap.size ≤ b) (hfar : Far fs b (b + 1)) :
    HI x g u m0 ((nb, j) :: tags) (V.ext nb fun _ => ⟨some ⟨b, 0, none⟩, 0, 0⟩) env ((nb, .cells c) :: mem) (nb + 1) (⟨j, b, b + 1, fun w => w.heap[b]? = some (.cells (denL V c).toArray t)⟩ :: fs) a := by
  have ag : AgrB nb (V.ext nb fun _ => ⟨some ⟨b, 0, none⟩, 0, 0⟩) V := Vl.ext_agr
  have hr : (V.ext nb fun _ => ⟨some ⟨b, 0, none⟩, 0, 0⟩) ⟨nb, []⟩ = ⟨some ⟨b, 0, none⟩, 0, 0⟩ := Vl.ext_new
  have tn : ∀ {k i}, find tags k = some i → k < nb := fun hk => (h.new _ _ hk).1
  have ne : ∀ k i, find tags k = some i → (V ⟨k, []⟩).b ≠ b := by
    intro k i hk
    obtain ⟨_, bk, g1, _, f, hf, _, e2, e3, _⟩ := h.new k i hk
    have := hfar f hf
    rw [Loc.b_eq g1]
    simp only
    omega
  have eb : ∀ k i, find tags k = some i → ((V.ext nb fun _ => ⟨some ⟨b, 0, none⟩, 0, 0⟩) ⟨k, []⟩).b = (V ⟨k, []⟩).b := fun k i hk => by rw [ag ⟨k, []⟩ (tn hk)]
  have en : ((V.ext nb fun _ => ⟨some ⟨b, 0, none⟩, 0, 0⟩) ⟨nb, []⟩).b = b := by rw [hr]; rfl
  refine ⟨h.defers, h.size, fun y v hu => ?_, fun y v hu => okV_mono (Nat.le_succ _) _ (h.envOk y v hu), fun k m hk => ?_, h.ents.widen ag (Nat.le_succ _), fun b' hb' => ?_, ⟨Nat.le_succ_of_le h.pin.1, (ag.le h.pin.1).trans h.pin.2⟩, h.d0, h.frame, fun k c' hk => ?_, fun k c' hk ht => ?_, fun k i hk => ?_, fun i k a' b' hi hk hik => ?_⟩
  · rw [den_agree ag v (h.envOk y v hu)]; exact h.envR y v hu
  · simp only [find_cons] at hk
    split at hk
    · rename_i e; subst e; cases hk; exact ⟨Nat.lt_succ_self _, okL_mono (Nat.le_succ _) _ hc⟩
    · obtain ⟨h1, h2⟩ := h.memOk k m hk
      exact ⟨Nat.lt_succ_of_lt h1, okM_mono (Nat.le_succ _) h2⟩
  · obtain ⟨r, y, g1, g2, g3, rfl⟩ := hb'
    have e := ag r (h.ents.okc g1).1
    rw [e] at g2 ⊢
    exact h.own _ ⟨r, y, g1, g2, g3, rfl⟩
  · obtain ⟨h1, h2⟩ := h.keep0 k c' hk
    have hk' := (h.memOk k c' h2).1
    have e : ¬ nb = k := by omega
    exact ⟨by rw [find_cons, if_neg e]; exact h1, by rw [find_cons, if_neg e]; exact h2⟩
  · rw [find_cons] at ht hk
    split at ht
    · cases ht
    · rename_i e
      rw [if_neg e] at hk
      exact h.old k c' hk ht
  · rw [find_cons] at hk
    split at hk
    · rename_i e; subst e; cases hk
      exact ⟨Nat.lt_succ_self _, b, by rw [hr], hb, _, List.mem_cons_self, rfl, rfl, rfl, c, by rw [find_cons, if_pos rfl], t, fun w hw => by rw [denL_agree ag c hc]; exact hw⟩
    · rename_i e
      obtain ⟨h1, bk, h2, h3, f, hf, e1, e2, e3, c', e4, t', e5⟩ := h.new k i hk
      have hok := (h.memOk k _ e4).2
      exact ⟨Nat.lt_succ_of_lt h1, bk, by rw [ag ⟨k, []⟩ h1]; exact h2, h3, f, List.mem_cons_of_mem _ hf, e1, e2, e3, c', by rw [find_cons, if_neg e]; exact e4, t', fun w hw => by rw [denL_agree ag c' hok]; exact e5 w hw⟩
  · rw [find_cons] at hi hk
    split at hi
    · rename_i e1
      split at hk
      · rename_i e2; exact e1.symm.trans e2
      · exfalso
        rw [← e1, en, eb k _ hk] at hik
        exact ne k _ hk hik.symm
    · split at hk
      · rename_i e2
        exfalso
        rw [← e2, en, eb i _ hi] at hik
        exact ne i _ hi hik
      · rw [eb i _ hi, eb k _ hk] at hik
        exact h.injT i k a' b' hi hk hik
/-- What operation 'j' may look at. -/
theorem HI.cls {ops : List Oper} {j : Nat} (h : HI x g u m0 tags V env mem nb fs a) {w : World} (hc : Cls .any ops.toArray (Er (DKof V m0)) u j fs w) (e' : List (Nat × SV)) : Ents g.D0 V ⟨e', vis ops j tags mem, nb⟩ w :=
  h.see hc.1 e' _ (fun k m hk => (vis_find hk).1) (fun k m i hk hi f hf hfi => by
    rcases (vis_find hk).2 with h1 | ⟨i', h1, h2⟩
    · rw [hi] at h1; cases h1
    · rw [hi] at h1; cases h1
      exact hc.2 f hf (by rw [hfi]; exact waitsL_spec h2))
theorem HI.cls0 {ops : List Oper} {j : Nat} (h : HI x g u m0 tags V env mem nb fs a) {w : World} (hc : Cls .any ops.toArray (Er (DKof V m0)) u j fs w) (e' : List (Nat × SV)) : Ents g.D0 V ⟨e', m0, nb⟩ w :=
  h.see hc.1 e' _ (fun k m hk => (h.keep0 k m hk).2) (fun k m i hk hi f hf hfi => by rw [(h.keep0 k m hk).1] at hi; cases hi)
theorem HI.rep (h : HI x g u m0 tags V env mem nb fs a) {w : World} (hw : Wit (Er (DKof V m0)) u fs w) : Rep x g V ⟨env, mem, nb⟩ a w := by
  refine ⟨h.defers, h.size, h.envR, h.envOk, h.see hw.1 env mem (fun k m hk => hk) (fun k m i _ _ f hf _ => (hw.2 f hf).1), ⟨Nat.le_trans h.frame.1 hw.1.size, fun b hb hd => ?_, h.frame.2.2.trans hw.1.io⟩, fun b hb => ?_, h.pin, h.d0⟩
  · refine (hw.1.same b (Nat.lt_of_lt_of_le hb h.frame.1) fun L ⟨k, v, h1, h2, _⟩ => ?_).trans (h.frame.2.1 b hb hd)
    rcases h.own b ⟨⟨k, []⟩, .deck v, cont_iff.2 ⟨_, h1, rfl⟩, trivial, rfl, Loc.b_eq h2⟩ with h3 | h3
    · omega
    · exact hd h3
  · obtain ⟨r, y, hc, hl, hk, rfl⟩ := hb
    obtain ⟨m, hm, hb⟩ := cont_iff.1 hc
    cases ht : find tags r.k with
    | none => exact h.own _ ⟨r, y, cont_iff.2 ⟨m, h.old _ m hm ht, hb⟩, hl, hk, rfl⟩
    | some i =>
      obtain ⟨_, bk, g1, g2, _, _, _, _, _, c, g4, _⟩ := h.new _ i ht
      rw [hm] at g4
      cases g4
      obtain ⟨q1, _⟩ := contB_cells hb
      obtain ⟨k, p⟩ := r
      simp only at q1
      subst q1
      rw [Loc.b_eq g1]
      exact .inl (Nat.le_trans h.frame.1 g2)
end
theorem dk_agr {D0 : Nat → Prop} {V V' : Vl} {e : List (Nat × SV)} {m0 : List (Nat × MB)} {nb : Nat} {u : World} (hm : Ents D0 V ⟨e, m0, nb⟩ u) (ag : AgrB nb V' V) : DKof V' m0 = DKof V m0 := by
  funext b L
  apply propext
  constructor
  · rintro ⟨k, v, h1, h2, h3⟩
    obtain ⟨a, c⟩ := hm.ok k _ h1
    exact ⟨k, v, h1, ag ⟨k, []⟩ a ▸ h2, by rw [← den_agree ag v c]; exact h3⟩
  · rintro ⟨k, v, h1, h2, h3⟩
    obtain ⟨a, c⟩ := hm.ok k _ h1
    exact ⟨k, v, h1, by rw [ag ⟨k, []⟩ a]; exact h2, by rw [den_agree ag v c]; exact h3⟩
end Go.Proofs.Ytonjbhdfimcedaa

/- V28 -/
namespace Go.Proofs.Ytonjbhdfimcedaa
set_option linter.unusedSimpArgs false
set_option linter.unusedSectionVars false
set_option linter.unusedVariables false
open Go.RowKit

/-- The head of a region in the order 'L'; 'm0': the blocks with which the region begins; behind it K holds. -/
structure Hd (x : Cx) (ops : List Oper) (m0 : List (Nat × MB)) (L : List Nat) (tags : List (Nat × Nat)) (s : St) (K : St → Prop) : Prop where
  run : LayOk x.P x.L → ∀ (g : Gx) (u : World) (DK : Nat → Value → Prop) (Q : List Fact → Act → Prop) (V : Vl) (fs : List Fact) (a : Act), DKof V m0 = DK →
    (∀ tags' V' s' fs' a', K s' → DKof V' m0 = DK → HI x g u m0 tags' V' s'.env s'.mem s'.nb fs' a' → Q fs' a') → HI x g u m0 tags V s.env s.mem s.nb fs a → wpM x.P .any ops.toArray (Er DK) u Q L fs a
theorem nthC_arr {ops : List Oper} {j : Nat} {o : Oper} (h : nthC ops j = some o) : ops.toArray[j]? = some o := by rw [nthC_eq] at h; simpa using h
section
variable {x : Cx} {ops : List Oper} {m0 : List (Nat × MB)} {L : List Nat} {tags : List (Nat × Nat)} {env : List (Nat × SV)} {mem : List (Nat × MB)} {nb t j : Nat} {K : St → Prop} {op : Op} {ty : TypeId} {pos : String} {after : Array Edge} {g : Option (Nat × Bool)} {v : SV}
theorem h_nil {s : St} (h : K s) : Hd x ops m0 [] tags s K := ⟨fun _ g u DK Q V fs a hd hQ hi => hQ tags V s fs a h hd hi⟩
theorem h_ev (ho : nthC ops j = some ⟨some t, op, ty, pos, after, g⟩) (hg : goes ops env g = some true) (he : EvTo x ⟨env, m0, nb⟩ op v) (h1 : Nat.blt t x.n = true) (h2 : okV nb v = true) (hk : Hd x ops m0 L tags ⟨(t, v) :: env, mem, nb⟩ K) : Hd x ops m0 (j :: L) tags ⟨env, mem, nb⟩ K :=
  ⟨fun hL g u DK Q V fs a hd hQ hi _ => by
    subst hd
    refine mOp_q (nthC_arr ho) (v := den V v) (.inl ⟨goes_wanted hg hi.envR, fun w hcl => ?_⟩) (hk.run hL g u _ Q V fs _ rfl hQ (hi.put h1 h2))
    unfold Oper.quietAt
    rw [he.run _ V a w hi.envR (hi.cls0 hcl env)]
    exact ⟨rfl, rfl⟩⟩
theorem h_skip (ho : nthC ops j = some ⟨some t, op, ty, pos, after, g⟩) (hg : goes ops env g = some false) (h1 : Nat.blt t x.n = true) (hk : Hd x ops m0 L tags ⟨(t, .undef) :: env, mem, nb⟩ K) : Hd x ops m0 (j :: L) tags ⟨env, mem, nb⟩ K :=
  ⟨fun hL g u DK Q V fs a hd hQ hi _ => by
    subst hd
    exact mOp_q (nthC_arr ho) (v := undef) (.inr ⟨goes_wanted hg hi.envR, rfl⟩) (hk.run hL g u _ Q V fs _ rfl hQ (hi.put (v := .undef) h1 rfl))⟩
theorem h_split {d : Nat} {c : Bool} (hf : find env d = some (.bool c))
    (h1 : c = true → Hd x ops m0 L tags ⟨(d, .tf true) :: env, mem, nb⟩ K) (h2 : c = false → Hd x ops m0 L tags ⟨(d, .tf false) :: env, mem, nb⟩ K) : Hd x ops m0 L tags ⟨env, mem, nb⟩ K :=
  ⟨fun hL g u DK Q V fs a hd hQ hi => by
    cases c with
    | true => exact (h1 rfl).run hL g u DK Q V fs a hd hQ (hi.know hf (fun _ => rfl) rfl)
    | false => exact (h2 rfl).run hL g u DK Q V fs a hd hQ (hi.know hf (fun _ => rfl) rfl)⟩
theorem h_new {sh : Option (Nat × Nat)} {c : List SV} (ho : nthC ops j = some ⟨some t, op, ty, pos, after, g⟩) (hg : goes ops env g = some true) (hn : NewTo x ⟨env, mem, nb⟩ op c sh) (h1 : Nat.blt t x.n = true) (hc : okL nb c = true)
    (hk : Hd x ops m0 L ((nb, j) :: tags) ⟨(t, svSh nb sh) :: env, (nb, .cells c) :: mem, nb + 1⟩ K) : Hd x ops m0 (j :: L) tags ⟨env, mem, nb⟩ K :=
  ⟨fun hL g u DK Q V fs a hd hQ hi _ => by
    subst hd
    obtain ⟨tt, ht⟩ := hn.run V a hi.envR
    refine mOp_a (nthC_arr ho) ⟨goes_wanted hg hi.envR, (ht u _ _ _ _ _).1, fun w _ => (ht w _ _ _ _ _).2⟩ (fun b b1 hfar _ => ?_)
    have hn' := (hi.newB hc (j := j) (t := tt) b1 hfar).put (t := t) h1 (ok_svSh nb sh)
    rw [den_svSh _ nb b sh (by rw [Vl.ext_new])] at hn'
    exact hk.run hL g u _ Q _ _ _ (dk_agr hi.ents Vl.ext_agr) hQ hn'⟩
/-! ### Calls -/
def sameS : SV → SV → Bool
  | .sl ⟨a, []⟩, .sl ⟨b, []⟩ => Nat.beq a b
  | _, _ => false
theorem sameS_eq {a b : SV} (h : sameS a b = true) : a = b := by
  unfold sameS at h
  split at h
  · rw [Nat.eq_of_beq_eq_true h]
  · cases h
/-- Decks are all that the function writes, and it leaves them decks. -/
def deckB (σ : Sg) (m0 post : List (Nat × MB)) : List (Nat × MB) → Bool
  | [] => true
  | (k, m) :: l => match m with
    | .list .tmp _ _ => deckB σ m0 post l
    | .list .fz _ _ => deckB σ m0 post l
    | .deck v => match find σ k, find post k with
      | some (.root k'), some (.deck v') => match find m0 k', sameS v v' with
        | some (.deck _), true => deckB σ m0 post l
        | _, _ => false
      | _, _ => false
    | _ => false
theorem deckB_spec {σ : Sg} {m0 post : List (Nat × MB)} : ∀ {l : List (Nat × MB)}, deckB σ m0 post l = true → ∀ k m, find l k = some m → (∃ c y, m = .list .tmp c y) ∨ (∃ c y, m = .list .fz c y) ∨ ∃ v k' v', m = .deck v ∧ find σ k = some (.root k') ∧ find post k = some (.deck v) ∧ find m0 k' = some (.deck v')
  | [], _, k, m, h => by simp [find] at h
  | (a, c) :: l, hb, k, m, h => by
    rw [find_cons] at h
    unfold deckB at hb
    split at hb
    · split at h
      · cases h; exact .inl ⟨_, _, rfl⟩
      · exact deckB_spec hb k m h
    · split at h
      · cases h; exact .inr (.inl ⟨_, _, rfl⟩)
      · exact deckB_spec hb k m h
    · split at hb
      · rename_i v k' v' h1 h2
        split at hb
        · rename_i w h3 h4
          have := sameS_eq h4
          subst this
          split at h
          · rename_i e; subst e; cases h; exact .inr (.inr ⟨_, _, _, rfl, h1, h2, h3⟩)
          · exact deckB_spec hb k m h
        · cases hb
      · cases hb
    · cases hb
def callH (gf : FuncId) (as : List SV) (pm : List (Nat × MB)) (p : Nat) (all : List Oper) (j : Nat) (tags : List (Nat × Nat)) (o : Oper) (s : St) : Option (List Prop × Sg) := match o.op with
  | .call ⟨.value f, args, _⟩ => match goes all s.env o.guard, s.get f, argsS s args.toList with
    | some true, some (.clo g' caps), some q => match Nat.beq g' gf, s with
      | true, ⟨env, mem, nb⟩ => plM (vis all j tags mem) fun vm => mt2 (mtV pm vm 12) as (app q caps) [] fun σ => match renL σ as, memB false σ p ⟨env, vm, nb⟩ pm with
        | some as', some (o3, owns, reads) => match eqL as' (app q caps), chkB nb p gf g' σ owns reads with
          | some o4, true => some (app o4 o3, σ)
          | _, _ => none
        | _, _ => none
      | false, _ => none
    | _, _, _ => none
  | _ => none
inductive ResH where
  | fin (obs : List Prop) (s : St)
  | split (obs : List Prop) (b : Bool) (d : Nat) (L : List Nat) (tags : List (Nat × Nat)) (s : St)
  | stop (obs : List Prop) (L : List Nat) (tags : List (Nat × Nat)) (s : St)
def aftH (n : Nat) (σ : Sg) (p : Nat) (pm m0 : List (Nat × MB)) (v : SV) (post : St) (dst : Option Nat) (s : St) (f : St → ResH) : ResH := match s, dst with
  | ⟨env, mem, nb⟩, some t => match okV p v, renS σ v, deckB σ m0 post.mem pm, Nat.blt t n with
    | true, some u, true, true => plV u fun u => match okV nb u with
      | true => f ⟨(t, u) :: env, mem, nb⟩
      | false => .stop [False] [] [] ⟨[], [], 0⟩
    | _, _, _, _ => .stop [False] [] [] ⟨[], [], 0⟩
  | _, none => .stop [False] [] [] ⟨[], [], 0⟩
def GoodH (x : Cx) (ops : List Oper) (m0 : List (Nat × MB)) (K : St → Prop) : ResH → Prop
  | .fin obs s => AllP obs ∧ K s
  | .split obs b d L tags s => AllP obs ∧ (b = true → Hd x ops m0 L tags ⟨(d, .tf true) :: s.env, s.mem, s.nb⟩ K) ∧ (b = false → Hd x ops m0 L tags ⟨(d, .tf false) :: s.env, s.mem, s.nb⟩ K)
  | .stop obs L tags s => AllP obs ∧ Hd x ops m0 L tags s K
theorem no_falseH {L : List Nat} {s : St} (h : GoodH x ops m0 K (.stop [False] L tags s)) : False := h.1.1
theorem aftH_ok {n : Nat} {σ : Sg} {p : Nat} {pm : List (Nat × MB)} {v : SV} {post : St} {dst : Option Nat} {f : St → ResH} (h : GoodH x ops m0 K (aftH n σ p pm m0 v post dst ⟨env, mem, nb⟩ f)) :
    ∃ t u, dst = some t ∧ okV p v = true ∧ renS σ v = some u ∧ deckB σ m0 post.mem pm = true ∧ Nat.blt t n = true ∧ okV nb u = true ∧ GoodH x ops m0 K (f ⟨(t, u) :: env, mem, nb⟩) := by
  unfold aftH at h
  split at h
  · rename_i e1
    cases e1
    split at h
    · rename_i h1 h2 h3 h4
      rw [plV_eq] at h
      split at h
      · rename_i h5
        exact ⟨_, _, rfl, h1, h2, h3, h4, h5, h⟩
      · exact (no_falseH h).elim
    · exact (no_falseH h).elim
  · exact (no_falseH h).elim
structure CallHK (x : Cx) (gf : FuncId) (as : List SV) (pm : List (Nat × MB)) (p : Nat) (all : List Oper) (o : Oper) (env : List (Nat × SV)) (vm : List (Nat × MB)) (nb : Nat) (σ : Sg) (f : Operand) (args : Array Operand) (ts : Array TypeId) (caps q : List SV) (owns reads : List Nat) (o3 : List Prop) : Prop where
  op : o.op = .call ⟨.value f, args, ts⟩
  goes : goes all env o.guard = some true
  arg : argsS ⟨env, vm, nb⟩ args.toList = some q
  fn : (⟨env, vm, nb⟩ : St).get f = some (.clo gf caps)
  mem : memB false σ p ⟨env, vm, nb⟩ pm = some (o3, owns, reads)
  obs : AllP o3
  eq : ∀ V, denL (σ.vl V) as = denL V (q ++ caps)
  n1 : nodupB owns = true
  n2 : noneIn reads owns = true
theorem get_env {env : List (Nat × SV)} {m m' : List (Nat × MB)} {n n' : Nat} (o : Operand) : (⟨env, m, n⟩ : St).get o = (⟨env, m', n'⟩ : St).get o := by cases o <;> rfl
theorem argsS_env {env : List (Nat × SV)} {m m' : List (Nat × MB)} {n n' : Nat} : ∀ l : List Operand, argsS ⟨env, m, n⟩ l = argsS ⟨env, m', n'⟩ l
  | [] => rfl
  | o :: l => by simp only [argsS, get_env (m := m) (m' := m') (n := n) (n' := n') o, argsS_env (m := m) (m' := m') (n := n) (n' := n') l]
theorem callH_ok {gf : FuncId} {as : List SV} {pm : List (Nat × MB)} {p : Nat} {all : List Oper} {o : Oper} {o2 : List Prop} {σ : Sg} (hc : callH gf as pm p all j tags o ⟨env, mem, nb⟩ = some (o2, σ)) (ho2 : AllP o2) : ∃ f args ts caps q owns reads o3, CallHK x gf as pm p all o env (vis all j tags mem) nb σ f args ts caps q owns reads o3 := by
  unfold callH at hc
  split at hc
  · rename_i f args ts hop
    split at hc
    · rename_i g' caps q hg hf hq
      split at hc
      · rename_i hgf e1
        cases e1
        rw [plM_eq] at hc
        have key := mt2_ok (f := mtV pm (vis all j tags mem) 12) (P := fun y => y = some (o2, σ)) (fun a b τ k h => mtV_ok (tm := pm) (sm := vis all j tags mem) (n := 12) (P := fun y => y = some (o2, σ)) h) hc
        clear hc
        obtain ⟨σ', hc'⟩ := key
        split at hc'
        · rename_i as' o3 owns reads has hm
          split at hc'
          · rename_i o4 he hchk
            simp only [chkB, Bool.and_eq_true] at hchk
            obtain ⟨hn, hni, hok, hkl, hcv, hlt, _⟩ := hchk
            have := Nat.eq_of_beq_eq_true hgf
            subst this
            simp only [Option.some.injEq, Prod.mk.injEq] at hc'
            obtain ⟨rfl, rfl⟩ := hc'
            obtain ⟨p1, p2⟩ := AllP_app.1 ho2
            exact ⟨f, args, ts, caps, q, owns, reads, o3, hop, hg, by rw [argsS_env (m' := mem) (n' := nb)]; exact hq, by rw [get_env (m' := mem) (n' := nb)]; exact hf, hm, p2, fun V => by rw [renL_den V has, eqL_den V he p1, app_eq], hn, hni⟩
          · cases hc'
        · cases hc'
      · cases hc
    · cases hc
  · cases hc
end
end Go.Proofs.Ytonjbhdfimcedaa

/- V29 -/
namespace Go.Proofs.Ytonjbhdfimcedaa
set_option linter.unusedSimpArgs false
set_option linter.unusedSectionVars false
set_option linter.unusedVariables false
open Go.RowKit
section
variable {x : Cx} {ops : List Oper} {m0 : List (Nat × MB)} {L : List Nat} {tags : List (Nat × Nat)} {env : List (Nat × SV)} {mem : List (Nat × MB)} {nb t j : Nat} {K : St → Prop}
/-- **A call that writes decks alone**: what becomes of the world. -/
theorem call_er {g : Gx} {V : Vl} {w : World} {vm : List (Nat × MB)} {o : Oper} {gf : FuncId} {as : List SV} {pm : List (Nat × MB)} {p : Nat} {Z : Type} {ψ : Z → Prop} {res : Z → SV} {post : Z → St} {σ : Sg} {f : Operand} {args : Array Operand} {ts : Array TypeId} {caps q : List SV} {owns reads : List Nat} {o3 : List Prop}
    (T : Trip x.P gf as ⟨[], pm, p⟩ ψ res post) (C : CallHK x gf as pm p ops o env vm nb σ f args ts caps q owns reads o3) (hE : Ents g.D0 V ⟨env, vm, nb⟩ w) (d0w : ∀ b, g.D0 b → b < w.heap.size)
    (hk : ∀ z, ψ z → ∃ u, okV p (res z) = true ∧ renS σ (res z) = some u ∧ deckB σ m0 (post z).mem pm = true) :
    Calls x.P gf (denL (σ.vl V) as).toArray w fun e w' => ∃ z u, ψ z ∧ renS σ (res z) = some u ∧ e = .returned (den V u) ∧ Er (DKof V m0) w w' := by
  obtain ⟨hE1, e2, e3⟩ := memB_ok (e := []) (nb := p) hE C.mem C.n1 C.n2 C.obs d0w
  have hC := T.runs (σ.vl V) _ w hE1 d0w
  refine hC.mono fun e w' ⟨z, V', hz, hev, hou, hpn, hag, hE', hfr, hfresh⟩ => ?_
  obtain ⟨u, h1, h2, h3⟩ := hk z hz
  have spec := deckB_spec h3
  have deckOf : ∀ b, Dl (σ.vl V) pm b → ∃ k v k' v', find pm k = some (.deck v) ∧ find (post z).mem k = some (.deck v) ∧ find m0 k' = some (.deck v') ∧ (V ⟨k', []⟩).a = some ⟨b, 0, none⟩ ∧ (σ.vl V ⟨k, []⟩) = V ⟨k', []⟩ := by
    rintro b ⟨r, y, hc, hl, hkd, rfl⟩
    obtain ⟨m, q1, q2⟩ := cont_iff.1 hc
    rcases spec _ _ q1 with ⟨c, l, rfl⟩ | ⟨c, l, rfl⟩ | ⟨v, k', v', rfl, s2, s3, s4⟩
    · simp only [contB] at q2
      split at q2
      · cases q2; simp [kindB, Md.at] at hkd
      · cases q2
    · simp only [contB] at q2
      split at q2
      · cases q2; simp [kindB, Md.at] at hkd
      · cases q2
    · obtain ⟨z1, z2⟩ := contB_deck q2
      subst z2
      obtain ⟨k, pp⟩ := r
      simp only at z1 q1 s2 s3
      subst z1
      have ev : σ.vl V ⟨k, []⟩ = V ⟨k', []⟩ := by simp only [Sg.vl, s2]
      obtain ⟨bk, t, p', aa, n, c, y1, y2, y3⟩ := hE1.at_ _ _ hc
      refine ⟨k, v, k', v', q1, s3, s4, ?_, ev⟩
      rw [Loc.b_eq y1, ← ev]
      exact y1
  refine ⟨z, u, hz, h2, hev.trans ?_, ⟨hfr.1, fun b hb hnd => hfr.2.1 b hb fun hdl => ?_, fun b L hdk' hat => ?_, hfr.2.2⟩⟩
  · rw [← ren_den V h2]
    exact congrArg _ (den_agree (nb := p) hag _ h1)
  · obtain ⟨k, v, k', v', _, _, s4, s5, _⟩ := deckOf b hdl
    exact hnd (den V v') ⟨k', v', s4, s5, rfl⟩
  · by_cases hdl : Dl (σ.vl V) pm b
    · obtain ⟨k, v, k', v', s1, s2, s4, s5, s6⟩ := deckOf b hdl
      obtain ⟨tt, aa, n, c, pp, q0, q1, q2, q3⟩ := hat
      obtain ⟨bk, t1, p1, a1, n1, c1, y1, y2, y3, y4⟩ := hE1.at_ ⟨k, []⟩ (.deck v) (cont_iff.2 ⟨_, s1, rfl⟩)
      have hbk : bk = b := by rw [s6, s5] at y1; cases y1; rfl
      subst hbk
      rw [y2] at q0
      have eL : den (σ.vl V) v = L := by
        have := congrArg (fun o => match o with | some (Obj.cells c _ _) => c[0]? | _ => none) q0
        simpa using this
      have hok := (hE1.ok k _ s1)
      obtain ⟨bk2, t2, p2, a2, n2, c2, z1, z2, z3, z4⟩ := hE'.at_ ⟨k, []⟩ (.deck v) (cont_iff.2 ⟨_, s2, rfl⟩)
      have hbk2 : bk2 = bk := by rw [hag ⟨k, []⟩ hok.1, s6, s5] at z1; cases z1; rfl
      subst hbk2
      have hv : den V' v = L := by rw [den_agree (nb := p) hag v hok.2]; exact eL
      rw [hv] at z2 z3
      exact ⟨t2, a2, n2, c2, p2, z2, z3, z4⟩
    · obtain ⟨tt, aa, n, c, pp, q0, q1⟩ := hat
      exact ⟨tt, aa, n, c, pp, (hfr.2.1 b (lt_of_heap q0) hdl).trans q0, q1⟩
theorem h_call {o : Oper} (ho : nthC ops j = some o) {gf : FuncId} {as : List SV} {pm : List (Nat × MB)} {p : Nat} {Z : Type} {ψ : Z → Prop} {res : Z → SV} {post : Z → St} {σ : Sg} {f : Operand} {args : Array Operand} {ts : Array TypeId} {caps q : List SV} {owns reads : List Nat} {o3 : List Prop}
    (T : Trip x.P gf as ⟨[], pm, p⟩ ψ res post) (C : CallHK x gf as pm p ops o env (vis ops j tags mem) nb σ f args ts caps q owns reads o3)
    (hk : ∀ z, ψ z → ∃ t u, o.dst = some t ∧ okV p (res z) = true ∧ renS σ (res z) = some u ∧ deckB σ m0 (post z).mem pm = true ∧ Nat.blt t x.n = true ∧ okV nb u = true ∧ Hd x ops m0 L tags ⟨(t, u) :: env, mem, nb⟩ K) : Hd x ops m0 (j :: L) tags ⟨env, mem, nb⟩ K :=
  ⟨fun hL g u0 DK Q V fs a hd hQ hi _ => by
    subst hd
    obtain ⟨dst, op, ty, pos, after, gd⟩ := o
    have hop : op = .call ⟨.value f, args, ts⟩ := C.op
    subst hop
    refine mOp_c (nthC_arr ho) (S := fun v _ _ _ => ∃ z u, ψ z ∧ renS σ (res z) = some u ∧ v = den V u) ⟨goes_wanted C.goes hi.envR, rfl, fun _ _ _ _ _ h _ => h, fun w hcl => ?_⟩ (fun v' lo' hi' _ _ _ b4 => ?_)
    · have hE := hi.cls hcl env
      have hwsz : g.w0.heap.size ≤ w.heap.size := Nat.le_trans hi.frame.1 hcl.1.size
      have d0w : ∀ b, g.D0 b → b < w.heap.size := fun b hb => Nat.lt_of_lt_of_le (hi.d0 b hb).1 hwsz
      have hfv : a.eval f = .func (.func gf) #[] (denL V caps).toArray := EnvR.get (s := ⟨env, vis ops j tags mem, nb⟩) hi.envR C.fn
      have hav : args.map a.eval = (denL V q).toArray := args_arr (s := ⟨env, vis ops j tags mem, nb⟩) hi.envR C.arg
      have harg : (denL V q).toArray ++ (denL V caps).toArray = (denL (σ.vl V) as).toArray := by
        rw [C.eq, denL_append]; simp
      have hrun := run_call (P := x.P) (w := w) (dst := dst) (ts := ts) (ty := ty) (pos := pos) (after := after) (guard := gd) T.can hfv hav
      rw [harg] at hrun
      unfold gives
      rw [hrun]
      refine ⟨rfl, ?_⟩
      refine (call_er (m0 := m0) T C hE d0w fun z hz => ?_).mono fun e w' ⟨z, u, hz, hu, he, her⟩ => ⟨den V u, he, her, z, u, hz, hu, rfl⟩
      obtain ⟨t, u, _, h1, h2, h3, _⟩ := hk z hz
      exact ⟨u, h1, h2, h3⟩
    · obtain ⟨w, hw⟩ := b4
      obtain ⟨z, u, hz, hu, rfl⟩ := (hw.2 _ List.mem_cons_self).1
      obtain ⟨t, u', ht, h1, h2, h3, h5, h4, h6⟩ := hk z hz
      rw [hu] at h2
      cases h2
      cases ht
      exact h6.run hL g u0 _ Q V _ _ rfl hQ ((hi.put h5 h4).more _)⟩
/-! ### The machine -/
def isNew : Op → Bool
  | .alloc _ => true
  | .box _ _ => true
  | .buildSlice _ _ _ => true
  | _ => false
def runH (x : Cx) (ops : List Oper) (m0 : List (Nat × MB)) : Nat → List Prop → List Nat → List (Nat × Nat) → St → ResH
  | 0, obs, L, tags, s => .stop obs L tags s
  | n + 1, obs, [], tags, s => .fin obs s
  | n + 1, obs, j :: L, tags, ⟨env, mem, nb⟩ => match nthC ops j with
    | none => .stop obs (j :: L) tags ⟨env, mem, nb⟩
    | some ⟨none, _, _, _, _, _⟩ => .stop obs (j :: L) tags ⟨env, mem, nb⟩
    | some ⟨some t, op, _, _, _, gd⟩ => match Nat.blt t x.n, goes ops env gd with
      | true, some true => match isNew op with
        | true => match newS x.L ⟨env, mem, nb⟩ op with
          | some (c, sh) => plL c fun c => match okL nb c with
            | true => nx nb fun nb' => runH x ops m0 n obs L ((nb, j) :: tags) ⟨(t, svSh nb sh) :: env, (nb, .cells c) :: mem, nb'⟩
            | false => .stop obs (j :: L) tags ⟨env, mem, nb⟩
          | none => .stop obs (j :: L) tags ⟨env, mem, nb⟩
        | false => match ev x.L ⟨env, m0, nb⟩ op with
          | some (v, ob) => plV v fun v => match okV nb v with
            | true => runH x ops m0 n (app ob obs) L tags ⟨(t, v) :: env, mem, nb⟩
            | false => .stop obs (j :: L) tags ⟨env, mem, nb⟩
          | none => .stop obs (j :: L) tags ⟨env, mem, nb⟩
      | true, some false => runH x ops m0 n obs L tags ⟨(t, .undef) :: env, mem, nb⟩
      | true, none => match gd with
        | some (i, _) => match nthC ops i with
          | some q => match q.dst with
            | some d => match find env d with
              | some (.bool v) => .split obs v d (j :: L) tags ⟨env, mem, nb⟩
              | _ => .stop obs (j :: L) tags ⟨env, mem, nb⟩
            | none => .stop obs (j :: L) tags ⟨env, mem, nb⟩
          | none => .stop obs (j :: L) tags ⟨env, mem, nb⟩
        | none => .stop obs (j :: L) tags ⟨env, mem, nb⟩
      | false, _ => .stop obs (j :: L) tags ⟨env, mem, nb⟩
theorem runH_ok (hL : LayOk x.P x.L) : ∀ {n : Nat} {obs : List Prop} {L : List Nat} {tags : List (Nat × Nat)} {s : St}, GoodH x ops m0 K (runH x ops m0 n obs L tags s) → AllP obs ∧ Hd x ops m0 L tags s K
  | 0, obs, L, tags, s, h => by unfold runH at h; exact h
  | n + 1, obs, [], tags, s, h => by unfold runH at h; exact ⟨h.1, h_nil h.2⟩
  | n + 1, obs, j :: L, tags, ⟨env, mem, nb⟩, h => by
    unfold runH at h
    split at h
    · exact h
    · exact h
    · rename_i t op ty pos after gd ho
      split at h
      · rename_i h1 hg
        split at h
        · split at h
          · rename_i c sh hn
            rw [plL_eq] at h
            split at h
            · rename_i hc
              rw [nx_eq] at h
              obtain ⟨a1, a2⟩ := runH_ok hL h
              exact ⟨a1, h_new ho hg (newS_ok hL hn) h1 hc a2⟩
            · exact h
          · exact h
        · split at h
          · rename_i v ob he
            rw [plV_eq] at h
            split at h
            · rename_i hc
              obtain ⟨a1, a2⟩ := runH_ok hL h
              obtain ⟨a3, a4⟩ := AllP_app.1 a1
              exact ⟨a4, h_ev ho hg (ev_ok hL he a3) h1 hc a2⟩
            · exact h
          · exact h
      · rename_i h1 hg
        obtain ⟨a1, a2⟩ := runH_ok hL h
        exact ⟨a1, h_skip ho hg h1 a2⟩
      · split at h
        · split at h
          · split at h
            · split at h
              · rename_i v hf
                exact ⟨h.1, h_split hf h.2.1 h.2.2⟩
              · exact h
            · exact h
          · exact h
        · exact h
      · exact h
/-! ### How a walk goes on -/
theorem d_id {r : ResH} (h : GoodH x ops m0 K r) : GoodH x ops m0 K r := h
theorem d_fin {obs : List Prop} {s : St} (ho : AllP obs) (h : K s) : GoodH x ops m0 K (.fin obs s) := ⟨ho, h⟩
theorem d_split (hL : LayOk x.P x.L) (n : Nat) {obs : List Prop} {b : Bool} {d : Nat} (ho : AllP obs) (h1 : b = true → GoodH x ops m0 K (runH x ops m0 n [] L tags ⟨(d, .tf true) :: env, mem, nb⟩)) (h2 : b = false → GoodH x ops m0 K (runH x ops m0 n [] L tags ⟨(d, .tf false) :: env, mem, nb⟩)) : GoodH x ops m0 K (.split obs b d L tags ⟨env, mem, nb⟩) :=
  ⟨ho, fun h => (runH_ok hL (h1 h)).2, fun h => (runH_ok hL (h2 h)).2⟩
theorem d_call (hL : LayOk x.P x.L) (n : Nat) {obs : List Prop} {o : Oper} {gf : FuncId} {as : List SV} {pm : List (Nat × MB)} {p : Nat} {Z : Type} {ψ : Z → Prop} {res : Z → SV} {post : Z → St} {o2 : List Prop} {σ : Sg} (ho : AllP obs) (ho2 : AllP o2)
    (hk : ∀ z, ψ z → GoodH x ops m0 K (aftH x.n σ p pm m0 (res z) (post z) o.dst ⟨env, mem, nb⟩ fun s' => runH x ops m0 n [] L tags s')) (T : Trip x.P gf as ⟨[], pm, p⟩ ψ res post) (hj : nthC ops j = some o) (hc : callH gf as pm p ops j tags o ⟨env, mem, nb⟩ = some (o2, σ)) : GoodH x ops m0 K (.stop obs (j :: L) tags ⟨env, mem, nb⟩) := by
  refine ⟨ho, ?_⟩
  obtain ⟨f, args, ts, caps, q, owns, reads, o3, C⟩ := callH_ok (x := x) hc ho2
  refine h_call hj T C fun z hz => ?_
  obtain ⟨t, u, h1, h2, h3, h4, h5, h6, h7⟩ := aftH_ok (hk z hz)
  exact ⟨t, u, h1, h2, h3, h4, h5, h6, (runH_ok hL h7).2⟩
end
/-- How many operations stand ahead of the first store or append. -/
def headLen : List Oper → Nat
  | [] => 0
  | o :: l => match o.op with
    | .store _ _ _ => 0
    | .call ⟨.builtin .append, _, _⟩ => 0
    | _ => headLen l + 1
def dropN {α : Type} : Nat → List α → List α
  | 0, l => l
  | _ + 1, [] => []
  | n + 1, _ :: l => dropN n l
theorem dropN_eq {α : Type} : ∀ (n : Nat) (l : List α), dropN n l = l.drop n
  | 0, l => by simp [dropN]
  | n + 1, [] => by simp [dropN]
  | n + 1, _ :: l => by simp [dropN, dropN_eq n l]
theorem tr_drawN {x : Cx} {Q : Exit → St → Prop} {s : St} (hL : LayOk x.P x.L) (hm : x.P.follows .mixedOrders = true) {id : Nat} {l : List Oper} (n : Nat) (L : List Nat) (hB : regionB .any l.toArray n L = true) (h : Hd x l s.mem L [] s fun s' => Sq x l (l.drop n) s' fun s' => Q .normal s') : Tr x (.region id l.toArray true) Q s :=
  ⟨fun g V a w hr => by
    refine wp_region_M n L hm hB (er_stays (DK := DKof V s.mem) fun b L ⟨k, v, h1, h2, _⟩ => ?_) ?_
    · have := hr.ents.lt (r := ⟨k, []⟩) (b := .deck v) (cont_iff.2 ⟨_, h1, rfl⟩) trivial
      rw [Loc.b_eq h2] at this
      exact this
    · refine h.run hL g w.drew _ _ V [] a rfl (fun tags' V' s' fs' a' hs hd hi w' hw' => hs.run g _ V' a' w' (fun s'' V'' a'' w'' hq hr'' => ⟨s'', V'', hq, hr''⟩) (hi.rep (by rw [hd]; exact hw'))) ?_
      exact ⟨hr.defers, hr.size, hr.env, hr.envOk, hr.ents.ok, hr.ents.heap rfl, hr.own, hr.pin, hr.d0, ⟨hr.frame.1, hr.frame.2.1, ⟨hr.frame.2.2.os, hr.frame.2.2.tape, hr.frame.2.2.output⟩⟩, fun k c hk => ⟨rfl, hk⟩, fun k c hk _ => hk, (fun k i hk => by cases hk), (fun i j a b hi => by cases hi)⟩⟩
section
variable {x : Cx} {Q : Exit → St → Prop} {obs : List Prop} {K : List Kf}
/-- A region that draws its order, of N operations: its head is walked in the order L. -/
theorem g_drawN (hL : LayOk x.P x.L) (hm : x.P.follows .mixedOrders = true) (fuel n : Nat) (L : List Nat) (N : Nat) {id : Nat} {l : List Oper} {env : List (Nat × SV)} {mem : List (Nat × MB)} {nb : Nat} (_ : l.length = N) (hB : regionB .any l.toArray n L = true) (ho : AllP obs)
    (h : GoodH x l mem (fun s' => Good x Q (run x fuel [] (.ops l (dropN n l)) K s')) (runH x l mem fuel [] L [] ⟨env, mem, nb⟩)) : Good x Q (.code obs (.region id l.toArray true) K ⟨env, mem, nb⟩) := by
  refine ⟨ho, tr_drawN hL hm n L hB ?_⟩
  have := (runH_ok hL h).2
  refine ⟨fun hL g u DK Q V fs a hd hQ hi => this.run hL g u DK Q V fs a hd (fun tags' V' s' fs' a' hs => hQ tags' V' s' fs' a' ?_) hi⟩
  have := (run_ok hL hs).2
  rw [dropN_eq] at this
  exact this
theorem g_draw (hL : LayOk x.P x.L) (hm : x.P.follows .mixedOrders = true) (fuel n : Nat) (L : List Nat) {id : Nat} {l : List Oper} {env : List (Nat × SV)} {mem : List (Nat × MB)} {nb : Nat} (_ : headLen l = n) (hB : regionB .any l.toArray n L = true) (ho : AllP obs)
    (h : GoodH x l mem (fun s' => Good x Q (run x fuel [] (.ops l (dropN n l)) K s')) (runH x l mem fuel [] L [] ⟨env, mem, nb⟩)) : Good x Q (.code obs (.region id l.toArray true) K ⟨env, mem, nb⟩) := g_drawN hL hm fuel n L l.length rfl hB ho h
end
end Go.Proofs.Ytonjbhdfimcedaa

/- V30 -/
namespace Go.Proofs.Ytonjbhdfimcedaa
set_option linter.unusedSimpArgs false
set_option linter.unusedSectionVars false
set_option linter.unusedVariables false
open Go.RowKit
theorem Rep.openDeck {x : Cx} {g : Gx} {V : Vl} {env : List (Nat × SV)} {mem : List (Nat × MB)} {nb : Nat} {a : Act} {w : World} (h : Rep x g V ⟨env, mem, nb⟩ a w) {k j : Nat} {md : Md} {c : Ty} {l : List (El c)} (hk : find mem k = some (.deck (.sl ⟨j, []⟩))) (hj : find mem j = some (.list md c l)) :
    ∃ p : Int, 0 ≤ p ∧ p ≤ l.length ∧ Rep x g V ⟨env, (k, .cells [.sl ⟨j, []⟩, .int .i64 p]) :: mem, nb⟩ a w := by
  have hc : cont mem ⟨k, []⟩ = some (.deck (.sl ⟨j, []⟩)) := cont_iff.2 ⟨_, hk, rfl⟩
  have hcj : cont mem ⟨j, []⟩ = some (.list (md.at []) c l) := cont_iff.2 ⟨_, hj, rfl⟩
  obtain ⟨b, t, p, aa, n, cc, h1, h2, h3, h4, h5⟩ := h.ents.at_ _ _ hc
  have hl := (h.ents.at_ _ _ hcj).1
  have hn : n = l.length := by
    rw [← hl]
    simp only [den, Loc.hd] at h3
    cases h3; rfl
  subst hn
  refine ⟨p, h4, h5, ?_⟩
  have hq : ∀ q b', contB (.cells [.sl ⟨j, []⟩, .int .i64 p]) q = some b' → ∃ b0, cont mem ⟨k, q⟩ = some b0 ∧ kindB b0 = kindB b' ∧ (liveB (V ⟨k, q⟩) b' → liveB (V ⟨k, q⟩) b0) := by
    intro q b' hb
    obtain ⟨rfl, rfl⟩ := contB_cells hb
    exact ⟨_, hc, rfl, fun _ => trivial⟩
  obtain ⟨hkn, hok⟩ := h.ents.ok k _ hk
  have hok' : okM nb (.cells [.sl ⟨j, []⟩, .int .i64 p]) = true := by
    simp only [okM, okV] at hok
    simp only [okM, okL, okV, hok]
  have hat : ∀ q b', contB (.cells [.sl ⟨j, []⟩, .int .i64 p]) q = some b' → AtB V w ⟨k, q⟩ b' := by
    intro q b' hb
    obtain ⟨rfl, rfl⟩ := contB_cells hb
    exact ⟨b, t, h1, h2⟩
  exact h.upd (m' := .cells [.sl ⟨j, []⟩, .int .i64 p]) (h.ents.upd env hkn hok' (b := b) hq (fun _ _ _ _ _ => rfl) hat h.d0w) hq (Nat.le_refl _) (fun _ _ _ => rfl) (SIO.refl w)
theorem tr_open {x : Cx} {Q : Exit → St → Prop} {c : Code} {env : List (Nat × SV)} {mem : List (Nat × MB)} {nb : Nat} {k j : Nat} {md : Md} {e : Ty} {l : List (El e)} (hk : find mem k = some (.deck (.sl ⟨j, []⟩))) (hj : find mem j = some (.list md e l))
    (h : ∀ p : Int, 0 ≤ p → p ≤ l.length → Tr x c Q ⟨env, (k, .cells [.sl ⟨j, []⟩, .int .i64 p]) :: mem, nb⟩) : Tr x c Q ⟨env, mem, nb⟩ :=
  ⟨fun g V a w hr => by
    obtain ⟨p, h1, h2, h3⟩ := hr.openDeck hk hj
    exact (h p h1 h2).run g V a w h3⟩
theorem trip_tr {P : Program} {L : Lay} {g : Nat} {fn : Func} {c : Code} {n : Nat} {rs : List ResultVar} {as : List SV} {pm : List (Nat × MB)} {pn : Nat} {Z : Type} {ψ : Z → Prop} {res : Z → SV} {post : Z → St} (hL : LayOk P L) (hf : P.funcs[g]? = some fn) (hb : fn.body = some c) (hc : callB P g = true)
    (hn : fn.ntmps = n) (hrs : fn.results = rs.toArray) (hlen : Nat.ble as.length n = true) (hok : okL pn as = true)
    (htr : Tr ⟨P, L, n, pn⟩ c (endS ⟨P, L, n, pn⟩ rs fun u s => ∃ z, ψ z ∧ SubG pn ⟨[(0, res z)], (post z).mem, (post z).nb⟩ ⟨[(0, u)], s.mem, s.nb⟩) ⟨argEnv 0 as, pm, pn⟩) : Trip P g as ⟨[], pm, pn⟩ ψ res post := by
  refine ⟨hc, fun V D0 w hE hD => calls_of_wp hf hb ?_⟩
  rw [hn]
  refine Go.wp_mono (htr.run ⟨w, D0, Dl V pm, V⟩ V _ w (rep_start (pre := ⟨[], pm, pn⟩) (Nat.le_of_ble_eq_true hlen) hok hE hD)) (endS_sound (x := ⟨P, L, n, pn⟩) hL hrs fun V1 s a w' u hK hou hr => ?_)
  obtain ⟨z, hz, hs⟩ := hK
  have hT := SubG_ok (x := ⟨P, L, 1, pn⟩) hs
  have hr1 : Rep ⟨P, L, 1, pn⟩ ⟨w, D0, Dl V pm, V⟩ V1 ⟨[(0, u)], s.mem, s.nb⟩ { tmps := #[den V1 u], defers := [] } w' := by
    refine ⟨rfl, rfl, fun t v hv => ?_, fun t v hv => ?_, hr.ents.env, hr.frame, hr.own, hr.pin, hr.d0⟩
    · simp only [find_cons] at hv
      split at hv
      · rename_i e; subst e; cases hv; rfl
      · simp [find] at hv
    · simp only [find_cons] at hv
      split at hv
      · cases hv; exact hou
      · simp [find] at hv
  obtain ⟨V2, h2⟩ := hT.run _ V1 _ w' hr1
  have hres : den V2 (res z) = den V1 u := by
    have := h2.env 0 (res z) (by simp [find])
    simpa using this.symm
  exact ⟨z, V2, hz, by rw [hres], h2.envOk 0 (res z) (by simp [find]), h2.pin.1, h2.pin.2, h2.ents.env, h2.frame, h2.own⟩
/-- A contract by its walk; the deck k is opened at its begin. -/
theorem trip_open {P : Program} {L : Lay} {g : Nat} {fn : Func} {c : Code} {n : Nat} {rs : List ResultVar} {as : List SV} {pm : List (Nat × MB)} {pn : Nat} {Z : Type} {ψ : Z → Prop} {res : Z → SV} {post : Z → St} (k : Nat) {j : Nat} {md : Md} {e : Ty} {l : List (El e)} (fuel : Nat) (hL : LayOk P L) (hf : P.funcs[g]? = some fn) (hb : fn.body = some c) (hc : callB P g = true)
    (hn : fn.ntmps = n) (hrs : fn.results = rs.toArray) (hlen : Nat.ble as.length n = true) (hok : okL pn as = true) (hk : find pm k = some (.deck (.sl ⟨j, []⟩))) (hj : find pm j = some (.list md e l))
    (h : ∀ p : Int, 0 ≤ p → p ≤ l.length → Good ⟨P, L, n, pn⟩ (endS ⟨P, L, n, pn⟩ rs fun u s => ∃ z, ψ z ∧ SubG pn ⟨[(0, res z)], (post z).mem, (post z).nb⟩ ⟨[(0, u)], s.mem, s.nb⟩) (run ⟨P, L, n, pn⟩ fuel [] (.code c) [] ⟨argEnv 0 as, (k, .cells [.sl ⟨j, []⟩, .int .i64 p]) :: pm, pn⟩)) : Trip P g as ⟨[], pm, pn⟩ ψ res post :=
  trip_tr hL hf hb hc hn hrs hlen hok (tr_open hk hj fun p h1 h2 => (run_ok hL (h p h1 h2)).2)
theorem ex_i {Z : Type} {A B : Z → Prop} (z : Z) (hb : B z) (ha : A z) : ∃ z, A z ∧ B z := ⟨z, ha, hb⟩
end Go.Proofs.Ytonjbhdfimcedaa

/- V31 -/
namespace Go.Proofs.Ytonjbhdfimcedaa
set_option linter.unusedSimpArgs false
set_option linter.unusedSectionVars false
set_option linter.unusedVariables false
open Go.RowKit
theorem cell_spot {w : World} {x : Addr} {v : Value} (h : w.cell? x = some v) (hc : ∀ y, v = y → True) : x.spot = none ∨ ∃ s, x.spot = some s := by
  cases x.spot with
  | none => exact .inl rfl
  | some s => exact .inr ⟨s, rfl⟩
/-- A row of integers is a list that is read alone. -/
theorem row_ents {w : World} {a : Option Addr} {len cap : Nat} {zs : List Int}
    (h : (a = none ∧ len = 0 ∧ cap = 0 ∧ zs = []) ∨ ∃ x, a = some x ∧ len ≤ cap ∧ cap ≤ maxLen ∧ zs.length = cap ∧ (∀ i, i < zs.length → w.cell? (x.add i) = some (.int .i64 (zs.getD i 0))) ∧ ∀ n ∈ zs, (Lit.int .i64 n).wf = true) :
    (zs.take len).length ≤ maxLen ∧ Ents (fun _ => False) (fun _ => ⟨a, len, cap⟩) ⟨[], [(0, .list .tmp .int (zs.take len))], 1⟩ w := by
  have hlen : (zs.take len).length = len ∧ len ≤ cap ∧ len ≤ maxLen := by
    rcases h with ⟨rfl, rfl, rfl, rfl⟩ | ⟨x, rfl, h1, h2, h3, h4, h5⟩
    · exact ⟨rfl, Nat.le_refl _, Nat.zero_le _⟩
    · exact ⟨by rw [List.length_take]; omega, h1, Nat.le_trans h1 h2⟩
  have hc : ∀ r b, cont [(0, .list .tmp .int (zs.take len))] r = some b → b = .list .tmp .int (zs.take len) ∧ r = ⟨0, []⟩ := by
    rintro ⟨k, p⟩ b hb
    obtain ⟨m, h1, h2⟩ := cont_iff.1 hb
    simp only [find_cons] at h1
    split at h1
    · rename_i e
      cases h1
      cases p with
      | nil =>
        simp only [contB, desc, Option.some.injEq] at h2
        exact ⟨h2.symm, by rw [e]⟩
      | cons q p =>
        exfalso
        obtain ⟨i, j⟩ := q
        simp only [contB, desc] at h2
        split at h2
        · rename_i c' l' hd
          split at hd
          · cases hd
          · rename_i x hx
            split at hd
            · rename_i c0 l0 ht
              cases j <;> simp [tcells] at ht
            · cases hd
        · cases h2
    · simp [find] at h1
  refine ⟨by omega, ⟨fun k m hk => ?_, fun r b hb => ?_, fun r r' b b' hb hb' _ _ hk _ => ?_, fun r b hb _ hk => ?_⟩⟩
  · simp only [find_cons] at hk
    split at hk
    · rename_i e; cases hk; subst e; exact ⟨Nat.zero_lt_one, rfl⟩
    · simp [find] at hk
  · obtain ⟨rfl, rfl⟩ := hc r b hb
    refine ⟨hlen.1.symm, by rw [hlen.1]; exact hlen.2.1, (fun e => by cases e), fun i x hx j d hd => ?_⟩
    rcases h with ⟨rfl, rfl, rfl, rfl⟩ | ⟨y, rfl, h1, h2, h3, h4, h5⟩
    · simp at hx
    · have hi : i < len := by have := (List.getElem?_eq_some_iff.1 hx).1; omega
      have e : zs.getD i 0 = x := by
        rw [List.getElem?_take, if_pos hi] at hx
        simp only [List.getD, Option.getD]
        rw [hx]
      have c0 := h4 0 (by omega)
      have ci := h4 i (by omega)
      rw [e] at ci
      have sp : y.spot = none := by
        unfold World.cell? at c0
        rw [show y.add 0 = y from rfl] at c0
        obtain ⟨b, o, sp⟩ := y
        simp only at c0 ⊢
        split at c0
        · cases sp with
          | some s => simp at c0
          | none => rfl
        · cases c0
      cases j with
      | zero =>
        simp only [tcells, List.getElem?_cons_zero, Option.some.injEq] at hd
        subst hd
        refine ⟨y, rfl, sp, ?_⟩
        obtain ⟨b, o, s⟩ := y
        simp only at sp
        subst sp
        rw [Addr.add_mid] at ci
        simpa [wid, denT] using ci
      | succ j => simp [tcells] at hd
  · obtain ⟨rfl, _⟩ := hc r b hb
    cases hk
  · obtain ⟨rfl, _⟩ := hc r b hb
    exact absurd rfl hk
theorem row_dl {V : Vl} {l : List Int} {b : Nat} : ¬ Dl V [(0, .list .tmp .int l)] b := by
  rintro ⟨r, y, hc, _, hk, _⟩
  obtain ⟨m, h1, h2⟩ := cont_iff.1 hc
  simp only [find_cons] at h1
  split at h1
  · cases h1
    simp only [contB] at h2
    split at h2
    · cases h2; cases hk
    · cases h2
  · simp [find] at h1
/-- A law of one list of numbers and plain values: its contract says what its row asks. -/
theorem law_of {P : Program} {g : Nat} {as : List SV} {vs : List Value} {a : Option Addr} {len cap : Nat} {zs : List Int} {w : World}
    (h : (a = none ∧ len = 0 ∧ cap = 0 ∧ zs = []) ∨ ∃ x, a = some x ∧ len ≤ cap ∧ cap ≤ maxLen ∧ zs.length = cap ∧ (∀ i, i < zs.length → w.cell? (x.add i) = some (.int .i64 (zs.getD i 0))) ∧ ∀ n ∈ zs, (Lit.int .i64 n).wf = true)
    (T : (zs.take len).length ≤ maxLen → Trip P g (.sl ⟨0, []⟩ :: as) ⟨[], [(0, .list .tmp .int (zs.take len))], 1⟩ (Z := Unit) (fun _ => True) (fun _ => .bool true) (fun _ => ⟨[], [], 1⟩))
    (hvs : ∀ V, denL V as = vs) : Calls P g (.slice a len cap :: vs).toArray w fun e w' => e = .returned (.bool true) ∧ Below w.heap.size w w' := by
  obtain ⟨h1, h2⟩ := row_ents (w := w) h
  have hT := (T h1).runs (fun _ => ⟨a, len, cap⟩) (fun _ => False) w h2 (fun b hb => hb.elim)
  rw [denL, hvs] at hT
  exact hT.mono fun e w' ⟨z, V', _, he, _, _, _, _, hfr, _⟩ => ⟨he, hfr.2.2.os, hfr.2.2.tape, hfr.2.2.output, hfr.1, fun k hk => hfr.2.1 k hk row_dl⟩
/-- A law of plain values. -/
theorem law_of0 {P : Program} {g : Nat} {as : List SV} {vs : List Value} {w : World}
    (T : Trip P g as ⟨[], [], 0⟩ (Z := Unit) (fun _ => True) (fun _ => .bool true) (fun _ => ⟨[], [], 0⟩))
    (hvs : ∀ V, denL V as = vs) : Calls P g vs.toArray w fun e w' => e = .returned (.bool true) ∧ Below w.heap.size w w' := by
  have no : ∀ (V : Vl) r b, cont ([] : List (Nat × MB)) r = some b → False := fun V r b hb => by
    obtain ⟨m, h1, _⟩ := cont_iff.1 hb
    simp [find] at h1
  have hT := T.runs (fun _ => ⟨none, 0, 0⟩) (fun _ => False) w ⟨fun k m hk => (by simp [find] at hk), fun r b hb => (no (fun _ => ⟨none, 0, 0⟩) r b hb).elim, fun r r' b b' hb => (no (fun _ => ⟨none, 0, 0⟩) r b hb).elim, fun r b hb => (no (fun _ => ⟨none, 0, 0⟩) r b hb).elim⟩ (fun b hb => hb.elim)
  rw [hvs] at hT
  exact hT.mono fun e w' ⟨z, V', _, he, _, _, _, _, hfr, _⟩ => ⟨he, hfr.2.2.os, hfr.2.2.tape, hfr.2.2.output, hfr.1, fun k hk => hfr.2.1 k hk fun ⟨r, y, hc, _⟩ => no V' r y hc⟩
end Go.Proofs.Ytonjbhdfimcedaa

/- V32 -/
namespace Go.Proofs.Ytonjbhdfimcedaa
set_option linter.unusedSimpArgs false
set_option linter.unusedSectionVars false
set_option linter.unusedVariables false
open Go.RowKit
/-- So many rounds at most. -/
def RoundsG (x : Cx) (fuel : Nat) (c : Code) (Q : Exit → St → Prop) : Nat → St → Prop
  | 0, _ => False
  | n + 1, s => Good x (thenS (RoundsG x fuel c Q n) Q) (run x fuel [] (.code c) [] s)
theorem rounds_of {x : Cx} {Q : Exit → St → Prop} {c : Code} {fuel : Nat} (hL : LayOk x.P x.L) (g : Gx) : ∀ (n : Nat) (s : St) (V : Vl) (a : Act) (w : World), RoundsG x fuel c Q n s → Rep x g V s a w → Code.rounds x.P c (QR x g Q) n a w
  | 0, _, _, _, _, h, _ => h.elim
  | n + 1, s, V, a, w, h, hr => Go.wp_mono (Tr.run (run_ok hL (show Good x (thenS (RoundsG x fuel c Q n) Q) (run x fuel [] (.code c) [] s) from h)).2 g V a w hr) fun e a' w' ⟨s', V', hq, hr'⟩ => by
    cases e with
    | normal => exact rounds_of hL g n s' V' a' w' hq hr'
    | _ => exact ⟨s', V', hq, hr'⟩
section
variable {x : Cx} {Q : Exit → St → Prop} {obs : List Prop} {K : List Kf} {c : Code} {s : St}
theorem g_rounds (hL : LayOk x.P x.L) (fuel N : Nat) (ho : AllP obs) (h : Good x (thenS (RoundsG x fuel c (QK x K Q) N) (QK x K Q)) (run x fuel [] (.code c) [] s)) : Good x Q (.code obs (.loop c) K s) :=
  ⟨ho, ⟨fun g V a w hr => wp_loop_rounds (N + 1) (rounds_of hL g (N + 1) s V a w h hr)⟩⟩
theorem q_next {Q' : Exit → St → Prop} {fuel n : Nat} (h : Good x (thenS (RoundsG x fuel c Q' n) Q') (run x fuel [] (.code c) [] s)) : thenS (RoundsG x fuel c Q' (n + 1)) Q' .normal s := h
end
end Go.Proofs.Ytonjbhdfimcedaa

/- V33 -/
namespace Go.Proofs.Ytonjbhdfimcedaa
set_option linter.unusedSimpArgs false
set_option linter.unusedSectionVars false
set_option linter.unusedVariables false
open Go.RowKit
section
variable {x : Cx} {Q : Exit → St → Prop} {obs : List Prop} {K : List Kf} {all l : List Oper} {op : Op} {t : Nat} {ty : TypeId} {pos : String} {after : Array Edge} {gd : Option (Nat × Bool)} {env : List (Nat × SV)} {mem m0 : List (Nat × MB)} {nb j : Nat} {v : SV} {L : List Nat} {tags : List (Nat × Nat)} {KH : St → Prop}
theorem g_ev (hL : LayOk x.P x.L) (fuel : Nat) (ho : AllP obs) (he : EvTo x ⟨env, mem, nb⟩ op v) (hg : goes all env gd = some true) (h1 : Nat.blt t x.n = true) (h2 : okV nb v = true) (hk : Good x Q (run x fuel [] (.ops all l) K ⟨(t, v) :: env, mem, nb⟩)) :
    Good x Q (.ops obs all (⟨some t, op, ty, pos, after, gd⟩ :: l) K ⟨env, mem, nb⟩) := ⟨ho, sq_step hg (step_ev he h1 h2) (run_ok hL hk).2⟩
theorem d_ev (hL : LayOk x.P x.L) (fuel : Nat) (ho : AllP obs) (hj : nthC all j = some ⟨some t, op, ty, pos, after, gd⟩) (he : EvTo x ⟨env, m0, nb⟩ op v) (hg : goes all env gd = some true) (h1 : Nat.blt t x.n = true) (h2 : okV nb v = true) (hk : GoodH x all m0 KH (runH x all m0 fuel [] L tags ⟨(t, v) :: env, mem, nb⟩)) :
    GoodH x all m0 KH (.stop obs (j :: L) tags ⟨env, mem, nb⟩) := ⟨ho, h_ev hj hg he h1 h2 (runH_ok hL hk).2⟩
/-- An equation of one's own for two values that are compared. -/
theorem e_cmp {s : St} {op : BinOp} {T T' : TypeId} {a b : Operand} {p q v : SV} (hr : ∀ V y z w, (do eqGuard op T y z (den V p) (den V q); binOp op T (den V p) (den V q) : Sem Value).run x.P w = .ok (den V v) w) (ha : s.get a = some p) (hb : s.get b = some q) : EvTo x s (.binOp op T a b T') v := e_bin ha hb hr
end
end Go.Proofs.Ytonjbhdfimcedaa

/- V34 -/
namespace Go.Proofs.Ytonjbhdfimcedaa
set_option linter.unusedSimpArgs false
set_option linter.unusedSectionVars false
set_option linter.unusedVariables false
open Go.RowKit
section
variable {x : Cx} {Q : Exit → St → Prop} {obs : List Prop} {K : List Kf} {all l : List Oper} {o : Oper} {env : List (Nat × SV)} {mem : List (Nat × MB)} {nb : Nat}
theorem vis_nil {ops : List Oper} {j : Nat} : ∀ {m : List (Nat × MB)}, vis ops j [] m = m
  | [] => rfl
  | (k, c) :: m => by simp only [vis, find, vis_nil]
/-- A call that writes decks alone; lists of one's own may be handed on as frozen ones. -/
theorem g_callF (hL : LayOk x.P x.L) (fuel : Nat) {gf : FuncId} {as : List SV} {pm : List (Nat × MB)} {p : Nat} {Z : Type} {ψ : Z → Prop} {res : Z → SV} {post : Z → St} {o2 : List Prop} {σ : Sg} (ho : AllP obs) (ho2 : AllP o2)
    (hk : ∀ z, ψ z → GoodH x all mem (fun s' => Good x Q (run x fuel [] (.ops all l) K s')) (aftH x.n σ p pm mem (res z) (post z) o.dst ⟨env, mem, nb⟩ fun s' => .fin [] s')) (T : Trip x.P gf as ⟨[], pm, p⟩ ψ res post) (hc : callH gf as pm p all 0 [] o ⟨env, mem, nb⟩ = some (o2, σ)) : Good x Q (.ops obs all (o :: l) K ⟨env, mem, nb⟩) := by
  refine ⟨ho, ⟨fun g Q0 V a w hQ hr => ?_⟩⟩
  obtain ⟨f, args, ts, caps, q, owns, reads, o3, C⟩ := callH_ok (x := x) hc ho2
  rw [vis_nil] at C
  obtain ⟨dst, op, ty, pos, after, gd⟩ := o
  have hop : op = .call ⟨.value f, args, ts⟩ := C.op
  subst hop
  have hgoes := goes_wanted C.goes hr.env
  have hfv : a.eval f = .func (.func gf) #[] (denL V caps).toArray := hr.env.get (s := ⟨env, mem, nb⟩) C.fn
  have hav : args.map a.eval = (denL V q).toArray := args_arr (s := ⟨env, mem, nb⟩) hr.env C.arg
  have harg : (denL V q).toArray ++ (denL V caps).toArray = (denL (σ.vl V) as).toArray := by
    rw [C.eq, denL_append]; simp
  have hrun := run_call (P := x.P) (w := w) (dst := dst) (ts := ts) (ty := ty) (pos := pos) (after := after) (guard := gd) T.can hfv hav
  rw [harg] at hrun
  unfold wpList
  rw [if_pos hgoes]
  refine .inl ?_
  unfold Oper.wp
  rw [hrun]
  have hi : HI x g w mem [] V env mem nb [] a := ⟨hr.defers, hr.size, hr.env, hr.envOk, hr.ents.ok, hr.ents, hr.own, hr.pin, hr.d0, hr.frame, fun k c hk => ⟨rfl, hk⟩, fun k c hk _ => hk, (fun k i hk => by cases hk), (fun i j a b hi => by cases hi)⟩
  refine (call_er (m0 := mem) T C hr.ents hr.d0w fun z hz => ?_).mono fun e w' ⟨z, u, hz, hu, he, her⟩ => ?_
  · obtain ⟨t, u, _, h1, h2, h3, _⟩ := aftH_ok (hk z hz)
    exact ⟨u, h1, h2, h3⟩
  · subst he
    obtain ⟨t, u', ht, h1, h2, h3, h4, h5, h6⟩ := aftH_ok (hk z hz)
    rw [hu] at h2
    cases h2
    cases ht
    have hrep := hi.rep (w := w') ⟨her, fun f hf => by cases hf⟩
    exact (run_ok hL h6.2).2.run g Q0 _ _ w' hQ (hrep.put h4 h5)
end
end Go.Proofs.Ytonjbhdfimcedaa
