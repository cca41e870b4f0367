/- Walks, third framework: a walk that is parted at what is known between two statements. No condition on any program. -/
import Derived.Test.YtonjbhdfimcedaaVC
namespace Go.Proofs.Ytonjbhdfimcedaa
set_option linter.unusedSimpArgs false
set_option linter.unusedSectionVars false
set_option linter.unusedVariables false
open Go.RowKit
section
variable {x : Cx} {Q Q' : Exit → St → Prop}
theorem QK_app : ∀ {K1 K2 : List Kf}, QK x (K1 ++ K2) Q = QK x K1 (QK x K2 Q)
  | [], K2 => rfl
  | .seq d :: K1, K2 => by
    have ih := QK_app (K1 := K1) (K2 := K2)
    simp only [List.cons_append, QK, ih]
  | .blk id :: K1, K2 => by
    have ih := QK_app (K1 := K1) (K2 := K2)
    simp only [List.cons_append, QK, ih]
  | .scp :: K1, K2 => by
    have ih := QK_app (K1 := K1) (K2 := K2)
    simp only [List.cons_append, QK, ih]
theorem QK_mono (h : ∀ e s, Q e s → Q' e s) : ∀ {K : List Kf} {e : Exit} {s : St}, QK x K Q e s → QK x K Q' e s
  | [], e, s, q => h e s q
  | .seq d :: K, e, s, q => by
    simp only [QK] at q ⊢
    cases e with
    | normal => exact Tr.mono q fun e s q => QK_mono h q
    | _ => exact QK_mono h (K := K) q
  | .blk id :: K, e, s, q => by
    simp only [QK] at q ⊢
    cases e with
    | exit i =>
      simp only [blockS] at q ⊢
      split
      · rename_i hb; rw [hb] at q; exact QK_mono h (K := K) q
      · rename_i hb; rw [hb] at q; exact QK_mono h (K := K) q
    | _ => exact QK_mono h (K := K) q
  | .scp :: K, e, s, q => by
    simp only [QK] at q ⊢
    cases e with
    | goto l => exact q
    | _ => exact QK_mono h (K := K) q
theorem Sq.mono {ops l : List Oper} {s : St} {A B : St → Prop} (h : Sq x ops l s A) (hab : ∀ s, A s → B s) : Sq x ops l s B := ⟨fun g Q V a w hQ hr => h.run g Q V a w (fun s' V' a' w' k r => hQ s' V' a' w' (hab s' k) r) hr⟩
theorem TrM_mono (h : ∀ e s, Q e s → Q' e s) : ∀ {m : Mo} {K : List Kf} {s : St}, TrM x Q m K s → TrM x Q' m K s
  | .code c, K, s, t => Tr.mono (show Tr x c (QK x K Q) s from t) fun e s q => QK_mono h q
  | .ops all l, K, s, t => Sq.mono (show Sq x all l s _ from t) fun s q => QK_mono h q
  | .exit e, K, s, t => QK_mono h (show QK x K Q e s from t)
theorem TrM_app {K1 K2 : List Kf} : ∀ {m : Mo} {s : St}, TrM x (QK x K2 Q) m K1 s → TrM x Q m (K1 ++ K2) s
  | .code c, s, t => by
    show Tr x c (QK x (K1 ++ K2) Q) s
    rw [QK_app]; exact t
  | .ops all l, s, t => by
    show Sq x all l s fun s' => QK x (K1 ++ K2) Q .normal s'
    rw [QK_app]; exact t
  | .exit e, s, t => by
    show QK x (K1 ++ K2) Q e s
    rw [QK_app]; exact t
def takeN {α : Type} : Nat → List α → List α
  | 0, _ => []
  | _ + 1, [] => []
  | n + 1, x :: l => x :: takeN n l
theorem take_drop {α : Type} : ∀ (n : Nat) (l : List α), takeN n l ++ dropN n l = l
  | 0, l => rfl
  | _ + 1, [] => rfl
  | n + 1, x :: l => by simp only [takeN, dropN, List.cons_append, take_drop n l]
theorem TrM_cut {n : Nat} {K : List Kf} {m : Mo} {s : St} (h : TrM x (QK x (dropN n K) Q) m (takeN n K) s) : TrM x Q m K s := by
  have := TrM_app h
  rwa [take_drop] at this
/-- The first n of what comes after, alone. -/
def Res.cutK (n : Nat) : Res → Res
  | .fin obs e s => .fin obs e s
  | .cond obs b c d K s => .cond obs b c d (takeN n K) s
  | .split obs b d all l K s => .split obs b d all l (takeN n K) s
  | .code obs c K s => .code obs c (takeN n K) s
  | .ops obs all l K s => .ops obs all l (takeN n K) s
  | .out obs m K s => .out obs m (takeN n K) s
def Res.restK (n : Nat) : Res → List Kf
  | .fin _ _ _ => []
  | .cond _ _ _ _ K _ => dropN n K
  | .split _ _ _ _ _ K _ => dropN n K
  | .code _ _ K _ => dropN n K
  | .ops _ _ _ K _ => dropN n K
  | .out _ _ K _ => dropN n K
theorem good_cut (n : Nat) {r : Res} (h : Good x (QK x (r.restK n) Q) (r.cutK n)) : Good x Q r := by
  cases r with
  | fin obs e s => exact h
  | cond obs b c d K s =>
    obtain ⟨h1, h2, h3⟩ := h
    exact ⟨h1, fun e => TrM_cut (h2 e), fun e => TrM_cut (h3 e)⟩
  | split obs b d all l K s =>
    obtain ⟨h1, h2, h3⟩ := h
    exact ⟨h1, fun e => TrM_cut (h2 e), fun e => TrM_cut (h3 e)⟩
  | code obs c K s =>
    obtain ⟨h1, h2⟩ := h
    exact ⟨h1, TrM_cut h2⟩
  | ops obs all l K s =>
    obtain ⟨h1, h2⟩ := h
    exact ⟨h1, TrM_cut h2⟩
  | out obs m K s =>
    obtain ⟨h1, h2⟩ := h
    exact ⟨h1, TrM_cut h2⟩
theorem Good.mono (h : ∀ e s, Q e s → Q' e s) {r : Res} (g : Good x Q r) : Good x Q' r := by
  cases r with
  | fin obs e s => exact ⟨g.1, h _ _ g.2⟩
  | cond obs b c d K s => exact ⟨g.1, fun e => TrM_mono h (g.2.1 e), fun e => TrM_mono h (g.2.2 e)⟩
  | split obs b d all l K s => exact ⟨g.1, fun e => TrM_mono h (g.2.1 e), fun e => TrM_mono h (g.2.2 e)⟩
  | code obs c K s => exact ⟨g.1, TrM_mono h g.2⟩
  | ops obs all l K s => exact ⟨g.1, TrM_mono h g.2⟩
  | out obs m K s => exact ⟨g.1, TrM_mono h g.2⟩
/-- **A walk in two parts**: behind the first n things that are still to be done, the state is one of 'st'. -/
theorem g_mid (hL : LayOk x.P x.L) (n fuel : Nat) {Z : Type} (I : Z → Prop) (st : Z → St) {r : Res} {d : Code} {K2 : List Kf} (hK : r.restK n = .seq d :: K2)
    (h0 : Good x (thenS (fun s' => ∃ z, I z ∧ SubG x.kb (st z) s') (QK x K2 Q)) (r.cutK n)) (h1 : ∀ z, I z → Good x Q (run x fuel [] (.code d) K2 (st z))) : Good x Q r := by
  refine good_cut n ?_
  rw [hK]
  refine Good.mono (fun e s q => ?_) h0
  show thenS (fun s' => Tr x d (QK x K2 Q) s') (QK x K2 Q) e s
  cases e with
  | normal =>
    obtain ⟨z, hz, hs⟩ := q
    exact tr_toward (SubG_ok hs) (run_ok hL (h1 z hz)).2
  | _ => exact q
end
end Go.Proofs.Ytonjbhdfimcedaa
