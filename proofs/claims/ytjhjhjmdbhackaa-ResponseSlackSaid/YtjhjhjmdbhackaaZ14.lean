/- Walks over lists, fourteenth part: from a contract to a law. No condition on any program. -/
import Derived.Test.YtjhjhjmdbhackaaZ13
import Derived.WalkKit
import Derived.ProofKit
namespace Go.Proofs.Ytjhjhjmdbhackaa
set_option linter.unusedSimpArgs false
set_option linter.unusedSectionVars false
set_option linter.unusedVariables false
open Go.RowKit

/-- A row of integers reads as a list of them. -/
theorem slat_row {w : World} {D : Nat → Prop} {a : Option Addr} {len cap : Nat} {zs : List Int} (hD : ∀ b, ¬ D b)
    (h : (a = none ∧ len = 0 ∧ cap = 0 ∧ zs = []) ∨ ∃ x, a = some x ∧ len ≤ cap ∧ cap ≤ maxLen ∧ zs.length = cap ∧ (∀ i, i < zs.length → w.cell? (x.add i) = some (.int .i64 (zs.getD i 0))) ∧ ∀ n ∈ zs, (Lit.int .i64 n).wf = true) :
    (zs.take len).length = len ∧ len ≤ maxLen ∧ SlAt w D ((zs.take len).map encI) (.slice a len cap) (fun _ _ => .int .i64 0) := by
  rcases h with ⟨rfl, rfl, rfl, rfl⟩ | ⟨x, rfl, h1, h2, h3, h4, h5⟩
  · exact ⟨rfl, Nat.zero_le _, .inl ⟨rfl, _, _, rfl⟩⟩
  have hlen : (zs.take len).length = len := by rw [List.length_take]; omega
  refine ⟨hlen, Nat.le_trans h1 h2, ?_⟩
  by_cases h0 : len = 0
  · subst h0
    exact .inl ⟨by simp, _, _, rfl⟩
  have c0 := h4 0 (by omega)
  unfold World.cell? at c0
  rw [show x.add 0 = x from rfl] at c0
  obtain ⟨b, o, sp⟩ := x
  simp only at c0
  split at c0
  · rename_i cs t fz hb
    cases sp with
    | some s => simp at c0
    | none =>
      refine .inr ⟨1, b, o, cap, cs, t, fz, by rw [List.length_map, hlen], fun e => h0 (by rw [← hlen]; simpa using congrArg List.length e), by rw [List.length_map, hlen]; exact h1, fun i row hr => ?_, hD b, hb, fun i j row d hr hd => ?_, fun i j row d hr hd => ?_⟩
      · rw [List.getElem?_map, Option.map_eq_some_iff] at hr
        obtain ⟨n, _, rfl⟩ := hr
        rfl
      · rw [List.getElem?_map, Option.map_eq_some_iff] at hr
        obtain ⟨n, hn, rfl⟩ := hr
        have hi : i < len := by have := (List.getElem?_eq_some_iff.1 hn).1; omega
        cases j with
        | zero =>
          simp only [encI, List.getElem?_cons_zero, Option.some.injEq] at hd
          subst hd
          have ci := h4 i (by omega)
          rw [Addr.add_mid] at ci
          unfold World.cell? at ci
          simp only [hb] at ci
          rw [List.getElem?_take, if_pos hi] at hn
          have e : zs.getD i 0 = n := by simp [List.getD, hn]
          rw [e] at ci
          simpa [cellV] using ci
        | succ j => simp [encI] at hd
      · rw [List.getElem?_map, Option.map_eq_some_iff] at hr
        obtain ⟨n, hn, rfl⟩ := hr
        cases j with
        | zero =>
          simp only [encI, List.getElem?_cons_zero, Option.some.injEq] at hd
          subst hd
          exact .int _ _
        | succ j => simp [encI] at hd
  · cases c0

/-- A law of one list of numbers and plain values: its contract says what its row asks. -/
theorem law_of {P : Program} {g : Nat} {as : List SV} {vs : List Value} {a : Option Addr} {len cap : Nat} {zs : List Int} {w : World}
    (h : (a = none ∧ len = 0 ∧ cap = 0 ∧ zs = []) ∨ ∃ x, a = some x ∧ len ≤ cap ∧ cap ≤ maxLen ∧ zs.length = cap ∧ (∀ i, i < zs.length → w.cell? (x.add i) = some (.int .i64 (zs.getD i 0))) ∧ ∀ n ∈ zs, (Lit.int .i64 n).wf = true)
    (T : (zs.take len).length ≤ maxLen → Trip P g (.ro 0 :: as) ⟨[], [], [(0, ⟨false, (zs.take len).map encI⟩)], 1⟩ (Z := Unit) (fun _ => True) (fun _ => .bool true) (fun _ => ⟨[], [], [], 1⟩))
    (hvs : ∀ V, denL V as = vs) : Calls P g (.slice a len cap :: vs).toArray w fun e w' => e = .returned (.bool true) ∧ Below w.heap.size w w' := by
  obtain ⟨h1, h2, h3⟩ := slat_row (w := w) (D := fun b => Dl ⟨fun _ => 0, fun _ => .slice a len cap, fun _ => 0, fun _ => false, fun _ _ _ => .int .i64 0⟩ [] b ∨ (false = true ∧ False)) (fun b hb => by
    rcases hb with ⟨k, ⟨m, hm, _⟩, _⟩ | ⟨h, _⟩
    · cases hm
    · cases h) h
  have hT := (T (by omega)).runs ⟨fun _ => 0, fun _ => .slice a len cap, fun _ => 0, fun _ => false, fun _ _ _ => .int .i64 0⟩ (fun _ => False) w
    ⟨⟨fun _ => rfl, fun _ _ _ => rfl⟩, fun k m hk => (by cases hk), fun k m hk => (by cases hk), fun k q hk => ?_, fun k q hk => ?_, fun i j hi => (by obtain ⟨m, hm, _⟩ := hi; cases hm), fun k hk => (by obtain ⟨m, hm, _⟩ := hk; cases hm)⟩
    (fun b hb => hb.elim) (fun k hk => (by obtain ⟨m, hm, _⟩ := hk; cases hm))
  · rw [denL, hvs] at hT
    refine hT.mono fun e w' ⟨z, V', _, he, _, _, _, hfr, _⟩ => ⟨he, hfr.2.2.os, hfr.2.2.tape, hfr.2.2.output, hfr.1, fun k hk => hfr.2.1 k hk ?_⟩
    rintro ⟨k, ⟨m, hm, _⟩, _⟩
    cases hm
  · simp only [find_cons] at hk
    split at hk
    · cases hk; exact h3
    · cases hk
  · simp only [find_cons] at hk
    split at hk
    · rename_i e; subst e; exact Nat.zero_lt_one
    · cases hk
end Go.Proofs.Ytjhjhjmdbhackaa
