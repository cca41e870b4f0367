/- Walks over lists, sixteenth part: from the contract of a law of plain values to its row. No condition on any program. -/
import Derived.Test.YtjhjhjmdbhackaaZ14
namespace Go.Proofs.Ytjhjhjmdbhackaa
set_option linter.unusedSimpArgs false
set_option linter.unusedSectionVars false
set_option linter.unusedVariables false
open Go.RowKit
/-- A law of plain values: its contract says what its row asks. -/
theorem law_of0 {P : Program} {g : Nat} {as : List SV} {vs : List Value} {w : World}
    (T : Trip P g as ⟨[], [], [], 0⟩ (Z := Unit) (fun _ => True) (fun _ => .bool true) (fun _ => ⟨[], [], [], 0⟩))
    (hvs : ∀ V, denL V as = vs) : Calls P g vs.toArray w fun e w' => e = .returned (.bool true) ∧ Below w.heap.size w w' := by
  have hT := T.runs ⟨fun _ => 0, fun _ => .slice none 0 0, fun _ => 0, fun _ => false, fun _ _ _ => .int .i64 0⟩ (fun _ => False) w
    ⟨⟨fun _ => rfl, fun _ _ _ => rfl⟩, fun k m hk => (by cases hk), fun k m hk => (by cases hk), fun k q hk => (by cases hk), fun k q hk => (by cases hk), fun i j hi => (by obtain ⟨m, hm, _⟩ := hi; cases hm), fun k hk => (by obtain ⟨m, hm, _⟩ := hk; cases hm)⟩
    (fun b hb => hb.elim) (fun k hk => (by obtain ⟨m, hm, _⟩ := hk; cases hm))
  rw [hvs] at hT
  refine hT.mono fun e w' ⟨z, V', _, he, _, _, _, hfr, _⟩ => ⟨he, hfr.2.2.os, hfr.2.2.tape, hfr.2.2.output, hfr.1, fun k hk => hfr.2.1 k hk ?_⟩
  rintro ⟨k, ⟨m, hm, _⟩, _⟩
  cases hm
end Go.Proofs.Ytjhjhjmdbhackaa
