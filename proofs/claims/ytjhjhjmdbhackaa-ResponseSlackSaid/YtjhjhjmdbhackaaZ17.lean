/- Walks over lists, seventeenth part: a drawn region whose head is chosen by hand. No condition on any program. -/
import Derived.Test.YtjhjhjmdbhackaaZ12
namespace Go.Proofs.Ytjhjhjmdbhackaa
set_option linter.unusedSimpArgs false
set_option linter.unusedSectionVars false
set_option linter.unusedVariables false
open Go.RowKit
/-- As k_draw, for a region of N operations of which the first n are its head. -/
theorem k_drawN {x : Cx} {Q : Exit → St → Prop} {s : St} (hm : x.P.follows .mixedOrders = true) {id : Nat} {l : List Oper} (N n : Nat) (L : List Nat) (_ : l.length = N) (hB : regionB .any l.toArray n L = true) (h : Dr x l n L s fun s' => Q .normal s') : Tr x (.region id l.toArray true) Q s :=
  ⟨fun hL V a w hr => by
    refine wp_region_M n L hm hB (er_stays (DK := DKof V s.mem) fun b L ⟨k, m, h1, h2, _⟩ => ?_) ?_
    · subst h2; exact hr.ents.lt k ⟨_, h1, trivial⟩
    · refine h.run.run hL w.drew _ _ V [] a rfl (fun tags' V' s' fs' a' hs hd hi w' hw' => hs.run hL _ V' a' w' (fun s'' V'' a'' w'' hq hr'' => ⟨s'', V'', hq, hr''⟩) (hi.rep (by rw [hd]; exact hw'))) ?_
      exact ⟨hr.defers, hr.size, hr.env, hr.envOk, hr.ents.memOk, hr.ents.heap rfl, hr.own, hr.pin, hr.d0, ⟨hr.frame.1, hr.frame.2.1, ⟨hr.frame.2.2.os, hr.frame.2.2.tape, hr.frame.2.2.output⟩⟩, fun k c hk => ⟨rfl, hk⟩, fun k c hk _ => hk, (fun k i hk => by cases hk), (fun i j a b hi => by cases hi)⟩⟩
end Go.Proofs.Ytjhjhjmdbhackaa
