/- Small tools for all walks of this seat: a class of worlds behind a world, by which a region that draws its order is walked once in the order of the text. No condition. -/
import Derived.WalkKit
import Derived.WalkSpells
import Derived.WalkLawsBesides
import Derived.RowKit3
import Derived.Laws.EntriesVeiled
import Derived.Deep.QuietTactic
import Derived.BigQuiet
import Derived.Lib.Hide
namespace Go.Proofs.Ytonjbhdfimcedaa
open Go.RowKit

theorem grown_trans {a b c : World} (h : Grown a b) (g : Grown b c) : Grown a c :=
  ⟨World.keptBut_trans h.1 g.1, fun x => (g.2.1 x).trans (h.2.1 x), Nat.le_trans h.2.2 g.2.2⟩
theorem grown_of_eq {a b : World} (h : a = b) : Grown a b := h ▸ Grown.refl a

theorem cell_after {W w' : World} (hg : Grown W w') {b o : Nat} {v : Value} (h : W.cell? ⟨b, o, none⟩ = some v) : w'.cell? ⟨b, o, none⟩ = some v :=
  (hg.1.cell (World.block_lt_of_cell? W _ h) (fun f => f)).trans h
theorem froz_after {W w' : World} (hg : Grown W w') {a : Addr} (h : W.frozen? a = false) : w'.frozen? a = false := (hg.2.1 a).trans h
/-- A world behind 'w': new blocks alone. -/
structure After (w : World) where
  now : World
  grown : Grown w now
instance (w : World) : Nonempty (After w) := ⟨⟨w, Grown.refl w⟩⟩

theorem grown_cells {w w' : World} (h : Grown w w') : ∀ b o, b < w.heap.size → w'.cell? ⟨b, o, none⟩ = w.cell? ⟨b, o, none⟩ :=
  fun _ _ hb => h.1.cell hb (fun f => f)
theorem grown_froz {w w' : World} (h : Grown w w') : ∀ a, w'.frozen? a = w.frozen? a := h.2.1
theorem grown_size {w w' : World} (h : Grown w w') : w.heap.size ≤ w'.heap.size := h.2.2
@[go_sem] theorem After.cell {w : World} (n : After w) (b o : Nat) (hb : b < w.heap.size) : n.now.cell? ⟨b, o, none⟩ = w.cell? ⟨b, o, none⟩ := grown_cells n.grown b o hb
@[go_sem] theorem After.froz {w : World} (n : After w) (a : Addr) : n.now.frozen? a = w.frozen? a := n.grown.2.1 a
theorem After.size {w : World} (n : After w) : w.heap.size ≤ n.now.heap.size := n.grown.2.2

theorem quiet_grown {P : Program} {f : FuncId} {args : Array Value} {w : World} {n : After w} {v : Value}
    (h : Calls P f args n.now fun e w'' => e = .returned v ∧ Grown n.now w'') : Calls P f args n.now fun e w'' => e = .returned v ∧ ∃ m : After w, w'' = m.now :=
  h.mono fun _ w'' ⟨he, hm⟩ => ⟨he, ⟨w'', grown_trans n.grown hm⟩, rfl⟩
theorem quiet_same {P : Program} {f : FuncId} {args : Array Value} {w : World} {n : After w} {v : Value}
    (h : Calls P f args n.now fun e w'' => e = .returned v ∧ n.now = w'') : Calls P f args n.now fun e w'' => e = .returned v ∧ ∃ m : After w, w'' = m.now :=
  h.mono fun _ _ ⟨he, hm⟩ => ⟨he, n, hm.symm⟩

/-- A region that draws its order, walked once, over the class 'behind w'. -/
theorem region_after {P : Program} {id : Nat} {Q : Exit → Act → World → Prop} {a : Act} {w : World} {l : List Oper} (hm : P.follows .mixedOrders = true) (hB : Region.lexB .any l.toArray = true)
    (h : wpQuiet P l.toArray (fun w' => ∃ n : After w, w' = n.now) (fun a' => ∀ w', (∃ n : After w, w' = n.now) → Q .normal a' w') l a) : (Code.region id l.toArray true).wp P Q a w :=
  wp_region_quiet (C := fun w' => ∃ n : After w, w' = n.now) hm hB ⟨⟨_, Grown.drew (Grown.refl w)⟩, rfl⟩ (by simpa using h)
end Go.Proofs.Ytonjbhdfimcedaa
