/- The data of this seat's lists: element types, their cells. No condition. -/
import Derived.Test.YtkageldgmkajbaaRegion
namespace Go.Proofs.Ytkageldgmkajbaa
set_option linter.unusedSimpArgs false
set_option linter.unusedSectionVars false
set_option linter.unusedVariables false
open Go.RowKit

structure Term where
  of_ : Int
  co : Int
instance : Inhabited Term := ⟨⟨0, 0⟩⟩
structure Row where
  te : List Term
  mo : Int
instance : Inhabited Row := ⟨⟨[], 0⟩⟩
inductive Ty where
  | int
  | bool
  | ints
  | term
  | row
@[reducible] def El : Ty → Type
  | .int => Int
  | .bool => Bool
  | .ints => List Int
  | .term => Term
  | .row => Row
def dflt : (c : Ty) → El c
  | .int => (0 : Int)
  | .bool => false
  | .ints => ([] : List Int)
  | .term => (default : Term)
  | .row => (default : Row)
/-- A cell of a list's row. -/
inductive TC where
  | int (k : IntKind) (n : Int)
  | bool (b : Bool)
  | str (s : ByteArray)
  | sl (c : Ty) (l : List (El c))
def Ty.eq? (a b : Ty) : Option (PLift (a = b)) :=
  match a, b with
  | .int, .int => some ⟨rfl⟩
  | .bool, .bool => some ⟨rfl⟩
  | .ints, .ints => some ⟨rfl⟩
  | .term, .term => some ⟨rfl⟩
  | .row, .row => some ⟨rfl⟩
  | _, _ => none
def castL {c c' : Ty} (l : List (El c)) : Option (List (El c')) :=
  match c, c', l with
  | .int, .int, l => some l
  | .bool, .bool, l => some l
  | .ints, .ints, l => some l
  | .term, .term, l => some l
  | .row, .row, l => some l
  | _, _, _ => none
theorem castL_eq {c c' : Ty} {l : List (El c)} {l' : List (El c')} (h : castL l = some l') : (⟨c, l⟩ : (c : Ty) × List (El c)) = ⟨c', l'⟩ := by
  unfold castL at h
  split at h <;> first | (cases h; done) | (cases h; rfl)
/-- The cells of a row. -/
def tcells : (c : Ty) → El c → List TC
  | .int, (x : Int) => [.int .i64 x]
  | .bool, (x : Bool) => [.bool x]
  | .ints, (x : List Int) => [.sl .int x]
  | .term, (x : Term) => [.int .i64 x.of_, .int .i64 x.co]
  | .row, (x : Row) => [.sl .term x.te, .int .i64 x.mo]
/-- The row of some cells. -/
def mkc : (c : Ty) → List TC → Option (El c)
  | .int, [.int .i64 v0] => some v0
  | .bool, [.bool v0] => some v0
  | .ints, [.sl .int v0] => some v0
  | .term, [.int .i64 v0, .int .i64 v1] => some (⟨v0, v1⟩ : Term)
  | .row, [.sl .term v0, .int .i64 v1] => some (⟨v0, v1⟩ : Row)
  | _, _ => none
def wid : Ty → Nat
  | .int => 1
  | .bool => 1
  | .ints => 1
  | .term => 2
  | .row => 2
theorem tcells_len : ∀ (c : Ty) (x : El c), (tcells c x).length = wid c
  | .int, _ => rfl
  | .bool, _ => rfl
  | .ints, _ => rfl
  | .term, _ => rfl
  | .row, _ => rfl
theorem wid_pos : ∀ (c : Ty), 0 < wid c
  | .int => by decide
  | .bool => by decide
  | .ints => by decide
  | .term => by decide
  | .row => by decide
theorem mkc_cells {c : Ty} {l : List TC} {x : El c} (h : mkc c l = some x) : tcells c x = l := by
  unfold mkc at h
  split at h <;> first | (cases h; done) | (cases h; rfl)
/-- What the cells of a row hold. -/
inductive CKd where
  | int (k : IntKind)
  | bool
  | str
  | sl (c : Ty)
def cks : Ty → List CKd
  | .int => [.int .i64]
  | .bool => [.bool]
  | .ints => [.sl .int]
  | .term => [.int .i64, .int .i64]
  | .row => [.sl .term, .int .i64]
def ckOf : TC → CKd
  | .int k _ => .int k
  | .bool _ => .bool
  | .str _ => .str
  | .sl c _ => .sl c
theorem tcells_ck : ∀ (c : Ty) (x : El c), (tcells c x).map ckOf = cks c
  | .int, _ => rfl
  | .bool, _ => rfl
  | .ints, _ => rfl
  | .term, _ => rfl
  | .row, _ => rfl
/-- What is at a place; the default behind the end. -/
def gt {c : Ty} (l : List (El c)) (i : Nat) : El c := l.getD i (dflt c)
theorem gt_eq {c : Ty} {l : List (El c)} {i : Nat} {x : El c} (h : l[i]? = some x) : gt l i = x := by unfold gt; rw [List.getD_eq_getElem?_getD, h]; rfl
theorem gt_at {c : Ty} {l : List (El c)} {i : Nat} (h : i < l.length) : l[i]? = some (gt l i) := by rw [gt_eq (List.getElem?_eq_getElem h)]; exact List.getElem?_eq_getElem h
end Go.Proofs.Ytkageldgmkajbaa
