/- The data of this seat's lists: element types, their cells. No condition. -/
import Derived.Test.YtjhjhjmdbhackaaRegion
namespace Go.Proofs.Ytjhjhjmdbhackaa
set_option linter.unusedSimpArgs false
set_option linter.unusedSectionVars false
set_option linter.unusedVariables false
open Go.RowKit

structure Hold where
  res : Int
  cost : Int
instance : Inhabited Hold := ⟨⟨0, 0⟩⟩
structure Job where
  pd : Int
  dl : Int
  ji : Int
  pr : Int
  co : Int
  se : List Hold
  ev : Int
instance : Inhabited Job := ⟨⟨0, 0, 0, 0, 0, [], 0⟩⟩
structure Dist where
  tm : Int
  kind : Int
  data : Bool
  set : Int
  place : Int
instance : Inhabited Dist := ⟨⟨0, 0, false, 0, 0⟩⟩
structure Answer where
  bl : Int
  re : Int
instance : Inhabited Answer := ⟨⟨0, 0⟩⟩
structure Release where
  un : Int
  tm : Int
  inp : List Int
instance : Inhabited Release := ⟨⟨0, 0, []⟩⟩
structure Part where
  kind : Int
  dist : Int
  many : Int
  cost : Int
instance : Inhabited Part := ⟨⟨0, 0, 0, 0⟩⟩
inductive Ty where
  | int
  | bool
  | ints
  | hold
  | job
  | dist
  | answer
  | release
  | part
@[reducible] def El : Ty → Type
  | .int => Int
  | .bool => Bool
  | .ints => List Int
  | .hold => Hold
  | .job => Job
  | .dist => Dist
  | .answer => Answer
  | .release => Release
  | .part => Part
def dflt : (c : Ty) → El c
  | .int => (0 : Int)
  | .bool => false
  | .ints => ([] : List Int)
  | .hold => (default : Hold)
  | .job => (default : Job)
  | .dist => (default : Dist)
  | .answer => (default : Answer)
  | .release => (default : Release)
  | .part => (default : Part)
/-- A cell of a list's row. -/
inductive TC where
  | int (k : IntKind) (n : Int)
  | bool (b : Bool)
  | str (s : ByteArray)
  | sl (c : Ty) (l : List (El c))
def Ty.eq? (a b : Ty) : Option (PLift (a = b)) :=
  match a, b with
  | .int, .int => some ⟨rfl⟩
  | .bool, .bool => some ⟨rfl⟩
  | .ints, .ints => some ⟨rfl⟩
  | .hold, .hold => some ⟨rfl⟩
  | .job, .job => some ⟨rfl⟩
  | .dist, .dist => some ⟨rfl⟩
  | .answer, .answer => some ⟨rfl⟩
  | .release, .release => some ⟨rfl⟩
  | .part, .part => some ⟨rfl⟩
  | _, _ => none
def castL {c c' : Ty} (l : List (El c)) : Option (List (El c')) :=
  match c, c', l with
  | .int, .int, l => some l
  | .bool, .bool, l => some l
  | .ints, .ints, l => some l
  | .hold, .hold, l => some l
  | .job, .job, l => some l
  | .dist, .dist, l => some l
  | .answer, .answer, l => some l
  | .release, .release, l => some l
  | .part, .part, l => some l
  | _, _, _ => none
theorem castL_eq {c c' : Ty} {l : List (El c)} {l' : List (El c')} (h : castL l = some l') : (⟨c, l⟩ : (c : Ty) × List (El c)) = ⟨c', l'⟩ := by
  unfold castL at h
  split at h <;> first | (cases h; done) | (cases h; rfl)
/-- The cells of a row. -/
def tcells : (c : Ty) → El c → List TC
  | .int, (x : Int) => [.int .i64 x]
  | .bool, (x : Bool) => [.bool x]
  | .ints, (x : List Int) => [.sl .int x]
  | .hold, (x : Hold) => [.int .i64 x.res, .int .i64 x.cost]
  | .job, (x : Job) => [.int .i64 x.pd, .int .i64 x.dl, .int .i64 x.ji, .int .i64 x.pr, .int .i64 x.co, .sl .hold x.se, .int .i64 x.ev]
  | .dist, (x : Dist) => [.int .i64 x.tm, .int .i64 x.kind, .bool x.data, .int .i64 x.set, .int .i64 x.place]
  | .answer, (x : Answer) => [.int .i64 x.bl, .int .i64 x.re]
  | .release, (x : Release) => [.int .i64 x.un, .int .i64 x.tm, .sl .int x.inp]
  | .part, (x : Part) => [.int .i64 x.kind, .int .i64 x.dist, .int .i64 x.many, .int .i64 x.cost]
/-- The row of some cells. -/
def mkc : (c : Ty) → List TC → Option (El c)
  | .int, [.int .i64 v0] => some v0
  | .bool, [.bool v0] => some v0
  | .ints, [.sl .int v0] => some v0
  | .hold, [.int .i64 v0, .int .i64 v1] => some (⟨v0, v1⟩ : Hold)
  | .job, [.int .i64 v0, .int .i64 v1, .int .i64 v2, .int .i64 v3, .int .i64 v4, .sl .hold v5, .int .i64 v6] => some (⟨v0, v1, v2, v3, v4, v5, v6⟩ : Job)
  | .dist, [.int .i64 v0, .int .i64 v1, .bool v2, .int .i64 v3, .int .i64 v4] => some (⟨v0, v1, v2, v3, v4⟩ : Dist)
  | .answer, [.int .i64 v0, .int .i64 v1] => some (⟨v0, v1⟩ : Answer)
  | .release, [.int .i64 v0, .int .i64 v1, .sl .int v2] => some (⟨v0, v1, v2⟩ : Release)
  | .part, [.int .i64 v0, .int .i64 v1, .int .i64 v2, .int .i64 v3] => some (⟨v0, v1, v2, v3⟩ : Part)
  | _, _ => none
def wid : Ty → Nat
  | .int => 1
  | .bool => 1
  | .ints => 1
  | .hold => 2
  | .job => 7
  | .dist => 5
  | .answer => 2
  | .release => 3
  | .part => 4
theorem tcells_len : ∀ (c : Ty) (x : El c), (tcells c x).length = wid c
  | .int, _ => rfl
  | .bool, _ => rfl
  | .ints, _ => rfl
  | .hold, _ => rfl
  | .job, _ => rfl
  | .dist, _ => rfl
  | .answer, _ => rfl
  | .release, _ => rfl
  | .part, _ => rfl
theorem wid_pos : ∀ (c : Ty), 0 < wid c
  | .int => by decide
  | .bool => by decide
  | .ints => by decide
  | .hold => by decide
  | .job => by decide
  | .dist => by decide
  | .answer => by decide
  | .release => by decide
  | .part => by decide
theorem mkc_cells {c : Ty} {l : List TC} {x : El c} (h : mkc c l = some x) : tcells c x = l := by
  unfold mkc at h
  split at h <;> first | (cases h; done) | (cases h; rfl)
/-- What the cells of a row hold. -/
inductive CKd where
  | int (k : IntKind)
  | bool
  | str
  | sl (c : Ty)
def cks : Ty → List CKd
  | .int => [.int .i64]
  | .bool => [.bool]
  | .ints => [.sl .int]
  | .hold => [.int .i64, .int .i64]
  | .job => [.int .i64, .int .i64, .int .i64, .int .i64, .int .i64, .sl .hold, .int .i64]
  | .dist => [.int .i64, .int .i64, .bool, .int .i64, .int .i64]
  | .answer => [.int .i64, .int .i64]
  | .release => [.int .i64, .int .i64, .sl .int]
  | .part => [.int .i64, .int .i64, .int .i64, .int .i64]
def ckOf : TC → CKd
  | .int k _ => .int k
  | .bool _ => .bool
  | .str _ => .str
  | .sl c _ => .sl c
theorem tcells_ck : ∀ (c : Ty) (x : El c), (tcells c x).map ckOf = cks c
  | .int, _ => rfl
  | .bool, _ => rfl
  | .ints, _ => rfl
  | .hold, _ => rfl
  | .job, _ => rfl
  | .dist, _ => rfl
  | .answer, _ => rfl
  | .release, _ => rfl
  | .part, _ => rfl
/-- What is at a place; the default behind the end. -/
def gt {c : Ty} (l : List (El c)) (i : Nat) : El c := l.getD i (dflt c)
theorem gt_eq {c : Ty} {l : List (El c)} {i : Nat} {x : El c} (h : l[i]? = some x) : gt l i = x := by unfold gt; rw [List.getD_eq_getElem?_getD, h]; rfl
theorem gt_at {c : Ty} {l : List (El c)} {i : Nat} (h : i < l.length) : l[i]? = some (gt l i) := by rw [gt_eq (List.getElem?_eq_getElem h)]; exact List.getElem?_eq_getElem h
end Go.Proofs.Ytjhjhjmdbhackaa
