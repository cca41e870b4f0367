/- The data of this seat's lists: element types, their cells. No condition. -/
import Derived.Test.YtonjbhdfimcedaaRegion
namespace Go.Proofs.Ytonjbhdfimcedaa
set_option linter.unusedSimpArgs false
set_option linter.unusedSectionVars false
set_option linter.unusedVariables false
open Go.RowKit

structure Op_ where
  kind : Int
  dst : Int
  a : Int
  b : Int
  imm : Int
instance : Inhabited Op_ := ⟨⟨0, 0, 0, 0, 0⟩⟩
structure Blk where
  ops : List Op_
  cond : Int
  next : List Int
instance : Inhabited Blk := ⟨⟨[], 0, []⟩⟩
structure Inp where
  name : ByteArray
  lo : Int
  hi : Int
instance : Inhabited Inp := ⟨⟨⟨#[]⟩, 0, 0⟩⟩
structure Arr where
  name : ByteArray
  size : Int
instance : Inhabited Arr := ⟨⟨⟨#[]⟩, 0⟩⟩
structure Hd_ where
  block : Int
  max : Int
instance : Inhabited Hd_ := ⟨⟨0, 0⟩⟩
inductive Ty where
  | int
  | bool
  | u8
  | ints
  | bools
  | op
  | block
  | input
  | array
  | head
@[reducible] def El : Ty → Type
  | .int => Int
  | .bool => Bool
  | .u8 => Int
  | .ints => List Int
  | .bools => List Bool
  | .op => Op_
  | .block => Blk
  | .input => Inp
  | .array => Arr
  | .head => Hd_
def dflt : (c : Ty) → El c
  | .int => (0 : Int)
  | .bool => false
  | .u8 => (0 : Int)
  | .ints => ([] : List Int)
  | .bools => ([] : List Bool)
  | .op => (default : Op_)
  | .block => (default : Blk)
  | .input => (default : Inp)
  | .array => (default : Arr)
  | .head => (default : Hd_)
/-- A cell of a list's row. -/
inductive TC where
  | int (k : IntKind) (n : Int)
  | bool (b : Bool)
  | str (s : ByteArray)
  | sl (c : Ty) (l : List (El c))
def Ty.eq? (a b : Ty) : Option (PLift (a = b)) :=
  match a, b with
  | .int, .int => some ⟨rfl⟩
  | .bool, .bool => some ⟨rfl⟩
  | .u8, .u8 => some ⟨rfl⟩
  | .ints, .ints => some ⟨rfl⟩
  | .bools, .bools => some ⟨rfl⟩
  | .op, .op => some ⟨rfl⟩
  | .block, .block => some ⟨rfl⟩
  | .input, .input => some ⟨rfl⟩
  | .array, .array => some ⟨rfl⟩
  | .head, .head => some ⟨rfl⟩
  | _, _ => none
def castL {c c' : Ty} (l : List (El c)) : Option (List (El c')) :=
  match c, c', l with
  | .int, .int, l => some l
  | .bool, .bool, l => some l
  | .u8, .u8, l => some l
  | .ints, .ints, l => some l
  | .bools, .bools, l => some l
  | .op, .op, l => some l
  | .block, .block, l => some l
  | .input, .input, l => some l
  | .array, .array, l => some l
  | .head, .head, l => some l
  | _, _, _ => none
theorem castL_eq {c c' : Ty} {l : List (El c)} {l' : List (El c')} (h : castL l = some l') : (⟨c, l⟩ : (c : Ty) × List (El c)) = ⟨c', l'⟩ := by
  unfold castL at h
  split at h <;> first | (cases h; done) | (cases h; rfl)
/-- The cells of a row. -/
def tcells : (c : Ty) → El c → List TC
  | .int, (x : Int) => [.int .i64 x]
  | .bool, (x : Bool) => [.bool x]
  | .u8, (x : Int) => [.int .u8 x]
  | .ints, (x : List Int) => [.sl .int x]
  | .bools, (x : List Bool) => [.sl .bool x]
  | .op, (x : Op_) => [.int .i64 x.kind, .int .i64 x.dst, .int .i64 x.a, .int .i64 x.b, .int .i64 x.imm]
  | .block, (x : Blk) => [.sl .op x.ops, .int .i64 x.cond, .sl .int x.next]
  | .input, (x : Inp) => [.str x.name, .int .i64 x.lo, .int .i64 x.hi]
  | .array, (x : Arr) => [.str x.name, .int .i64 x.size]
  | .head, (x : Hd_) => [.int .i64 x.block, .int .i64 x.max]
/-- The row of some cells. -/
def mkc : (c : Ty) → List TC → Option (El c)
  | .int, [.int .i64 v0] => some v0
  | .bool, [.bool v0] => some v0
  | .u8, [.int .u8 v0] => some v0
  | .ints, [.sl .int v0] => some v0
  | .bools, [.sl .bool v0] => some v0
  | .op, [.int .i64 v0, .int .i64 v1, .int .i64 v2, .int .i64 v3, .int .i64 v4] => some (⟨v0, v1, v2, v3, v4⟩ : Op_)
  | .block, [.sl .op v0, .int .i64 v1, .sl .int v2] => some (⟨v0, v1, v2⟩ : Blk)
  | .input, [.str v0, .int .i64 v1, .int .i64 v2] => some (⟨v0, v1, v2⟩ : Inp)
  | .array, [.str v0, .int .i64 v1] => some (⟨v0, v1⟩ : Arr)
  | .head, [.int .i64 v0, .int .i64 v1] => some (⟨v0, v1⟩ : Hd_)
  | _, _ => none
def wid : Ty → Nat
  | .int => 1
  | .bool => 1
  | .u8 => 1
  | .ints => 1
  | .bools => 1
  | .op => 5
  | .block => 3
  | .input => 3
  | .array => 2
  | .head => 2
theorem tcells_len : ∀ (c : Ty) (x : El c), (tcells c x).length = wid c
  | .int, _ => rfl
  | .bool, _ => rfl
  | .u8, _ => rfl
  | .ints, _ => rfl
  | .bools, _ => rfl
  | .op, _ => rfl
  | .block, _ => rfl
  | .input, _ => rfl
  | .array, _ => rfl
  | .head, _ => rfl
theorem wid_pos : ∀ (c : Ty), 0 < wid c
  | .int => by decide
  | .bool => by decide
  | .u8 => by decide
  | .ints => by decide
  | .bools => by decide
  | .op => by decide
  | .block => by decide
  | .input => by decide
  | .array => by decide
  | .head => by decide
theorem mkc_cells {c : Ty} {l : List TC} {x : El c} (h : mkc c l = some x) : tcells c x = l := by
  unfold mkc at h
  split at h <;> first | (cases h; done) | (cases h; rfl)
/-- What the cells of a row hold. -/
inductive CKd where
  | int (k : IntKind)
  | bool
  | str
  | sl (c : Ty)
def cks : Ty → List CKd
  | .int => [.int .i64]
  | .bool => [.bool]
  | .u8 => [.int .u8]
  | .ints => [.sl .int]
  | .bools => [.sl .bool]
  | .op => [.int .i64, .int .i64, .int .i64, .int .i64, .int .i64]
  | .block => [.sl .op, .int .i64, .sl .int]
  | .input => [.str, .int .i64, .int .i64]
  | .array => [.str, .int .i64]
  | .head => [.int .i64, .int .i64]
def ckOf : TC → CKd
  | .int k _ => .int k
  | .bool _ => .bool
  | .str _ => .str
  | .sl c _ => .sl c
theorem tcells_ck : ∀ (c : Ty) (x : El c), (tcells c x).map ckOf = cks c
  | .int, _ => rfl
  | .bool, _ => rfl
  | .u8, _ => rfl
  | .ints, _ => rfl
  | .bools, _ => rfl
  | .op, _ => rfl
  | .block, _ => rfl
  | .input, _ => rfl
  | .array, _ => rfl
  | .head, _ => rfl
/-- What is at a place; the default behind the end. -/
def gt {c : Ty} (l : List (El c)) (i : Nat) : El c := l.getD i (dflt c)
theorem gt_eq {c : Ty} {l : List (El c)} {i : Nat} {x : El c} (h : l[i]? = some x) : gt l i = x := by unfold gt; rw [List.getD_eq_getElem?_getD, h]; rfl
theorem gt_at {c : Ty} {l : List (El c)} {i : Nat} (h : i < l.length) : l[i]? = some (gt l i) := by rw [gt_eq (List.getElem?_eq_getElem h)]; exact List.getElem?_eq_getElem h
end Go.Proofs.Ytonjbhdfimcedaa
