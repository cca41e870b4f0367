/- Symbolic walks, fourth part: the evaluator of single operations, and why it is right. No condition on any program. -/
import Derived.Test.YtbcoanbjhbppcaaSym3
namespace Go.Proofs.Ytbcoanbjhbppcaa
set_option linter.unusedVariables false
open Go.RowKit

def CellsAt (w0 : World) (a : Addr) : Nat → List Value → Prop
  | _, [] => True
  | i, v :: r => w0.cell? (a.add i) = some v ∧ CellsAt w0 a (i + 1) r
def evBin (P : Program) (op : BinOp) (t : TypeId) (x y : SV) (K : SV → Prop) : Prop :=
  match x, y with
  | .int k a, .int k' b => evInt op k a k' b K
  | .bool a, .bool b => evB a b
  | .tf a, .bool b => evB a b
  | .bool a, .tf b => evB a b
  | .tf a, .tf b => evB a b
  | .agg l, .agg m => okL 0 l = true ∧ okL 0 m = true ∧ ∃ b : Bool, (∀ x y w, (do eqGuard op t x y (.agg (denL id l).toArray) (.agg (denL id m).toArray); binOp op t (.agg (denL id l).toArray) (.agg (denL id m).toArray) : Sem Value).run P w = .ok (.bool b) w) ∧ K (.bool b)
  | .val u, .val v => ∃ b : Value, (∀ x y w, (do eqGuard op t x y u v; binOp op t u v : Sem Value).run P w = .ok b w) ∧ K (inj1 b)
  | .slc _ _ _ _, .val v => ∃ b : Bool, (∀ a n c x y w, (do eqGuard op t x y (.slice (some a) n c) v; binOp op t (.slice (some a) n c) v : Sem Value).run P w = .ok (.bool b) w) ∧ K (.tf b)
  | _, _ => False
where evB (a b : Bool) : Prop :=
  match op with
  | .eql => P.underlying t = some .bool ∧ K (.bool (a == b))
  | .neq => P.underlying t = some .bool ∧ K (.bool (a != b))
  | _ => False
def evUn (op : UnOp) (x : SV) (K : SV → Prop) : Prop :=
  match op, x with
  | .not, .bool b => K (.bool (!b))
  | .not, .tf b => K (.tf (!b))
  | .neg, .int k n => ∃ c, k.wrap (0 - n) = c ∧ K (.int k c)
  | .xor, .int k n => ∃ c, bitI .xor k (if k.signed then -1 else k.max) n = c ∧ K (.int k c)
  | _, _ => False
def minS : Int → IntKind → List SV → Option Int
  | a, _, [] => some a
  | a, k, .int k' b :: l => match decide (k = k') with
    | true => minS (imin a b) k l
    | false => none
  | _, _, _ => none
def maxS : Int → IntKind → List SV → Option Int
  | a, _, [] => some a
  | a, k, .int k' b :: l => match decide (k = k') with
    | true => maxS (imax a b) k l
    | false => none
  | _, _, _ => none
def argsS (s : St) : List Operand → Option (List SV)
  | [] => some []
  | x :: l => match s.get x, argsS s l with
    | some v, some r => some (v :: r)
    | _, _ => none
def evLen (L : Lay) (t : Option Nat) (x : SV) (K : SV → Prop) : Prop :=
  match t.bind (find L), x with
  | some ti, .slc _ _ n _ => match ti.td with
    | .slice _ _ _ => K (.int .i64 n)
    | _ => False
  | some ti, .val (.slice _ n _) => match ti.td with
    | .slice _ _ _ => K (.int .i64 n)
    | _ => False
  | _, _ => False
def evCap (L : Lay) (t : Option Nat) (x : SV) (K : SV → Prop) : Prop :=
  match t.bind (find L), x with
  | some ti, .slc _ _ _ n => match ti.td with
    | .slice _ _ _ => K (.int .i64 n)
    | _ => False
  | some ti, .val (.slice _ _ n) => match ti.td with
    | .slice _ _ _ => K (.int .i64 n)
    | _ => False
  | _, _ => False
def evBuiltin (L : Lay) (s : St) (b : Builtin) (args : Array Operand) (ts : Array TypeId) (K : SV → Prop) : Prop :=
  match b, argsS s args.toList with
  | .len, some [x] => evLen L ts[0]? x K
  | .cap, some [x] => evCap L ts[0]? x K
  | .min, some (.int k a :: l) => match minS a k l with
    | some c => K (.int k c)
    | none => False
  | .max, some (.int k a :: l) => match maxS a k l with
    | some c => K (.int k c)
    | none => False
  | _, _ => False
def evLoad (L : Lay) (D : Nat → Prop) (w0 : World) (s : St) (t : TypeId) (p : SV) (K : SV → Prop) : Prop :=
  match p, find L t with
  | .ptr k o, some ti => match find s.mem k with
    | some c => match ti.td.agg with
      | true => match takeC (dropC c o) ti.zs.length with
        | some l => K (.agg l)
        | none => False
      | false => on (nthC c o) K
    | none => False
  | .val (.pointer (some a)), some ti => match ti.td.agg with
    | true => ∃ vs, CellsAt w0 a 0 vs ∧ vs.length = ti.zs.length ∧ ¬ D a.block ∧ a.block < w0.heap.size ∧ K (.agg (vs.map inj1))
    | false => ∃ v, w0.cell? a = some v ∧ ¬ D a.block ∧ K (inj1 v)
  | _, _ => False
def evField (fs : List FI) (l : List SV) (i : Nat) (K : SV → Prop) : Prop :=
  match fs[i]? with
  | some f => match f.agg with
    | true => match takeC (dropC l f.off) f.size with
      | some q => K (.agg q)
      | none => False
    | false => on (nthC l f.off) K
  | none => False
def evIndexAddr (L : Lay) (t : TypeId) (x : SV) (i : Int) (K : SV → Prop) : Prop :=
  match find L t with
  | some ti => match ti.td, x with
    | .array n es _, .ptr k o => (0 ≤ i ∧ i < (n : Int)) ∧ K (.ptr k (o + i.toNat * es))
    | .slice _ es _, .slc k o n _ => (0 ≤ i ∧ i < (n : Int)) ∧ K (.ptr k (o + i.toNat * es))
    | .slice _ es _, .val (.slice (some a) n _) => (0 ≤ i ∧ i < (n : Int)) ∧ a.spot = none ∧ K (.val (.pointer (some ⟨a.block, a.off + i.toNat * es, none⟩)))
    | .array n es _, .val (.pointer (some a)) => (0 ≤ i ∧ i < (n : Int)) ∧ a.spot = none ∧ K (.val (.pointer (some ⟨a.block, a.off + i.toNat * es, none⟩)))
    | _, _ => False
  | none => False
/-- What an operation yields (it makes no memory and enters no function): K holds of it. -/
def ev (P : Program) (L : Lay) (D : Nat → Prop) (w0 : World) (s : St) (K : SV → Prop) : Op → Prop
  | .move x => on (s.get x) K
  | .assign x => on (s.get x) K
  | .pick c a b => on (s.get c) fun v => match v with
    | .tf true => on (s.get a) K
    | .tf false => on (s.get b) K
    | _ => False
  | .build t parts => match find L t with
    | some ti => match partsS s parts.toList with
      | some q => match ti.td with
        | .struct fs => match fillS (placeS fs) ti.zs q with
          | some l => K (.agg l)
          | none => False
        | .array _ es _ => match fillS (fun i => some (i * es, es)) ti.zs q with
          | some l => K (.agg l)
          | none => False
        | _ => False
      | none => False
    | none => False
  | .load t x => on (s.get x) fun p => evLoad L D w0 s t p K
  | .binOp op t x y _ => on (s.get x) fun a => on (s.get y) fun b => evBin P op t a b K
  | .unOp op _ x => on (s.get x) fun a => evUn op a K
  | .convert src dst x => match find L src, find L dst with
    | some _, some td => match td.td with
      | .int k => on (s.get x) fun a => match a with
        | .int _ n => ∃ c, k.wrap n = c ∧ K (.int k c)
        | _ => False
      | _ => False
    | _, _ => False
  | .field t x i => match find L t with
    | some ti => match ti.td with
      | .struct fs => on (s.get x) fun a => match a with
        | .agg l => evField fs l i K
        | _ => False
      | _ => False
    | none => False
  | .fieldAddr t x i => match find L t with
    | some ti => match ti.td with
      | .struct fs => match fs[i]? with
        | some f => on (s.get x) fun a => match a with
          | .ptr k o => K (.ptr k (o + f.off))
          | .val (.pointer (some b)) => b.spot = none ∧ K (.val (.pointer (some ⟨b.block, b.off + f.off, none⟩)))
          | _ => False
        | none => False
      | _ => False
    | none => False
  | .indexAddr t x i => on (s.get i) fun j => match j with
    | .int _ n => on (s.get x) fun a => evIndexAddr L t a n K
    | _ => False
  | .index t x i => on (s.get i) fun j => match j with
    | .int _ n => match find L t with
      | some ti => match ti.td with
        | .array len es ea => on (s.get x) fun a => match a with
          | .agg l => (0 ≤ n ∧ n < (len : Int)) ∧ (match ea with
            | true => match takeC (dropC l (n.toNat * es)) es with
              | some q => K (.agg q)
              | none => False
            | false => on (nthC l (n.toNat * es)) K)
          | _ => False
        | _ => False
      | none => False
    | _ => False
  | .extract x i => on (s.get x) fun a => match a with
    | .tup l => on (nthC l i) K
    | _ => False
  | .nilCheck x => on (s.get x) fun a => match a with
    | .ptr k o => K (.ptr k o)
    | .clo f l => K (.clo f l)
    | .val (.pointer (some b)) => K (.val (.pointer (some b)))
    | _ => False
  | .makeFunc fn first caps => match fn, first.toList, argsS s caps.toList with
    | .func f, [], some l => K (.clo f l)
    | _, _, _ => False
  | .call c => match c.callee with
    | .builtin b => evBuiltin L s b c.args c.argTypes K
    | _ => False
  | _ => False
end Go.Proofs.Ytbcoanbjhbppcaa
