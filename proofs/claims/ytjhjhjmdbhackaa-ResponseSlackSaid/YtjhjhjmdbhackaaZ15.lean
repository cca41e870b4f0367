/- Walks over lists, fifteenth part: the length of a list in a cell of another one. No condition on any program. -/
import Derived.Test.YtjhjhjmdbhackaaZ14
namespace Go.Proofs.Ytjhjhjmdbhackaa
set_option linter.unusedSimpArgs false
set_option linter.unusedSectionVars false
set_option linter.unusedVariables false
open Go.RowKit
section
variable {x : Cx} {s : St} {args : Array Operand} {ts : Array TypeId} {t e es by_ k i j n : Nat} {ea fz : Bool} {zs : List SV} {rows rr : List (List DV)} {row : List DV}
theorem reads_len {w : World} {D : Nat → Prop} {rr : List (List DV)} {v : Value} (h : Reads w D (.sl rr) v) : ∃ a c, v = .slice a rr.length c := by
  cases h with
  | nil a c => exact ⟨a, c, rfl⟩
  | sl rows es b o c cs t fz f h0 h1 h2 h3 h4 h5 h6 => exact ⟨_, c, rfl⟩
theorem e_lenNst (hq : argsS s args.toList = some [.nst k i j]) (h0 : ts[0]? = some t) (ht : find x.L t = some ⟨zs, .slice e es ea, by_⟩) (hk : find s.ro k = some ⟨fz, rows⟩) (hr : rows[i]? = some row) (hd : row[j]? = some (.sl rr)) (hn : rr.length = n) : EvTo x s (.call ⟨.builtin .len, args, ts⟩) (.int .i64 n) :=
  e_builtin hq fun hL V w hE ty cs => by
    obtain ⟨d, h4, h5⟩ := (hL.at ht).desc
    obtain ⟨i, de, rfl, _⟩ := td_slice h5
    simp only [denL, den]
    obtain ⟨a, c, e2⟩ := reads_len (nst_reads (V := V) (hE.ro k _ hk) hr hd)
    have e3 : V.ce k _ j = .slice a rr.length c := e2
    subst hn
    rw [e3]; exact r_len h0 h4 ty cs
end
end Go.Proofs.Ytjhjhjmdbhackaa
