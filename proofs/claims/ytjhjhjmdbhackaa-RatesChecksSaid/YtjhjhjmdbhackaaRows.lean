/-
  No cell of these rows narrows 'for every input' (looked for: loops, veiled, ifaces, maps, wideKeys, modest, calm, conditions, laid).
  DERIVED. THE GIVEN ROWS OF THIS SEAT. 13 by the template 'for every input the law returns true; each argument reads behind the call as it read before'; 0 by the template 'total and deterministic' (their statements: YtjhjhjmdbhackaaTotals.lean).
  GIVEN WITH THE SEED: the statements are not yours to turn. If you find one false, say at which input.
  Laid BY PROGRAM, IN A SANDBOX (cutbox-rows.mjs): the forced cells as the released guide's own fill.sh prints them over the translation 7beb5121ffd9b298… (all of the seat's roots in one cut). By AI agents, Wed Nov 11 2026. No macro, syntax, notation, axiom, sorry.
-/
import Derived.Test.YtjhjhjmdbhackaaChecked
import GoSem.Claim
import GoSem.ClaimJoined
import GoSem.ClaimMapViews
import Derived.JoinedTies
import Derived.KernelRfl
namespace Go.Proofs.Ytjhjhjmdbhackaa
/- THE CELL 'sum', in the pinned program and in every row, IS THE sha256 OF THE DUMP (.gsa) THAT YtjhjhjmdbhackaaProg.lean LOADS. Nothing in Lean hashes anything: it is a label: what it is worth is what the hold of that sum in a sandbox is worth. -/
noncomputable def Try.pinned : Pinned := { name := "ytjhjhjmdbhackaa", sum := "7beb5121ffd9b29840f71a057c92eac9c683fb4f1d49245e971d40b142d2b737", checked := Try.checked }
namespace Rows
def none {H : Type} : Left H := { results := [], args := [] }

/-- 'timeboundlaw42.ModesParts': WHATEVER THE INPUT: true; the input reads as it did. -/
def modesPartsSpec : ChangeSpec := { name := "modesParts", fn := fun _ => fun
  | [d1, d2, d3] => { results := [.lit (.bool true)], args := [d1, d2, d3] }
  | _ => none }
def modesPartsRow : OpenClaim := { program := "ytjhjhjmdbhackaa", sum := "7beb5121ffd9b29840f71a057c92eac9c683fb4f1d49245e971d40b142d2b737", func := "timebound/timeboundlaw42.ModesParts", spec := "modesParts", unfollowed := true, recurses := true, apart := false }
def ModesPartsSaid : Prop := modesPartsRow.holds Try.pinned (OpenSpec.ofChange modesPartsSpec)

/-- ITS FALSE NEIGHBOUR: 'it returns false'. Refute it at one input. -/
def modesPartsWrong : ChangeSpec := { name := "modesParts", fn := fun _ => fun
  | [d1, d2, d3] => { results := [.lit (.bool false)], args := [d1, d2, d3] }
  | _ => none }
def ModesPartsWrongFalsely : Prop := modesPartsRow.holds Try.pinned (OpenSpec.ofChange modesPartsWrong)

/-- 'timeboundlaw39.RatesChecks': WHATEVER THE INPUT: true; the input reads as it did. -/
def ratesChecksSpec : ChangeSpec := { name := "ratesChecks", fn := fun _ => fun
  | [d1, d2, d3, d4, d5] => { results := [.lit (.bool true)], args := [d1, d2, d3, d4, d5] }
  | _ => none }
def ratesChecksRow : OpenClaim := { program := "ytjhjhjmdbhackaa", sum := "7beb5121ffd9b29840f71a057c92eac9c683fb4f1d49245e971d40b142d2b737", func := "timebound/timeboundlaw39.RatesChecks", spec := "ratesChecks", apart := false }
def RatesChecksSaid : Prop := ratesChecksRow.holds Try.pinned (OpenSpec.ofChange ratesChecksSpec)

/-- ITS FALSE NEIGHBOUR: 'it returns false'. Refute it at one input. -/
def ratesChecksWrong : ChangeSpec := { name := "ratesChecks", fn := fun _ => fun
  | [d1, d2, d3, d4, d5] => { results := [.lit (.bool false)], args := [d1, d2, d3, d4, d5] }
  | _ => none }
def RatesChecksWrongFalsely : Prop := ratesChecksRow.holds Try.pinned (OpenSpec.ofChange ratesChecksWrong)

/-- 'timeboundlaw39.RatesMost': WHATEVER THE INPUT: true; the input reads as it did. -/
def ratesMostSpec : ChangeSpec := { name := "ratesMost", fn := fun _ => fun
  | [d1, d2, d3] => { results := [.lit (.bool true)], args := [d1, d2, d3] }
  | _ => none }
def ratesMostRow : OpenClaim := { program := "ytjhjhjmdbhackaa", sum := "7beb5121ffd9b29840f71a057c92eac9c683fb4f1d49245e971d40b142d2b737", func := "timebound/timeboundlaw39.RatesMost", spec := "ratesMost", apart := false }
def RatesMostSaid : Prop := ratesMostRow.holds Try.pinned (OpenSpec.ofChange ratesMostSpec)

/-- ITS FALSE NEIGHBOUR: 'it returns false'. Refute it at one input. -/
def ratesMostWrong : ChangeSpec := { name := "ratesMost", fn := fun _ => fun
  | [d1, d2, d3] => { results := [.lit (.bool false)], args := [d1, d2, d3] }
  | _ => none }
def RatesMostWrongFalsely : Prop := ratesMostRow.holds Try.pinned (OpenSpec.ofChange ratesMostWrong)

/-- 'timeboundlaw39.RatesBounds': WHATEVER THE INPUT: true; the input reads as it did. -/
def ratesBoundsSpec : ChangeSpec := { name := "ratesBounds", fn := fun _ => fun
  | [d1, d2, d3, d4] => { results := [.lit (.bool true)], args := [d1, d2, d3, d4] }
  | _ => none }
def ratesBoundsRow : OpenClaim := { program := "ytjhjhjmdbhackaa", sum := "7beb5121ffd9b29840f71a057c92eac9c683fb4f1d49245e971d40b142d2b737", func := "timebound/timeboundlaw39.RatesBounds", spec := "ratesBounds", apart := false }
def RatesBoundsSaid : Prop := ratesBoundsRow.holds Try.pinned (OpenSpec.ofChange ratesBoundsSpec)

/-- ITS FALSE NEIGHBOUR: 'it returns false'. Refute it at one input. -/
def ratesBoundsWrong : ChangeSpec := { name := "ratesBounds", fn := fun _ => fun
  | [d1, d2, d3, d4] => { results := [.lit (.bool false)], args := [d1, d2, d3, d4] }
  | _ => none }
def RatesBoundsWrongFalsely : Prop := ratesBoundsRow.holds Try.pinned (OpenSpec.ofChange ratesBoundsWrong)

/-- 'timeboundlaw39.RatesCounts': WHATEVER THE INPUT: true; the input reads as it did. -/
def ratesCountsSpec : ChangeSpec := { name := "ratesCounts", fn := fun _ => fun
  | [d1, d2, d3, d4] => { results := [.lit (.bool true)], args := [d1, d2, d3, d4] }
  | _ => none }
def ratesCountsRow : OpenClaim := { program := "ytjhjhjmdbhackaa", sum := "7beb5121ffd9b29840f71a057c92eac9c683fb4f1d49245e971d40b142d2b737", func := "timebound/timeboundlaw39.RatesCounts", spec := "ratesCounts", apart := false }
def RatesCountsSaid : Prop := ratesCountsRow.holds Try.pinned (OpenSpec.ofChange ratesCountsSpec)

/-- ITS FALSE NEIGHBOUR: 'it returns false'. Refute it at one input. -/
def ratesCountsWrong : ChangeSpec := { name := "ratesCounts", fn := fun _ => fun
  | [d1, d2, d3, d4] => { results := [.lit (.bool false)], args := [d1, d2, d3, d4] }
  | _ => none }
def RatesCountsWrongFalsely : Prop := ratesCountsRow.holds Try.pinned (OpenSpec.ofChange ratesCountsWrong)

/-- 'timeboundlaw41.ResponseChecks': WHATEVER THE INPUT: true; the input reads as it did. -/
def responseChecksSpec : ChangeSpec := { name := "responseChecks", fn := fun _ => fun
  | [d1, d2, d3] => { results := [.lit (.bool true)], args := [d1, d2, d3] }
  | _ => none }
def responseChecksRow : OpenClaim := { program := "ytjhjhjmdbhackaa", sum := "7beb5121ffd9b29840f71a057c92eac9c683fb4f1d49245e971d40b142d2b737", func := "timebound/timeboundlaw41.ResponseChecks", spec := "responseChecks", unfollowed := true, recurses := true, apart := false }
def ResponseChecksSaid : Prop := responseChecksRow.holds Try.pinned (OpenSpec.ofChange responseChecksSpec)

/-- ITS FALSE NEIGHBOUR: 'it returns false'. Refute it at one input. -/
def responseChecksWrong : ChangeSpec := { name := "responseChecks", fn := fun _ => fun
  | [d1, d2, d3] => { results := [.lit (.bool false)], args := [d1, d2, d3] }
  | _ => none }
def ResponseChecksWrongFalsely : Prop := responseChecksRow.holds Try.pinned (OpenSpec.ofChange responseChecksWrong)

/-- 'timeboundlaw41.ResponseLeast': WHATEVER THE INPUT: true; the input reads as it did. -/
def responseLeastSpec : ChangeSpec := { name := "responseLeast", fn := fun _ => fun
  | [d1, d2, d3] => { results := [.lit (.bool true)], args := [d1, d2, d3] }
  | _ => none }
def responseLeastRow : OpenClaim := { program := "ytjhjhjmdbhackaa", sum := "7beb5121ffd9b29840f71a057c92eac9c683fb4f1d49245e971d40b142d2b737", func := "timebound/timeboundlaw41.ResponseLeast", spec := "responseLeast", unfollowed := true, recurses := true, apart := false }
def ResponseLeastSaid : Prop := responseLeastRow.holds Try.pinned (OpenSpec.ofChange responseLeastSpec)

/-- ITS FALSE NEIGHBOUR: 'it returns false'. Refute it at one input. -/
def responseLeastWrong : ChangeSpec := { name := "responseLeast", fn := fun _ => fun
  | [d1, d2, d3] => { results := [.lit (.bool false)], args := [d1, d2, d3] }
  | _ => none }
def ResponseLeastWrongFalsely : Prop := responseLeastRow.holds Try.pinned (OpenSpec.ofChange responseLeastWrong)

/-- 'timeboundlaw41.ResponseGrows': WHATEVER THE INPUT: true; the input reads as it did. -/
def responseGrowsSpec : ChangeSpec := { name := "responseGrows", fn := fun _ => fun
  | [d] => { results := [.lit (.bool true)], args := [d] }
  | _ => none }
def responseGrowsRow : OpenClaim := { program := "ytjhjhjmdbhackaa", sum := "7beb5121ffd9b29840f71a057c92eac9c683fb4f1d49245e971d40b142d2b737", func := "timebound/timeboundlaw41.ResponseGrows", spec := "responseGrows", unfollowed := true, recurses := true, apart := false }
def ResponseGrowsSaid : Prop := responseGrowsRow.holds Try.pinned (OpenSpec.ofChange responseGrowsSpec)

/-- ITS FALSE NEIGHBOUR: 'it returns false'. Refute it at one input. -/
def responseGrowsWrong : ChangeSpec := { name := "responseGrows", fn := fun _ => fun
  | [d] => { results := [.lit (.bool false)], args := [d] }
  | _ => none }
def ResponseGrowsWrongFalsely : Prop := responseGrowsRow.holds Try.pinned (OpenSpec.ofChange responseGrowsWrong)

/-- 'timeboundlaw41.ResponseTwo': WHATEVER THE INPUT: true; the input reads as it did. -/
def responseTwoSpec : ChangeSpec := { name := "responseTwo", fn := fun _ => fun
  | [d1, d2, d3] => { results := [.lit (.bool true)], args := [d1, d2, d3] }
  | _ => none }
def responseTwoRow : OpenClaim := { program := "ytjhjhjmdbhackaa", sum := "7beb5121ffd9b29840f71a057c92eac9c683fb4f1d49245e971d40b142d2b737", func := "timebound/timeboundlaw41.ResponseTwo", spec := "responseTwo", unfollowed := true, recurses := true, apart := false }
def ResponseTwoSaid : Prop := responseTwoRow.holds Try.pinned (OpenSpec.ofChange responseTwoSpec)

/-- ITS FALSE NEIGHBOUR: 'it returns false'. Refute it at one input. -/
def responseTwoWrong : ChangeSpec := { name := "responseTwo", fn := fun _ => fun
  | [d1, d2, d3] => { results := [.lit (.bool false)], args := [d1, d2, d3] }
  | _ => none }
def ResponseTwoWrongFalsely : Prop := responseTwoRow.holds Try.pinned (OpenSpec.ofChange responseTwoWrong)

/-- 'timeboundlaw41.ResponseSlack': WHATEVER THE INPUT: true; the input reads as it did. -/
def responseSlackSpec : ChangeSpec := { name := "responseSlack", fn := fun _ => fun
  | [d1, d2] => { results := [.lit (.bool true)], args := [d1, d2] }
  | _ => none }
def responseSlackRow : OpenClaim := { program := "ytjhjhjmdbhackaa", sum := "7beb5121ffd9b29840f71a057c92eac9c683fb4f1d49245e971d40b142d2b737", func := "timebound/timeboundlaw41.ResponseSlack", spec := "responseSlack", unfollowed := true, recurses := true, apart := false }
def ResponseSlackSaid : Prop := responseSlackRow.holds Try.pinned (OpenSpec.ofChange responseSlackSpec)

/-- ITS FALSE NEIGHBOUR: 'it returns false'. Refute it at one input. -/
def responseSlackWrong : ChangeSpec := { name := "responseSlack", fn := fun _ => fun
  | [d1, d2] => { results := [.lit (.bool false)], args := [d1, d2] }
  | _ => none }
def ResponseSlackWrongFalsely : Prop := responseSlackRow.holds Try.pinned (OpenSpec.ofChange responseSlackWrong)

/-- 'timeboundlaw41.ResponseTimes': WHATEVER THE INPUT: true; the input reads as it did. -/
def responseTimesSpec : ChangeSpec := { name := "responseTimes", fn := fun _ => fun
  | [d1, d2, d3, d4, d5, d6] => { results := [.lit (.bool true)], args := [d1, d2, d3, d4, d5, d6] }
  | _ => none }
def responseTimesRow : OpenClaim := { program := "ytjhjhjmdbhackaa", sum := "7beb5121ffd9b29840f71a057c92eac9c683fb4f1d49245e971d40b142d2b737", func := "timebound/timeboundlaw41.ResponseTimes", spec := "responseTimes", unfollowed := true, recurses := true, apart := false }
def ResponseTimesSaid : Prop := responseTimesRow.holds Try.pinned (OpenSpec.ofChange responseTimesSpec)

/-- ITS FALSE NEIGHBOUR: 'it returns false'. Refute it at one input. -/
def responseTimesWrong : ChangeSpec := { name := "responseTimes", fn := fun _ => fun
  | [d1, d2, d3, d4, d5, d6] => { results := [.lit (.bool false)], args := [d1, d2, d3, d4, d5, d6] }
  | _ => none }
def ResponseTimesWrongFalsely : Prop := responseTimesRow.holds Try.pinned (OpenSpec.ofChange responseTimesWrong)

/-- 'timeboundlaw42.ModesApart': WHATEVER THE INPUT: true; the input reads as it did. -/
def modesApartSpec : ChangeSpec := { name := "modesApart", fn := fun _ => fun
  | [d] => { results := [.lit (.bool true)], args := [d] }
  | _ => none }
def modesApartRow : OpenClaim := { program := "ytjhjhjmdbhackaa", sum := "7beb5121ffd9b29840f71a057c92eac9c683fb4f1d49245e971d40b142d2b737", func := "timebound/timeboundlaw42.ModesApart", spec := "modesApart", unfollowed := true, recurses := true, apart := false }
def ModesApartSaid : Prop := modesApartRow.holds Try.pinned (OpenSpec.ofChange modesApartSpec)

/-- ITS FALSE NEIGHBOUR: 'it returns false'. Refute it at one input. -/
def modesApartWrong : ChangeSpec := { name := "modesApart", fn := fun _ => fun
  | [d] => { results := [.lit (.bool false)], args := [d] }
  | _ => none }
def ModesApartWrongFalsely : Prop := modesApartRow.holds Try.pinned (OpenSpec.ofChange modesApartWrong)

/-- 'timeboundlaw42.ModesChange': WHATEVER THE INPUT: true; the input reads as it did. -/
def modesChangeSpec : ChangeSpec := { name := "modesChange", fn := fun _ => fun
  | [d1, d2, d3, d4] => { results := [.lit (.bool true)], args := [d1, d2, d3, d4] }
  | _ => none }
def modesChangeRow : OpenClaim := { program := "ytjhjhjmdbhackaa", sum := "7beb5121ffd9b29840f71a057c92eac9c683fb4f1d49245e971d40b142d2b737", func := "timebound/timeboundlaw42.ModesChange", spec := "modesChange", unfollowed := true, recurses := true, apart := false }
def ModesChangeSaid : Prop := modesChangeRow.holds Try.pinned (OpenSpec.ofChange modesChangeSpec)

/-- ITS FALSE NEIGHBOUR: 'it returns false'. Refute it at one input. -/
def modesChangeWrong : ChangeSpec := { name := "modesChange", fn := fun _ => fun
  | [d1, d2, d3, d4] => { results := [.lit (.bool false)], args := [d1, d2, d3, d4] }
  | _ => none }
def ModesChangeWrongFalsely : Prop := modesChangeRow.holds Try.pinned (OpenSpec.ofChange modesChangeWrong)

/- THE SECOND FORM. 'bulk': how many values and letters a reading holds, each counted each time it is reached (what is shared counts as often as it is met; a slice's spare places count too). A statement '..UptoSaid' is the law's where the arguments, and the package variables that the reading takes, are together of bulk at most 1048576: NARROWER than '..Said'. Prove '..Said' where nothing that the law and all that it calls make is longer than what came in: it says more and counts as full. Else prove '..UptoSaid'. A law counts once. -/
mutual
def uptoBulk {H : Type} : DataW H → Nat
  | .lit (.string bytes) => bytes.length + 1
  | .lit _ => 1
  | .nil => 1
  | .ptr d => uptoBulk d + 1
  | .slice elems spare => uptoBulkAll elems + uptoBulkAll spare + 1
  | .agg parts => uptoBulkAll parts + 1
  | .iface _ d => uptoBulk d + 1
  | .map entries => uptoBulkEntries entries + 1
  | .held _ => 1
def uptoBulkAll {H : Type} : List (DataW H) → Nat
  | [] => 0
  | d :: r => uptoBulk d + uptoBulkAll r
def uptoBulkEntries {H : Type} : List (Lit × DataW H) → Nat
  | [] => 0
  | x :: r => uptoBulkEntry x + uptoBulkEntries r
def uptoBulkEntry {H : Type} : Lit × DataW H → Nat
  | (.string bytes, d) => bytes.length + uptoBulk d + 1
  | (_, d) => uptoBulk d + 1
 end
def uptoSmall : (H : Type) → List (DataW H) → Bool := fun _ ds => decide (uptoBulkAll ds ≤ 1048576)
def OpenSpec.upto (s : _root_.Go.ChangeSpec) : _root_.Go.OpenSpec := { _root_.Go.OpenSpec.ofChange s with cond := some uptoSmall }

/-- 'timeboundlaw42.ModesParts', WHERE WHAT IT READS IS OF BULK AT MOST 1048576: true; the input reads as it did. -/
def modesPartsUptoRow : OpenClaim := { program := "ytjhjhjmdbhackaa", sum := "7beb5121ffd9b29840f71a057c92eac9c683fb4f1d49245e971d40b142d2b737", func := "timebound/timeboundlaw42.ModesParts", spec := "modesParts", unfollowed := true, recurses := true, apart := false, narrowed := true }
def ModesPartsUptoSaid : Prop := modesPartsUptoRow.holds Try.pinned (OpenSpec.upto modesPartsSpec)

/-- 'timeboundlaw39.RatesChecks', WHERE WHAT IT READS IS OF BULK AT MOST 1048576: true; the input reads as it did. -/
def ratesChecksUptoRow : OpenClaim := { program := "ytjhjhjmdbhackaa", sum := "7beb5121ffd9b29840f71a057c92eac9c683fb4f1d49245e971d40b142d2b737", func := "timebound/timeboundlaw39.RatesChecks", spec := "ratesChecks", apart := false, narrowed := true }
def RatesChecksUptoSaid : Prop := ratesChecksUptoRow.holds Try.pinned (OpenSpec.upto ratesChecksSpec)

/-- 'timeboundlaw39.RatesMost', WHERE WHAT IT READS IS OF BULK AT MOST 1048576: true; the input reads as it did. -/
def ratesMostUptoRow : OpenClaim := { program := "ytjhjhjmdbhackaa", sum := "7beb5121ffd9b29840f71a057c92eac9c683fb4f1d49245e971d40b142d2b737", func := "timebound/timeboundlaw39.RatesMost", spec := "ratesMost", apart := false, narrowed := true }
def RatesMostUptoSaid : Prop := ratesMostUptoRow.holds Try.pinned (OpenSpec.upto ratesMostSpec)

/-- 'timeboundlaw39.RatesBounds', WHERE WHAT IT READS IS OF BULK AT MOST 1048576: true; the input reads as it did. -/
def ratesBoundsUptoRow : OpenClaim := { program := "ytjhjhjmdbhackaa", sum := "7beb5121ffd9b29840f71a057c92eac9c683fb4f1d49245e971d40b142d2b737", func := "timebound/timeboundlaw39.RatesBounds", spec := "ratesBounds", apart := false, narrowed := true }
def RatesBoundsUptoSaid : Prop := ratesBoundsUptoRow.holds Try.pinned (OpenSpec.upto ratesBoundsSpec)

/-- 'timeboundlaw39.RatesCounts', WHERE WHAT IT READS IS OF BULK AT MOST 1048576: true; the input reads as it did. -/
def ratesCountsUptoRow : OpenClaim := { program := "ytjhjhjmdbhackaa", sum := "7beb5121ffd9b29840f71a057c92eac9c683fb4f1d49245e971d40b142d2b737", func := "timebound/timeboundlaw39.RatesCounts", spec := "ratesCounts", apart := false, narrowed := true }
def RatesCountsUptoSaid : Prop := ratesCountsUptoRow.holds Try.pinned (OpenSpec.upto ratesCountsSpec)

/-- 'timeboundlaw41.ResponseChecks', WHERE WHAT IT READS IS OF BULK AT MOST 1048576: true; the input reads as it did. -/
def responseChecksUptoRow : OpenClaim := { program := "ytjhjhjmdbhackaa", sum := "7beb5121ffd9b29840f71a057c92eac9c683fb4f1d49245e971d40b142d2b737", func := "timebound/timeboundlaw41.ResponseChecks", spec := "responseChecks", unfollowed := true, recurses := true, apart := false, narrowed := true }
def ResponseChecksUptoSaid : Prop := responseChecksUptoRow.holds Try.pinned (OpenSpec.upto responseChecksSpec)

/-- 'timeboundlaw41.ResponseLeast', WHERE WHAT IT READS IS OF BULK AT MOST 1048576: true; the input reads as it did. -/
def responseLeastUptoRow : OpenClaim := { program := "ytjhjhjmdbhackaa", sum := "7beb5121ffd9b29840f71a057c92eac9c683fb4f1d49245e971d40b142d2b737", func := "timebound/timeboundlaw41.ResponseLeast", spec := "responseLeast", unfollowed := true, recurses := true, apart := false, narrowed := true }
def ResponseLeastUptoSaid : Prop := responseLeastUptoRow.holds Try.pinned (OpenSpec.upto responseLeastSpec)

/-- 'timeboundlaw41.ResponseGrows', WHERE WHAT IT READS IS OF BULK AT MOST 1048576: true; the input reads as it did. -/
def responseGrowsUptoRow : OpenClaim := { program := "ytjhjhjmdbhackaa", sum := "7beb5121ffd9b29840f71a057c92eac9c683fb4f1d49245e971d40b142d2b737", func := "timebound/timeboundlaw41.ResponseGrows", spec := "responseGrows", unfollowed := true, recurses := true, apart := false, narrowed := true }
def ResponseGrowsUptoSaid : Prop := responseGrowsUptoRow.holds Try.pinned (OpenSpec.upto responseGrowsSpec)

/-- 'timeboundlaw41.ResponseTwo', WHERE WHAT IT READS IS OF BULK AT MOST 1048576: true; the input reads as it did. -/
def responseTwoUptoRow : OpenClaim := { program := "ytjhjhjmdbhackaa", sum := "7beb5121ffd9b29840f71a057c92eac9c683fb4f1d49245e971d40b142d2b737", func := "timebound/timeboundlaw41.ResponseTwo", spec := "responseTwo", unfollowed := true, recurses := true, apart := false, narrowed := true }
def ResponseTwoUptoSaid : Prop := responseTwoUptoRow.holds Try.pinned (OpenSpec.upto responseTwoSpec)

/-- 'timeboundlaw41.ResponseSlack', WHERE WHAT IT READS IS OF BULK AT MOST 1048576: true; the input reads as it did. -/
def responseSlackUptoRow : OpenClaim := { program := "ytjhjhjmdbhackaa", sum := "7beb5121ffd9b29840f71a057c92eac9c683fb4f1d49245e971d40b142d2b737", func := "timebound/timeboundlaw41.ResponseSlack", spec := "responseSlack", unfollowed := true, recurses := true, apart := false, narrowed := true }
def ResponseSlackUptoSaid : Prop := responseSlackUptoRow.holds Try.pinned (OpenSpec.upto responseSlackSpec)

/-- 'timeboundlaw41.ResponseTimes', WHERE WHAT IT READS IS OF BULK AT MOST 1048576: true; the input reads as it did. -/
def responseTimesUptoRow : OpenClaim := { program := "ytjhjhjmdbhackaa", sum := "7beb5121ffd9b29840f71a057c92eac9c683fb4f1d49245e971d40b142d2b737", func := "timebound/timeboundlaw41.ResponseTimes", spec := "responseTimes", unfollowed := true, recurses := true, apart := false, narrowed := true }
def ResponseTimesUptoSaid : Prop := responseTimesUptoRow.holds Try.pinned (OpenSpec.upto responseTimesSpec)

/-- 'timeboundlaw42.ModesApart', WHERE WHAT IT READS IS OF BULK AT MOST 1048576: true; the input reads as it did. -/
def modesApartUptoRow : OpenClaim := { program := "ytjhjhjmdbhackaa", sum := "7beb5121ffd9b29840f71a057c92eac9c683fb4f1d49245e971d40b142d2b737", func := "timebound/timeboundlaw42.ModesApart", spec := "modesApart", unfollowed := true, recurses := true, apart := false, narrowed := true }
def ModesApartUptoSaid : Prop := modesApartUptoRow.holds Try.pinned (OpenSpec.upto modesApartSpec)

/-- 'timeboundlaw42.ModesChange', WHERE WHAT IT READS IS OF BULK AT MOST 1048576: true; the input reads as it did. -/
def modesChangeUptoRow : OpenClaim := { program := "ytjhjhjmdbhackaa", sum := "7beb5121ffd9b29840f71a057c92eac9c683fb4f1d49245e971d40b142d2b737", func := "timebound/timeboundlaw42.ModesChange", spec := "modesChange", unfollowed := true, recurses := true, apart := false, narrowed := true }
def ModesChangeUptoSaid : Prop := modesChangeUptoRow.holds Try.pinned (OpenSpec.upto modesChangeSpec)

end Rows
end Go.Proofs.Ytjhjhjmdbhackaa
