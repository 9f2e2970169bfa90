/-
  No cell of these rows narrows 'for every input' (looked for: loops, veiled, ifaces, maps, wideKeys, modest, calm, conditions, laid).
  DERIVED. THE GIVEN ROWS OF THIS SEAT. 10 by the template 'for every input the law returns true; each argument reads behind the call as it read before'; 0 by the template 'total and deterministic' (their statements: YtmopadnkjlodnaaTotals.lean).
  GIVEN WITH THE SEED: the statements are not yours to turn. If you find one false, say at which input.
  Laid BY PROGRAM, IN A SANDBOX (cutbox-rows.mjs): the forced cells as the released guide's own fill.sh prints them over the translation a6ca0fead62cb610… (all of the seat's roots in one cut). By AI agents, Wed Nov 11 2026. No macro, syntax, notation, axiom, sorry.
-/
import Derived.Test.YtmopadnkjlodnaaChecked
import GoSem.Claim
import GoSem.ClaimJoined
import GoSem.ClaimMapViews
import Derived.JoinedTies
import Derived.KernelRfl
namespace Go.Proofs.Ytmopadnkjlodnaa
/- THE CELL 'sum', in the pinned program and in every row, IS THE sha256 OF THE DUMP (.gsa) THAT YtmopadnkjlodnaaProg.lean LOADS. Nothing in Lean hashes anything: it is a label: what it is worth is what the hold of that sum in a sandbox is worth. -/
noncomputable def Try.pinned : Pinned := { name := "ytmopadnkjlodnaa", sum := "a6ca0fead62cb610d59e5431f13020a84130992e616d967b0ad8494b1f8847e9", checked := Try.checked }
namespace Rows
def none {H : Type} : Left H := { results := [], args := [] }

/-- 'ochelaw06.MeanVisits': WHATEVER THE INPUT: true; the input reads as it did. -/
def meanVisitsSpec : ChangeSpec := { name := "meanVisits", fn := fun _ => fun
  | [d] => { results := [.lit (.bool true)], args := [d] }
  | _ => none }
def meanVisitsRow : OpenClaim := { program := "ytmopadnkjlodnaa", sum := "a6ca0fead62cb610d59e5431f13020a84130992e616d967b0ad8494b1f8847e9", func := "oche/ochelaw06.MeanVisits", spec := "meanVisits", unfollowed := true, recurses := true, plainKeys := false, apart := false }
def MeanVisitsSaid : Prop := meanVisitsRow.holds Try.pinned (OpenSpec.ofChange meanVisitsSpec)

/-- ITS FALSE NEIGHBOUR: 'it returns false'. Refute it at one input. -/
def meanVisitsWrong : ChangeSpec := { name := "meanVisits", fn := fun _ => fun
  | [d] => { results := [.lit (.bool false)], args := [d] }
  | _ => none }
def MeanVisitsWrongFalsely : Prop := meanVisitsRow.holds Try.pinned (OpenSpec.ofChange meanVisitsWrong)

/-- 'ochelaw06.MeanShows': WHATEVER THE INPUT: true; the input reads as it did. -/
def meanShowsSpec : ChangeSpec := { name := "meanShows", fn := fun _ => fun
  | [d1, d2] => { results := [.lit (.bool true)], args := [d1, d2] }
  | _ => none }
def meanShowsRow : OpenClaim := { program := "ytmopadnkjlodnaa", sum := "a6ca0fead62cb610d59e5431f13020a84130992e616d967b0ad8494b1f8847e9", func := "oche/ochelaw06.MeanShows", spec := "meanShows", unfollowed := true, recurses := true, plainKeys := false, apart := false }
def MeanShowsSaid : Prop := meanShowsRow.holds Try.pinned (OpenSpec.ofChange meanShowsSpec)

/-- ITS FALSE NEIGHBOUR: 'it returns false'. Refute it at one input. -/
def meanShowsWrong : ChangeSpec := { name := "meanShows", fn := fun _ => fun
  | [d1, d2] => { results := [.lit (.bool false)], args := [d1, d2] }
  | _ => none }
def MeanShowsWrongFalsely : Prop := meanShowsRow.holds Try.pinned (OpenSpec.ofChange meanShowsWrong)

/-- 'ochelaw06.MeanRanges': WHATEVER THE INPUT: true; the input reads as it did. -/
def meanRangesSpec : ChangeSpec := { name := "meanRanges", fn := fun _ => fun
  | [d] => { results := [.lit (.bool true)], args := [d] }
  | _ => none }
def meanRangesRow : OpenClaim := { program := "ytmopadnkjlodnaa", sum := "a6ca0fead62cb610d59e5431f13020a84130992e616d967b0ad8494b1f8847e9", func := "oche/ochelaw06.MeanRanges", spec := "meanRanges", unfollowed := true, recurses := true, plainKeys := false, apart := false }
def MeanRangesSaid : Prop := meanRangesRow.holds Try.pinned (OpenSpec.ofChange meanRangesSpec)

/-- ITS FALSE NEIGHBOUR: 'it returns false'. Refute it at one input. -/
def meanRangesWrong : ChangeSpec := { name := "meanRanges", fn := fun _ => fun
  | [d] => { results := [.lit (.bool false)], args := [d] }
  | _ => none }
def MeanRangesWrongFalsely : Prop := meanRangesRow.holds Try.pinned (OpenSpec.ofChange meanRangesWrong)

/-- 'ochelaw06.MeanExact': WHATEVER THE INPUT: true; the input reads as it did. -/
def meanExactSpec : ChangeSpec := { name := "meanExact", fn := fun _ => fun
  | [d1, d2, d3] => { results := [.lit (.bool true)], args := [d1, d2, d3] }
  | _ => none }
def meanExactRow : OpenClaim := { program := "ytmopadnkjlodnaa", sum := "a6ca0fead62cb610d59e5431f13020a84130992e616d967b0ad8494b1f8847e9", func := "oche/ochelaw06.MeanExact", spec := "meanExact", unfollowed := true, recurses := true, plainKeys := false, apart := false }
def MeanExactSaid : Prop := meanExactRow.holds Try.pinned (OpenSpec.ofChange meanExactSpec)

/-- ITS FALSE NEIGHBOUR: 'it returns false'. Refute it at one input. -/
def meanExactWrong : ChangeSpec := { name := "meanExact", fn := fun _ => fun
  | [d1, d2, d3] => { results := [.lit (.bool false)], args := [d1, d2, d3] }
  | _ => none }
def MeanExactWrongFalsely : Prop := meanExactRow.holds Try.pinned (OpenSpec.ofChange meanExactWrong)

/-- 'ochelaw06.MeanBetters': WHATEVER THE INPUT: true; the input reads as it did. -/
def meanBettersSpec : ChangeSpec := { name := "meanBetters", fn := fun _ => fun
  | [d1, d2] => { results := [.lit (.bool true)], args := [d1, d2] }
  | _ => none }
def meanBettersRow : OpenClaim := { program := "ytmopadnkjlodnaa", sum := "a6ca0fead62cb610d59e5431f13020a84130992e616d967b0ad8494b1f8847e9", func := "oche/ochelaw06.MeanBetters", spec := "meanBetters", unfollowed := true, recurses := true, plainKeys := false, apart := false }
def MeanBettersSaid : Prop := meanBettersRow.holds Try.pinned (OpenSpec.ofChange meanBettersSpec)

/-- ITS FALSE NEIGHBOUR: 'it returns false'. Refute it at one input. -/
def meanBettersWrong : ChangeSpec := { name := "meanBetters", fn := fun _ => fun
  | [d1, d2] => { results := [.lit (.bool false)], args := [d1, d2] }
  | _ => none }
def MeanBettersWrongFalsely : Prop := meanBettersRow.holds Try.pinned (OpenSpec.ofChange meanBettersWrong)

/-- 'ochelaw06.MeanTruths': WHATEVER THE INPUT: true; the input reads as it did. -/
def meanTruthsSpec : ChangeSpec := { name := "meanTruths", fn := fun _ => fun
  | [d] => { results := [.lit (.bool true)], args := [d] }
  | _ => none }
def meanTruthsRow : OpenClaim := { program := "ytmopadnkjlodnaa", sum := "a6ca0fead62cb610d59e5431f13020a84130992e616d967b0ad8494b1f8847e9", func := "oche/ochelaw06.MeanTruths", spec := "meanTruths", unfollowed := true, recurses := true, plainKeys := false, apart := false }
def MeanTruthsSaid : Prop := meanTruthsRow.holds Try.pinned (OpenSpec.ofChange meanTruthsSpec)

/-- ITS FALSE NEIGHBOUR: 'it returns false'. Refute it at one input. -/
def meanTruthsWrong : ChangeSpec := { name := "meanTruths", fn := fun _ => fun
  | [d] => { results := [.lit (.bool false)], args := [d] }
  | _ => none }
def MeanTruthsWrongFalsely : Prop := meanTruthsRow.holds Try.pinned (OpenSpec.ofChange meanTruthsWrong)

/-- 'ochelaw06.MeanEnds': WHATEVER THE INPUT: true; the input reads as it did. -/
def meanEndsSpec : ChangeSpec := { name := "meanEnds", fn := fun _ => fun
  | [d] => { results := [.lit (.bool true)], args := [d] }
  | _ => none }
def meanEndsRow : OpenClaim := { program := "ytmopadnkjlodnaa", sum := "a6ca0fead62cb610d59e5431f13020a84130992e616d967b0ad8494b1f8847e9", func := "oche/ochelaw06.MeanEnds", spec := "meanEnds", unfollowed := true, recurses := true, plainKeys := false, apart := false }
def MeanEndsSaid : Prop := meanEndsRow.holds Try.pinned (OpenSpec.ofChange meanEndsSpec)

/-- ITS FALSE NEIGHBOUR: 'it returns false'. Refute it at one input. -/
def meanEndsWrong : ChangeSpec := { name := "meanEnds", fn := fun _ => fun
  | [d] => { results := [.lit (.bool false)], args := [d] }
  | _ => none }
def MeanEndsWrongFalsely : Prop := meanEndsRow.holds Try.pinned (OpenSpec.ofChange meanEndsWrong)

/-- 'ochelaw06.MeanOrders': WHATEVER THE INPUT: true; the input reads as it did. -/
def meanOrdersSpec : ChangeSpec := { name := "meanOrders", fn := fun _ => fun
  | [d] => { results := [.lit (.bool true)], args := [d] }
  | _ => none }
def meanOrdersRow : OpenClaim := { program := "ytmopadnkjlodnaa", sum := "a6ca0fead62cb610d59e5431f13020a84130992e616d967b0ad8494b1f8847e9", func := "oche/ochelaw06.MeanOrders", spec := "meanOrders", unfollowed := true, recurses := true, plainKeys := false, apart := false }
def MeanOrdersSaid : Prop := meanOrdersRow.holds Try.pinned (OpenSpec.ofChange meanOrdersSpec)

/-- ITS FALSE NEIGHBOUR: 'it returns false'. Refute it at one input. -/
def meanOrdersWrong : ChangeSpec := { name := "meanOrders", fn := fun _ => fun
  | [d] => { results := [.lit (.bool false)], args := [d] }
  | _ => none }
def MeanOrdersWrongFalsely : Prop := meanOrdersRow.holds Try.pinned (OpenSpec.ofChange meanOrdersWrong)

/-- 'ochelaw06.MeanTotals': WHATEVER THE INPUT: true; the input reads as it did. -/
def meanTotalsSpec : ChangeSpec := { name := "meanTotals", fn := fun _ => fun
  | [d] => { results := [.lit (.bool true)], args := [d] }
  | _ => none }
def meanTotalsRow : OpenClaim := { program := "ytmopadnkjlodnaa", sum := "a6ca0fead62cb610d59e5431f13020a84130992e616d967b0ad8494b1f8847e9", func := "oche/ochelaw06.MeanTotals", spec := "meanTotals", unfollowed := true, recurses := true, plainKeys := false, apart := false }
def MeanTotalsSaid : Prop := meanTotalsRow.holds Try.pinned (OpenSpec.ofChange meanTotalsSpec)

/-- ITS FALSE NEIGHBOUR: 'it returns false'. Refute it at one input. -/
def meanTotalsWrong : ChangeSpec := { name := "meanTotals", fn := fun _ => fun
  | [d] => { results := [.lit (.bool false)], args := [d] }
  | _ => none }
def MeanTotalsWrongFalsely : Prop := meanTotalsRow.holds Try.pinned (OpenSpec.ofChange meanTotalsWrong)

/-- 'ochelaw06.MeanMany': WHATEVER THE INPUT: true; the input reads as it did. -/
def meanManySpec : ChangeSpec := { name := "meanMany", fn := fun _ => fun
  | [d1, d2] => { results := [.lit (.bool true)], args := [d1, d2] }
  | _ => none }
def meanManyRow : OpenClaim := { program := "ytmopadnkjlodnaa", sum := "a6ca0fead62cb610d59e5431f13020a84130992e616d967b0ad8494b1f8847e9", func := "oche/ochelaw06.MeanMany", spec := "meanMany", unfollowed := true, recurses := true, plainKeys := false, apart := false }
def MeanManySaid : Prop := meanManyRow.holds Try.pinned (OpenSpec.ofChange meanManySpec)

/-- ITS FALSE NEIGHBOUR: 'it returns false'. Refute it at one input. -/
def meanManyWrong : ChangeSpec := { name := "meanMany", fn := fun _ => fun
  | [d1, d2] => { results := [.lit (.bool false)], args := [d1, d2] }
  | _ => none }
def MeanManyWrongFalsely : Prop := meanManyRow.holds Try.pinned (OpenSpec.ofChange meanManyWrong)

/- THE SECOND FORM. 'bulk': how many values and letters a reading holds, each counted each time it is reached (what is shared counts as often as it is met; a slice's spare places count too). A statement '..UptoSaid' is the law's where the arguments, and the package variables that the reading takes, are together of bulk at most 1048576: NARROWER than '..Said'. Prove '..Said' where nothing that the law and all that it calls make is longer than what came in: it says more and counts as full. Else prove '..UptoSaid'. A law counts once. -/
mutual
def uptoBulk {H : Type} : DataW H → Nat
  | .lit (.string bytes) => bytes.length + 1
  | .lit _ => 1
  | .nil => 1
  | .ptr d => uptoBulk d + 1
  | .slice elems spare => uptoBulkAll elems + uptoBulkAll spare + 1
  | .agg parts => uptoBulkAll parts + 1
  | .iface _ d => uptoBulk d + 1
  | .map entries => uptoBulkEntries entries + 1
  | .held _ => 1
def uptoBulkAll {H : Type} : List (DataW H) → Nat
  | [] => 0
  | d :: r => uptoBulk d + uptoBulkAll r
def uptoBulkEntries {H : Type} : List (Lit × DataW H) → Nat
  | [] => 0
  | x :: r => uptoBulkEntry x + uptoBulkEntries r
def uptoBulkEntry {H : Type} : Lit × DataW H → Nat
  | (.string bytes, d) => bytes.length + uptoBulk d + 1
  | (_, d) => uptoBulk d + 1
 end
def uptoSmall : (H : Type) → List (DataW H) → Bool := fun _ ds => decide (uptoBulkAll ds ≤ 1048576)
def OpenSpec.upto (s : _root_.Go.ChangeSpec) : _root_.Go.OpenSpec := { _root_.Go.OpenSpec.ofChange s with cond := some uptoSmall }

/-- 'ochelaw06.MeanVisits', WHERE WHAT IT READS IS OF BULK AT MOST 1048576: true; the input reads as it did. -/
def meanVisitsUptoRow : OpenClaim := { program := "ytmopadnkjlodnaa", sum := "a6ca0fead62cb610d59e5431f13020a84130992e616d967b0ad8494b1f8847e9", func := "oche/ochelaw06.MeanVisits", spec := "meanVisits", unfollowed := true, recurses := true, plainKeys := false, apart := false, narrowed := true }
def MeanVisitsUptoSaid : Prop := meanVisitsUptoRow.holds Try.pinned (OpenSpec.upto meanVisitsSpec)

/-- 'ochelaw06.MeanShows', WHERE WHAT IT READS IS OF BULK AT MOST 1048576: true; the input reads as it did. -/
def meanShowsUptoRow : OpenClaim := { program := "ytmopadnkjlodnaa", sum := "a6ca0fead62cb610d59e5431f13020a84130992e616d967b0ad8494b1f8847e9", func := "oche/ochelaw06.MeanShows", spec := "meanShows", unfollowed := true, recurses := true, plainKeys := false, apart := false, narrowed := true }
def MeanShowsUptoSaid : Prop := meanShowsUptoRow.holds Try.pinned (OpenSpec.upto meanShowsSpec)

/-- 'ochelaw06.MeanRanges', WHERE WHAT IT READS IS OF BULK AT MOST 1048576: true; the input reads as it did. -/
def meanRangesUptoRow : OpenClaim := { program := "ytmopadnkjlodnaa", sum := "a6ca0fead62cb610d59e5431f13020a84130992e616d967b0ad8494b1f8847e9", func := "oche/ochelaw06.MeanRanges", spec := "meanRanges", unfollowed := true, recurses := true, plainKeys := false, apart := false, narrowed := true }
def MeanRangesUptoSaid : Prop := meanRangesUptoRow.holds Try.pinned (OpenSpec.upto meanRangesSpec)

/-- 'ochelaw06.MeanExact', WHERE WHAT IT READS IS OF BULK AT MOST 1048576: true; the input reads as it did. -/
def meanExactUptoRow : OpenClaim := { program := "ytmopadnkjlodnaa", sum := "a6ca0fead62cb610d59e5431f13020a84130992e616d967b0ad8494b1f8847e9", func := "oche/ochelaw06.MeanExact", spec := "meanExact", unfollowed := true, recurses := true, plainKeys := false, apart := false, narrowed := true }
def MeanExactUptoSaid : Prop := meanExactUptoRow.holds Try.pinned (OpenSpec.upto meanExactSpec)

/-- 'ochelaw06.MeanBetters', WHERE WHAT IT READS IS OF BULK AT MOST 1048576: true; the input reads as it did. -/
def meanBettersUptoRow : OpenClaim := { program := "ytmopadnkjlodnaa", sum := "a6ca0fead62cb610d59e5431f13020a84130992e616d967b0ad8494b1f8847e9", func := "oche/ochelaw06.MeanBetters", spec := "meanBetters", unfollowed := true, recurses := true, plainKeys := false, apart := false, narrowed := true }
def MeanBettersUptoSaid : Prop := meanBettersUptoRow.holds Try.pinned (OpenSpec.upto meanBettersSpec)

/-- 'ochelaw06.MeanTruths', WHERE WHAT IT READS IS OF BULK AT MOST 1048576: true; the input reads as it did. -/
def meanTruthsUptoRow : OpenClaim := { program := "ytmopadnkjlodnaa", sum := "a6ca0fead62cb610d59e5431f13020a84130992e616d967b0ad8494b1f8847e9", func := "oche/ochelaw06.MeanTruths", spec := "meanTruths", unfollowed := true, recurses := true, plainKeys := false, apart := false, narrowed := true }
def MeanTruthsUptoSaid : Prop := meanTruthsUptoRow.holds Try.pinned (OpenSpec.upto meanTruthsSpec)

/-- 'ochelaw06.MeanEnds', WHERE WHAT IT READS IS OF BULK AT MOST 1048576: true; the input reads as it did. -/
def meanEndsUptoRow : OpenClaim := { program := "ytmopadnkjlodnaa", sum := "a6ca0fead62cb610d59e5431f13020a84130992e616d967b0ad8494b1f8847e9", func := "oche/ochelaw06.MeanEnds", spec := "meanEnds", unfollowed := true, recurses := true, plainKeys := false, apart := false, narrowed := true }
def MeanEndsUptoSaid : Prop := meanEndsUptoRow.holds Try.pinned (OpenSpec.upto meanEndsSpec)

/-- 'ochelaw06.MeanOrders', WHERE WHAT IT READS IS OF BULK AT MOST 1048576: true; the input reads as it did. -/
def meanOrdersUptoRow : OpenClaim := { program := "ytmopadnkjlodnaa", sum := "a6ca0fead62cb610d59e5431f13020a84130992e616d967b0ad8494b1f8847e9", func := "oche/ochelaw06.MeanOrders", spec := "meanOrders", unfollowed := true, recurses := true, plainKeys := false, apart := false, narrowed := true }
def MeanOrdersUptoSaid : Prop := meanOrdersUptoRow.holds Try.pinned (OpenSpec.upto meanOrdersSpec)

/-- 'ochelaw06.MeanTotals', WHERE WHAT IT READS IS OF BULK AT MOST 1048576: true; the input reads as it did. -/
def meanTotalsUptoRow : OpenClaim := { program := "ytmopadnkjlodnaa", sum := "a6ca0fead62cb610d59e5431f13020a84130992e616d967b0ad8494b1f8847e9", func := "oche/ochelaw06.MeanTotals", spec := "meanTotals", unfollowed := true, recurses := true, plainKeys := false, apart := false, narrowed := true }
def MeanTotalsUptoSaid : Prop := meanTotalsUptoRow.holds Try.pinned (OpenSpec.upto meanTotalsSpec)

/-- 'ochelaw06.MeanMany', WHERE WHAT IT READS IS OF BULK AT MOST 1048576: true; the input reads as it did. -/
def meanManyUptoRow : OpenClaim := { program := "ytmopadnkjlodnaa", sum := "a6ca0fead62cb610d59e5431f13020a84130992e616d967b0ad8494b1f8847e9", func := "oche/ochelaw06.MeanMany", spec := "meanMany", unfollowed := true, recurses := true, plainKeys := false, apart := false, narrowed := true }
def MeanManyUptoSaid : Prop := meanManyUptoRow.holds Try.pinned (OpenSpec.upto meanManySpec)

end Rows
end Go.Proofs.Ytmopadnkjlodnaa
