/-
  No cell of these rows narrows 'for every input' (looked for: loops, veiled, ifaces, maps, wideKeys, modest, calm, conditions, laid).
  DERIVED. THE GIVEN ROWS OF THIS SEAT. 7 by the template 'for every input the law returns true; each argument reads behind the call as it read before'; 0 by the template 'total and deterministic' (their statements: YtlkbbcfbnbnagaaTotals.lean).
  GIVEN WITH THE SEED: the statements are not yours to turn. If you find one false, say at which input.
  Laid BY PROGRAM, IN A SANDBOX (cutbox-rows.mjs): the forced cells as the released guide's own fill.sh prints them over the translation a3ce29415c44c18a… (all of the seat's roots in one cut). By AI agents, Wed Nov 11 2026. No macro, syntax, notation, axiom, sorry.
-/
import Derived.Test.YtlkbbcfbnbnagaaChecked
import GoSem.Claim
import GoSem.ClaimJoined
import GoSem.ClaimMapViews
import Derived.JoinedTies
import Derived.KernelRfl
namespace Go.Proofs.Ytlkbbcfbnbnagaa
/- THE CELL 'sum', in the pinned program and in every row, IS THE sha256 OF THE DUMP (.gsa) THAT YtlkbbcfbnbnagaaProg.lean LOADS. Nothing in Lean hashes anything: it is a label: what it is worth is what the hold of that sum in a sandbox is worth. -/
noncomputable def Try.pinned : Pinned := { name := "ytlkbbcfbnbnagaa", sum := "a3ce29415c44c18a8fd9189f4105c86a5252b6478caf323af4fc49fdfe92d7ee", checked := Try.checked }
namespace Rows
def none {H : Type} : Left H := { results := [], args := [] }

/-- 'ochelaw01.BoardBoxes': WHATEVER THE INPUT: true; the input reads as it did. -/
def boardBoxesSpec : ChangeSpec := { name := "boardBoxes", fn := fun _ => fun
  | [d1, d2] => { results := [.lit (.bool true)], args := [d1, d2] }
  | _ => none }
def boardBoxesRow : OpenClaim := { program := "ytlkbbcfbnbnagaa", sum := "a3ce29415c44c18a8fd9189f4105c86a5252b6478caf323af4fc49fdfe92d7ee", func := "oche/ochelaw01.BoardBoxes", spec := "boardBoxes", unfollowed := true, recurses := true, apart := false }
def BoardBoxesSaid : Prop := boardBoxesRow.holds Try.pinned (OpenSpec.ofChange boardBoxesSpec)

/-- ITS FALSE NEIGHBOUR: 'it returns false'. Refute it at one input. -/
def boardBoxesWrong : ChangeSpec := { name := "boardBoxes", fn := fun _ => fun
  | [d1, d2] => { results := [.lit (.bool false)], args := [d1, d2] }
  | _ => none }
def BoardBoxesWrongFalsely : Prop := boardBoxesRow.holds Try.pinned (OpenSpec.ofChange boardBoxesWrong)

/-- 'ochelaw01.BoardHolds': WHATEVER THE INPUT: true; the input reads as it did. -/
def boardHoldsSpec : ChangeSpec := { name := "boardHolds", fn := fun _ => fun
  | [d] => { results := [.lit (.bool true)], args := [d] }
  | _ => none }
def boardHoldsRow : OpenClaim := { program := "ytlkbbcfbnbnagaa", sum := "a3ce29415c44c18a8fd9189f4105c86a5252b6478caf323af4fc49fdfe92d7ee", func := "oche/ochelaw01.BoardHolds", spec := "boardHolds", unfollowed := true, recurses := true, apart := false }
def BoardHoldsSaid : Prop := boardHoldsRow.holds Try.pinned (OpenSpec.ofChange boardHoldsSpec)

/-- ITS FALSE NEIGHBOUR: 'it returns false'. Refute it at one input. -/
def boardHoldsWrong : ChangeSpec := { name := "boardHolds", fn := fun _ => fun
  | [d] => { results := [.lit (.bool false)], args := [d] }
  | _ => none }
def BoardHoldsWrongFalsely : Prop := boardHoldsRow.holds Try.pinned (OpenSpec.ofChange boardHoldsWrong)

/-- 'ochelaw01.BoardTurned': WHATEVER THE INPUT: true; the input reads as it did. -/
def boardTurnedSpec : ChangeSpec := { name := "boardTurned", fn := fun _ => fun
  | [d1, d2, d3] => { results := [.lit (.bool true)], args := [d1, d2, d3] }
  | _ => none }
def boardTurnedRow : OpenClaim := { program := "ytlkbbcfbnbnagaa", sum := "a3ce29415c44c18a8fd9189f4105c86a5252b6478caf323af4fc49fdfe92d7ee", func := "oche/ochelaw01.BoardTurned", spec := "boardTurned", unfollowed := true, recurses := true, apart := false }
def BoardTurnedSaid : Prop := boardTurnedRow.holds Try.pinned (OpenSpec.ofChange boardTurnedSpec)

/-- ITS FALSE NEIGHBOUR: 'it returns false'. Refute it at one input. -/
def boardTurnedWrong : ChangeSpec := { name := "boardTurned", fn := fun _ => fun
  | [d1, d2, d3] => { results := [.lit (.bool false)], args := [d1, d2, d3] }
  | _ => none }
def BoardTurnedWrongFalsely : Prop := boardTurnedRow.holds Try.pinned (OpenSpec.ofChange boardTurnedWrong)

/-- 'ochelaw01.BoardBeds': WHATEVER THE INPUT: true; the input reads as it did. -/
def boardBedsSpec : ChangeSpec := { name := "boardBeds", fn := fun _ => fun
  | [d1, d2] => { results := [.lit (.bool true)], args := [d1, d2] }
  | _ => none }
def boardBedsRow : OpenClaim := { program := "ytlkbbcfbnbnagaa", sum := "a3ce29415c44c18a8fd9189f4105c86a5252b6478caf323af4fc49fdfe92d7ee", func := "oche/ochelaw01.BoardBeds", spec := "boardBeds", unfollowed := true, recurses := true, apart := false }
def BoardBedsSaid : Prop := boardBedsRow.holds Try.pinned (OpenSpec.ofChange boardBedsSpec)

/-- ITS FALSE NEIGHBOUR: 'it returns false'. Refute it at one input. -/
def boardBedsWrong : ChangeSpec := { name := "boardBeds", fn := fun _ => fun
  | [d1, d2] => { results := [.lit (.bool false)], args := [d1, d2] }
  | _ => none }
def BoardBedsWrongFalsely : Prop := boardBedsRow.holds Try.pinned (OpenSpec.ofChange boardBedsWrong)

/-- 'ochelaw01.BoardOne': WHATEVER THE INPUT: true; the input reads as it did. -/
def boardOneSpec : ChangeSpec := { name := "boardOne", fn := fun _ => fun
  | [d1, d2, d3] => { results := [.lit (.bool true)], args := [d1, d2, d3] }
  | _ => none }
def boardOneRow : OpenClaim := { program := "ytlkbbcfbnbnagaa", sum := "a3ce29415c44c18a8fd9189f4105c86a5252b6478caf323af4fc49fdfe92d7ee", func := "oche/ochelaw01.BoardOne", spec := "boardOne", unfollowed := true, recurses := true, apart := false }
def BoardOneSaid : Prop := boardOneRow.holds Try.pinned (OpenSpec.ofChange boardOneSpec)

/-- ITS FALSE NEIGHBOUR: 'it returns false'. Refute it at one input. -/
def boardOneWrong : ChangeSpec := { name := "boardOne", fn := fun _ => fun
  | [d1, d2, d3] => { results := [.lit (.bool false)], args := [d1, d2, d3] }
  | _ => none }
def BoardOneWrongFalsely : Prop := boardOneRow.holds Try.pinned (OpenSpec.ofChange boardOneWrong)

/-- 'ochelaw01.BoardEven': WHATEVER THE INPUT: true; the input reads as it did. -/
def boardEvenSpec : ChangeSpec := { name := "boardEven", fn := fun _ => fun
  | [d1, d2, d3] => { results := [.lit (.bool true)], args := [d1, d2, d3] }
  | _ => none }
def boardEvenRow : OpenClaim := { program := "ytlkbbcfbnbnagaa", sum := "a3ce29415c44c18a8fd9189f4105c86a5252b6478caf323af4fc49fdfe92d7ee", func := "oche/ochelaw01.BoardEven", spec := "boardEven", unfollowed := true, recurses := true, apart := false }
def BoardEvenSaid : Prop := boardEvenRow.holds Try.pinned (OpenSpec.ofChange boardEvenSpec)

/-- ITS FALSE NEIGHBOUR: 'it returns false'. Refute it at one input. -/
def boardEvenWrong : ChangeSpec := { name := "boardEven", fn := fun _ => fun
  | [d1, d2, d3] => { results := [.lit (.bool false)], args := [d1, d2, d3] }
  | _ => none }
def BoardEvenWrongFalsely : Prop := boardEvenRow.holds Try.pinned (OpenSpec.ofChange boardEvenWrong)

/-- 'ochelaw01.BoardLasts': WHATEVER THE INPUT: true; the input reads as it did. -/
def boardLastsSpec : ChangeSpec := { name := "boardLasts", fn := fun _ => fun
  | [d1, d2, d3] => { results := [.lit (.bool true)], args := [d1, d2, d3] }
  | _ => none }
def boardLastsRow : OpenClaim := { program := "ytlkbbcfbnbnagaa", sum := "a3ce29415c44c18a8fd9189f4105c86a5252b6478caf323af4fc49fdfe92d7ee", func := "oche/ochelaw01.BoardLasts", spec := "boardLasts", unfollowed := true, recurses := true, apart := false }
def BoardLastsSaid : Prop := boardLastsRow.holds Try.pinned (OpenSpec.ofChange boardLastsSpec)

/-- ITS FALSE NEIGHBOUR: 'it returns false'. Refute it at one input. -/
def boardLastsWrong : ChangeSpec := { name := "boardLasts", fn := fun _ => fun
  | [d1, d2, d3] => { results := [.lit (.bool false)], args := [d1, d2, d3] }
  | _ => none }
def BoardLastsWrongFalsely : Prop := boardLastsRow.holds Try.pinned (OpenSpec.ofChange boardLastsWrong)

/- THE SECOND FORM. 'bulk': how many values and letters a reading holds, each counted each time it is reached (what is shared counts as often as it is met; a slice's spare places count too). A statement '..UptoSaid' is the law's where the arguments, and the package variables that the reading takes, are together of bulk at most 1048576: NARROWER than '..Said'. Prove '..Said' where nothing that the law and all that it calls make is longer than what came in: it says more and counts as full. Else prove '..UptoSaid'. A law counts once. -/
mutual
def uptoBulk {H : Type} : DataW H → Nat
  | .lit (.string bytes) => bytes.length + 1
  | .lit _ => 1
  | .nil => 1
  | .ptr d => uptoBulk d + 1
  | .slice elems spare => uptoBulkAll elems + uptoBulkAll spare + 1
  | .agg parts => uptoBulkAll parts + 1
  | .iface _ d => uptoBulk d + 1
  | .map entries => uptoBulkEntries entries + 1
  | .held _ => 1
def uptoBulkAll {H : Type} : List (DataW H) → Nat
  | [] => 0
  | d :: r => uptoBulk d + uptoBulkAll r
def uptoBulkEntries {H : Type} : List (Lit × DataW H) → Nat
  | [] => 0
  | x :: r => uptoBulkEntry x + uptoBulkEntries r
def uptoBulkEntry {H : Type} : Lit × DataW H → Nat
  | (.string bytes, d) => bytes.length + uptoBulk d + 1
  | (_, d) => uptoBulk d + 1
 end
def uptoSmall : (H : Type) → List (DataW H) → Bool := fun _ ds => decide (uptoBulkAll ds ≤ 1048576)
def OpenSpec.upto (s : _root_.Go.ChangeSpec) : _root_.Go.OpenSpec := { _root_.Go.OpenSpec.ofChange s with cond := some uptoSmall }

/-- 'ochelaw01.BoardBoxes', WHERE WHAT IT READS IS OF BULK AT MOST 1048576: true; the input reads as it did. -/
def boardBoxesUptoRow : OpenClaim := { program := "ytlkbbcfbnbnagaa", sum := "a3ce29415c44c18a8fd9189f4105c86a5252b6478caf323af4fc49fdfe92d7ee", func := "oche/ochelaw01.BoardBoxes", spec := "boardBoxes", unfollowed := true, recurses := true, apart := false, narrowed := true }
def BoardBoxesUptoSaid : Prop := boardBoxesUptoRow.holds Try.pinned (OpenSpec.upto boardBoxesSpec)

/-- 'ochelaw01.BoardHolds', WHERE WHAT IT READS IS OF BULK AT MOST 1048576: true; the input reads as it did. -/
def boardHoldsUptoRow : OpenClaim := { program := "ytlkbbcfbnbnagaa", sum := "a3ce29415c44c18a8fd9189f4105c86a5252b6478caf323af4fc49fdfe92d7ee", func := "oche/ochelaw01.BoardHolds", spec := "boardHolds", unfollowed := true, recurses := true, apart := false, narrowed := true }
def BoardHoldsUptoSaid : Prop := boardHoldsUptoRow.holds Try.pinned (OpenSpec.upto boardHoldsSpec)

/-- 'ochelaw01.BoardTurned', WHERE WHAT IT READS IS OF BULK AT MOST 1048576: true; the input reads as it did. -/
def boardTurnedUptoRow : OpenClaim := { program := "ytlkbbcfbnbnagaa", sum := "a3ce29415c44c18a8fd9189f4105c86a5252b6478caf323af4fc49fdfe92d7ee", func := "oche/ochelaw01.BoardTurned", spec := "boardTurned", unfollowed := true, recurses := true, apart := false, narrowed := true }
def BoardTurnedUptoSaid : Prop := boardTurnedUptoRow.holds Try.pinned (OpenSpec.upto boardTurnedSpec)

/-- 'ochelaw01.BoardBeds', WHERE WHAT IT READS IS OF BULK AT MOST 1048576: true; the input reads as it did. -/
def boardBedsUptoRow : OpenClaim := { program := "ytlkbbcfbnbnagaa", sum := "a3ce29415c44c18a8fd9189f4105c86a5252b6478caf323af4fc49fdfe92d7ee", func := "oche/ochelaw01.BoardBeds", spec := "boardBeds", unfollowed := true, recurses := true, apart := false, narrowed := true }
def BoardBedsUptoSaid : Prop := boardBedsUptoRow.holds Try.pinned (OpenSpec.upto boardBedsSpec)

/-- 'ochelaw01.BoardOne', WHERE WHAT IT READS IS OF BULK AT MOST 1048576: true; the input reads as it did. -/
def boardOneUptoRow : OpenClaim := { program := "ytlkbbcfbnbnagaa", sum := "a3ce29415c44c18a8fd9189f4105c86a5252b6478caf323af4fc49fdfe92d7ee", func := "oche/ochelaw01.BoardOne", spec := "boardOne", unfollowed := true, recurses := true, apart := false, narrowed := true }
def BoardOneUptoSaid : Prop := boardOneUptoRow.holds Try.pinned (OpenSpec.upto boardOneSpec)

/-- 'ochelaw01.BoardEven', WHERE WHAT IT READS IS OF BULK AT MOST 1048576: true; the input reads as it did. -/
def boardEvenUptoRow : OpenClaim := { program := "ytlkbbcfbnbnagaa", sum := "a3ce29415c44c18a8fd9189f4105c86a5252b6478caf323af4fc49fdfe92d7ee", func := "oche/ochelaw01.BoardEven", spec := "boardEven", unfollowed := true, recurses := true, apart := false, narrowed := true }
def BoardEvenUptoSaid : Prop := boardEvenUptoRow.holds Try.pinned (OpenSpec.upto boardEvenSpec)

/-- 'ochelaw01.BoardLasts', WHERE WHAT IT READS IS OF BULK AT MOST 1048576: true; the input reads as it did. -/
def boardLastsUptoRow : OpenClaim := { program := "ytlkbbcfbnbnagaa", sum := "a3ce29415c44c18a8fd9189f4105c86a5252b6478caf323af4fc49fdfe92d7ee", func := "oche/ochelaw01.BoardLasts", spec := "boardLasts", unfollowed := true, recurses := true, apart := false, narrowed := true }
def BoardLastsUptoSaid : Prop := boardLastsUptoRow.holds Try.pinned (OpenSpec.upto boardLastsSpec)

end Rows
end Go.Proofs.Ytlkbbcfbnbnagaa
