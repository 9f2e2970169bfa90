/-
  No cell of these rows narrows 'for every input' (looked for: loops, veiled, ifaces, maps, wideKeys, modest, calm, conditions, laid).
  DERIVED. THE GIVEN ROWS OF THIS SEAT. 3 by the template 'for every input the law returns true; each argument reads behind the call as it read before'; 0 by the template 'total and deterministic' (their statements: YtpifdeglhalefaaTotals.lean).
  GIVEN WITH THE SEED: the statements are not yours to turn. If you find one false, say at which input.
  Laid BY PROGRAM, IN A SANDBOX (cutbox-rows.mjs): the forced cells as the released guide's own fill.sh prints them over the translation f5434e8ca20c47ea… (all of the seat's roots in one cut). By AI agents, Wed Nov 11 2026. No macro, syntax, notation, axiom, sorry.
-/
import Derived.Test.YtpifdeglhalefaaChecked
import GoSem.Claim
import GoSem.ClaimJoined
import GoSem.ClaimMapViews
import Derived.JoinedTies
import Derived.KernelRfl
namespace Go.Proofs.Ytpifdeglhalefaa
/- THE CELL 'sum', in the pinned program and in every row, IS THE sha256 OF THE DUMP (.gsa) THAT YtpifdeglhalefaaProg.lean LOADS. Nothing in Lean hashes anything: it is a label: what it is worth is what the hold of that sum in a sandbox is worth. -/
noncomputable def Try.pinned : Pinned := { name := "ytpifdeglhalefaa", sum := "f5434e8ca20c47ea2c07b444d76a031043ee27ddb43d5e8e97d376a5569f2a80", checked := Try.checked }
namespace Rows
def none {H : Type} : Left H := { results := [], args := [] }

/-- 'ochetop.TopTurnedOff': WHATEVER THE INPUT: true; the input reads as it did. -/
def topTurnedOffSpec : ChangeSpec := { name := "topTurnedOff", fn := fun _ => fun
  | [d1, d2, d3] => { results := [.lit (.bool true)], args := [d1, d2, d3] }
  | _ => none }
def topTurnedOffRow : OpenClaim := { program := "ytpifdeglhalefaa", sum := "f5434e8ca20c47ea2c07b444d76a031043ee27ddb43d5e8e97d376a5569f2a80", func := "oche/ochetop.TopTurnedOff", spec := "topTurnedOff", unfollowed := true, recurses := true, apart := false }
def TopTurnedOffSaid : Prop := topTurnedOffRow.holds Try.pinned (OpenSpec.ofChange topTurnedOffSpec)

/-- ITS FALSE NEIGHBOUR: 'it returns false'. Refute it at one input. -/
def topTurnedOffWrong : ChangeSpec := { name := "topTurnedOff", fn := fun _ => fun
  | [d1, d2, d3] => { results := [.lit (.bool false)], args := [d1, d2, d3] }
  | _ => none }
def TopTurnedOffWrongFalsely : Prop := topTurnedOffRow.holds Try.pinned (OpenSpec.ofChange topTurnedOffWrong)

/-- 'ochetop.TopFewestDarts': WHATEVER THE INPUT: true; the input reads as it did. -/
def topFewestDartsSpec : ChangeSpec := { name := "topFewestDarts", fn := fun _ => fun
  | [d1, d2, d3] => { results := [.lit (.bool true)], args := [d1, d2, d3] }
  | _ => none }
def topFewestDartsRow : OpenClaim := { program := "ytpifdeglhalefaa", sum := "f5434e8ca20c47ea2c07b444d76a031043ee27ddb43d5e8e97d376a5569f2a80", func := "oche/ochetop.TopFewestDarts", spec := "topFewestDarts", unfollowed := true, recurses := true, apart := false }
def TopFewestDartsSaid : Prop := topFewestDartsRow.holds Try.pinned (OpenSpec.ofChange topFewestDartsSpec)

/-- ITS FALSE NEIGHBOUR: 'it returns false'. Refute it at one input. -/
def topFewestDartsWrong : ChangeSpec := { name := "topFewestDarts", fn := fun _ => fun
  | [d1, d2, d3] => { results := [.lit (.bool false)], args := [d1, d2, d3] }
  | _ => none }
def TopFewestDartsWrongFalsely : Prop := topFewestDartsRow.holds Try.pinned (OpenSpec.ofChange topFewestDartsWrong)

/-- 'ochetop.TopWaysPlayed': WHATEVER THE INPUT: true; the input reads as it did. -/
def topWaysPlayedSpec : ChangeSpec := { name := "topWaysPlayed", fn := fun _ => fun
  | [d1, d2, d3] => { results := [.lit (.bool true)], args := [d1, d2, d3] }
  | _ => none }
def topWaysPlayedRow : OpenClaim := { program := "ytpifdeglhalefaa", sum := "f5434e8ca20c47ea2c07b444d76a031043ee27ddb43d5e8e97d376a5569f2a80", func := "oche/ochetop.TopWaysPlayed", spec := "topWaysPlayed", unfollowed := true, recurses := true, apart := false }
def TopWaysPlayedSaid : Prop := topWaysPlayedRow.holds Try.pinned (OpenSpec.ofChange topWaysPlayedSpec)

/-- ITS FALSE NEIGHBOUR: 'it returns false'. Refute it at one input. -/
def topWaysPlayedWrong : ChangeSpec := { name := "topWaysPlayed", fn := fun _ => fun
  | [d1, d2, d3] => { results := [.lit (.bool false)], args := [d1, d2, d3] }
  | _ => none }
def TopWaysPlayedWrongFalsely : Prop := topWaysPlayedRow.holds Try.pinned (OpenSpec.ofChange topWaysPlayedWrong)

/- THE SECOND FORM. 'bulk': how many values and letters a reading holds, each counted each time it is reached (what is shared counts as often as it is met; a slice's spare places count too). A statement '..UptoSaid' is the law's where the arguments, and the package variables that the reading takes, are together of bulk at most 1048576: NARROWER than '..Said'. Prove '..Said' where nothing that the law and all that it calls make is longer than what came in: it says more and counts as full. Else prove '..UptoSaid'. A law counts once. -/
mutual
def uptoBulk {H : Type} : DataW H → Nat
  | .lit (.string bytes) => bytes.length + 1
  | .lit _ => 1
  | .nil => 1
  | .ptr d => uptoBulk d + 1
  | .slice elems spare => uptoBulkAll elems + uptoBulkAll spare + 1
  | .agg parts => uptoBulkAll parts + 1
  | .iface _ d => uptoBulk d + 1
  | .map entries => uptoBulkEntries entries + 1
  | .held _ => 1
def uptoBulkAll {H : Type} : List (DataW H) → Nat
  | [] => 0
  | d :: r => uptoBulk d + uptoBulkAll r
def uptoBulkEntries {H : Type} : List (Lit × DataW H) → Nat
  | [] => 0
  | x :: r => uptoBulkEntry x + uptoBulkEntries r
def uptoBulkEntry {H : Type} : Lit × DataW H → Nat
  | (.string bytes, d) => bytes.length + uptoBulk d + 1
  | (_, d) => uptoBulk d + 1
 end
def uptoSmall : (H : Type) → List (DataW H) → Bool := fun _ ds => decide (uptoBulkAll ds ≤ 1048576)
def OpenSpec.upto (s : _root_.Go.ChangeSpec) : _root_.Go.OpenSpec := { _root_.Go.OpenSpec.ofChange s with cond := some uptoSmall }

/-- 'ochetop.TopTurnedOff', WHERE WHAT IT READS IS OF BULK AT MOST 1048576: true; the input reads as it did. -/
def topTurnedOffUptoRow : OpenClaim := { program := "ytpifdeglhalefaa", sum := "f5434e8ca20c47ea2c07b444d76a031043ee27ddb43d5e8e97d376a5569f2a80", func := "oche/ochetop.TopTurnedOff", spec := "topTurnedOff", unfollowed := true, recurses := true, apart := false, narrowed := true }
def TopTurnedOffUptoSaid : Prop := topTurnedOffUptoRow.holds Try.pinned (OpenSpec.upto topTurnedOffSpec)

/-- 'ochetop.TopFewestDarts', WHERE WHAT IT READS IS OF BULK AT MOST 1048576: true; the input reads as it did. -/
def topFewestDartsUptoRow : OpenClaim := { program := "ytpifdeglhalefaa", sum := "f5434e8ca20c47ea2c07b444d76a031043ee27ddb43d5e8e97d376a5569f2a80", func := "oche/ochetop.TopFewestDarts", spec := "topFewestDarts", unfollowed := true, recurses := true, apart := false, narrowed := true }
def TopFewestDartsUptoSaid : Prop := topFewestDartsUptoRow.holds Try.pinned (OpenSpec.upto topFewestDartsSpec)

/-- 'ochetop.TopWaysPlayed', WHERE WHAT IT READS IS OF BULK AT MOST 1048576: true; the input reads as it did. -/
def topWaysPlayedUptoRow : OpenClaim := { program := "ytpifdeglhalefaa", sum := "f5434e8ca20c47ea2c07b444d76a031043ee27ddb43d5e8e97d376a5569f2a80", func := "oche/ochetop.TopWaysPlayed", spec := "topWaysPlayed", unfollowed := true, recurses := true, apart := false, narrowed := true }
def TopWaysPlayedUptoSaid : Prop := topWaysPlayedUptoRow.holds Try.pinned (OpenSpec.upto topWaysPlayedSpec)

end Rows
end Go.Proofs.Ytpifdeglhalefaa
