/-
  No cell of these rows narrows 'for every input' (looked for: loops, veiled, ifaces, maps, wideKeys, modest, calm, conditions, laid).
  DERIVED. THE GIVEN ROWS OF THIS SEAT. 10 by the template 'for every input the law returns true; each argument reads behind the call as it read before'; 0 by the template 'total and deterministic' (their statements: YtocnglplhnhllaaTotals.lean).
  GIVEN WITH THE SEED: the statements are not yours to turn. If you find one false, say at which input.
  Laid BY PROGRAM, IN A SANDBOX (cutbox-rows.mjs): the forced cells as the released guide's own fill.sh prints them over the translation 780451fb2561ce69… (all of the seat's roots in one cut). By AI agents, Wed Nov 11 2026. No macro, syntax, notation, axiom, sorry.
-/
import Derived.Test.YtocnglplhnhllaaChecked
import GoSem.Claim
import GoSem.ClaimJoined
import GoSem.ClaimMapViews
import Derived.JoinedTies
import Derived.KernelRfl
namespace Go.Proofs.Ytocnglplhnhllaa
/- THE CELL 'sum', in the pinned program and in every row, IS THE sha256 OF THE DUMP (.gsa) THAT YtocnglplhnhllaaProg.lean LOADS. Nothing in Lean hashes anything: it is a label: what it is worth is what the hold of that sum in a sandbox is worth. -/
noncomputable def Try.pinned : Pinned := { name := "ytocnglplhnhllaa", sum := "780451fb2561ce69d82f3ad6b9676015073106b69807eba270b3eaff6d56b1e9", checked := Try.checked }
namespace Rows
def none {H : Type} : Left H := { results := [], args := [] }

/-- 'ochelaw03.LegVisits': WHATEVER THE INPUT: true; the input reads as it did. -/
def legVisitsSpec : ChangeSpec := { name := "legVisits", fn := fun _ => fun
  | [d1, d2] => { results := [.lit (.bool true)], args := [d1, d2] }
  | _ => none }
def legVisitsRow : OpenClaim := { program := "ytocnglplhnhllaa", sum := "780451fb2561ce69d82f3ad6b9676015073106b69807eba270b3eaff6d56b1e9", func := "oche/ochelaw03.LegVisits", spec := "legVisits", unfollowed := true, recurses := true, apart := false }
def LegVisitsSaid : Prop := legVisitsRow.holds Try.pinned (OpenSpec.ofChange legVisitsSpec)

/-- ITS FALSE NEIGHBOUR: 'it returns false'. Refute it at one input. -/
def legVisitsWrong : ChangeSpec := { name := "legVisits", fn := fun _ => fun
  | [d1, d2] => { results := [.lit (.bool false)], args := [d1, d2] }
  | _ => none }
def LegVisitsWrongFalsely : Prop := legVisitsRow.holds Try.pinned (OpenSpec.ofChange legVisitsWrong)

/-- 'ochelaw03.LegPlays': WHATEVER THE INPUT: true; the input reads as it did. -/
def legPlaysSpec : ChangeSpec := { name := "legPlays", fn := fun _ => fun
  | [d1, d2] => { results := [.lit (.bool true)], args := [d1, d2] }
  | _ => none }
def legPlaysRow : OpenClaim := { program := "ytocnglplhnhllaa", sum := "780451fb2561ce69d82f3ad6b9676015073106b69807eba270b3eaff6d56b1e9", func := "oche/ochelaw03.LegPlays", spec := "legPlays", unfollowed := true, recurses := true, apart := false }
def LegPlaysSaid : Prop := legPlaysRow.holds Try.pinned (OpenSpec.ofChange legPlaysSpec)

/-- ITS FALSE NEIGHBOUR: 'it returns false'. Refute it at one input. -/
def legPlaysWrong : ChangeSpec := { name := "legPlays", fn := fun _ => fun
  | [d1, d2] => { results := [.lit (.bool false)], args := [d1, d2] }
  | _ => none }
def LegPlaysWrongFalsely : Prop := legPlaysRow.holds Try.pinned (OpenSpec.ofChange legPlaysWrong)

/-- 'ochelaw03.LegJudges': WHATEVER THE INPUT: true; the input reads as it did. -/
def legJudgesSpec : ChangeSpec := { name := "legJudges", fn := fun _ => fun
  | [d1, d2] => { results := [.lit (.bool true)], args := [d1, d2] }
  | _ => none }
def legJudgesRow : OpenClaim := { program := "ytocnglplhnhllaa", sum := "780451fb2561ce69d82f3ad6b9676015073106b69807eba270b3eaff6d56b1e9", func := "oche/ochelaw03.LegJudges", spec := "legJudges", unfollowed := true, recurses := true, apart := false }
def LegJudgesSaid : Prop := legJudgesRow.holds Try.pinned (OpenSpec.ofChange legJudgesSpec)

/-- ITS FALSE NEIGHBOUR: 'it returns false'. Refute it at one input. -/
def legJudgesWrong : ChangeSpec := { name := "legJudges", fn := fun _ => fun
  | [d1, d2] => { results := [.lit (.bool false)], args := [d1, d2] }
  | _ => none }
def LegJudgesWrongFalsely : Prop := legJudgesRow.holds Try.pinned (OpenSpec.ofChange legJudgesWrong)

/-- 'ochelaw03.LegOffs': WHATEVER THE INPUT: true; the input reads as it did. -/
def legOffsSpec : ChangeSpec := { name := "legOffs", fn := fun _ => fun
  | [d1, d2] => { results := [.lit (.bool true)], args := [d1, d2] }
  | _ => none }
def legOffsRow : OpenClaim := { program := "ytocnglplhnhllaa", sum := "780451fb2561ce69d82f3ad6b9676015073106b69807eba270b3eaff6d56b1e9", func := "oche/ochelaw03.LegOffs", spec := "legOffs", unfollowed := true, recurses := true, apart := false }
def LegOffsSaid : Prop := legOffsRow.holds Try.pinned (OpenSpec.ofChange legOffsSpec)

/-- ITS FALSE NEIGHBOUR: 'it returns false'. Refute it at one input. -/
def legOffsWrong : ChangeSpec := { name := "legOffs", fn := fun _ => fun
  | [d1, d2] => { results := [.lit (.bool false)], args := [d1, d2] }
  | _ => none }
def LegOffsWrongFalsely : Prop := legOffsRow.holds Try.pinned (OpenSpec.ofChange legOffsWrong)

/-- 'ochelaw03.LegMatches': WHATEVER THE INPUT: true; the input reads as it did. -/
def legMatchesSpec : ChangeSpec := { name := "legMatches", fn := fun _ => fun
  | [d1, d2] => { results := [.lit (.bool true)], args := [d1, d2] }
  | _ => none }
def legMatchesRow : OpenClaim := { program := "ytocnglplhnhllaa", sum := "780451fb2561ce69d82f3ad6b9676015073106b69807eba270b3eaff6d56b1e9", func := "oche/ochelaw03.LegMatches", spec := "legMatches", unfollowed := true, recurses := true, apart := false }
def LegMatchesSaid : Prop := legMatchesRow.holds Try.pinned (OpenSpec.ofChange legMatchesSpec)

/-- ITS FALSE NEIGHBOUR: 'it returns false'. Refute it at one input. -/
def legMatchesWrong : ChangeSpec := { name := "legMatches", fn := fun _ => fun
  | [d1, d2] => { results := [.lit (.bool false)], args := [d1, d2] }
  | _ => none }
def LegMatchesWrongFalsely : Prop := legMatchesRow.holds Try.pinned (OpenSpec.ofChange legMatchesWrong)

/-- 'ochelaw03.LegTold': WHATEVER THE INPUT: true; the input reads as it did. -/
def legToldSpec : ChangeSpec := { name := "legTold", fn := fun _ => fun
  | [d] => { results := [.lit (.bool true)], args := [d] }
  | _ => none }
def legToldRow : OpenClaim := { program := "ytocnglplhnhllaa", sum := "780451fb2561ce69d82f3ad6b9676015073106b69807eba270b3eaff6d56b1e9", func := "oche/ochelaw03.LegTold", spec := "legTold", unfollowed := true, recurses := true, apart := false }
def LegToldSaid : Prop := legToldRow.holds Try.pinned (OpenSpec.ofChange legToldSpec)

/-- ITS FALSE NEIGHBOUR: 'it returns false'. Refute it at one input. -/
def legToldWrong : ChangeSpec := { name := "legTold", fn := fun _ => fun
  | [d] => { results := [.lit (.bool false)], args := [d] }
  | _ => none }
def LegToldWrongFalsely : Prop := legToldRow.holds Try.pinned (OpenSpec.ofChange legToldWrong)

/-- 'ochelaw03.LegNamed': WHATEVER THE INPUT: true; the input reads as it did. -/
def legNamedSpec : ChangeSpec := { name := "legNamed", fn := fun _ => fun
  | [d1, d2, d3] => { results := [.lit (.bool true)], args := [d1, d2, d3] }
  | _ => none }
def legNamedRow : OpenClaim := { program := "ytocnglplhnhllaa", sum := "780451fb2561ce69d82f3ad6b9676015073106b69807eba270b3eaff6d56b1e9", func := "oche/ochelaw03.LegNamed", spec := "legNamed", unfollowed := true, recurses := true, apart := false }
def LegNamedSaid : Prop := legNamedRow.holds Try.pinned (OpenSpec.ofChange legNamedSpec)

/-- ITS FALSE NEIGHBOUR: 'it returns false'. Refute it at one input. -/
def legNamedWrong : ChangeSpec := { name := "legNamed", fn := fun _ => fun
  | [d1, d2, d3] => { results := [.lit (.bool false)], args := [d1, d2, d3] }
  | _ => none }
def LegNamedWrongFalsely : Prop := legNamedRow.holds Try.pinned (OpenSpec.ofChange legNamedWrong)

/-- 'ochelaw03.LegKept': WHATEVER THE INPUT: true; the input reads as it did. -/
def legKeptSpec : ChangeSpec := { name := "legKept", fn := fun _ => fun
  | [d1, d2] => { results := [.lit (.bool true)], args := [d1, d2] }
  | _ => none }
def legKeptRow : OpenClaim := { program := "ytocnglplhnhllaa", sum := "780451fb2561ce69d82f3ad6b9676015073106b69807eba270b3eaff6d56b1e9", func := "oche/ochelaw03.LegKept", spec := "legKept", unfollowed := true, recurses := true, apart := false }
def LegKeptSaid : Prop := legKeptRow.holds Try.pinned (OpenSpec.ofChange legKeptSpec)

/-- ITS FALSE NEIGHBOUR: 'it returns false'. Refute it at one input. -/
def legKeptWrong : ChangeSpec := { name := "legKept", fn := fun _ => fun
  | [d1, d2] => { results := [.lit (.bool false)], args := [d1, d2] }
  | _ => none }
def LegKeptWrongFalsely : Prop := legKeptRow.holds Try.pinned (OpenSpec.ofChange legKeptWrong)

/-- 'ochelaw03.LegTurned': WHATEVER THE INPUT: true; the input reads as it did. -/
def legTurnedSpec : ChangeSpec := { name := "legTurned", fn := fun _ => fun
  | [d1, d2, d3] => { results := [.lit (.bool true)], args := [d1, d2, d3] }
  | _ => none }
def legTurnedRow : OpenClaim := { program := "ytocnglplhnhllaa", sum := "780451fb2561ce69d82f3ad6b9676015073106b69807eba270b3eaff6d56b1e9", func := "oche/ochelaw03.LegTurned", spec := "legTurned", unfollowed := true, recurses := true, apart := false }
def LegTurnedSaid : Prop := legTurnedRow.holds Try.pinned (OpenSpec.ofChange legTurnedSpec)

/-- ITS FALSE NEIGHBOUR: 'it returns false'. Refute it at one input. -/
def legTurnedWrong : ChangeSpec := { name := "legTurned", fn := fun _ => fun
  | [d1, d2, d3] => { results := [.lit (.bool false)], args := [d1, d2, d3] }
  | _ => none }
def LegTurnedWrongFalsely : Prop := legTurnedRow.holds Try.pinned (OpenSpec.ofChange legTurnedWrong)

/-- 'ochelaw03.LegBull': WHATEVER THE INPUT: true; the input reads as it did. -/
def legBullSpec : ChangeSpec := { name := "legBull", fn := fun _ => fun
  | [d1, d2] => { results := [.lit (.bool true)], args := [d1, d2] }
  | _ => none }
def legBullRow : OpenClaim := { program := "ytocnglplhnhllaa", sum := "780451fb2561ce69d82f3ad6b9676015073106b69807eba270b3eaff6d56b1e9", func := "oche/ochelaw03.LegBull", spec := "legBull", unfollowed := true, recurses := true, apart := false }
def LegBullSaid : Prop := legBullRow.holds Try.pinned (OpenSpec.ofChange legBullSpec)

/-- ITS FALSE NEIGHBOUR: 'it returns false'. Refute it at one input. -/
def legBullWrong : ChangeSpec := { name := "legBull", fn := fun _ => fun
  | [d1, d2] => { results := [.lit (.bool false)], args := [d1, d2] }
  | _ => none }
def LegBullWrongFalsely : Prop := legBullRow.holds Try.pinned (OpenSpec.ofChange legBullWrong)

/- THE SECOND FORM. 'bulk': how many values and letters a reading holds, each counted each time it is reached (what is shared counts as often as it is met; a slice's spare places count too). A statement '..UptoSaid' is the law's where the arguments, and the package variables that the reading takes, are together of bulk at most 1048576: NARROWER than '..Said'. Prove '..Said' where nothing that the law and all that it calls make is longer than what came in: it says more and counts as full. Else prove '..UptoSaid'. A law counts once. -/
mutual
def uptoBulk {H : Type} : DataW H → Nat
  | .lit (.string bytes) => bytes.length + 1
  | .lit _ => 1
  | .nil => 1
  | .ptr d => uptoBulk d + 1
  | .slice elems spare => uptoBulkAll elems + uptoBulkAll spare + 1
  | .agg parts => uptoBulkAll parts + 1
  | .iface _ d => uptoBulk d + 1
  | .map entries => uptoBulkEntries entries + 1
  | .held _ => 1
def uptoBulkAll {H : Type} : List (DataW H) → Nat
  | [] => 0
  | d :: r => uptoBulk d + uptoBulkAll r
def uptoBulkEntries {H : Type} : List (Lit × DataW H) → Nat
  | [] => 0
  | x :: r => uptoBulkEntry x + uptoBulkEntries r
def uptoBulkEntry {H : Type} : Lit × DataW H → Nat
  | (.string bytes, d) => bytes.length + uptoBulk d + 1
  | (_, d) => uptoBulk d + 1
 end
def uptoSmall : (H : Type) → List (DataW H) → Bool := fun _ ds => decide (uptoBulkAll ds ≤ 1048576)
def OpenSpec.upto (s : _root_.Go.ChangeSpec) : _root_.Go.OpenSpec := { _root_.Go.OpenSpec.ofChange s with cond := some uptoSmall }

/-- 'ochelaw03.LegVisits', WHERE WHAT IT READS IS OF BULK AT MOST 1048576: true; the input reads as it did. -/
def legVisitsUptoRow : OpenClaim := { program := "ytocnglplhnhllaa", sum := "780451fb2561ce69d82f3ad6b9676015073106b69807eba270b3eaff6d56b1e9", func := "oche/ochelaw03.LegVisits", spec := "legVisits", unfollowed := true, recurses := true, apart := false, narrowed := true }
def LegVisitsUptoSaid : Prop := legVisitsUptoRow.holds Try.pinned (OpenSpec.upto legVisitsSpec)

/-- 'ochelaw03.LegPlays', WHERE WHAT IT READS IS OF BULK AT MOST 1048576: true; the input reads as it did. -/
def legPlaysUptoRow : OpenClaim := { program := "ytocnglplhnhllaa", sum := "780451fb2561ce69d82f3ad6b9676015073106b69807eba270b3eaff6d56b1e9", func := "oche/ochelaw03.LegPlays", spec := "legPlays", unfollowed := true, recurses := true, apart := false, narrowed := true }
def LegPlaysUptoSaid : Prop := legPlaysUptoRow.holds Try.pinned (OpenSpec.upto legPlaysSpec)

/-- 'ochelaw03.LegJudges', WHERE WHAT IT READS IS OF BULK AT MOST 1048576: true; the input reads as it did. -/
def legJudgesUptoRow : OpenClaim := { program := "ytocnglplhnhllaa", sum := "780451fb2561ce69d82f3ad6b9676015073106b69807eba270b3eaff6d56b1e9", func := "oche/ochelaw03.LegJudges", spec := "legJudges", unfollowed := true, recurses := true, apart := false, narrowed := true }
def LegJudgesUptoSaid : Prop := legJudgesUptoRow.holds Try.pinned (OpenSpec.upto legJudgesSpec)

/-- 'ochelaw03.LegOffs', WHERE WHAT IT READS IS OF BULK AT MOST 1048576: true; the input reads as it did. -/
def legOffsUptoRow : OpenClaim := { program := "ytocnglplhnhllaa", sum := "780451fb2561ce69d82f3ad6b9676015073106b69807eba270b3eaff6d56b1e9", func := "oche/ochelaw03.LegOffs", spec := "legOffs", unfollowed := true, recurses := true, apart := false, narrowed := true }
def LegOffsUptoSaid : Prop := legOffsUptoRow.holds Try.pinned (OpenSpec.upto legOffsSpec)

/-- 'ochelaw03.LegMatches', WHERE WHAT IT READS IS OF BULK AT MOST 1048576: true; the input reads as it did. -/
def legMatchesUptoRow : OpenClaim := { program := "ytocnglplhnhllaa", sum := "780451fb2561ce69d82f3ad6b9676015073106b69807eba270b3eaff6d56b1e9", func := "oche/ochelaw03.LegMatches", spec := "legMatches", unfollowed := true, recurses := true, apart := false, narrowed := true }
def LegMatchesUptoSaid : Prop := legMatchesUptoRow.holds Try.pinned (OpenSpec.upto legMatchesSpec)

/-- 'ochelaw03.LegTold', WHERE WHAT IT READS IS OF BULK AT MOST 1048576: true; the input reads as it did. -/
def legToldUptoRow : OpenClaim := { program := "ytocnglplhnhllaa", sum := "780451fb2561ce69d82f3ad6b9676015073106b69807eba270b3eaff6d56b1e9", func := "oche/ochelaw03.LegTold", spec := "legTold", unfollowed := true, recurses := true, apart := false, narrowed := true }
def LegToldUptoSaid : Prop := legToldUptoRow.holds Try.pinned (OpenSpec.upto legToldSpec)

/-- 'ochelaw03.LegNamed', WHERE WHAT IT READS IS OF BULK AT MOST 1048576: true; the input reads as it did. -/
def legNamedUptoRow : OpenClaim := { program := "ytocnglplhnhllaa", sum := "780451fb2561ce69d82f3ad6b9676015073106b69807eba270b3eaff6d56b1e9", func := "oche/ochelaw03.LegNamed", spec := "legNamed", unfollowed := true, recurses := true, apart := false, narrowed := true }
def LegNamedUptoSaid : Prop := legNamedUptoRow.holds Try.pinned (OpenSpec.upto legNamedSpec)

/-- 'ochelaw03.LegKept', WHERE WHAT IT READS IS OF BULK AT MOST 1048576: true; the input reads as it did. -/
def legKeptUptoRow : OpenClaim := { program := "ytocnglplhnhllaa", sum := "780451fb2561ce69d82f3ad6b9676015073106b69807eba270b3eaff6d56b1e9", func := "oche/ochelaw03.LegKept", spec := "legKept", unfollowed := true, recurses := true, apart := false, narrowed := true }
def LegKeptUptoSaid : Prop := legKeptUptoRow.holds Try.pinned (OpenSpec.upto legKeptSpec)

/-- 'ochelaw03.LegTurned', WHERE WHAT IT READS IS OF BULK AT MOST 1048576: true; the input reads as it did. -/
def legTurnedUptoRow : OpenClaim := { program := "ytocnglplhnhllaa", sum := "780451fb2561ce69d82f3ad6b9676015073106b69807eba270b3eaff6d56b1e9", func := "oche/ochelaw03.LegTurned", spec := "legTurned", unfollowed := true, recurses := true, apart := false, narrowed := true }
def LegTurnedUptoSaid : Prop := legTurnedUptoRow.holds Try.pinned (OpenSpec.upto legTurnedSpec)

/-- 'ochelaw03.LegBull', WHERE WHAT IT READS IS OF BULK AT MOST 1048576: true; the input reads as it did. -/
def legBullUptoRow : OpenClaim := { program := "ytocnglplhnhllaa", sum := "780451fb2561ce69d82f3ad6b9676015073106b69807eba270b3eaff6d56b1e9", func := "oche/ochelaw03.LegBull", spec := "legBull", unfollowed := true, recurses := true, apart := false, narrowed := true }
def LegBullUptoSaid : Prop := legBullUptoRow.holds Try.pinned (OpenSpec.upto legBullSpec)

end Rows
end Go.Proofs.Ytocnglplhnhllaa
