/-
  MeanVisits.
-/
import Derived.Test.YtmopadnkjlodnaaMkn
import Derived.Test.YtmopadnkjlodnaaLva
namespace Go.Proofs.Ytmopadnkjlodnaa
open Go.RowKit Go.BigFrame
theorem law_MeanVisits (start gin gout : Int) (beds : List Int) (ba : Option Addr) (bc : Nat) (scores : List Int) (sa : Option Addr) (sc : Nat) (won : Bool) (w : World) (hst : I64 start) (hB : BedA w ba bc beds) (hS : BedA w sa sc scores) :
    Calls Try.prog 3 #[.agg #[.int .i64 start, .int .i64 gin, .int .i64 gout, .slice ba beds.length bc, .slice sa scores.length sc, .bool won]] w fun e w' => e = .returned (.bool true) ∧ Ext w w' :=
  law_visits (Lib.hid law_known) start gin gout beds ba bc scores sa sc won w hst hB hS
end Go.Proofs.Ytmopadnkjlodnaa
