/-
  MeanExact.
-/
import Derived.Test.YtmopadnkjlodnaaMkn
import Derived.Test.YtmopadnkjlodnaaLxb
namespace Go.Proofs.Ytmopadnkjlodnaa
open Go.RowKit Go.BigFrame
theorem law_MeanExact (start gin gout : Int) (beds : List Int) (ba : Option Addr) (bc : Nat) (vs : List (List Int)) (va : Option Addr) (vc : Nat) (w : World) (hst : I64 start) (hB : BedA w ba bc beds) (hV : VsA w va vs) :
    Calls Try.prog 6 #[.agg #[.int .i64 start, .int .i64 gin, .int .i64 gout], .slice ba beds.length bc, .slice va vs.length vc] w fun e w' => e = .returned (.bool true) ∧ Ext w w' :=
  law_exact (Lib.hid law_known) start gin gout beds ba bc vs va vc w hst hB hV
end Go.Proofs.Ytmopadnkjlodnaa
