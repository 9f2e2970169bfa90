/-
  MeanTotals.
-/
import Derived.Test.YtmopadnkjlodnaaMkn
import Derived.Test.YtmopadnkjlodnaaLtb
namespace Go.Proofs.Ytmopadnkjlodnaa
open Go.RowKit Go.BigFrame
theorem law_MeanTotals (ls : List Leg) (la : Option Addr) (lc : Nat) (w : World) (hA : LgsA w la ls) :
    Calls Try.prog 11 #[.slice la ls.length lc] w fun e w' => e = .returned (.bool true) ∧ Ext w w' :=
  law_totals (Lib.hid law_known) ls la lc w hA
end Go.Proofs.Ytmopadnkjlodnaa
