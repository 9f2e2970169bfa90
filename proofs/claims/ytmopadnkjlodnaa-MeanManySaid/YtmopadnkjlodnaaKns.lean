/-
  What known() of chapter 6 does, as the laws use it.
-/
import Derived.Test.YtmopadnkjlodnaaProg
import Derived.Test.YtmopadnkjlodnaaBase
namespace Go.Proofs.Ytmopadnkjlodnaa
open Go.RowKit
/-- What known() does. -/
def Knows : Prop := ∀ w, Calls Try.prog 14 #[] w fun e w' => e = .returned (.bool true) ∧ Ext w w'
end Go.Proofs.Ytmopadnkjlodnaa
