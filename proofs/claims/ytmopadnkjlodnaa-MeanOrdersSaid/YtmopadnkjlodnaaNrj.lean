/-
  MeanOrders.
-/
import Derived.Test.YtmopadnkjlodnaaMkn
import Derived.Test.YtmopadnkjlodnaaNri
namespace Go.Proofs.Ytmopadnkjlodnaa
open Go.RowKit Go.BigFrame
theorem law_MeanOrders (z0 z1 z2 z3 z4 z5 z6 z7 z8 z9 za zb : Int) (h0 : 0 ≤ z0 ∧ z0 ≤ 65535) (h1 : 0 ≤ z1 ∧ z1 ≤ 65535) (h2 : 0 ≤ z2 ∧ z2 ≤ 65535) (h3 : 0 ≤ z3 ∧ z3 ≤ 65535) (h4 : 0 ≤ z4 ∧ z4 ≤ 65535) (h5 : 0 ≤ z5 ∧ z5 ≤ 65535) (h6 : 0 ≤ z6 ∧ z6 ≤ 65535) (h7 : 0 ≤ z7 ∧ z7 ≤ 65535) (h8 : 0 ≤ z8 ∧ z8 ≤ 65535) (h9 : 0 ≤ z9 ∧ z9 ≤ 65535) (ha : 0 ≤ za ∧ za ≤ 65535) (hb : 0 ≤ zb ∧ zb ≤ 65535) (w : World) :
    Calls Try.prog 10 #[.agg #[.int .u16 z0, .int .u16 z1, .int .u16 z2, .int .u16 z3, .int .u16 z4, .int .u16 z5, .int .u16 z6, .int .u16 z7, .int .u16 z8, .int .u16 z9, .int .u16 za, .int .u16 zb]] w fun e w' => e = .returned (.bool true) ∧ Ext w w' :=
  law_orders (Lib.hid law_known) z0 z1 z2 z3 z4 z5 z6 z7 z8 z9 za zb h0 h1 h2 h3 h4 h5 h6 h7 h8 h9 ha hb w
end Go.Proofs.Ytmopadnkjlodnaa
