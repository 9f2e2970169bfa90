/-
  The statements' helpers: armPoint.
-/
import Derived.Test.YtpifdeglhalefaaOub
import Derived.Test.YtpifdeglhalefaaBoB
namespace Go.Proofs.Ytpifdeglhalefaa
open Go.RowKit Go.BigFrame
attribute [local go_sem] Later.cell Later.frozen
def pntA (a b : Nat) : Pt := ⟨(a : Int) % 3601 - 1800, (b : Int) % 3601 - 1800⟩
theorem arm_Point (a b : Nat) (w : World) (ha : a < 65536) (hb : b < 65536) : Calls Try.prog 9 #[.agg #[.int .u16 a, .int .u16 b]] w fun e w' => e = .returned (pntA a b).agg ∧ Ext w w' := by
  go_enter Try.func9, Try.ntmps9
  go_wp2
  refine bodyPost_ret (v := (pntA a b).agg) (by simp [results, Try.results9, go_sem, pntA, Pt.agg]) rfl ⟨rfl, ?_⟩
  exact ((Ext.refl _).alloc _).alloc _
end Go.Proofs.Ytpifdeglhalefaa
