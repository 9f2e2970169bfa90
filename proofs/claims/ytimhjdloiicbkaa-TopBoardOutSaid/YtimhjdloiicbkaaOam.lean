/-
  The statements' helpers: armScore, armLowest, armOpens, armPoint.
-/
import Derived.Test.YtimhjdloiicbkaaOub
import Derived.Test.YtimhjdloiicbkaaBoB
namespace Go.Proofs.Ytimhjdloiicbkaa
open Go.RowKit Go.BigFrame
attribute [local go_sem] Later.cell Later.frozen
theorem arm_Score (b : Int) (w : World) (hb : I64 b) : Calls Try.prog 12 #[.int .i64 b] w fun e w' => e = .returned (.int .i64 (wrt b)) ∧ Ext w w' := by
  go_enter Try.func12, Try.ntmps12
  go_wp2
  go_ret
  refine ⟨ret_int ?_, Ext.refl _⟩
  rw [show wrap64 (b.tdiv 100) = b.tdiv 100 from wrap_fct hb]
  have := wrt_bounds hb
  exact IntWalk.wrap64_in _ ⟨by unfold wrt fct nmb at this; omega, by unfold wrt fct nmb at this; omega⟩
def lowA (g : Int) : Int := if g = 0 then 1 else 2
theorem arm_Lowest (g : Int) (w : World) : Calls Try.prog 13 #[.int .i64 g] w fun e w' => e = .returned (.int .i64 (lowA g)) ∧ Ext w w' := by
  by_cases h : g = 0
  · subst h
    go_enter Try.func13, Try.ntmps13
    go_wp2
    go_ret
    exact ⟨rfl, Ext.refl _⟩
  · have h' : (g == 0) = false := by simpa using h
    go_enter Try.func13, Try.ntmps13
    go_wp2
    go_ret
    exact ⟨by simp [lowA, h], Ext.refl _⟩
theorem arm_Opens (b g : Int) (w : World) (hb : I64 b) (h0 : b ≠ 0) (hg : g = 0 ∨ g = 1 ∨ g = 2) : Calls Try.prog 14 #[.int .i64 b, .int .i64 g] w fun e w' => e = .returned (.bool (opnO g b)) ∧ Ext w w' := by
  have h0' : (b != 0) = true := by simpa using h0
  have hq := wrap_fct hb
  unfold fct at hq
  rcases hg with rfl | rfl | rfl
  · go_enter Try.func14, Try.ntmps14
    go_wp2
    go_ret
    exact ⟨rfl, Ext.refl _⟩
  · cases h : (fct b == 2)
    · unfold fct at h
      go_enter Try.func14, Try.ntmps14
      go_wp2
      go_ret
      exact ⟨ret_bool (by simp [opnO, fct, *]), Ext.refl _⟩
    · unfold fct at h
      go_enter Try.func14, Try.ntmps14
      go_wp2
      go_ret
      exact ⟨ret_bool (by simp [opnO, fct, *]), Ext.refl _⟩
  · go_enter Try.func14, Try.ntmps14
    go_wp2
    go_ret
    exact ⟨ret_bool rfl, Ext.refl _⟩
def pntA (a b : Nat) : Pt := ⟨(a : Int) % 3601 - 1800, (b : Int) % 3601 - 1800⟩
theorem arm_Point (a b : Nat) (w : World) (ha : a < 65536) (hb : b < 65536) : Calls Try.prog 11 #[.agg #[.int .u16 a, .int .u16 b]] w fun e w' => e = .returned (pntA a b).agg ∧ Ext w w' := by
  go_enter Try.func11, Try.ntmps11
  go_wp2
  refine bodyPost_ret (v := (pntA a b).agg) (by simp [results, Try.results11, go_sem, pntA, Pt.agg]) rfl ⟨rfl, ?_⟩
  exact ((Ext.refl _).alloc _).alloc _
end Go.Proofs.Ytimhjdloiicbkaa
