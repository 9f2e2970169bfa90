/-
  The statements' examples and closure: armKnownLeg; what a dart at the bull is worth.
-/
import Derived.Test.YtpifdeglhalefaaTof
import Derived.Test.YtpifdeglhalefaaLegD
namespace Go.Proofs.Ytpifdeglhalefaa
open Go.RowKit Go.BigFrame
attribute [local go_sem] Later.cell Later.frozen
theorem knownL : visS 101 0 1 true 101 [320, 101, 220] = (⟨0, 101, 3, true, false, true⟩, 0) := by decide +kernel
theorem CellsAt.threeO {w : World} {b : Nat} {x0 x1 x2 : Int} (h : Blk w b #[.int .i64 x0, .int .i64 x1, .int .i64 x2]) : CellsAt w .i64 (some ⟨b, 0, none⟩) [x0, x1, x2] := fun i hi => by
  match i, hi with
  | 0, _ => exact ⟨b, 0, rfl, h.cell 0 rfl⟩
  | 1, _ => exact ⟨b, 0, rfl, h.cell 1 rfl⟩
  | 2, _ => exact ⟨b, 0, rfl, h.cell 2 rfl⟩
theorem arm_KnownLeg (w : World) : Calls Try.prog 13 #[] w fun e w' => e = .returned (.bool true) ∧ Ext w w' := by
  have hP := leg_Visit 101 0 1 true 101 [320, 101, 220] (some ⟨w.heap.size, 0, none⟩) 3 (w.alloc (.cells #[.int .i64 320, .int .i64 101, .int .i64 220] 33)) (CellsAt.threeO (Blk.new _ _ _)) (by simp [I64]) (by decide) _ knownL
  have HP := Lib.hid hP
  clear hP
  go_enter Try.func13, Try.ntmps13
  go_wp2_with fail
  refine HP.out.mono ?_
  rintro e w1 ⟨rfl, hx1⟩
  have hE1 := ((Ext.refl w).alloc (.cells #[.int .i64 320, .int .i64 101, .int .i64 220] 33)).trans hx1
  simp only [Thr.agg]
  go_wp2
  go_ret
  exact ⟨rfl, hE1.alloc _⟩
theorem off_worth (o : Toss) (w : World) (h : 0 ≤ o.far ∧ o.far ≤ 10000) : Calls Try.prog 8 #[o.agg] w fun e w' => e = .returned (.int .i64 (worO o)) ∧ Ext w w' := by
  obtain ⟨b, r⟩ := o
  unfold Toss.agg
  simp only at h
  obtain ⟨hr0, hr1⟩ := h
  cases h1 : b == 225
  · have h1' : b ≠ 225 := by simpa using h1
    cases h2 : b == 125
    · have h2' : b ≠ 125 := by simpa using h2
      cases h3 : b == 0
      · have h3' : b ≠ 0 := by simpa using h3
        go_enter Try.func8, Try.ntmps8
        go_wp2
        go_ret
        exact ⟨ret_int (by simp [worO, h1', h2', h3']), (Ext.refl w).alloc _⟩
      · obtain rfl : b = 0 := by simpa using h3
        go_enter Try.func8, Try.ntmps8
        go_wp2
        go_ret
        exact ⟨rfl, (Ext.refl w).alloc _⟩
    · obtain rfl : b = 125 := by simpa using h2
      go_enter Try.func8, Try.ntmps8
      go_wp2
      go_ret
      exact ⟨rfl, (Ext.refl w).alloc _⟩
  · obtain rfl : b = 225 := by simpa using h1
    go_enter Try.func8, Try.ntmps8
    go_wp2
    go_ret
    exact ⟨rfl, (Ext.refl w).alloc _⟩
theorem enters_worth : Enters Try.prog 8 := enters_of Try.func8 (by kernel_rfl) rfl
end Go.Proofs.Ytpifdeglhalefaa
