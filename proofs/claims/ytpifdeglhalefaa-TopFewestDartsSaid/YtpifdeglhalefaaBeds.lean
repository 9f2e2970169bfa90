/-
  Beds in plain words: factor, number, score; gates; what a dart does. No program here.
-/
import Derived.Test.YtpifdeglhalefaaBase
namespace Go.Proofs.Ytpifdeglhalefaa
open Go.RowKit

theorem CellsAt.one (w : World) (x : Int) (t : TypeId) {n : Nat} (hn : n = w.heap.size) : CellsAt (w.alloc (.cells #[.int .i64 x] t)) .i64 (some ⟨n, 0, none⟩) [x] := fun i hi => by
  subst hn
  obtain rfl : i = 0 := by simpa using hi
  exact ⟨_, _, rfl, by simp [go_sem]⟩
theorem CellsAt.two (w : World) (x y : Int) (t : TypeId) {n : Nat} (hn : n = w.heap.size) : CellsAt (w.alloc (.cells #[.int .i64 x, .int .i64 y] t)) .i64 (some ⟨n, 0, none⟩) [x, y] := fun i hi => by
  subst hn
  match i, hi with
  | 0, _ => exact ⟨_, _, rfl, by simp [go_sem]⟩
  | 1, _ => exact ⟨_, _, rfl, by simp [go_sem]⟩
theorem CellsAt.three (w : World) (x y z : Int) (t : TypeId) {n : Nat} (hn : n = w.heap.size) : CellsAt (w.alloc (.cells #[.int .i64 x, .int .i64 y, .int .i64 z] t)) .i64 (some ⟨n, 0, none⟩) [x, y, z] := fun i hi => by
  subst hn
  match i, hi with
  | 0, _ => exact ⟨_, _, rfl, by simp [go_sem]⟩
  | 1, _ => exact ⟨_, _, rfl, by simp [go_sem]⟩
  | 2, _ => exact ⟨_, _, rfl, by simp [go_sem]⟩
/-- The factor, the number and the score of a bed. -/
def fct (b : Int) : Int := b.tdiv 100
def nmb (b : Int) : Int := b.tmod 100
def wrt (b : Int) : Int := fct b * nmb b
theorem fct_bounds {b : Int} (h : I64 b) : -92233720368547758 ≤ fct b ∧ fct b ≤ 92233720368547758 := by
  unfold I64 at h; unfold fct
  rcases Int.le_total 0 b with hb | hb
  · rw [Int.tdiv_eq_ediv_of_nonneg hb]; omega
  · have : b.tdiv 100 = -((-b) / 100) := by rw [← Int.tdiv_eq_ediv_of_nonneg (by omega), Int.neg_tdiv, Int.neg_neg]
    rw [this]; omega
theorem nmb_bounds (b : Int) : -99 ≤ nmb b ∧ nmb b ≤ 99 := by
  unfold nmb
  rcases Int.le_total 0 b with hb | hb
  · rw [Int.tmod_eq_emod_of_nonneg hb]; omega
  · have : b.tmod 100 = -((-b) % 100) := by rw [← Int.tmod_eq_emod_of_nonneg (by omega), Int.neg_tmod, Int.neg_neg]
    rw [this]; omega
theorem wrt_bounds {b : Int} (h : I64 b) : -9223372036854775800 ≤ wrt b ∧ wrt b ≤ 9223372036854775800 := by
  have h1 := fct_bounds h
  have h2 := nmb_bounds b
  unfold wrt
  generalize fct b = x at *
  generalize nmb b = y at *
  have a1 : x * y ≤ 9131138316486228042 := by
    rcases Int.le_total 0 y with hy | hy
    · exact Int.le_trans (Int.mul_le_mul_of_nonneg_right h1.2 hy) (by omega)
    · exact Int.le_trans (Int.mul_le_mul_of_nonpos_right h1.1 hy) (by omega)
  have a2 : -9131138316486228042 ≤ x * y := by
    rcases Int.le_total 0 y with hy | hy
    · exact Int.le_trans (by omega) (Int.mul_le_mul_of_nonneg_right h1.1 hy)
    · exact Int.le_trans (by omega) (Int.mul_le_mul_of_nonpos_right h1.2 hy)
  omega
theorem wrap_fct {b : Int} (h : I64 b) : wrap64 (b.tdiv 100) = fct b := by
  have := fct_bounds h
  exact IntWalk.wrap64_in _ ⟨by unfold fct at this; omega, by unfold fct at this; omega⟩
theorem wrap_wrt {b : Int} (h : I64 b) : IntKind.i64.wrap (fct b * nmb b) = wrt b := by
  have := wrt_bounds h
  exact wrap_i64_in ⟨by unfold wrt at this; omega, by unfold wrt at this; omega⟩

/-- Whether numbers lie between two others. -/
def out1 (least most : Int) (n : Int) : Bool := decide (n < least) || decide (most < n)
def ins (least most : Int) (l : List Int) : Bool := !l.any (out1 least most)
/-- Whether a bed opens a gate. -/
def opn (g b : Int) : Bool := if g = 1 then fct b == 2 else if g = 2 then decide (2 ≤ fct b) else decide (1 ≤ fct b)
/-- Whether a bed is one other than a miss. -/
def isBedB (b : Int) : Bool := b == 125 || b == 225 || (ins 1 4 [fct b] && ins 1 20 [nmb b])
/-- What a dart does: what is left, whether the player is in, and 0 (it goes on), 1 (it wins) or 2 (it busts). -/
def hitS (gin gout left : Int) (inn : Bool) (x : Int) : Int × Bool × Int :=
  if (x == 0) = true ∨ inn = false ∧ opn gin x = false then (left, inn, 0)
  else if left - wrt x = 0 ∧ opn gout x = true then (0, true, 1)
  else if 1 < left - wrt x ∨ left - wrt x = 1 ∧ (gout == 0) = true then (left - wrt x, true, 0)
  else (left, inn, 2)
end Go.Proofs.Ytpifdeglhalefaa
