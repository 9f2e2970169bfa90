/-
  The statements' examples: armKnownOut.
-/
import Derived.Test.YtpifdeglhalefaaOwa
import Derived.Test.YtpifdeglhalefaaBoL
import Derived.Test.YtpifdeglhalefaaOan
namespace Go.Proofs.Ytpifdeglhalefaa
open Go.RowKit Go.BigFrame
attribute [local go_sem] Later.cell Later.frozen
def fourO : Brd := ⟨60, 160, [⟨990, 1⟩], [⟨-1, 1⟩, ⟨1, 1⟩, ⟨1, -1⟩, ⟨-1, -1⟩], [20, 6, 3, 11], 0⟩
def bedsO : List Int := [120, 125, 205, 220, 225, 320]
theorem RgsAt.one {w : World} {b : Nat} {x0 : Rg} (h : Blk w b #[.int .i64 x0.outer, .int .i64 x0.factor]) : RgsAt w (some ⟨b, 0, none⟩) [x0] := fun i hi => by
  match i, hi with
  | 0, _ => exact ⟨b, 0, rfl, h.cell 0 rfl, h.cell 1 rfl⟩
theorem PtsAt.fourO {w : World} {b : Nat} {x0 x1 x2 x3 : Pt} (h : Blk w b #[.int .i64 x0.x, .int .i64 x0.y, .int .i64 x1.x, .int .i64 x1.y, .int .i64 x2.x, .int .i64 x2.y, .int .i64 x3.x, .int .i64 x3.y]) : PtsAt w (some ⟨b, 0, none⟩) [x0, x1, x2, x3] := fun i hi => by
  match i, hi with
  | 0, _ => exact ⟨b, 0, rfl, h.cell 0 rfl, h.cell 1 rfl⟩
  | 1, _ => exact ⟨b, 0, rfl, h.cell 2 rfl, h.cell 3 rfl⟩
  | 2, _ => exact ⟨b, 0, rfl, h.cell 4 rfl, h.cell 5 rfl⟩
  | 3, _ => exact ⟨b, 0, rfl, h.cell 6 rfl, h.cell 7 rfl⟩
theorem CellsAt.fourO {w : World} {b : Nat} {x0 x1 x2 x3 : Int} (h : Blk w b #[.int .i64 x0, .int .i64 x1, .int .i64 x2, .int .i64 x3]) : CellsAt w .i64 (some ⟨b, 0, none⟩) [x0, x1, x2, x3] := fun i hi => by
  match i, hi with
  | 0, _ => exact ⟨b, 0, rfl, h.cell 0 rfl⟩
  | 1, _ => exact ⟨b, 0, rfl, h.cell 1 rfl⟩
  | 2, _ => exact ⟨b, 0, rfl, h.cell 2 rfl⟩
  | 3, _ => exact ⟨b, 0, rfl, h.cell 3 rfl⟩
theorem CellsAt.sixO {w : World} {b : Nat} {x0 x1 x2 x3 x4 x5 : Int} (h : Blk w b #[.int .i64 x0, .int .i64 x1, .int .i64 x2, .int .i64 x3, .int .i64 x4, .int .i64 x5]) : CellsAt w .i64 (some ⟨b, 0, none⟩) [x0, x1, x2, x3, x4, x5] := fun i hi => by
  match i, hi with
  | 0, _ => exact ⟨b, 0, rfl, h.cell 0 rfl⟩
  | 1, _ => exact ⟨b, 0, rfl, h.cell 1 rfl⟩
  | 2, _ => exact ⟨b, 0, rfl, h.cell 2 rfl⟩
  | 3, _ => exact ⟨b, 0, rfl, h.cell 3 rfl⟩
  | 4, _ => exact ⟨b, 0, rfl, h.cell 4 rfl⟩
  | 5, _ => exact ⟨b, 0, rfl, h.cell 5 rfl⟩
theorem fourO_small : SmallB fourO := by constructor <;> (unfold fourO; simp)
theorem knownO1 : bedR fourO ⟨500, 500⟩ = (106, false, 0) := by decide +kernel
theorem knownO2 : rulO bedsO 1 2 = true := by decide +kernel
theorem knownO3 : totO (rwsO 1 bedsO 110 2) 110 = 1 := by decide +kernel
theorem knownO4 : allO 1 bedsO (rwsO 1 bedsO 110 2) 2 110 = [[320, 225]] := by decide +kernel
set_option maxRecDepth 100000 in
set_option maxHeartbeats 4000000 in
theorem arm_KnownOut (w : World) : Calls Try.prog 12 #[] w fun e w' => e = .returned (.bool true) ∧ Ext w w' := by
  go_enter Try.func12, Try.ntmps12
  go_wp2_with fail
  obtain ⟨w1, hw1⟩ : ∃ y, y = (((w.alloc (.cells #[.int .i64 990, .int .i64 1] 87)).alloc (.cells #[.int .i64 (-1), .int .i64 1, .int .i64 1, .int .i64 1, .int .i64 1, .int .i64 (-1), .int .i64 (-1), .int .i64 (-1)] 40)).alloc (.cells #[.int .i64 20, .int .i64 6, .int .i64 3, .int .i64 11] 3)).alloc (.cells #[.int .i64 60, .int .i64 160, .slice (some ⟨w.heap.size, 0, none⟩) 1 1, .slice (some ⟨w.heap.size + 1, 0, none⟩) 4 4, .slice (some ⟨w.heap.size + 1 + 1, 0, none⟩) 4 4, .int .i64 0] 27) := ⟨_, rfl⟩
  rw [← hw1]
  have hx1 : Ext w w1 := by rw [hw1]; exact ((((Ext.refl w).alloc _).alloc _).alloc _).alloc _
  have hb1 : BrdAt w1 ⟨some ⟨w.heap.size, 0, none⟩, some ⟨w.heap.size + 1, 0, none⟩, some ⟨w.heap.size + 1 + 1, 0, none⟩, 1, 4, 4⟩ fourO := by
    rw [hw1]
    refine ⟨RgsAt.one ?_, PtsAt.fourO ?_, CellsAt.fourO ?_⟩
    · exact (((Blk.new _ _ _).alloc _).alloc _).alloc _
    · exact ((Blk.at _ (by simp)).alloc _).alloc _
    · exact (Blk.at _ (by simp)).alloc _
  have hc := brd_Bed _ fourO ⟨500, 500⟩ w1 hb1 fourO_small
  rw [knownO1] at hc
  clear hw1 hb1
  refine hc.mono ?_
  rintro e w2 ⟨rfl, hx2⟩
  have HX2 := Lib.hid (hx1.trans hx2)
  clear hx1 hx2 hc
  go_wp2_with fail
  have hc := out_Ways bedsO (some ⟨w2.heap.size, 0, none⟩) 6 1 2 110 (w2.alloc (.cells #[.int .i64 120, .int .i64 125, .int .i64 205, .int .i64 220, .int .i64 225, .int .i64 320] 33)) (CellsAt.sixO (Blk.new _ _ _)) knownO2 (by omega) (by rw [knownO3]; omega)
  rw [knownO4] at hc
  refine hc.mono ?_
  rintro e w3 ⟨v, rfl, ⟨vals, ho, hv, hw⟩, hx3⟩
  obtain ⟨a0, c0, e0, hc0⟩ := hw 0 (by decide)
  obtain ⟨x, rfl⟩ : ∃ x, vals = [x] := by
    match vals, hv with
    | [x], _ => exact ⟨x, rfl⟩
  have e1 : x = .slice a0 2 c0 := by
    have h := e0
    rw [List.getElem?_cons_zero] at h
    injection h
  subst e1
  obtain ⟨va, vc, rfl⟩ := own_shape ho
  obtain ⟨vb, rfl, hvc⟩ : ∃ vb, va = some ⟨vb, 0, none⟩ ∧ w3.cell? ⟨vb, 0, none⟩ = some (.slice a0 2 c0) := by
    obtain ⟨-, ⟨e1, h2⟩ | ⟨g, cap, cur, e1, h2, h3, h4, h5, h6, h7⟩⟩ := ho
    · exact absurd h2 (by decide)
    · cases e1
      refine ⟨g, rfl, ?_⟩
      have h8 : (cur.toList.take 1)[0]? = some (.slice a0 2 c0) := by rw [show cur.toList.take 1 = [Value.slice a0 2 c0] from h7]; rfl
      rw [List.getElem?_take_of_lt (by omega)] at h8
      exact Blk.cell ⟨_, h3⟩ 0 (by simpa using h8)
  obtain ⟨b0, o0, rfl, k0⟩ := hc0 0 (by decide)
  obtain ⟨b1, o1, hb, k1⟩ := hc0 1 (by decide)
  cases hb
  have k0 : w3.cell? ⟨b0, o0, none⟩ = some (.int .i64 320) := k0
  have k1 : w3.cell? ⟨b0, o0 + 1, none⟩ = some (.int .i64 225) := k1
  have HX3 := Lib.hid (HX2.out.trans (((Ext.refl w2).alloc _).trans hx3))
  have hl0 := lt_of_cell hvc
  have hl1 := lt_of_cell k0
  simp only at hl0 hl1
  clear hx3 hc hw ho e0 hv hc0
  go_wp2
  go_ret
  exact ⟨rfl, HX3.out⟩
end Go.Proofs.Ytpifdeglhalefaa
