/-
  The statements of chapter 1: four, known.
-/
import Derived.Test.YtlkbbcfbnbnagaaGreatBpA
import Derived.Test.YtlkbbcfbnbnagaaGreatLba
namespace Go.Proofs.YtlkbbcfbnbnagaaGreat
open Go.RowKit Go.BigFrame
attribute [local go_sem] Later.cell Later.frozen
def fourB (wire : Int) : Brd := ⟨60, 160, [⟨990, 1⟩, ⟨1070, 3⟩, ⟨1620, 1⟩, ⟨1700, 2⟩], [⟨-1, 1⟩, ⟨1, 1⟩, ⟨1, -1⟩, ⟨-1, -1⟩], [20, 6, 3, 11], wire⟩
theorem RgsAt.four {w : World} {b : Nat} {x0 x1 x2 x3 : Rg} (h : Blk w b #[.int .i64 x0.outer, .int .i64 x0.factor, .int .i64 x1.outer, .int .i64 x1.factor, .int .i64 x2.outer, .int .i64 x2.factor, .int .i64 x3.outer, .int .i64 x3.factor]) : RgsAt w (some ⟨b, 0, none⟩) [x0, x1, x2, x3] := fun i hi => by
  match i, hi with
  | 0, _ => exact ⟨b, 0, rfl, h.cell 0 rfl, h.cell 1 rfl⟩
  | 1, _ => exact ⟨b, 0, rfl, h.cell 2 rfl, h.cell 3 rfl⟩
  | 2, _ => exact ⟨b, 0, rfl, h.cell 4 rfl, h.cell 5 rfl⟩
  | 3, _ => exact ⟨b, 0, rfl, h.cell 6 rfl, h.cell 7 rfl⟩
theorem PtsAt.four {w : World} {b : Nat} {x0 x1 x2 x3 : Pt} (h : Blk w b #[.int .i64 x0.x, .int .i64 x0.y, .int .i64 x1.x, .int .i64 x1.y, .int .i64 x2.x, .int .i64 x2.y, .int .i64 x3.x, .int .i64 x3.y]) : PtsAt w (some ⟨b, 0, none⟩) [x0, x1, x2, x3] := fun i hi => by
  match i, hi with
  | 0, _ => exact ⟨b, 0, rfl, h.cell 0 rfl, h.cell 1 rfl⟩
  | 1, _ => exact ⟨b, 0, rfl, h.cell 2 rfl, h.cell 3 rfl⟩
  | 2, _ => exact ⟨b, 0, rfl, h.cell 4 rfl, h.cell 5 rfl⟩
  | 3, _ => exact ⟨b, 0, rfl, h.cell 6 rfl, h.cell 7 rfl⟩
theorem CellsAt.four {w : World} {b : Nat} {x0 x1 x2 x3 : Int} (h : Blk w b #[.int .i64 x0, .int .i64 x1, .int .i64 x2, .int .i64 x3]) : CellsAt w .i64 (some ⟨b, 0, none⟩) [x0, x1, x2, x3] := fun i hi => by
  match i, hi with
  | 0, _ => exact ⟨b, 0, rfl, h.cell 0 rfl⟩
  | 1, _ => exact ⟨b, 0, rfl, h.cell 1 rfl⟩
  | 2, _ => exact ⟨b, 0, rfl, h.cell 2 rfl⟩
  | 3, _ => exact ⟨b, 0, rfl, h.cell 3 rfl⟩
theorem law_four (wire : Int) (w : World) : Calls Tryz.prog 26 #[.int .i64 wire] w fun e w' => ∃ k1 k2 k3, e = .returned (.agg #[.int .i64 60, .int .i64 160, .slice (some ⟨k1, 0, none⟩) 4 4, .slice (some ⟨k2, 0, none⟩) 4 4, .slice (some ⟨k3, 0, none⟩) 4 4, .int .i64 wire]) ∧ BrdAt w' ⟨some ⟨k1, 0, none⟩, some ⟨k2, 0, none⟩, some ⟨k3, 0, none⟩, 4, 4, 4⟩ (fourB wire) ∧ Ext w w' := by
  go_enter Tryz.func26, Tryz.ntmps26
  go_wp2
  refine bodyPost_ret (v := .agg #[.int .i64 60, .int .i64 160, .slice (some ⟨w.heap.size + 1, 0, none⟩) 4 4, .slice (some ⟨w.heap.size + 1 + 1, 0, none⟩) 4 4, .slice (some ⟨w.heap.size + 1 + 1 + 1, 0, none⟩) 4 4, .int .i64 wire]) (by simp [results, Tryz.results26, go_sem]) rfl ⟨_, _, _, rfl, ?_, (((((Ext.refl w).alloc _).alloc _).alloc _).alloc _)⟩
  refine ⟨RgsAt.four ?_, PtsAt.four ?_, CellsAt.four ?_⟩
  · exact ((Blk.at _ (by simp)).alloc _).alloc _
  · exact (Blk.at _ (by simp)).alloc _
  · exact Blk.at _ (by simp)
theorem RdI.four {w : World} {b : Nat} {x0 x1 x2 x3 : Int} (h : Blk w b #[.int .i64 x0, .int .i64 x1, .int .i64 x2, .int .i64 x3]) : RdI S0 w (.slice (some ⟨b, 0, none⟩) 4 4) [x0, x1, x2, x3] := by
  obtain ⟨t, ht⟩ := h
  refine .inr ⟨b, 0, 4, _, _, _, rfl, by simp, by decide, id, ht, fun i hi => ?_⟩
  match i, hi with
  | 0, _ => rfl
  | 1, _ => rfl
  | 2, _ => rfl
  | 3, _ => rfl
theorem WksAt.two {w : World} {b : Nat} {v0 v1 : Value} {x0 x1 : List Int} (h : Blk w b #[v0, v1]) (h0 : RdI S0 w v0 x0) (h1 : RdI S0 w v1 x1) : WksAt S0 w (.slice (some ⟨b, 0, none⟩) 2 2) [x0, x1] := by
  obtain ⟨t, ht⟩ := h
  refine ⟨_, _, rfl, by simp, by decide, fun i hi => ?_⟩
  match i, hi with
  | 0, _ => exact ⟨b, 0, _, _, _, v0, rfl, id, ht, rfl, h0⟩
  | 1, _ => exact ⟨b, 0, _, _, _, v1, rfl, id, ht, rfl, h1⟩
theorem four_small (wire : Int) : SmallB (fourB wire) := by constructor <;> (unfold fourB; simp)
theorem known1 : bedR (fourB 0) ⟨500, 500⟩ = (106, false, 0) := by decide +kernel
theorem known2 : bedR (fourB 10) ⟨500, 490⟩ = (0, true, 0) := by decide +kernel
theorem known3 : bedR (fourB 10) ⟨500, 485⟩ = (106, false, 0) := by decide +kernel
theorem known4 : bedsR (fourB 0) ⟨59, 60, 0, 0⟩ = ([125, 225], 0) := by decide +kernel
theorem known5 : bestR (fourB 0) [10, 0, 0, 0] [9, 1, 1, 1] = (1, 11, 0) := by decide +kernel
theorem known6 : planR (fourB 0) [10, 0, 0, 0] [[9, 1, 1, 1], [9, 1, 1, 1]] = ([1, 2], 12, 0) := by decide +kernel
set_option maxRecDepth 100000 in
set_option maxHeartbeats 4000000 in
theorem law_known (w : World) : Calls Tryz.prog 7 #[] w fun e w' => e = .returned (.bool true) ∧ Ext w w' := by
  go_enter Tryz.func7, Tryz.ntmps7
  go_wp2_with fail
  refine (law_four 0 _).mono ?_
  rintro e w1 ⟨k1, k2, k3, rfl, hb1, hx1⟩
  go_wp2_with fail
  have hc := brd_Bed _ _ ⟨500, 500⟩ _ hb1 (four_small 0)
  rw [known1] at hc
  refine hc.mono ?_
  rintro e w2 ⟨rfl, hx2⟩
  have HX2 := Lib.hid (hx1.trans hx2)
  clear hb1 hx1 hx2 hc
  go_wp2_with fail
  refine (law_four 10 _).mono ?_
  rintro e w3 ⟨k1, k2, k3, rfl, hb1, hx1⟩
  go_wp2_with fail
  have hc := brd_Bed _ _ ⟨500, 490⟩ _ hb1 (four_small 10)
  rw [known2] at hc
  refine hc.mono ?_
  rintro e w4 ⟨rfl, hx2⟩
  have HX4 := Lib.hid (HX2.out.trans (hx1.trans hx2))
  clear hb1 hx1 hx2 hc
  go_wp2_with fail
  refine (law_four 10 _).mono ?_
  rintro e w5 ⟨k1, k2, k3, rfl, hb1, hx1⟩
  go_wp2_with fail
  have hc := brd_Bed _ _ ⟨500, 485⟩ _ hb1 (four_small 10)
  rw [known3] at hc
  refine hc.mono ?_
  rintro e w6 ⟨rfl, hx2⟩
  have HX6 := Lib.hid (HX4.out.trans (hx1.trans hx2))
  clear hb1 hx1 hx2 hc
  go_wp2_with fail
  refine (law_four 0 _).mono ?_
  rintro e w7 ⟨k1, k2, k3, rfl, hb1, hx1⟩
  go_wp2_with fail
  have hc := brd_Beds _ _ ⟨59, 60, 0, 0⟩ _ hb1 (four_small 0)
  rw [known4] at hc
  refine hc.mono ?_
  rintro e w8 ⟨u8, rfl, hO8, hx2⟩
  obtain ⟨a8, c8, rfl, hC8⟩ := hO8.cells
  have HX8 := Lib.hid (HX6.out.trans (hx1.trans hx2))
  have HC8 := Lib.hid hC8
  clear hb1 hx1 hx2 hc hO8 hC8
  go_wp2_with fail
  refine (law_four 0 _).mono ?_
  rintro e w9 ⟨k1, k2, k3, rfl, hb1, hx1⟩
  have HB9 := Lib.hid hb1
  have HY9 := Lib.hid hx1
  have HX9 := Lib.hid (HX8.out.trans hx1)
  clear hb1 hx1
  go_wp2_with fail
  have hc := brd_Best _ (fourB 0) [10, 0, 0, 0] [9, 1, 1, 1] (some ⟨w9.heap.size, 0, none⟩) (some ⟨w9.heap.size + 1, 0, none⟩) 4 4 ((w9.alloc (.cells #[.int .i64 10, .int .i64 0, .int .i64 0, .int .i64 0] 3)).alloc (.cells #[.int .i64 9, .int .i64 1, .int .i64 1, .int .i64 1] 3)) (HB9.out.ext (((Ext.refl w9).alloc _).alloc _)) (four_small 0) (RdI.four ((Blk.new _ _ _).alloc _)) (RdI.four (Blk.at _ (by simp)))
  rw [known5] at hc
  refine hc.mono ?_
  rintro e w10 ⟨rfl, hx2⟩
  have HY10 := Lib.hid (HY9.out.trans ((((Ext.refl w9).alloc _).alloc _).trans hx2))
  have HX10 := Lib.hid (HX9.out.trans ((((Ext.refl w9).alloc _).alloc _).trans hx2))
  clear hx2 hc
  go_wp2_with fail
  refine (law_four 0 _).mono ?_
  rintro e w11 ⟨k1, k2, k3, rfl, hb1, hx1⟩
  have HB11 := Lib.hid hb1
  have HY11 := Lib.hid (HY10.out.trans hx1)
  have HX11 := Lib.hid (HX10.out.trans hx1)
  clear hb1 hx1
  go_wp2_with fail
  have hc := brd_Plan _ (fourB 0) [10, 0, 0, 0] [[9, 1, 1, 1], [9, 1, 1, 1]] (some ⟨w11.heap.size, 0, none⟩) (some ⟨w11.heap.size + 1 + 1 + 1, 0, none⟩) 4 2 ((((w11.alloc (.cells #[.int .i64 10, .int .i64 0, .int .i64 0, .int .i64 0] 3)).alloc (.cells #[.int .i64 9, .int .i64 1, .int .i64 1, .int .i64 1] 3)).alloc (.cells #[.int .i64 9, .int .i64 1, .int .i64 1, .int .i64 1] 3)).alloc (.cells #[.slice (some ⟨w11.heap.size + 1, 0, none⟩) 4 4, .slice (some ⟨w11.heap.size + 1 + 1, 0, none⟩) 4 4] 24)) (HB11.out.ext ((((Ext.refl w11).alloc _).alloc _).alloc _ |>.alloc _)) (four_small 0) (RdI.four ((((Blk.new _ _ _).alloc _).alloc _).alloc _)) (WksAt.two (Blk.at _ (by simp)) (RdI.four (((Blk.at _ (by simp)).alloc _).alloc _)) (RdI.four ((Blk.at _ (by simp)).alloc _))) (by simp)
  rw [known6] at hc
  refine hc.mono ?_
  rintro e w12 ⟨u, rfl, hu, hx2⟩
  obtain ⟨ua, uc, rfl, hCu, -⟩ := hu.cells
  have HX12 := Lib.hid (HX11.out.trans (((((Ext.refl w11).alloc _).alloc _).alloc _ |>.alloc _).trans hx2))
  have HC12 := Lib.hid (HC8.out.ext (HY11.out.trans (((((Ext.refl w11).alloc _).alloc _).alloc _ |>.alloc _).trans hx2)))
  have HCu := Lib.hid hCu
  clear hx2 hc hu hCu
  go_wp2_with fail
  have he := law_equal [125, 225] [125, 225] a8 (some ⟨w12.heap.size, 0, none⟩) c8 2 (w12.alloc (.cells #[.int .i64 125, .int .i64 225] 61)) (HC12.out.ext ((Ext.refl w12).alloc _)) (CellsAt.two w12 125 225 _ rfl) (by simp)
  refine he.mono ?_
  rintro e w13 ⟨rfl, hx13⟩
  have HX13 := Lib.hid ((HX12.out.alloc (.cells #[.int .i64 125, .int .i64 225] 61)).trans hx13)
  have HCu13 := Lib.hid (HCu.out.ext (((Ext.refl w12).alloc _).trans hx13))
  clear hx13 he
  simp only [decide_true]
  go_wp2_with fail
  have he := law_alike [1, 2] [1, 2] ua (some ⟨w13.heap.size, 0, none⟩) uc 2 (w13.alloc (.cells #[.int .i64 1, .int .i64 2] 3)) (HCu13.out.ext ((Ext.refl w13).alloc _)) (CellsAt.two w13 1 2 _ rfl) (by simp)
  refine he.mono ?_
  rintro e w14 ⟨rfl, hx14⟩
  have HX14 := Lib.hid ((HX13.out.alloc (.cells #[.int .i64 1, .int .i64 2] 3)).trans hx14)
  clear hx14 he
  simp only [decide_true]
  go_wp2
  go_ret
  exact ⟨rfl, HX14.out⟩
end Go.Proofs.YtlkbbcfbnbnagaaGreat
