/-
  The examples of chapters 3 and 10 that the tops ask.
-/
import Derived.Test.YtoddmaedianliaaTme
namespace Go.Proofs.Ytoddmaedianliaa
open Go.RowKit Go.BigFrame
attribute [local go_sem] Later.cell Later.frozen Lat.cell Lat.frozen
theorem pub1 : visS 101 0 1 true 101 [320, 220] = (⟨101, 0, 2, true, true, false⟩, 0) := by decide
set_option maxRecDepth 100000 in
theorem pub_Leg (w : World) : Calls Try.prog 7 #[] w fun e w' => e = .returned (.bool true) ∧ Ext w w' := by
  have hP := leg_Visit 101 0 1 true 101 [320, 220] (some ⟨w.heap.size, 0, none⟩) 2 _ (CellsAt.two w 320 220 42 rfl) (by simp [I64]) (by decide) _ pub1
  have HP := Lib.hid hP
  clear hP
  go_enter Try.func7, Try.ntmps7
  go_wp2_with fail
  refine HP.out.mono ?_
  rintro e w1 ⟨rfl, hx1⟩
  have hE1 := ((Ext.refl w).alloc (.cells #[.int .i64 320, .int .i64 220] 42)).trans hx1
  simp only [Thr.agg]
  go_wp2
  go_ret
  exact ⟨rfl, hE1.alloc _⟩
set_option maxRecDepth 100000 in
theorem pub_Team (w : World) : Calls Try.prog 8 #[] w fun e w' => e = .returned (.bool true) ∧ Ext w w' := by
  go_enter Try.func8, Try.ntmps8
  go_wp2_with fail
  refine (team_Starts 501 20 301 7 3 _ _ _ (by decide) (by decide) (by decide) (by decide) (by decide) 4 rfl (by simp [go_sem]) (by simp [go_sem])).mono ?_
  rintro e w1 ⟨rfl, hx1⟩
  have hE1 := (((Ext.refl w).alloc (.cells #[.int .i64 7] 3)).alloc (.cells #[.int .i64 3] 3)).trans hx1
  clear hx1
  go_wp2_with fail
  have hg : GameAt (((w1.alloc (.cells #[.int .i64 1, .int .i64 3, .int .i64 1] 75)).alloc (.cells #[.int .i64 2] 3)).alloc (.cells #[.slice (some ⟨w1.heap.size + 1, 0, none⟩) 1 1] 29)) w1.heap.size := fun i hi => by
    obtain rfl : i = 0 := by simpa using hi
    have hb := ((Blk.new w1 #[.int .i64 1, .int .i64 3, .int .i64 1] 75).alloc (.cells #[.int .i64 2] 3)).alloc (.cells #[.slice (some ⟨w1.heap.size + 1, 0, none⟩) 1 1] 29)
    exact ⟨w1.heap.size, 0, rfl, hb.cell 0 rfl, hb.cell 1 rfl, hb.cell 2 rfl⟩
  refine (team_Seal1 w1.heap.size (w1.heap.size + 1 + 1) (w1.heap.size + 1) _ hg (by simp [go_sem]) (by simp [go_sem])).mono ?_
  rintro e w2 ⟨⟨a, c, rfl, hc⟩, hx2⟩
  have hE2 := ((((hE1.alloc (.cells #[.int .i64 1, .int .i64 3, .int .i64 1] 75)).alloc (.cells #[.int .i64 2] 3)).alloc (.cells #[.slice (some ⟨w1.heap.size + 1, 0, none⟩) 1 1] 29))).trans hx2
  obtain ⟨b, o, rfl, hb⟩ := hc 0 (by decide)
  replace hb := ((Ext.refl w2).alloc (.cells #[.int .i64 7, .slice (some ⟨b, o, none⟩) 1 c] 71)).cell hb
  simp only [List.getElem_cons_zero, Nat.add_zero] at hb
  clear hg hx2 hc
  go_wp2
  go_ret
  exact ⟨rfl, hE2.alloc _⟩
end Go.Proofs.Ytoddmaedianliaa
