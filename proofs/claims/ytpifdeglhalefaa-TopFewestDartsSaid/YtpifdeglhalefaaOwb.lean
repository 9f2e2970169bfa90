/-
  Package out: Ways where there are none, or too many.
-/
import Derived.Test.YtpifdeglhalefaaOwa
namespace Go.Proofs.Ytpifdeglhalefaa
open Go.RowKit Go.BigFrame
attribute [local go_sem] Later.cell Later.frozen
/-- The error of Ways. -/
def errW (tot : Int) : Int := if tot = 0 then 7 else 5
set_option maxRecDepth 100000 in
set_option maxHeartbeats 8000000 in
theorem out_WaysN (beds : List Int) (la : Option Addr) (lc : Nat) (g : Int) (darts s : Nat) (w : World) (hc : CellsAt w .i64 la beds) (hr : rulO beds g darts = true) (hs : 1 ≤ s ∧ s ≤ 1001) (ht : totO (rwsO g beds s darts) s = 0 ∨ 3000 < totO (rwsO g beds s darts) s) :
    Calls Try.prog 23 #[.agg #[.slice la beds.length lc, .int .i64 g, .int .i64 darts], .int .i64 s] w fun e w' => e = .returned (.tuple #[.slice none 0 0, .int .i64 (errW (totO (rwsO g beds s darts) s))]) ∧ Ext w w' := by
  have hp := (rul_parts hr).2.2.2
  have HNF := Lib.hid (fun W (hx : Ext w W) => out_newFinish beds la lc g darts s W (hc.ext hx) hr hs)
  obtain ⟨tot, htot⟩ : ∃ y, totO (rwsO g beds s darts) s = y := ⟨_, rfl⟩
  have HTOT := Lib.hid htot
  rw [htot] at ht ⊢
  clear hr hc htot
  go_enter Try.func23, Try.ntmps23
  go_upto_region 1 with fail
  obtain ⟨w1, hw1⟩ : ∃ y, y = (w.alloc (.cells #[.slice la beds.length lc, .int .i64 g, .int .i64 darts] 74)).alloc (.cells #[.slice none 0 0] 79) := ⟨_, rfl⟩
  rw [← hw1]
  have HX1 : Hid (Ext w w1) := Lib.hid (by rw [hw1]; exact ((Ext.refl w).alloc _).alloc _)
  have HU1 : Hid (Blk w1 w.heap.size #[.slice la beds.length lc, .int .i64 g, .int .i64 darts]) := Lib.hid (by rw [hw1]; exact (Blk.new w _ _).alloc _)
  have HL1 : Hid (Blk w1 (w.heap.size + 1) #[.slice none 0 0]) := Lib.hid (by rw [hw1]; exact Blk.at _ (by simp))
  clear hw1
  have u0 := HU1.out.cell 0 (v := .slice la beds.length lc) rfl
  have u1 := HU1.out.cell 1 (v := .int .i64 g) rfl
  have u2 := HU1.out.cell 2 (v := .int .i64 darts) rfl
  have ul := HU1.out.lt
  go_wp2_with fail
  refine (HNF.out _ HX1.out).mono ?_
  rintro e w2 ⟨kb, rfl, hb, hx2⟩
  have HB := Lib.hid hb
  have HX2 := Lib.hid (HX1.out.trans hx2)
  have HL2 := Lib.hid (HL1.out.ext hx2)
  clear hb hx2 u0 u1 u2 ul HNF HL1 HU1
  go_upto_region 2 with fail
  generalize hw3 : World.alloc w2 _ = w3
  obtain ⟨p6, hp6⟩ : ∃ y, y = w2.heap.size := ⟨_, rfl⟩
  rw [← hp6]
  have HF : Hid (Blk w3 p6 #[.pointer (some ⟨kb, 0, none⟩), .slice la beds.length lc, .int .i64 g, .int .i64 darts, .int .i64 s]) := Lib.hid (by rw [← hw3, hp6]; exact Blk.new _ _ _)
  have HX23 : Hid (Ext w2 w3) := Lib.hid (by rw [← hw3]; exact (Ext.refl _).alloc _)
  clear hw3 hp6
  have HT := Lib.hid (out_totalB (HB.out.ext HX23.out) s (Nat.le_refl _) (by omega) (by omega))
  rw [HTOT.out] at HT
  have f0 := HF.out.cell 0 (v := .pointer (some ⟨kb, 0, none⟩)) rfl
  have fl := HF.out.lt
  go_wp2_with fail
  refine HT.out.mono ?_
  rintro e w4 ⟨rfl, hx4⟩
  have HX4 := Lib.hid (HX2.out.trans (HX23.out.trans hx4))
  have hl4 := HL2.out.ext (HX23.out.trans hx4)
  have l0 := hl4.cell 0 (v := .slice none 0 0) rfl
  have lf := hl4.frozen 0
  have ll := hl4.lt
  have HL4 := Lib.hid hl4
  clear hx4 f0 fl HT hl4
  by_cases h0 : tot = 0
  · subst h0
    go_wp2
    have y0 := (HL4.out.set 0 (.slice none 0 0)).cell 0 (v := .slice none 0 0) rfl
    refine bodyPost_ret (v := .tuple #[.slice none 0 0, .int .i64 7]) (by simp [results, Try.results23, go_sem, y0]) rfl ⟨rfl, HX4.out.setCell (p := ⟨w.heap.size + 1, 0, none⟩) (by show w.heap.size ≤ w.heap.size + 1; omega) _⟩
  · have hb : 3000 < tot := by omega
    have h0' : (tot == 0) = false := by simpa using h0
    have he : errW tot = 5 := by unfold errW; rw [if_neg h0]
    have HE := Lib.hid he
    clear he
    go_wp2
    have y0 := (HL4.out.set 0 (.slice none 0 0)).cell 0 (v := .slice none 0 0) rfl
    refine bodyPost_ret (v := .tuple #[.slice none 0 0, .int .i64 5]) (by simp [results, Try.results23, go_sem, y0]) rfl ⟨by rw [HE.out], HX4.out.setCell (p := ⟨w.heap.size + 1, 0, none⟩) (by show w.heap.size ≤ w.heap.size + 1; omega) _⟩
end Go.Proofs.Ytpifdeglhalefaa
