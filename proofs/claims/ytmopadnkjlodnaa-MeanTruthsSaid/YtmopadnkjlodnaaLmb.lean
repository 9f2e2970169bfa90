/-
  MeanBetters, walked.
-/
import Derived.Test.YtmopadnkjlodnaaPlc
namespace Go.Proofs.Ytmopadnkjlodnaa
open Go.RowKit Go.BigFrame
/-- What known() does. -/
def Knows : Prop := ∀ w, Calls Try.prog 14 #[] w fun e w' => e = .returned (.bool true) ∧ Ext w w'
set_option maxRecDepth 100000 in
set_option maxHeartbeats 2000000 in
theorem law_betters (HK : Hid Knows) (aln ald ahn ahd bln bld bhn bhd : Int) (w : World) : Calls Try.prog 7 #[.agg #[.int .i64 aln, .int .i64 ald, .int .i64 ahn, .int .i64 ahd], .agg #[.int .i64 bln, .int .i64 bld, .int .i64 bhn, .int .i64 bhd]] w fun e w' => e = .returned (.bool true) ∧ Ext w w' := by
  go_enter Try.func7, Try.ntmps7
  go_wp2_with fail
  refine (mean_Better ⟨⟨aln, ald⟩, ⟨ahn, ahd⟩⟩ ⟨⟨bln, bld⟩, ⟨bhn, bhd⟩⟩ _).mono ?_
  rintro e w1 ⟨rfl, hx⟩
  have hE1 := Ext.trans (((Ext.refl w).alloc _).alloc _) hx
  have hA : Blk w1 w.heap.size #[.int .i64 aln, .int .i64 ald, .int .i64 ahn, .int .i64 ahd] := ((Blk.new w _ _).alloc _).ext hx
  have hB : Blk w1 (w.heap.size + 1) #[.int .i64 bln, .int .i64 bld, .int .i64 bhn, .int .i64 bhd] := (Blk.at (w.heap.size + 1) (by simp)).ext hx
  have HA := Lib.hid hA
  have HB := Lib.hid hB
  have HE1 := Lib.hid hE1
  clear hE1
  obtain ⟨ra, hra⟩ : ∃ y, ranR ⟨⟨aln, ald⟩, ⟨ahn, ahd⟩⟩ = y := ⟨_, rfl⟩
  obtain ⟨rb, hrb⟩ : ∃ y, ranR ⟨⟨bln, bld⟩, ⟨bhn, bhd⟩⟩ = y := ⟨_, rfl⟩
  have hra' := Lib.hid hra
  have hrb' := Lib.hid hrb
  have a0 := hA.cell 0 (v := .int .i64 aln) rfl
  have a1 := hA.cell 1 (v := .int .i64 ald) rfl
  have a2 := hA.cell 2 (v := .int .i64 ahn) rfl
  have a3 := hA.cell 3 (v := .int .i64 ahd) rfl
  generalize w.heap.size = kb at *
  clear hA hB hra hrb hx
  cases ra
  · rw [bet_bad (.inl hra'.out)]
    go_wp2_with fail
    refine (ref_Range aln ald ahn ahd _).mono ?_
    rintro e w2 ⟨rfl, hx2⟩
    rw [hra'.out]
    have HE2 := Lib.hid (HE1.out.trans hx2)
    go_wp2_with fail
    refine (HK.out _).mono ?_
    rintro e w3 ⟨rfl, hx3⟩
    go_wp2_with fail
    go_ret
    exact ⟨rfl, HE2.out.trans hx3⟩
  cases rb
  · rw [bet_bad (.inr hrb'.out)]
    go_wp2_with fail
    refine (ref_Range aln ald ahn ahd _).mono ?_
    rintro e w2 ⟨rfl, hx2⟩
    rw [hra'.out]
    have HE2 := Lib.hid (HE1.out.trans hx2)
    have b0 := (HB.out.ext hx2).cell 0 (v := .int .i64 bln) rfl
    have b1 := (HB.out.ext hx2).cell 1 (v := .int .i64 bld) rfl
    have b2 := (HB.out.ext hx2).cell 2 (v := .int .i64 bhn) rfl
    have b3 := (HB.out.ext hx2).cell 3 (v := .int .i64 bhd) rfl
    go_wp2_with fail
    refine (ref_Range bln bld bhn bhd _).mono ?_
    rintro e w3 ⟨rfl, hx3⟩
    rw [hrb'.out]
    have HE3 := Lib.hid (HE2.out.trans hx3)
    go_wp2_with fail
    refine (HK.out _).mono ?_
    rintro e w4 ⟨rfl, hx4⟩
    go_wp2_with fail
    go_ret
    exact ⟨rfl, HE3.out.trans hx4⟩
  · rw [bet_ok hra'.out hrb'.out]
    go_wp2_with fail
    refine (ref_Range aln ald ahn ahd _).mono ?_
    rintro e w2 ⟨rfl, hx2⟩
    rw [hra'.out]
    have HE2 := Lib.hid (HE1.out.trans hx2)
    have b0 := (HB.out.ext hx2).cell 0 (v := .int .i64 bln) rfl
    have b1 := (HB.out.ext hx2).cell 1 (v := .int .i64 bld) rfl
    have b2 := (HB.out.ext hx2).cell 2 (v := .int .i64 bhn) rfl
    have b3 := (HB.out.ext hx2).cell 3 (v := .int .i64 bhd) rfl
    go_wp2_with fail
    refine (ref_Range bln bld bhn bhd _).mono ?_
    rintro e w3 ⟨rfl, hx3⟩
    rw [hrb'.out]
    have HE3 := Lib.hid (HE2.out.trans hx3)
    have hA3 := (HA.out.ext hx2).ext hx3
    have hB3 := (HB.out.ext hx2).ext hx3
    have c0 := hA3.cell 0 (v := .int .i64 aln) rfl
    have c1 := hA3.cell 1 (v := .int .i64 ald) rfl
    have d2 := hB3.cell 2 (v := .int .i64 bhn) rfl
    have d3 := hB3.cell 3 (v := .int .i64 bhd) rfl
    clear hA3 hB3
    go_wp2_with fail
    refine (ref_Less bhn bhd aln ald _).mono ?_
    rintro e w4 ⟨rfl, hx4⟩
    have HE4 := Lib.hid (HE3.out.trans hx4)
    have hA4 := ((HA.out.ext hx2).ext hx3).ext hx4
    have hB4 := ((HB.out.ext hx2).ext hx3).ext hx4
    have c2 := hA4.cell 2 (v := .int .i64 ahn) rfl
    have c3 := hA4.cell 3 (v := .int .i64 ahd) rfl
    have d0 := hB4.cell 0 (v := .int .i64 bln) rfl
    have d1 := hB4.cell 1 (v := .int .i64 bld) rfl
    clear hA4 hB4
    generalize lesW ⟨bhn, bhd⟩ ⟨aln, ald⟩ = l1
    go_wp2_with fail
    refine (ref_Less bln bld ahn ahd _).mono ?_
    rintro e w5 ⟨rfl, hx5⟩
    have HE5 := Lib.hid (HE4.out.trans hx5)
    generalize lesW ⟨bln, bld⟩ ⟨ahn, ahd⟩ = l2
    go_wp2_with fail
    refine (HK.out _).mono ?_
    rintro e w6 ⟨rfl, hx6⟩
    go_wp2_with fail
    go_ret
    exact ⟨rfl, HE5.out.trans hx6⟩
end Go.Proofs.Ytmopadnkjlodnaa
