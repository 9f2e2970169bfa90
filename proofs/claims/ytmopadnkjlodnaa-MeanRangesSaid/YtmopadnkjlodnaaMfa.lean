/-
  Package mean: a visit's end is added to the extents of its goal.
-/
import Derived.Test.YtmopadnkjlodnaaMke
namespace Go.Proofs.Ytmopadnkjlodnaa
open Go.RowKit Go.BigFrame
attribute [local go_sem] Later.cell Later.frozen
set_option maxRecDepth 100000 in
set_option maxHeartbeats 4000000 in
theorem mean_from1 (g : Gl) (d t : Int) (ko bo : Nat) (l : List (Gl × Ex)) (w : World) (hc : w.cell? ⟨ko, 0, none⟩ = some (.map (some bo))) (hm : MapL Gl.agg Ex.agg w bo l) :
    Calls Try.prog 94 #[g.agg, .int .i64 d, .int .i64 t, .pointer (some ⟨ko, 0, none⟩)] w fun e w' => e = .returned (.tuple #[]) ∧ MapL Gl.agg Ex.agg w' bo (putL l g (addX ((lookL l g).getD noEx) d t)) ∧ Chg (· = bo) w w' := by
  obtain ⟨x, hx⟩ : ∃ x, (lookL l g).getD noEx = x := ⟨_, rfl⟩
  rw [hx]
  have HLK : Hid (∀ W, MapL Gl.agg Ex.agg W bo l → (Instr.lookup 159 (.map (some bo)) (.agg #[.int .i64 g.score, .bool g.wins]) false).run Try.prog W = .ok (.agg #[.int .i64 x.dl, .int .i64 x.dh, .int .i64 x.tl, .int .i64 x.th, .bool x.some]) W) := Lib.hid (fun W hW => by
    have := (run_look keyL_goal under_out hW trivial (zero_ext W) g).1
    unfold Gl.agg at this
    rw [this]
    congr 1
    rw [← hx]
    cases lookL l g <;> rfl)
  have HM := Lib.hid hm
  have HC := Lib.hid hc
  obtain ⟨gs, gw⟩ := g
  have HMB := Lib.hid hm.lt
  unfold Gl.agg at HLK
  simp only at HLK
  obtain ⟨va, hva⟩ : ∃ v, (Gl.agg ⟨gs, gw⟩) = v := ⟨_, rfl⟩
  rw [hva]
  unfold Gl.agg at hva
  simp only at hva
  subst hva
  have hcl := lt_of_cell hc
  simp only at hcl
  clear hx hm
  go_enter Try.func94, Try.ntmps94
  go_upto_region 1 with fail
  obtain ⟨w1, hw1⟩ : ∃ y, y = w.alloc (.cells #[.int .i64 gs, .bool gw] 121) := ⟨_, rfl⟩
  rw [← hw1]
  have hx1 : Ext w w1 := by rw [hw1]; exact (Ext.refl w).alloc _
  have HG1 : Hid (Blk w1 w.heap.size #[.int .i64 gs, .bool gw]) := Lib.hid (by rw [hw1]; exact Blk.new _ _ _)
  have hlk := HLK.out w1 (HM.out.ext hx1)
  have HX1 := Lib.hid hx1
  have HM1 := Lib.hid (HM.out.ext hx1)
  replace hc := hx1.cell HC.out
  have hcl1 := lt_of_cell hc
  simp only at hcl1
  have g0 := HG1.out.cell 0 (v := .int .i64 gs) rfl
  have g1 := HG1.out.cell 1 (v := .bool gw) rfl
  have gl := HG1.out.lt
  clear hx1 hw1
  go_upto_region 2 with fail
  obtain ⟨w2, hw2⟩ : ∃ y, y = w1.alloc (.cells #[.int .i64 x.dl, .int .i64 x.dh, .int .i64 x.tl, .int .i64 x.th, .bool x.some] 158) := ⟨_, rfl⟩
  rw [← hw2]
  obtain ⟨k7, hk7⟩ : ∃ k, k = w1.heap.size := ⟨_, rfl⟩
  rw [← hk7]
  have hk1 : w1.heap.size ≤ k7 := by omega
  have hx2 : Ext w1 w2 := by rw [hw2]; exact (Ext.refl w1).alloc _
  have HB2 : Hid (Blk w2 k7 x.cells) := Lib.hid (by rw [hw2, hk7]; exact Blk.new _ _ _)
  have HM2 := Lib.hid (HM1.out.ext hx2)
  have HG2 := Lib.hid (HG1.out.ext hx2)
  have HX2 := Lib.hid (HX1.out.trans hx2)
  replace hc := hx2.cell hc
  have hcl2 := lt_of_cell hc
  simp only at hcl2
  have hx2s := HX1.out.size
  clear hx2 hw2 hlk hk7 HM1 HG1
  go_wp2_with fail
  refine (mean_extAdd k7 x d t _ HB2.out).mono ?_
  rintro e w3 ⟨rfl, hb3, hc3⟩
  have HC3 := Lib.hid hc3
  have HM3 := Lib.hid (HM2.out.chg hc3 (by have := HMB.out; omega))
  have HG3 := Lib.hid (HG2.out.chg hc3 (by omega))
  replace hc := hc3.cell hc (by show ¬ ko = k7; omega)
  have hcl3 := lt_of_cell hc
  simp only at hcl3
  have HX3 := Lib.hid (Chg.to_ext HX2.out hc3 (fun i hi => by omega))
  obtain ⟨z, hz⟩ : ∃ z, addX x d t = z := ⟨_, rfl⟩
  have HZ := Lib.hid hz
  rw [hz] at hb3
  clear hz
  have e0 := hb3.cell 0 (v := .int .i64 z.dl) rfl
  have e1 := hb3.cell 1 (v := .int .i64 z.dh) rfl
  have e2 := hb3.cell 2 (v := .int .i64 z.tl) rfl
  have e3 := hb3.cell 3 (v := .int .i64 z.th) rfl
  have e4 := hb3.cell 4 (v := .bool z.some) rfl
  have el := hb3.lt
  have g0 := HG3.out.cell 0 (v := .int .i64 gs) rfl
  have g1 := HG3.out.cell 1 (v := .bool gw) rfl
  have gl := HG3.out.lt
  clear hc3 hb3
  go_wp2_with (at_mapUpdate; refine wp_putL keyL_goal under_out rfl _ _ _ rfl bo l ⟨gs, gw⟩ z rfl HM3.out trivial rfl rfl ?_)
  intro w4 hm4 hc4
  have HM4 := Lib.hid hm4
  have HC4 := Lib.hid hc4
  clear hm4 hc4
  go_wp2
  refine bodyPost_end (results_none rfl _ _ _) rfl ⟨rfl, by rw [HZ.out]; exact HM4.out, (HX3.out.chg _).trans HC4.out⟩
end Go.Proofs.Ytmopadnkjlodnaa
