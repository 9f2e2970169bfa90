/-
  BoardBeds.
-/
import Derived.Test.YtlkbbcfbnbnagaaRgh
import Derived.Test.YtlkbbcfbnbnagaaLbd
import Derived.Test.YtlkbbcfbnbnagaaLbb
namespace Go.Proofs.Ytlkbbcfbnbnagaa
open Go.RowKit
theorem err_good {b : Brd} (h : errB b = 0) : GoodR b := by
  unfold errB at h
  split at h
  · cases h
  · split at h
    · rename_i h1
      exact (goodR_iff b).1 h1
    · cases h
theorem err_lines {b : Brd} (h : errB b = 0) : linesB b.lines = true := by rw [← lines_eq]; exact (err_good h).li
theorem err_bull {b : Brd} (h : errB b = 0) : 0 < b.bull := by
  have g := err_good h
  have h1 := (g.rad 1 (by unfold Brd.radii; simp)).2 0 rfl (by unfold Brd.radii; simp)
  have h2 : (b.radii[1]'(by unfold Brd.radii; simp)) = b.bull := rfl
  have h3 : (b.radii[0]'(by unfold Brd.radii; simp)) = b.eye := rfl
  rw [h2, h3] at h1
  have := g.ey
  have := g.w0
  omega
theorem same_me (b : Brd) : sameB b b = true := by unfold sameB; simp
theorem all_err {b : Brd} (h : errB b ≠ 0) : allR b = ([], errB b) := by unfold allR; rw [if_pos h]
theorem all_good {b : Brd} (h : errB b = 0) : allR b = (setL (allM b), 0) := by unfold allR; rw [if_neg (by simp [h])]
theorem bed_err {b : Brd} {p : Pt} (h : errB b ≠ 0) : bedR b p = (0, false, errB b) := by unfold bedR; rw [if_pos h]
theorem bed_off {b : Brd} {p : Pt} (h : errB b = 0) (hp : ptB p = false) : bedR b p = (0, false, 2) := by unfold bedR; rw [if_neg (by simp [h]), if_neg (by simp [hp])]
theorem bed_on {b : Brd} {p : Pt} (h : errB b = 0) (hp : ptB p = true) : bedR b p = (bedB b p, onWire b p, 0) := by unfold bedR; rw [if_neg (by simp [h]), if_pos hp]
theorem small_of {b : Brd} (h : greatB b = false) : SmallB b := by
  unfold greatB at h
  simp only [Bool.or_eq_false_iff, decide_eq_false_iff_not] at h
  obtain ⟨h1, h2, h3, -⟩ := h
  exact ⟨by omega, by omega, by omega⟩
set_option maxRecDepth 100000 in
set_option maxHeartbeats 8000000 in
theorem law_BoardBeds (a1 a2 a3 : Option Addr) (a4 a5 a6 : Nat) (b : Brd) (px py : Int) (w : World) (h : BrdAt w ⟨a1, a2, a3, a4, a5, a6⟩ b) (hn : BrdNil ⟨a1, a2, a3, a4, a5, a6⟩ b) (hl : b.rings.length ≤ maxLen ∧ b.lines.length ≤ maxLen ∧ b.nums.length ≤ maxLen) :
    Calls Try.prog 6 #[.agg #[.int .i64 b.eye, .int .i64 b.bull, .slice a1 b.rings.length a4, .slice a2 b.lines.length a5, .slice a3 b.nums.length a6, .int .i64 b.wire], .agg #[.int .i64 px, .int .i64 py]] w fun e w' => e = .returned (.bool true) ∧ Ext w w' := by
  have HB := Lib.hid h
  have HN := Lib.hid hn
  have HG := Lib.hid (fun W (hx : Ext w W) => law_great ⟨a1, a2, a3, a4, a5, a6⟩ b W (h.ext hx) hl)
  unfold BrdV.cells at HG
  clear h hn hl
  go_enter Try.func6, Try.ntmps6
  go_wp2_with fail
  refine (HG.out _ (((Ext.refl w).alloc _).alloc _)).mono ?_
  rintro e w1 ⟨rfl, hx1⟩
  have HX1 := Lib.hid (Ext.trans (((Ext.refl w).alloc _).alloc _) hx1)
  have HB1 : Hid (Blk w1 w.heap.size #[.int .i64 b.eye, .int .i64 b.bull, .slice a1 b.rings.length a4, .slice a2 b.lines.length a5, .slice a3 b.nums.length a6, .int .i64 b.wire]) := Lib.hid (((Blk.new w _ _).alloc _).ext hx1)
  have HB2 : Hid (Blk w1 (w.heap.size + 1) #[.int .i64 px, .int .i64 py]) := Lib.hid ((Blk.at _ (by simp)).ext hx1)
  clear hx1
  have m0 := HB1.out.cell 0 (v := .int .i64 b.eye) rfl
  have m1 := HB1.out.cell 1 (v := .int .i64 b.bull) rfl
  have m2 := HB1.out.cell 2 (v := .slice a1 b.rings.length a4) rfl
  have m3 := HB1.out.cell 3 (v := .slice a2 b.lines.length a5) rfl
  have m4 := HB1.out.cell 4 (v := .slice a3 b.nums.length a6) rfl
  have m5 := HB1.out.cell 5 (v := .int .i64 b.wire) rfl
  have ml := HB1.out.lt
  have n0 := HB2.out.cell 0 (v := .int .i64 px) rfl
  have n1 := HB2.out.cell 1 (v := .int .i64 py) rfl
  have nl := HB2.out.lt
  cases hgr : greatB b
  case true =>
    go_wp2_with fail
    refine (law_known _).mono ?_
    rintro e w2 ⟨rfl, hx2⟩
    have HX2 := Lib.hid (HX1.out.trans hx2)
    clear hx2
    go_wp2_with fail
    go_ret
    exact ⟨rfl, HX2.out⟩
  case false =>
  have HSM := Lib.hid (small_of hgr)
  have HGT := Lib.hid (grt_of hgr)
  clear HG
  go_wp2_with fail
  refine (law_own ⟨a1, a2, a3, a4, a5, a6⟩ b _ (HB.out.ext HX1.out) HN.out HSM.out).mono ?_
  rintro e w2 ⟨⟨p1, p2, p3, p4, p5, p6⟩, rfl, hB, -, -, hx2⟩
  have HBO := Lib.hid hB
  have HX2 := Lib.hid hx2
  unfold BrdV.cells
  clear hB hx2 m0 m1 m2 m3 m4 m5 ml n0 n1 nl
  go_upto_region 4 with fail
  obtain ⟨w3, hw3⟩ : ∃ x, x = w2.alloc (.cells #[.int .i64 b.eye, .int .i64 b.bull, .slice p1 b.rings.length p4, .slice p2 b.lines.length p5, .slice p3 b.nums.length p6, .int .i64 b.wire] 26) := ⟨_, rfl⟩
  rw [← hw3]
  have hx3 : Ext w1 w3 := by rw [hw3]; exact HX2.out.alloc _
  have hxo : Ext w2 w3 := by rw [hw3]; exact (Ext.refl _).alloc _
  have HI3 : Hid (Blk w3 w2.heap.size #[.int .i64 b.eye, .int .i64 b.bull, .slice p1 b.rings.length p4, .slice p2 b.lines.length p5, .slice p3 b.nums.length p6, .int .i64 b.wire]) := Lib.hid (by rw [hw3]; exact Blk.new _ _ _)
  have HJ3 := Lib.hid (HB1.out.ext hx3)
  have HK3 := Lib.hid (HB2.out.ext hx3)
  have HX3 := Lib.hid (HX1.out.trans hx3)
  have HO3 := Lib.hid (HBO.out.ext hxo)
  clear hw3 hx3 hxo HX2 HB1 HB2 HBO HX1 HN hgr
  have q0 := HI3.out.cell 0 (v := .int .i64 b.eye) rfl
  have q1 := HI3.out.cell 1 (v := .int .i64 b.bull) rfl
  have q2 := HI3.out.cell 2 (v := .slice p1 b.rings.length p4) rfl
  have q3 := HI3.out.cell 3 (v := .slice p2 b.lines.length p5) rfl
  have q4 := HI3.out.cell 4 (v := .slice p3 b.nums.length p6) rfl
  have q5 := HI3.out.cell 5 (v := .int .i64 b.wire) rfl
  have ql := HI3.out.lt
  have m0 := HJ3.out.cell 0 (v := .int .i64 b.eye) rfl
  have m1 := HJ3.out.cell 1 (v := .int .i64 b.bull) rfl
  have m2 := HJ3.out.cell 2 (v := .slice a1 b.rings.length a4) rfl
  have m3 := HJ3.out.cell 3 (v := .slice a2 b.lines.length a5) rfl
  have m4 := HJ3.out.cell 4 (v := .slice a3 b.nums.length a6) rfl
  have m5 := HJ3.out.cell 5 (v := .int .i64 b.wire) rfl
  have ml := HJ3.out.lt
  have n0 := HK3.out.cell 0 (v := .int .i64 px) rfl
  have n1 := HK3.out.cell 1 (v := .int .i64 py) rfl
  have nl := HK3.out.lt
  go_wp2_with fail
  refine (brd_Check ⟨p1, p2, p3, p4, p5, p6⟩ b _ HO3.out HSM.out).mono ?_
  rintro e w4 ⟨rfl, hx4⟩
  have HX4 := Lib.hid (HX3.out.trans hx4)
  have HI4 := Lib.hid (HI3.out.ext hx4)
  have HJ4 := Lib.hid (HJ3.out.ext hx4)
  have HK4 := Lib.hid (HK3.out.ext hx4)
  have HO4 := Lib.hid (HO3.out.ext hx4)
  clear hx4 m0 m1 m2 m3 m4 m5 ml n0 n1 nl q0 q1 q2 q3 q4 q5 ql HI3 HJ3 HK3 HO3 HX3
  have q0 := HI4.out.cell 0 (v := .int .i64 b.eye) rfl
  have q1 := HI4.out.cell 1 (v := .int .i64 b.bull) rfl
  have q2 := HI4.out.cell 2 (v := .slice p1 b.rings.length p4) rfl
  have q3 := HI4.out.cell 3 (v := .slice p2 b.lines.length p5) rfl
  have q4 := HI4.out.cell 4 (v := .slice p3 b.nums.length p6) rfl
  have q5 := HI4.out.cell 5 (v := .int .i64 b.wire) rfl
  have ql := HI4.out.lt
  have m0 := HJ4.out.cell 0 (v := .int .i64 b.eye) rfl
  have m1 := HJ4.out.cell 1 (v := .int .i64 b.bull) rfl
  have m2 := HJ4.out.cell 2 (v := .slice a1 b.rings.length a4) rfl
  have m3 := HJ4.out.cell 3 (v := .slice a2 b.lines.length a5) rfl
  have m4 := HJ4.out.cell 4 (v := .slice a3 b.nums.length a6) rfl
  have m5 := HJ4.out.cell 5 (v := .int .i64 b.wire) rfl
  have ml := HJ4.out.lt
  have n0 := HK4.out.cell 0 (v := .int .i64 px) rfl
  have n1 := HK4.out.cell 1 (v := .int .i64 py) rfl
  have nl := HK4.out.lt
  have HBD := Lib.hid (fun W hx => brd_Bed ⟨p1, p2, p3, p4, p5, p6⟩ b ⟨px, py⟩ W hx HSM.out)
  unfold Pt.agg at HBD
  obtain ⟨r0, r1, r2, hr⟩ : ∃ r0 r1 r2, bedR b ⟨px, py⟩ = (r0, r1, r2) := ⟨_, _, _, rfl⟩
  rw [hr] at HBD
  have HR := Lib.hid hr
  clear hr
  go_wp2_with fail
  refine (HBD.out _ HO4.out).mono ?_
  rintro e w5 ⟨rfl, hx5⟩
  have HX5 := Lib.hid (HX4.out.trans hx5)
  have HI5 := Lib.hid (HI4.out.ext hx5)
  have HJ5 := Lib.hid (HJ4.out.ext hx5)
  have HK5 := Lib.hid (HK4.out.ext hx5)
  have HO5 := Lib.hid (HO4.out.ext hx5)
  clear hx5 m0 m1 m2 m3 m4 m5 ml n0 n1 nl q0 q1 q2 q3 q4 q5 ql HI4 HJ4 HK4 HO4 HX4
  have q0 := HI5.out.cell 0 (v := .int .i64 b.eye) rfl
  have q1 := HI5.out.cell 1 (v := .int .i64 b.bull) rfl
  have q2 := HI5.out.cell 2 (v := .slice p1 b.rings.length p4) rfl
  have q3 := HI5.out.cell 3 (v := .slice p2 b.lines.length p5) rfl
  have q4 := HI5.out.cell 4 (v := .slice p3 b.nums.length p6) rfl
  have q5 := HI5.out.cell 5 (v := .int .i64 b.wire) rfl
  have ql := HI5.out.lt
  have m0 := HJ5.out.cell 0 (v := .int .i64 b.eye) rfl
  have m1 := HJ5.out.cell 1 (v := .int .i64 b.bull) rfl
  have m2 := HJ5.out.cell 2 (v := .slice a1 b.rings.length a4) rfl
  have m3 := HJ5.out.cell 3 (v := .slice a2 b.lines.length a5) rfl
  have m4 := HJ5.out.cell 4 (v := .slice a3 b.nums.length a6) rfl
  have m5 := HJ5.out.cell 5 (v := .int .i64 b.wire) rfl
  have ml := HJ5.out.lt
  have n0 := HK5.out.cell 0 (v := .int .i64 px) rfl
  have n1 := HK5.out.cell 1 (v := .int .i64 py) rfl
  have nl := HK5.out.lt
  have HAD := Lib.hid (fun W hx => brd_All ⟨p1, p2, p3, p4, p5, p6⟩ b W hx HSM.out)
  obtain ⟨ls, er, hr⟩ : ∃ ls er, allR b = (ls, er) := ⟨_, _, rfl⟩
  rw [hr] at HAD
  have HAR := Lib.hid hr
  clear hr HBD
  go_wp2_with fail
  refine (HAD.out _ HO5.out).mono ?_
  rintro e w6 ⟨u, rfl, ho, hx6⟩
  have HX6 := Lib.hid (HX5.out.trans hx6)
  have HI6 := Lib.hid (HI5.out.ext hx6)
  have HJ6 := Lib.hid (HJ5.out.ext hx6)
  have HK6 := Lib.hid (HK5.out.ext hx6)
  have HO6 := Lib.hid (HO5.out.ext hx6)
  obtain ⟨ua, uc, rfl, hcs⟩ := ho.cells
  have HU6 := Lib.hid hcs
  clear ho hcs HAD
  clear hx6 m0 m1 m2 m3 m4 m5 ml n0 n1 nl q0 q1 q2 q3 q4 q5 ql HI5 HJ5 HK5 HO5 HX5
  have q0 := HI6.out.cell 0 (v := .int .i64 b.eye) rfl
  have q1 := HI6.out.cell 1 (v := .int .i64 b.bull) rfl
  have q2 := HI6.out.cell 2 (v := .slice p1 b.rings.length p4) rfl
  have q3 := HI6.out.cell 3 (v := .slice p2 b.lines.length p5) rfl
  have q4 := HI6.out.cell 4 (v := .slice p3 b.nums.length p6) rfl
  have q5 := HI6.out.cell 5 (v := .int .i64 b.wire) rfl
  have ql := HI6.out.lt
  have m0 := HJ6.out.cell 0 (v := .int .i64 b.eye) rfl
  have m1 := HJ6.out.cell 1 (v := .int .i64 b.bull) rfl
  have m2 := HJ6.out.cell 2 (v := .slice a1 b.rings.length a4) rfl
  have m3 := HJ6.out.cell 3 (v := .slice a2 b.lines.length a5) rfl
  have m4 := HJ6.out.cell 4 (v := .slice a3 b.nums.length a6) rfl
  have m5 := HJ6.out.cell 5 (v := .int .i64 b.wire) rfl
  have ml := HJ6.out.lt
  have n0 := HK6.out.cell 0 (v := .int .i64 px) rfl
  have n1 := HK6.out.cell 1 (v := .int .i64 py) rfl
  have nl := HK6.out.lt
  go_wp2_with fail
  refine (ref_check a1 a2 a3 a4 a5 a6 b _ (HB.out.ext HX6.out) HSM.out HGT.out).mono ?_
  rintro e w7 ⟨rfl, hx7⟩
  have HX7 := Lib.hid (HX6.out.trans hx7)
  have HI7 := Lib.hid (HI6.out.ext hx7)
  have HJ7 := Lib.hid (HJ6.out.ext hx7)
  have HK7 := Lib.hid (HK6.out.ext hx7)
  have HO7 := Lib.hid (HO6.out.ext hx7)
  have HU7 := Lib.hid (HU6.out.ext hx7)
  clear HU6
  clear hx7 m0 m1 m2 m3 m4 m5 ml n0 n1 nl q0 q1 q2 q3 q4 q5 ql HI6 HJ6 HK6 HO6 HX6
  have q0 := HI7.out.cell 0 (v := .int .i64 b.eye) rfl
  have q1 := HI7.out.cell 1 (v := .int .i64 b.bull) rfl
  have q2 := HI7.out.cell 2 (v := .slice p1 b.rings.length p4) rfl
  have q3 := HI7.out.cell 3 (v := .slice p2 b.lines.length p5) rfl
  have q4 := HI7.out.cell 4 (v := .slice p3 b.nums.length p6) rfl
  have q5 := HI7.out.cell 5 (v := .int .i64 b.wire) rfl
  have ql := HI7.out.lt
  have m0 := HJ7.out.cell 0 (v := .int .i64 b.eye) rfl
  have m1 := HJ7.out.cell 1 (v := .int .i64 b.bull) rfl
  have m2 := HJ7.out.cell 2 (v := .slice a1 b.rings.length a4) rfl
  have m3 := HJ7.out.cell 3 (v := .slice a2 b.lines.length a5) rfl
  have m4 := HJ7.out.cell 4 (v := .slice a3 b.nums.length a6) rfl
  have m5 := HJ7.out.cell 5 (v := .int .i64 b.wire) rfl
  have ml := HJ7.out.lt
  have n0 := HK7.out.cell 0 (v := .int .i64 px) rfl
  have n1 := HK7.out.cell 1 (v := .int .i64 py) rfl
  have nl := HK7.out.lt
  have HSA := Lib.hid (fun W ha hb => law_same ⟨p1, p2, p3, p4, p5, p6⟩ ⟨a1, a2, a3, a4, a5, a6⟩ b b W ha hb HSM.out)
  rw [same_me] at HSA
  have HEE := Lib.hid (show errB b = 0 → er = 0 from fun h => by have := HAR.out; rw [all_good h] at this; simpa using (Prod.ext_iff.1 this).2.symm)
  have HEN := Lib.hid (show errB b ≠ 0 → er = errB b from fun h => by have := HAR.out; rw [all_err h] at this; simpa using (Prod.ext_iff.1 this).2.symm)
  have her : er = errB b := by
    by_cases h : errB b = 0
    · rw [h]; exact HEE.out h
    · exact HEN.out h
  subst her
  clear HEE HEN
  go_wp2_with fail
  refine (HSA.out _ HO7.out (HB.out.ext HX7.out)).mono ?_
  rintro e w8 ⟨rfl, hx8⟩
  have HX8 := Lib.hid (HX7.out.trans hx8)
  have HI8 := Lib.hid (HI7.out.ext hx8)
  have HJ8 := Lib.hid (HJ7.out.ext hx8)
  have HK8 := Lib.hid (HK7.out.ext hx8)
  have HO8 := Lib.hid (HO7.out.ext hx8)
  have HU8 := Lib.hid (HU7.out.ext hx8)
  clear HU7 HSA
  clear hx8 m0 m1 m2 m3 m4 m5 ml n0 n1 nl q0 q1 q2 q3 q4 q5 ql HI7 HJ7 HK7 HO7 HX7
  have q0 := HI8.out.cell 0 (v := .int .i64 b.eye) rfl
  have q1 := HI8.out.cell 1 (v := .int .i64 b.bull) rfl
  have q2 := HI8.out.cell 2 (v := .slice p1 b.rings.length p4) rfl
  have q3 := HI8.out.cell 3 (v := .slice p2 b.lines.length p5) rfl
  have q4 := HI8.out.cell 4 (v := .slice p3 b.nums.length p6) rfl
  have q5 := HI8.out.cell 5 (v := .int .i64 b.wire) rfl
  have ql := HI8.out.lt
  have m0 := HJ8.out.cell 0 (v := .int .i64 b.eye) rfl
  have m1 := HJ8.out.cell 1 (v := .int .i64 b.bull) rfl
  have m2 := HJ8.out.cell 2 (v := .slice a1 b.rings.length a4) rfl
  have m3 := HJ8.out.cell 3 (v := .slice a2 b.lines.length a5) rfl
  have m4 := HJ8.out.cell 4 (v := .slice a3 b.nums.length a6) rfl
  have m5 := HJ8.out.cell 5 (v := .int .i64 b.wire) rfl
  have ml := HJ8.out.lt
  have n0 := HK8.out.cell 0 (v := .int .i64 px) rfl
  have n1 := HK8.out.cell 1 (v := .int .i64 py) rfl
  have nl := HK8.out.lt
  obtain ⟨ec, hec⟩ : ∃ x, errB b = x := ⟨_, rfl⟩
  have HEC := Lib.hid hec
  rw [hec]
  have hne : (ec != ec) = false := by simp
  clear hec
  cases d0 : (ec != 0)
  case true =>
    have h0 : errB b ≠ 0 := by rw [HEC.out]; simpa using d0
    have e1 := HAR.out
    rw [all_err h0] at e1
    have e2 := HR.out
    rw [bed_err h0, HEC.out] at e2
    obtain rfl : ls = [] := (Prod.ext_iff.1 e1).1.symm
    obtain ⟨rfl, rfl, rfl⟩ : r0 = 0 ∧ r1 = false ∧ r2 = ec := by simpa [eq_comm] using e2
    clear e1 e2 h0 HR HAR HU8 HO8
    go_wp2_with fail
    refine (law_known _).mono ?_
    rintro e w9 ⟨rfl, hx9⟩
    have HX9 := Lib.hid (HX8.out.trans hx9)
    clear hx9
    go_wp2_with fail
    go_ret
    exact ⟨rfl, HX9.out⟩
  case false =>
  have h0 : errB b = 0 := by rw [HEC.out]; simpa using d0
  have HGD := Lib.hid (errB_good HSM.out h0)
  have HLN := Lib.hid (err_lines h0)
  have HBL := Lib.hid (err_bull h0)
  obtain rfl : ec = 0 := by simpa using d0
  have e1 := HAR.out
  rw [all_good h0] at e1
  obtain rfl : setL (allM b) = ls := (Prod.ext_iff.1 e1).1
  have HEZ := Lib.hid h0
  clear e1 h0 HAR d0
  go_wp2_with fail
  refine (ref_all a1 a2 a3 a4 a5 a6 b _ (HB.out.ext HX8.out) HGD.out).mono ?_
  rintro e w9 ⟨u2, rfl, ho, hx9⟩
  have HX9 := Lib.hid (HX8.out.trans hx9)
  have HI9 := Lib.hid (HI8.out.ext hx9)
  have HJ9 := Lib.hid (HJ8.out.ext hx9)
  have HK9 := Lib.hid (HK8.out.ext hx9)
  have HO9 := Lib.hid (HO8.out.ext hx9)
  obtain ⟨va, vc, rfl, hcs⟩ := ho.cells
  have HV9 := Lib.hid hcs
  have HU9 := Lib.hid (HU8.out.ext hx9)
  clear ho hcs HU8
  clear hx9 m0 m1 m2 m3 m4 m5 ml n0 n1 nl q0 q1 q2 q3 q4 q5 ql HI8 HJ8 HK8 HO8 HX8
  have q0 := HI9.out.cell 0 (v := .int .i64 b.eye) rfl
  have q1 := HI9.out.cell 1 (v := .int .i64 b.bull) rfl
  have q2 := HI9.out.cell 2 (v := .slice p1 b.rings.length p4) rfl
  have q3 := HI9.out.cell 3 (v := .slice p2 b.lines.length p5) rfl
  have q4 := HI9.out.cell 4 (v := .slice p3 b.nums.length p6) rfl
  have q5 := HI9.out.cell 5 (v := .int .i64 b.wire) rfl
  have ql := HI9.out.lt
  have m0 := HJ9.out.cell 0 (v := .int .i64 b.eye) rfl
  have m1 := HJ9.out.cell 1 (v := .int .i64 b.bull) rfl
  have m2 := HJ9.out.cell 2 (v := .slice a1 b.rings.length a4) rfl
  have m3 := HJ9.out.cell 3 (v := .slice a2 b.lines.length a5) rfl
  have m4 := HJ9.out.cell 4 (v := .slice a3 b.nums.length a6) rfl
  have m5 := HJ9.out.cell 5 (v := .int .i64 b.wire) rfl
  have ml := HJ9.out.lt
  have n0 := HK9.out.cell 0 (v := .int .i64 px) rfl
  have n1 := HK9.out.cell 1 (v := .int .i64 py) rfl
  have nl := HK9.out.lt
  have HEQ := Lib.hid (law_equal (setL (allM b)) (setL (allM b)) ua va uc vc _ HU9.out HV9.out (by rw [setL_cnt]; have := cntB_small (allM b) 500; omega))
  rw [decide_eq_true rfl] at HEQ
  go_wp2_with fail
  refine (HEQ.out).mono ?_
  rintro e w10 ⟨rfl, hx10⟩
  have HX10 := Lib.hid (HX9.out.trans hx10)
  have HI10 := Lib.hid (HI9.out.ext hx10)
  have HJ10 := Lib.hid (HJ9.out.ext hx10)
  have HK10 := Lib.hid (HK9.out.ext hx10)
  have HO10 := Lib.hid (HO9.out.ext hx10)
  clear HEQ HU9 HV9
  clear hx10 m0 m1 m2 m3 m4 m5 ml n0 n1 nl q0 q1 q2 q3 q4 q5 ql HI9 HJ9 HK9 HO9 HX9
  have q0 := HI10.out.cell 0 (v := .int .i64 b.eye) rfl
  have q1 := HI10.out.cell 1 (v := .int .i64 b.bull) rfl
  have q2 := HI10.out.cell 2 (v := .slice p1 b.rings.length p4) rfl
  have q3 := HI10.out.cell 3 (v := .slice p2 b.lines.length p5) rfl
  have q4 := HI10.out.cell 4 (v := .slice p3 b.nums.length p6) rfl
  have q5 := HI10.out.cell 5 (v := .int .i64 b.wire) rfl
  have ql := HI10.out.lt
  have m0 := HJ10.out.cell 0 (v := .int .i64 b.eye) rfl
  have m1 := HJ10.out.cell 1 (v := .int .i64 b.bull) rfl
  have m2 := HJ10.out.cell 2 (v := .slice a1 b.rings.length a4) rfl
  have m3 := HJ10.out.cell 3 (v := .slice a2 b.lines.length a5) rfl
  have m4 := HJ10.out.cell 4 (v := .slice a3 b.nums.length a6) rfl
  have m5 := HJ10.out.cell 5 (v := .int .i64 b.wire) rfl
  have ml := HJ10.out.lt
  have n0 := HK10.out.cell 0 (v := .int .i64 px) rfl
  have n1 := HK10.out.cell 1 (v := .int .i64 py) rfl
  have nl := HK10.out.lt
  have HPT := Lib.hid (fun W => ref_point ⟨px, py⟩ W)
  unfold Pt.agg at HPT
  go_wp2_with fail
  refine (HPT.out _).mono ?_
  rintro e w11 ⟨rfl, hx11⟩
  have HX11 := Lib.hid (HX10.out.trans hx11)
  have HI11 := Lib.hid (HI10.out.ext hx11)
  have HJ11 := Lib.hid (HJ10.out.ext hx11)
  have HK11 := Lib.hid (HK10.out.ext hx11)
  have HO11 := Lib.hid (HO10.out.ext hx11)
  clear HPT
  clear hx11 m0 m1 m2 m3 m4 m5 ml n0 n1 nl q0 q1 q2 q3 q4 q5 ql HI10 HJ10 HK10 HO10 HX10
  have q0 := HI11.out.cell 0 (v := .int .i64 b.eye) rfl
  have q1 := HI11.out.cell 1 (v := .int .i64 b.bull) rfl
  have q2 := HI11.out.cell 2 (v := .slice p1 b.rings.length p4) rfl
  have q3 := HI11.out.cell 3 (v := .slice p2 b.lines.length p5) rfl
  have q4 := HI11.out.cell 4 (v := .slice p3 b.nums.length p6) rfl
  have q5 := HI11.out.cell 5 (v := .int .i64 b.wire) rfl
  have ql := HI11.out.lt
  have m0 := HJ11.out.cell 0 (v := .int .i64 b.eye) rfl
  have m1 := HJ11.out.cell 1 (v := .int .i64 b.bull) rfl
  have m2 := HJ11.out.cell 2 (v := .slice a1 b.rings.length a4) rfl
  have m3 := HJ11.out.cell 3 (v := .slice a2 b.lines.length a5) rfl
  have m4 := HJ11.out.cell 4 (v := .slice a3 b.nums.length a6) rfl
  have m5 := HJ11.out.cell 5 (v := .int .i64 b.wire) rfl
  have ml := HJ11.out.lt
  have n0 := HK11.out.cell 0 (v := .int .i64 px) rfl
  have n1 := HK11.out.cell 1 (v := .int .i64 py) rfl
  have nl := HK11.out.lt
  cases hpb : ptB ⟨px, py⟩
  case false =>
    have e2 := HR.out
    rw [bed_off HEZ.out hpb] at e2
    obtain ⟨rfl, rfl, rfl⟩ : r0 = 0 ∧ r1 = false ∧ r2 = 2 := by simpa [eq_comm] using e2
    clear e2 HR
    go_wp2_with fail
    refine (law_known _).mono ?_
    rintro e w12 ⟨rfl, hx12⟩
    have HX12 := Lib.hid (HX11.out.trans hx12)
    clear hx12
    go_wp2_with fail
    go_ret
    exact ⟨rfl, HX12.out⟩
  case true =>
  have hpo : Pt.ok ⟨px, py⟩ := ptB_ok hpb
  have HBE := Lib.hid (fun W hx => ref_bed a1 a2 a3 a4 a5 a6 b ⟨px, py⟩ W hx HGD.out HLN.out HBL.out hpo)
  have HWI := Lib.hid (fun W hx => ref_wire a1 a2 a3 a4 a5 a6 b ⟨px, py⟩ W hx HGD.out hpo)
  unfold Pt.agg at HBE HWI
  have e2 := HR.out
  rw [bed_on HEZ.out hpb] at e2
  generalize bedB b ⟨px, py⟩ = bd at *
  generalize onWire b ⟨px, py⟩ = ow at *
  obtain ⟨rfl, rfl, rfl⟩ : r0 = bd ∧ r1 = ow ∧ r2 = 0 := by simpa [eq_comm] using e2
  have hbb : (r0 == r0) = true := by simp
  have hww : (r1 == r1) = true := by simp
  clear e2 HR hpo
  go_wp2_with fail
  refine (HBE.out _ (HB.out.ext HX11.out)).mono ?_
  rintro e w12 ⟨rfl, hx12⟩
  have HX12 := Lib.hid (HX11.out.trans hx12)
  have HI12 := Lib.hid (HI11.out.ext hx12)
  have HJ12 := Lib.hid (HJ11.out.ext hx12)
  have HK12 := Lib.hid (HK11.out.ext hx12)
  have HO12 := Lib.hid (HO11.out.ext hx12)
  clear hx12 m0 m1 m2 m3 m4 m5 ml n0 n1 nl q0 q1 q2 q3 q4 q5 ql HI11 HJ11 HK11 HO11 HX11
  have q0 := HI12.out.cell 0 (v := .int .i64 b.eye) rfl
  have q1 := HI12.out.cell 1 (v := .int .i64 b.bull) rfl
  have q2 := HI12.out.cell 2 (v := .slice p1 b.rings.length p4) rfl
  have q3 := HI12.out.cell 3 (v := .slice p2 b.lines.length p5) rfl
  have q4 := HI12.out.cell 4 (v := .slice p3 b.nums.length p6) rfl
  have q5 := HI12.out.cell 5 (v := .int .i64 b.wire) rfl
  have ql := HI12.out.lt
  have m0 := HJ12.out.cell 0 (v := .int .i64 b.eye) rfl
  have m1 := HJ12.out.cell 1 (v := .int .i64 b.bull) rfl
  have m2 := HJ12.out.cell 2 (v := .slice a1 b.rings.length a4) rfl
  have m3 := HJ12.out.cell 3 (v := .slice a2 b.lines.length a5) rfl
  have m4 := HJ12.out.cell 4 (v := .slice a3 b.nums.length a6) rfl
  have m5 := HJ12.out.cell 5 (v := .int .i64 b.wire) rfl
  have ml := HJ12.out.lt
  have n0 := HK12.out.cell 0 (v := .int .i64 px) rfl
  have n1 := HK12.out.cell 1 (v := .int .i64 py) rfl
  have nl := HK12.out.lt
  go_wp2_with fail
  refine (HWI.out _ (HB.out.ext HX12.out)).mono ?_
  rintro e w13 ⟨rfl, hx13⟩
  have HX13 := Lib.hid (HX12.out.trans hx13)
  have HI13 := Lib.hid (HI12.out.ext hx13)
  have HJ13 := Lib.hid (HJ12.out.ext hx13)
  have HK13 := Lib.hid (HK12.out.ext hx13)
  have HO13 := Lib.hid (HO12.out.ext hx13)
  clear hx13 m0 m1 m2 m3 m4 m5 ml n0 n1 nl q0 q1 q2 q3 q4 q5 ql HI12 HJ12 HK12 HO12 HX12
  have q0 := HI13.out.cell 0 (v := .int .i64 b.eye) rfl
  have q1 := HI13.out.cell 1 (v := .int .i64 b.bull) rfl
  have q2 := HI13.out.cell 2 (v := .slice p1 b.rings.length p4) rfl
  have q3 := HI13.out.cell 3 (v := .slice p2 b.lines.length p5) rfl
  have q4 := HI13.out.cell 4 (v := .slice p3 b.nums.length p6) rfl
  have q5 := HI13.out.cell 5 (v := .int .i64 b.wire) rfl
  have ql := HI13.out.lt
  have m0 := HJ13.out.cell 0 (v := .int .i64 b.eye) rfl
  have m1 := HJ13.out.cell 1 (v := .int .i64 b.bull) rfl
  have m2 := HJ13.out.cell 2 (v := .slice a1 b.rings.length a4) rfl
  have m3 := HJ13.out.cell 3 (v := .slice a2 b.lines.length a5) rfl
  have m4 := HJ13.out.cell 4 (v := .slice a3 b.nums.length a6) rfl
  have m5 := HJ13.out.cell 5 (v := .int .i64 b.wire) rfl
  have ml := HJ13.out.lt
  have n0 := HK13.out.cell 0 (v := .int .i64 px) rfl
  have n1 := HK13.out.cell 1 (v := .int .i64 py) rfl
  have nl := HK13.out.lt
  go_wp2_with fail
  refine (law_known _).mono ?_
  rintro e w14 ⟨rfl, hx14⟩
  have HX14 := Lib.hid (HX13.out.trans hx14)
  clear hx14
  go_wp2_with fail
  go_ret
  exact ⟨rfl, HX14.out⟩
end Go.Proofs.Ytlkbbcfbnbnagaa
