/-
  The reference of chapter 1: the error of a box, the beds of a box.
-/
import Derived.Test.YtlkbbcfbnbnagaaRgh
namespace Go.Proofs.Ytlkbbcfbnbnagaa
open Go.RowKit Go.BigFrame
attribute [local go_sem] Later.cell Later.frozen Lat.cell Lat.frozen
def spanB (lo hi : Int) : Bool := !(decide (lo < -5000) || (decide (hi < lo) || decide (5000 < hi)))
theorem boxB_span (x : Bx) : boxB x = (spanB x.x0 x.x1 && spanB x.y0 x.y1) := by
  rw [Bool.eq_iff_iff]
  unfold boxB spanB
  simp only [ins, out1, List.any_cons, List.any_nil, Bool.or_false, Bool.not_or, Bool.and_eq_true, Bool.not_eq_true', decide_eq_false_iff_not, decide_eq_true_eq]
  omega
theorem ty_span : (Try.prog.types[28]'(of_decide_eq_true (by kernel_rfl))).size = 2 := by kernel_rfl
attribute [local go_sem] ty_span
/-- The error of a box. -/
def boxE (x : Bx) : Int := if boxB x = true then (if 2500 < boxN x then 8 else 0) else 2
set_option maxRecDepth 100000 in
set_option maxHeartbeats 8000000 in
theorem ref_box (x : Bx) (w : World) : Calls Try.prog 13 #[x.agg] w fun e w' => e = .returned (.int .i64 (boxE x)) ∧ Ext w w' := by
  have HBS := Lib.hid (boxB_span x)
  obtain ⟨g, hg⟩ : ∃ g, boxE x = g := ⟨_, rfl⟩
  have HG : Hid (g = if boxB x = true then (if 2500 < boxN x then 8 else 0) else 2) := Lib.hid hg.symm
  rw [hg]
  have HNE : Hid (boxN x = (x.x1 - x.x0 + 1) * (x.y1 - x.y0 + 1)) := Lib.hid rfl
  generalize boxN x = bn at *
  generalize boxB x = bb at *
  obtain ⟨x0, x1, y0, y1⟩ := x
  unfold Bx.agg
  simp only at HBS HNE ⊢
  clear hg
  go_enter Try.func13, Try.ntmps13
  go_upto_block 0 with fail
  obtain ⟨w1, hw1⟩ : ∃ x, x = w.alloc (.cells #[.int .i64 x0, .int .i64 x1, .int .i64 y0, .int .i64 y1] 30) := ⟨_, rfl⟩
  rw [← hw1]
  have HB1 : Hid (Blk w1 w.heap.size #[.int .i64 x0, .int .i64 x1, .int .i64 y0, .int .i64 y1]) := Lib.hid (by rw [hw1]; exact Blk.new _ _ _)
  have HX1 : Hid (Ext w w1) := Lib.hid (by rw [hw1]; exact (Ext.refl w).alloc _)
  clear hw1
  go_wp2_with fail
  go_loopw [3] (fun i wr => ∃ k : Nat, k ≤ 2 ∧ i = .int .i64 k ∧ (0 < k → spanB x0 x1 = true) ∧ (1 < k → spanB y0 y1 = true) ∧ Ext w1 wr) (fun i _ => 2 - (intOf i).toNat)
  case atStart => exact ⟨0, by omega, rfl, fun h => absurd h (by omega), fun h => absurd h (by omega), Ext.refl _⟩
  case round =>
    obtain ⟨k, hk, rfl, h1, h2, hx⟩ := hrel
    have H1 := Lib.hid h1
    have H2 := Lib.hid h2
    have HX := Lib.hid hx
    have HXe := Lib.hid (HX1.out.trans hx)
    have HBr := Lib.hid (HB1.out.ext hx)
    clear h1 h2 hx
    have m0 := HBr.out.cell 0 (v := .int .i64 x0) rfl
    have m1 := HBr.out.cell 1 (v := .int .i64 x1) rfl
    have m2 := HBr.out.cell 2 (v := .int .i64 y0) rfl
    have m3 := HBr.out.cell 3 (v := .int .i64 y1) rfl
    have ml := HBr.out.lt
    obtain rfl | rfl | rfl : k = 0 ∨ k = 1 ∨ k = 2 := by omega
    · have e0 : ((0 : Nat) : Int) = 0 := rfl
      rw [e0]
      clear e0
      go_wp2_with fail
      rename_i K0 b0
      refine b0 _ _ ?_
      rw [show (#[Value.int .i64 x0, .int .i64 x1, .int .i64 y0, .int .i64 y1].extract (Int.toNat 0 * (Try.prog.types[28]'(of_decide_eq_true (by kernel_rfl))).size) (Int.toNat 0 * (Try.prog.types[28]'(of_decide_eq_true (by kernel_rfl))).size + (Try.prog.types[28]'(of_decide_eq_true (by kernel_rfl))).size)) = #[.int .i64 x0, .int .i64 x1] from by rw [ty_span]; rfl]
      cases d1 : decide (x0 < -5000)
      case true =>
        obtain rfl : g = 2 := by rw [HG.out, HBS.out, show spanB x0 x1 = false from (by unfold spanB; rw [d1]; rfl), Bool.false_and, if_neg (by simp)]
        go_wp2_with fail
        go_ret
        exact ⟨rfl, HXe.out.alloc _⟩
      case false =>
      cases d2 : decide (x1 < x0)
      case true =>
        obtain rfl : g = 2 := by rw [HG.out, HBS.out, show spanB x0 x1 = false from (by unfold spanB; rw [d1, d2]; rfl), Bool.false_and, if_neg (by simp)]
        go_wp2_with fail
        go_ret
        exact ⟨rfl, HXe.out.alloc _⟩
      case false =>
      cases d3 : decide (5000 < x1)
      case true =>
        obtain rfl : g = 2 := by rw [HG.out, HBS.out, show spanB x0 x1 = false from (by unfold spanB; rw [d1, d2, d3]; rfl), Bool.false_and, if_neg (by simp)]
        go_wp2_with fail
        go_ret
        exact ⟨rfl, HXe.out.alloc _⟩
      case false =>
        have hs : spanB x0 x1 = true := by unfold spanB; rw [d1, d2, d3]; rfl
        have HS := Lib.hid hs
        clear hs
        go_wp2_with fail
        go_roundw
        case rel => exact ⟨1, by omega, by go_num, fun _ => HS.out, fun h => absurd h (by omega), HX.out.alloc _⟩
        case measure => simp [intOf]
    · have e0 : ((1 : Nat) : Int) = 1 := rfl
      rw [e0]
      clear e0
      go_wp2_with fail
      rename_i K0 b0
      refine b0 _ _ ?_
      rw [show (#[Value.int .i64 x0, .int .i64 x1, .int .i64 y0, .int .i64 y1].extract (Int.toNat 1 * (Try.prog.types[28]'(of_decide_eq_true (by kernel_rfl))).size) (Int.toNat 1 * (Try.prog.types[28]'(of_decide_eq_true (by kernel_rfl))).size + (Try.prog.types[28]'(of_decide_eq_true (by kernel_rfl))).size)) = #[.int .i64 y0, .int .i64 y1] from by rw [ty_span]; rfl]
      cases d1 : decide (y0 < -5000)
      case true =>
        obtain rfl : g = 2 := by rw [HG.out, HBS.out, show spanB y0 y1 = false from (by unfold spanB; rw [d1]; rfl), Bool.and_false, if_neg (by simp)]
        go_wp2_with fail
        go_ret
        exact ⟨rfl, HXe.out.alloc _⟩
      case false =>
      cases d2 : decide (y1 < y0)
      case true =>
        obtain rfl : g = 2 := by rw [HG.out, HBS.out, show spanB y0 y1 = false from (by unfold spanB; rw [d1, d2]; rfl), Bool.and_false, if_neg (by simp)]
        go_wp2_with fail
        go_ret
        exact ⟨rfl, HXe.out.alloc _⟩
      case false =>
      cases d3 : decide (5000 < y1)
      case true =>
        obtain rfl : g = 2 := by rw [HG.out, HBS.out, show spanB y0 y1 = false from (by unfold spanB; rw [d1, d2, d3]; rfl), Bool.and_false, if_neg (by simp)]
        go_wp2_with fail
        go_ret
        exact ⟨rfl, HXe.out.alloc _⟩
      case false =>
        have hs : spanB y0 y1 = true := by unfold spanB; rw [d1, d2, d3]; rfl
        have HS := Lib.hid hs
        clear hs
        go_wp2_with fail
        go_roundw
        case rel => exact ⟨2, by omega, by go_num, fun _ => H1.out (by omega), fun _ => HS.out, HX.out.alloc _⟩
        case measure => simp [intOf]
    · have hs0 : spanB x0 x1 = true := H1.out (by omega)
      have hs1 : spanB y0 y1 = true := H2.out (by omega)
      have HG1 : Hid (g = if 2500 < bn then 8 else 0) := Lib.hid (by rw [HG.out, HBS.out, hs0, hs1]; rfl)
      unfold spanB at hs0 hs1
      simp only [Bool.not_or, Bool.and_eq_true, Bool.not_eq_true', decide_eq_false_iff_not] at hs0 hs1
      obtain ⟨u0, u1, u2⟩ := hs0
      obtain ⟨v0, v1, v2⟩ := hs1
      have hb := mul_bound (a := x1 - x0 + 1) (b := y1 - y0 + 1) (m := 10001) (n := 10001) (by omega) (by omega)
      rw [← HNE.out] at hb
      have hb0 : -200000000 ≤ (x1 - x0 + 1) * (y1 - y0 + 1) := by rw [← HNE.out]; omega
      have hb1 : (x1 - x0 + 1) * (y1 - y0 + 1) ≤ 200000000 := by rw [← HNE.out]; omega
      cases d0 : decide (2500 < (x1 - x0 + 1) * (y1 - y0 + 1))
      case true =>
        obtain rfl : g = 8 := by rw [HG1.out, if_pos (by rw [HNE.out]; exact of_decide_eq_true d0)]
        go_wp2_with fail
        go_ret
        exact ⟨rfl, HXe.out⟩
      case false =>
        obtain rfl : g = 0 := by rw [HG1.out, if_neg (by rw [HNE.out]; exact of_decide_eq_false d0)]
        go_wp2_with fail
        go_ret
        exact ⟨rfl, HXe.out⟩
set_option maxRecDepth 100000 in
set_option maxHeartbeats 8000000 in
theorem ref_beds (a1 a2 a3 : Option Addr) (a4 a5 a6 : Nat) (b : Brd) (x : Bx) (w : World) (h : BrdAt w ⟨a1, a2, a3, a4, a5, a6⟩ b) (hg : GoodB b) (hl : linesB b.lines = true) (hbu : 0 < b.bull) (hx : x.ok) :
    Calls Try.prog 17 #[.agg #[.int .i64 b.eye, .int .i64 b.bull, .slice a1 b.rings.length a4, .slice a2 b.lines.length a5, .slice a3 b.nums.length a6, .int .i64 b.wire], x.agg] w fun e w' => ∃ v, e = .returned v ∧ OwnD w' w.heap.size v (setL ((ptsL x).map (bedB b))) ∧ Ext w w' := by
  have HB := Lib.hid h
  have HBE := Lib.hid (fun p hp W hx => ref_bed a1 a2 a3 a4 a5 a6 b p W (h.ext hx) hg hl hbu hp)
  have HSM := Lib.hid (fun p => bedB_small hg p)
  obtain ⟨x0, x1, y0, y1⟩ := x
  obtain ⟨⟨u0, u1, u2⟩, v0, v1, v2⟩ := hx
  simp only at u0 u1 u2 v0 v1 v2
  obtain ⟨F, hF⟩ : ∃ F : Nat → Nat → List Int, F = fun n m => (ptsTo ⟨x0, x1, y0, y1⟩ n ++ colL ⟨x0, x1, y0, y1⟩ (x0 + n) m).map (bedB b) := ⟨_, rfl⟩
  have HF0 : Hid (F 0 0 = []) := Lib.hid (by rw [hF]; simp [ptsTo, colL])
  have HFS : Hid (∀ n m, F n (m + 1) = F n m ++ [bedB b ⟨x0 + n, y0 + m⟩]) := Lib.hid (fun n m => by rw [hF]; simp only [colL_succ, ← List.append_assoc, List.map_append, List.map_cons, List.map_nil])
  have HFN : Hid (∀ n, F n (y1 - y0 + 1).toNat = F (n + 1) 0) := Lib.hid (fun n => by rw [hF]; simp only [ptsTo_succ]; simp [colL])
  have HFE : Hid (F (x1 - x0 + 1).toNat 0 = (ptsL ⟨x0, x1, y0, y1⟩).map (bedB b)) := Lib.hid (by rw [hF]; simp [colL, ptsL])
  generalize (ptsL ⟨x0, x1, y0, y1⟩).map (bedB b) = fl at *
  unfold Bx.agg
  unfold Pt.agg at HBE
  simp only
  clear h hg hl hbu hF
  go_enter Try.func17, Try.ntmps17
  obtain ⟨w2, hrun, hb2, hx2⟩ : ∃ W, (storeCells ⟨((w.alloc (.cells #[.int .i64 b.eye, .int .i64 b.bull, .slice a1 b.rings.length a4, .slice a2 b.lines.length a5, .slice a3 b.nums.length a6, .int .i64 b.wire] 26)).alloc (.cells #[.int .i64 x0, .int .i64 x1, .int .i64 y0, .int .i64 y1] 30)).heap.size, 0, none⟩ Try.zeroCells59.toList).run Try.prog (((w.alloc (.cells #[.int .i64 b.eye, .int .i64 b.bull, .slice a1 b.rings.length a4, .slice a2 b.lines.length a5, .slice a3 b.nums.length a6, .int .i64 b.wire] 26)).alloc (.cells #[.int .i64 x0, .int .i64 x1, .int .i64 y0, .int .i64 y1] 30)).alloc (.cells Try.zeroCells59 59)) = .ok () W ∧ Blk W ((w.alloc (.cells #[.int .i64 b.eye, .int .i64 b.bull, .slice a1 b.rings.length a4, .slice a2 b.lines.length a5, .slice a3 b.nums.length a6, .int .i64 b.wire] 26)).alloc (.cells #[.int .i64 x0, .int .i64 x1, .int .i64 y0, .int .i64 y1] 30)).heap.size (markC []) ∧ Ext ((w.alloc (.cells #[.int .i64 b.eye, .int .i64 b.bull, .slice a1 b.rings.length a4, .slice a2 b.lines.length a5, .slice a3 b.nums.length a6, .int .i64 b.wire] 26)).alloc (.cells #[.int .i64 x0, .int .i64 x1, .int .i64 y0, .int .i64 y1] 30)) W := ⟨_, run_zero_seen _, (zero_seen _).1, (zero_seen _).2⟩
  have hsz : ((w.alloc (.cells #[.int .i64 b.eye, .int .i64 b.bull, .slice a1 b.rings.length a4, .slice a2 b.lines.length a5, .slice a3 b.nums.length a6, .int .i64 b.wire] 26)).alloc (.cells #[.int .i64 x0, .int .i64 x1, .int .i64 y0, .int .i64 y1] 30)).heap.size = w.heap.size + 1 + 1 := by simp
  rw [hsz] at hrun hb2
  have HBB : Hid (Blk w2 w.heap.size #[.int .i64 b.eye, .int .i64 b.bull, .slice a1 b.rings.length a4, .slice a2 b.lines.length a5, .slice a3 b.nums.length a6, .int .i64 b.wire]) := Lib.hid (((Blk.new w #[.int .i64 b.eye, .int .i64 b.bull, .slice a1 b.rings.length a4, .slice a2 b.lines.length a5, .slice a3 b.nums.length a6, .int .i64 b.wire] _).alloc _).ext hx2)
  have HXX : Hid (Blk w2 (w.heap.size + 1) #[.int .i64 x0, .int .i64 x1, .int .i64 y0, .int .i64 y1]) := Lib.hid (Blk.ext (Blk.at _ (by simp)) hx2)
  have HX2 := Lib.hid (Ext.trans (((Ext.refl w).alloc _).alloc _) hx2)
  have HM2 : Hid (Blk w2 (w.heap.size + 1 + 1) (markC (F 0 0))) := Lib.hid (by rw [HF0.out]; exact hb2)
  clear hsz hb2 hx2
  have n0 := HXX.out.cell 0 (v := .int .i64 x0) rfl
  have n1 := HXX.out.cell 1 (v := .int .i64 x1) rfl
  have n2 := HXX.out.cell 2 (v := .int .i64 y0) rfl
  have n3 := HXX.out.cell 3 (v := .int .i64 y1) rfl
  have nl := HXX.out.lt
  go_upto_block 0 with fail
  clear hrun
  go_wp2_with fail
  go_loopw [6] (fun i wr => ∃ n : Nat, x0 + n ≤ x1 + 1 ∧ i = .int .i64 (x0 + n) ∧ Blk wr (w.heap.size + 1 + 1) (markC (F n 0)) ∧ Chg (fun j => w.heap.size + 1 + 1 ≤ j) w2 wr) (fun i _ => (x1 + 1 - intOf i).toNat)
  case atStart => exact ⟨0, by omega, by simp, HM2.out, Chg.refl _ _⟩
  case round =>
    obtain ⟨n, hn, rfl, hm, hc⟩ := hrel
    have HMk := Lib.hid hm
    have HCk := Lib.hid hc
    have HXk := Lib.hid (Chg.to_ext HX2.out hc (fun i hi => by omega))
    have HBk := Lib.hid (HBB.out.chg hc (by omega))
    have HYk := Lib.hid (HXX.out.chg hc (by omega))
    clear hm hc n0 n1 n2 n3 nl
    have n0 := HYk.out.cell 0 (v := .int .i64 x0) rfl
    have n1 := HYk.out.cell 1 (v := .int .i64 x1) rfl
    have n2 := HYk.out.cell 2 (v := .int .i64 y0) rfl
    have n3 := HYk.out.cell 3 (v := .int .i64 y1) rfl
    have nl := HYk.out.lt
    by_cases hlt : x0 + n ≤ x1
    · obtain ⟨w3, hw3⟩ : ∃ x, wr = x := ⟨_, rfl⟩
      rw [hw3] at HMk HCk HXk HBk HYk n0 n1 n2 n3 nl ⊢
      clear hw3
      go_wp2_with fail
      go_loopw [7] (fun i wr => ∃ m : Nat, y0 + m ≤ y1 + 1 ∧ i = .int .i64 (y0 + m) ∧ Blk wr (w.heap.size + 1 + 1) (markC (F n m)) ∧ Chg (fun j => w.heap.size + 1 + 1 ≤ j) w3 wr) (fun i _ => (y1 + 1 - intOf i).toNat)
      case atStart => exact ⟨0, by omega, by simp, HMk.out, Chg.refl _ _⟩
      case round =>
        obtain ⟨m, hm', rfl, hm, hc⟩ := hrel
        have HMj := Lib.hid hm
        have HCj := Lib.hid hc
        have HXj := Lib.hid (Chg.to_ext HXk.out hc (fun i hi => by omega))
        have HBj := Lib.hid (HBk.out.chg hc (by omega))
        have HYj := Lib.hid (HYk.out.chg hc (by omega))
        clear hm hc n0 n1 n2 n3 nl
        have n0 := HYj.out.cell 0 (v := .int .i64 x0) rfl
        have n1 := HYj.out.cell 1 (v := .int .i64 x1) rfl
        have n2 := HYj.out.cell 2 (v := .int .i64 y0) rfl
        have n3 := HYj.out.cell 3 (v := .int .i64 y1) rfl
        have nl := HYj.out.lt
        have m0 := HBj.out.cell 0 (v := .int .i64 b.eye) rfl
        have m1 := HBj.out.cell 1 (v := .int .i64 b.bull) rfl
        have m2 := HBj.out.cell 2 (v := .slice a1 b.rings.length a4) rfl
        have m3 := HBj.out.cell 3 (v := .slice a2 b.lines.length a5) rfl
        have m4 := HBj.out.cell 4 (v := .slice a3 b.nums.length a6) rfl
        have m5 := HBj.out.cell 5 (v := .int .i64 b.wire) rfl
        have ml := HBj.out.lt
        by_cases hlm : y0 + m ≤ y1
        · have hz0 := HSM.out ⟨x0 + n, y0 + m⟩
          have HBD := Lib.hid (HBE.out ⟨x0 + n, y0 + m⟩ ⟨⟨by show -5000 ≤ x0 + (n : Int); omega, by show x0 + (n : Int) ≤ 5000; omega⟩, ⟨by show -5000 ≤ y0 + (m : Int); omega, by show y0 + (m : Int) ≤ 5000; omega⟩⟩ wr HXj.out)
          have HFs := Lib.hid (HFS.out n m)
          generalize bedB b ⟨x0 + n, y0 + m⟩ = bz at *
          obtain ⟨z, rfl⟩ : ∃ z : Nat, bz = (z : Int) := ⟨bz.toNat, by omega⟩
          have hz5 : z < 500 := by omega
          simp only at HBD
          clear hz0
          go_wp2_with fail
          refine HBD.out.mono ?_
          rintro e w4 ⟨rfl, hx4⟩
          have HM4 := Lib.hid (HMj.out.ext hx4)
          have HC4 := Lib.hid (HCj.out.trans (hx4.chg (fun j => w.heap.size + 1 + 1 ≤ j)))
          clear hx4 n0 n1 n2 n3 nl m0 m1 m2 m3 m4 m5 ml
          have q0 := HM4.out.cell z (markC_get _ hz5)
          have q1 := HM4.out.frozen z
          have q2 := HM4.out.lt
          go_wp2_with fail
          have hM' := HM4.out.set z (.bool true)
          rw [markC_set _ hz5, ← HFs.out] at hM'
          have HM' := Lib.hid hM'
          have HC' := Lib.hid (HC4.out.setCell (p := ⟨w.heap.size + 1 + 1, z, none⟩) (.inr (Nat.le_refl _)) (.bool true))
          clear hM'
          go_roundw
          case rel => exact ⟨m + 1, by omega, by go_num, HM'.out, HC'.out⟩
          case measure => simp [intOf]; omega
        · have hmm : (y1 - y0 + 1).toNat = m := by omega
          have HMe : Hid (Blk wr (w.heap.size + 1 + 1) (markC (F (n + 1) 0))) := Lib.hid (by rw [← HFN.out, hmm]; exact HMj.out)
          have HCe := Lib.hid (HCk.out.trans HCj.out)
          clear hmm
          go_wp2_with fail
          go_roundw
          case rel => exact ⟨n + 1, by omega, by go_num, HMe.out, HCe.out⟩
          case measure => simp [intOf]; omega
    · have hnn : (x1 - x0 + 1).toNat = n := by omega
      have HMe : Hid (Blk wr (w.heap.size + 1 + 1) (markC fl)) := Lib.hid (by rw [← HFE.out, hnn]; exact HMk.out)
      have hml := HMe.out.lt
      clear hnn
      go_wp2_with (refine wpl_load_seen rfl _ rfl (w.heap.size + 1 + 1) rfl HMe.out ?_)
      refine (ref_sorted fl _).mono ?_
      rintro e w5 ⟨v, rfl, hO, hx⟩
      have HO := Lib.hid (own_mono (base' := w.heap.size) hO (by omega))
      have HX5 := Lib.hid (HXk.out.trans hx)
      clear hO hx
      go_wp2_with fail
      go_ret
      exact ⟨_, rfl, HO.out, HX5.out⟩
end Go.Proofs.Ytlkbbcfbnbnagaa
