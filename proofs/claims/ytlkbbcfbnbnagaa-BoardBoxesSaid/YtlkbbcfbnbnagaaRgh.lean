/-
  The reference of chapter 1: all beds.
-/
import Derived.Test.YtlkbbcfbnbnagaaRgd
import Derived.Test.YtlkbbcfbnbnagaaRex
import Derived.Test.YtlkbbcfbnbnagaaRey
import Derived.Test.YtlkbbcfbnbnagaaArr
import Derived.Test.YtlkbbcfbnbnagaaBpB
import Derived.Test.YtlkbbcfbnbnagaaSep
namespace Go.Proofs.Ytlkbbcfbnbnagaa
open Go.RowKit Go.BigFrame
attribute [local go_sem] Later.cell Later.frozen Lat.cell Lat.frozen
set_option maxRecDepth 100000 in
set_option maxHeartbeats 4000000 in
theorem ref_sector (a1 a2 a3 : Option Addr) (a4 a5 a6 : Nat) (b : Brd) (p : Pt) (w : World) (h : BrdAt w ⟨a1, a2, a3, a4, a5, a6⟩ b) (hs : b.lines.length ≤ 1000000) (hl : linesB b.lines = true) (hp : p.ok) (hnz : p.nz) :
    Calls Try.prog 58 #[.agg #[.int .i64 b.eye, .int .i64 b.bull, .slice a1 b.rings.length a4, .slice a2 b.lines.length a5, .slice a3 b.nums.length a6, .int .i64 b.wire], p.agg] w fun e w' => e = .returned (.int .i64 (secB b.lines p)) ∧ Ext w w' := by
  have HP := Lib.hid h.lines
  obtain ⟨hsl, hin⟩ := sec_one hl hnz
  have HIN := Lib.hid hin
  have hlk := lines_link hl
  have HOK : Hid (∀ i, (hi : i < b.lines.length) → b.lines[i].ok) := Lib.hid (fun i hi => by
    have h1 := List.any_eq_false.1 hlk.2.1 b.lines[i] (List.getElem_mem hi)
    exact ok_of_bad (by simpa using h1))
  have h3 := hlk.1
  generalize secB b.lines p = s at *
  have HPO := Lib.hid hp
  obtain ⟨px, py⟩ := p
  unfold Pt.agg
  simp only
  clear h hl hp hnz hin hlk
  go_enter Try.func58, Try.ntmps58
  go_upto_region 2 with fail
  obtain ⟨w1, hw1⟩ : ∃ x, x = (w.alloc (.cells #[.int .i64 b.eye, .int .i64 b.bull, .slice a1 b.rings.length a4, .slice a2 b.lines.length a5, .slice a3 b.nums.length a6, .int .i64 b.wire] 26)).alloc (.cells #[.int .i64 px, .int .i64 py] 53) := ⟨_, rfl⟩
  rw [← hw1]
  have HB1 : Hid (Blk w1 w.heap.size #[.int .i64 b.eye, .int .i64 b.bull, .slice a1 b.rings.length a4, .slice a2 b.lines.length a5, .slice a3 b.nums.length a6, .int .i64 b.wire]) := Lib.hid (by rw [hw1]; exact (Blk.new _ _ _).alloc _)
  have HB2 : Hid (Blk w1 (w.heap.size + 1) #[.int .i64 px, .int .i64 py]) := Lib.hid (by rw [hw1]; exact Blk.at _ (by simp))
  have HX1 : Hid (Ext w w1) := Lib.hid (by rw [hw1]; exact ((Ext.refl w).alloc _).alloc _)
  clear hw1
  go_wp2
  go_loopw [6] (fun i wr => ∃ k : Nat, k ≤ s ∧ i = .int .i64 k ∧ Ext w1 wr) (fun i _ => b.lines.length - (intOf i).toNat)
  case atStart => exact ⟨0, Nat.zero_le _, rfl, Ext.refl w1⟩
  case round =>
    obtain ⟨k, hk, rfl, hx⟩ := hrel
    have HX := Lib.hid (HX1.out.trans hx)
    have HX2 := Lib.hid hx
    have HB1r := Lib.hid (HB1.out.ext hx)
    have HB2r := Lib.hid (HB2.out.ext hx)
    have hlt : k < b.lines.length := by omega
    obtain ⟨q, hq⟩ : ∃ q : Nat, (k + 1) % b.lines.length = q := ⟨_, rfl⟩
    have hql : q < b.lines.length := by rw [← hq]; exact Nat.mod_lt _ (by omega)
    have hqm : ((k : Int) + 1).tmod (b.lines.length : Int) = (q : Int) := by
      rw [show ((k : Int) + 1) = ((k + 1 : Nat) : Int) by omega, ← hq]; rfl
    have hlz : ¬ ((b.lines.length : Int) = 0) := by omega
    have hP := HP.out.ext HX.out
    obtain ⟨lb, lo, e, x0, x1⟩ := hP k hlt
    obtain ⟨_, _, e', y0, y1⟩ := hP q hql
    rw [e] at e'
    cases e'
    subst e
    have hbt := HIN.out k hlt
    unfold inR at hbt
    rw [hq, ptAt_eq b.lines hlt, ptAt_eq b.lines hql] at hbt
    have hk1 := HOK.out k hlt
    have hq1 := HOK.out q hql
    have HBT := Lib.hid (fun W => ref_between b.lines[k] b.lines[q] ⟨px, py⟩ W hk1 hq1 HPO.out)
    rw [hbt] at HBT
    generalize b.lines[k] = pk at *
    generalize b.lines[q] = pq at *
    obtain ⟨kx, ky⟩ := pk
    obtain ⟨qx, qy⟩ := pq
    unfold Pt.agg at HBT
    simp only at x0 x1 y0 y1
    have xl := lt_of_cell x0
    simp only at xl
    have m0 := HB1r.out.cell 0 (v := .int .i64 b.eye) rfl
    have m1 := HB1r.out.cell 1 (v := .int .i64 b.bull) rfl
    have m2 := HB1r.out.cell 2 (v := .slice a1 b.rings.length a4) rfl
    have m3 := HB1r.out.cell 3 (v := .slice (some ⟨lb, lo, none⟩) b.lines.length a5) rfl
    have m4 := HB1r.out.cell 4 (v := .slice a3 b.nums.length a6) rfl
    have m5 := HB1r.out.cell 5 (v := .int .i64 b.wire) rfl
    have ml := HB1r.out.lt
    have n0 := HB2r.out.cell 0 (v := .int .i64 px) rfl
    have n1 := HB2r.out.cell 1 (v := .int .i64 py) rfl
    have nl := HB2r.out.lt
    clear hx hP hq hbt hk1 hq1
    go_upto_region 5 with fail
    by_cases hks : k = s
    · subst hks
      rw [decide_eq_true rfl] at HBT
      refine wp_region_later (by kernel_rfl) (by kernel_rfl) ?_
      repeat (go_big_quiet_step (refine Calls.later (HBT.out _)))
      refine wpQuiet_nil ?_
      intro w4 hw4
      obtain ⟨⟨w4, hx4⟩, rfl⟩ := hw4
      have HX4 := Lib.hid (HX.out.trans hx4)
      clear hx4
      go_wp2
      go_ret
      exact ⟨rfl, HX4.out⟩
    · rw [decide_eq_false hks] at HBT
      refine wp_region_later (by kernel_rfl) (by kernel_rfl) ?_
      repeat (go_big_quiet_step (refine Calls.later (HBT.out _)))
      refine wpQuiet_nil ?_
      intro w4 hw4
      obtain ⟨⟨w4, hx4⟩, rfl⟩ := hw4
      have HX4 := Lib.hid (HX2.out.trans hx4)
      clear hx4
      go_wp2
      go_roundw
      case rel => exact ⟨k + 1, by omega, by go_num, HX4.out⟩
      case measure => simp [intOf]; omega
theorem sq_range {r w : Int} (hr : 0 ≤ r ∧ r ≤ 5000) (hw : 0 ≤ w ∧ w ≤ 20) : (0 ≤ (r - w) * (r - w) ∧ (r - w) * (r - w) ≤ 36000000) ∧ (0 ≤ (r + w) * (r + w) ∧ (r + w) * (r + w) ≤ 36000000) := by
  have key : ∀ u : Int, -6000 ≤ u ∧ u ≤ 6000 → 0 ≤ u * u ∧ u * u ≤ 36000000 := by
    intro u hu
    have h1 : (u * u).natAbs ≤ 6000 * 6000 := mul_bound (by omega) (by omega)
    have h2 : 0 ≤ u * u := by
      rcases Int.le_total 0 u with h | h
      · exact Int.mul_nonneg h h
      · exact Int.mul_nonneg_of_nonpos_of_nonpos h h
    omega
  exact ⟨key _ (by omega), key _ (by omega)⟩
theorem near_iff {wire q z : Int} : nearP wire q z = (decide ((z - wire) * (z - wire) ≤ q) && decide (q ≤ (z + wire) * (z + wire))) := by
  unfold nearP
  rw [Bool.eq_iff_iff, ins_one, Bool.and_eq_true, decide_eq_true_eq, decide_eq_true_eq]
theorem ins_dec {a b x : Int} : ins a b [x] = (decide (a ≤ x) && decide (x ≤ b)) := by
  rw [Bool.eq_iff_iff, ins_one, Bool.and_eq_true, decide_eq_true_eq, decide_eq_true_eq]
set_option maxRecDepth 100000 in
set_option maxHeartbeats 8000000 in
theorem ref_wire (a1 a2 a3 : Option Addr) (a4 a5 a6 : Nat) (b : Brd) (p : Pt) (w : World) (h : BrdAt w ⟨a1, a2, a3, a4, a5, a6⟩ b) (hg : GoodB b) (hp : p.ok) :
    Calls Try.prog 28 #[.agg #[.int .i64 b.eye, .int .i64 b.bull, .slice a1 b.rings.length a4, .slice a2 b.lines.length a5, .slice a3 b.nums.length a6, .int .i64 b.wire], p.agg] w fun e w' => e = .returned (.bool (onWire b p)) ∧ Ext w w' := by
  have HB := Lib.hid h
  have HRR := Lib.hid (fun W (hx : Ext w W) => ref_radii ⟨a1, a2, a3, a4, a5, a6⟩ b W (h.ext hx) hg.small.r)
  unfold BrdV.cells at HRR
  have HDT := Lib.hid (fun W => ref_dot p p W hp hp)
  have HCP := Lib.hid (fun i (hi : i < b.lines.length) W => ref_cross b.lines[i] p W (hg.pts _ (List.getElem_mem hi)) hp)
  have HDP := Lib.hid (fun i (hi : i < b.lines.length) W => ref_dot b.lines[i] p W (hg.pts _ (List.getElem_mem hi)) hp)
  have HSP := Lib.hid (fun i (hi : i < b.lines.length) W => ref_dot b.lines[i] b.lines[i] W (hg.pts _ (List.getElem_mem hi)) (hg.pts _ (List.getElem_mem hi)))
  have HCB := Lib.hid (fun i (hi : i < b.lines.length) => cross_small (hg.pts _ (List.getElem_mem hi)) hp)
  have HSB := Lib.hid (fun i (hi : i < b.lines.length) => dot_small (hg.pts _ (List.getElem_mem hi)) (hg.pts _ (List.getElem_mem hi)))
  have hq0 := dot_small hp hp
  have HPL := Lib.hid (fun i (hi : i < b.lines.length) => show wireP b.wire p b.lines[i] = (decide (0 < dotP b.lines[i] p) && decide (crossP b.lines[i] p * crossP b.lines[i] p ≤ b.wire * b.wire * dotP b.lines[i] b.lines[i])) from rfl)
  have HGR := Lib.hid hg.rad
  have hub := HGR.out b.bull (by simp [Brd.radii])
  obtain ⟨bq0, bq1⟩ := mul_small (a := b.bull) (b := b.bull) (by omega) (by omega)
  obtain ⟨hw0, hw1⟩ := hg.wire
  have hll := hg.small.l
  have hrl : 2 ≤ b.radii.length ∧ b.radii.length ≤ 1000002 := by have := hg.small.r; unfold Brd.radii; simp; omega
  obtain ⟨g, hgg⟩ : ∃ c, onWire b p = c := ⟨_, rfl⟩
  obtain ⟨q, hq⟩ : ∃ c, dotP p p = c := ⟨_, rfl⟩
  have HRB : Hid (g = (decide (b.wire ≠ 0) && (b.radii.any (nearP b.wire q) || (ins (b.bull * b.bull) (radLast b * radLast b) [q] && b.lines.any (wireP b.wire p))))) := Lib.hid (by rw [← hgg, ← hq]; rfl)
  rw [hq] at HDT hq0
  rw [hgg]
  have HRLA : Hid (∀ k, b.radii.length = k + 1 → (h : k < b.radii.length) → radLast b = b.radii[k]) := Lib.hid (fun k e h => by
    unfold radLast
    rw [List.getLast?_eq_getElem?, e]
    simp [h])
  generalize radLast b = yz at *
  generalize wireP b.wire p = wp at *
  obtain ⟨px, py⟩ := p
  obtain ⟨hrl0, hrl1⟩ := hrl
  obtain ⟨hq00, hq01⟩ := hq0
  unfold Pt.agg at HDT ⊢
  simp only at HDT ⊢
  clear h hg hp hgg hq hub
  go_enter Try.func28, Try.ntmps28
  go_upto_region 1 with fail
  obtain ⟨w1, hw1⟩ : ∃ x, x = (w.alloc (.cells #[.int .i64 b.eye, .int .i64 b.bull, .slice a1 b.rings.length a4, .slice a2 b.lines.length a5, .slice a3 b.nums.length a6, .int .i64 b.wire] 26)).alloc (.cells #[.int .i64 px, .int .i64 py] 53) := ⟨_, rfl⟩
  rw [← hw1]
  have HB1 : Hid (Blk w1 w.heap.size #[.int .i64 b.eye, .int .i64 b.bull, .slice a1 b.rings.length a4, .slice a2 b.lines.length a5, .slice a3 b.nums.length a6, .int .i64 b.wire]) := Lib.hid (by rw [hw1]; exact (Blk.new _ _ _).alloc _)
  have HB2 : Hid (Blk w1 (w.heap.size + 1) #[.int .i64 px, .int .i64 py]) := Lib.hid (by rw [hw1]; exact Blk.at _ (by simp))
  have HX1 : Hid (Ext w w1) := Lib.hid (by rw [hw1]; exact ((Ext.refl w).alloc _).alloc _)
  clear hw1
  have m0 : ∀ y : Lat NoX w1, y.world.cell? ⟨w.heap.size, 0, none⟩ = some (.int .i64 b.eye) := fun y => (HB1.out.ext (Lat.ext0 y)).cell 0 rfl
  have m1 : ∀ y : Lat NoX w1, y.world.cell? ⟨w.heap.size, 1, none⟩ = some (.int .i64 b.bull) := fun y => (HB1.out.ext (Lat.ext0 y)).cell 1 rfl
  have m2 : ∀ y : Lat NoX w1, y.world.cell? ⟨w.heap.size, 2, none⟩ = some (.slice a1 b.rings.length a4) := fun y => (HB1.out.ext (Lat.ext0 y)).cell 2 rfl
  have m3 : ∀ y : Lat NoX w1, y.world.cell? ⟨w.heap.size, 3, none⟩ = some (.slice a2 b.lines.length a5) := fun y => (HB1.out.ext (Lat.ext0 y)).cell 3 rfl
  have m4 : ∀ y : Lat NoX w1, y.world.cell? ⟨w.heap.size, 4, none⟩ = some (.slice a3 b.nums.length a6) := fun y => (HB1.out.ext (Lat.ext0 y)).cell 4 rfl
  have m5 : ∀ y : Lat NoX w1, y.world.cell? ⟨w.heap.size, 5, none⟩ = some (.int .i64 b.wire) := fun y => (HB1.out.ext (Lat.ext0 y)).cell 5 rfl
  have n0 : ∀ y : Lat NoX w1, y.world.cell? ⟨(w.heap.size + 1), 0, none⟩ = some (.int .i64 px) := fun y => (HB2.out.ext (Lat.ext0 y)).cell 0 rfl
  have n1 : ∀ y : Lat NoX w1, y.world.cell? ⟨(w.heap.size + 1), 1, none⟩ = some (.int .i64 py) := fun y => (HB2.out.ext (Lat.ext0 y)).cell 1 rfl
  refine wp_region_ext (by kernel_rfl) [.no, .rdi b.radii, .no, .no, .val (.int .i64 q)] (by kernel_rfl) (Nat.le_of_ble_eq_true rfl) ?_
  intro T hT hne u hu
  obtain ⟨ra, rc, u1⟩ : SlcS b.radii.length (u 1) := hu 1 rfl
  have u4 : u 4 = .int .i64 q := hu 4 rfl
  clear hu
  refine lx_next 1 (by rfl) (by decide) ?_
  dsimp only [List.take, List.drop]
  repeat (go_big_quiet_step (fail))
  refine wpQuiet_nil ?_
  refine lx_loud (by rfl) (by kernel_rfl) ?_ (fun K hK => ?_)
  · intro L w3 hL hd hcl hC hs
    obtain ⟨y, rfl⟩ := hC
    have hxy := Lat.ext0 y

    go_wp2_with fail
    refine (HRR.out _ (HX1.out.trans hxy)).mono ?_
    rintro e w' ⟨xa, xc, rfl, hri, hx⟩
    have HRK := Lib.hid (rik_call (i := 1) y hs ⟨xa, xc, rfl⟩ hx hri)
    clear hs
    go_wp2
    exact HRK.out
  rw [u1]
  go_simp
  with_reducible refine hK _ ?_
  clear hK K
  refine lx_next 2 (by rfl) (by decide) ?_
  dsimp only [List.take, List.drop]
  repeat (go_big_quiet_step (fail))
  refine wpQuiet_nil ?_
  refine lx_loud (by rfl) (by kernel_rfl) ?_ (fun K hK => ?_)
  · intro L w3 hL hd hcl hC hs
    obtain ⟨y, rfl⟩ := hC
    have hxy := Lat.ext0 y

    go_wp2_with fail
    refine (HDT.out _).mono ?_
    rintro e w' ⟨rfl, hx⟩
    have HRK := Lib.hid (rik_call (i := 4) y hs rfl hx trivial)
    clear hs
    go_wp2
    exact HRK.out
  rw [u4]
  go_simp
  with_reducible refine hK _ ?_
  clear hK K
  refine lx_next 2 (by rfl) (by decide) ?_
  dsimp only [List.take, List.drop]
  repeat (go_big_quiet_step (fail))
  refine wpQuiet_nil ?_
  refine lx_nil ?_
  intro y hs
  have hxy := Lat.ext0 y
  have h1 := hs 1 rfl rfl
  rw [u1] at h1
  have HR1 := Lib.hid (show RdI S0 y.world (.slice ra b.radii.length rc) b.radii from h1)
  have HX2 := Lib.hid (HX1.out.trans hxy)
  have HB3 := Lib.hid (HB1.out.ext hxy)
  have HB4 := Lib.hid (HB2.out.ext hxy)
  generalize y.world = w2 at *
  clear hs hxy m0 m1 m2 m3 m4 m5 n0 n1 hT hne u1 u4 h1 HB1 HB2 HX1
  obtain ⟨rb, ro, rcc, e, hrc, -⟩ := HR1.out.head (by omega)
  cases e
  have HRC := Lib.hid hrc
  clear hrc
  cases d0 : decide (0 < b.wire)
  case false =>
    obtain rfl : g = false := by
      have e : b.wire = 0 := by have := of_decide_eq_false d0; omega
      rw [HRB.out, e]
      rfl
    have m0 := HB3.out.cell 0 (v := .int .i64 b.eye) rfl
    have m1 := HB3.out.cell 1 (v := .int .i64 b.bull) rfl
    have m2 := HB3.out.cell 2 (v := .slice a1 b.rings.length a4) rfl
    have m3 := HB3.out.cell 3 (v := .slice a2 b.lines.length a5) rfl
    have m4 := HB3.out.cell 4 (v := .slice a3 b.nums.length a6) rfl
    have m5 := HB3.out.cell 5 (v := .int .i64 b.wire) rfl
    have ml := HB3.out.lt
    clear HRB
    go_wp2_with fail
    go_loopw [7] (fun i wr => i = .int .i64 0 ∧ wr = w2) (fun _ _ => 0)
    case atStart => exact ⟨rfl, rfl⟩
    case round =>
      obtain ⟨rfl, hwe⟩ := hrel
      obtain rfl : w2 = wr := hwe.symm
      obtain ⟨k, hk⟩ : ∃ k, b.radii.length = k + 1 := ⟨b.radii.length - 1, by omega⟩
      obtain ⟨_, _, e, x0⟩ := HRC.out k (by omega)
      cases e
      have xl := lt_of_cell x0
      simp only at xl
      generalize b.radii[k] = z at *
      have hl0 : decide ((0 : Int) < (b.radii.length : Int)) = true := decide_eq_true (by omega)
      have hlk : (b.radii.length : Int) - 1 = (k : Int) := by omega
      go_wp2_with fail
      go_loopw [9] (fun i wr => i = .int .i64 0 ∧ wr = w2) (fun _ _ => 0)
      case atStart => exact ⟨rfl, rfl⟩
      case round =>
        obtain ⟨rfl, rfl⟩ := hrel
        go_wp2_with fail
        all_goals (go_ret; exact ⟨rfl, HX2.out⟩)
  case true =>
  have HG0 : Hid (g = (b.radii.any (nearP b.wire q) || (ins (b.bull * b.bull) (yz * yz) [q] && b.lines.any wp))) := Lib.hid (by
    have e : decide (b.wire ≠ 0) = true := decide_eq_true (by have := of_decide_eq_true d0; omega)
    rw [HRB.out, e, Bool.true_and])
  clear HRB
  go_wp2_with fail
  go_loopw [7] (fun i wr => ∃ k : Nat, k ≤ b.radii.length ∧ i = .int .i64 k ∧ (b.radii.take k).any (nearP b.wire q) = false ∧ Ext w2 wr) (fun i _ => b.radii.length - (intOf i).toNat)
  case atStart => exact ⟨0, Nat.zero_le _, rfl, rfl, Ext.refl w2⟩
  case round =>
    obtain ⟨k, hk, rfl, hna, hx⟩ := hrel
    have HNA := Lib.hid hna
    have HX := Lib.hid hx
    have HBr := Lib.hid (HB3.out.ext hx)
    clear hx hna
    have m0 := HBr.out.cell 0 (v := .int .i64 b.eye) rfl
    have m1 := HBr.out.cell 1 (v := .int .i64 b.bull) rfl
    have m2 := HBr.out.cell 2 (v := .slice a1 b.rings.length a4) rfl
    have m3 := HBr.out.cell 3 (v := .slice a2 b.lines.length a5) rfl
    have m4 := HBr.out.cell 4 (v := .slice a3 b.nums.length a6) rfl
    have m5 := HBr.out.cell 5 (v := .int .i64 b.wire) rfl
    have ml := HBr.out.lt
    by_cases hlt : k < b.radii.length
    · obtain ⟨_, _, e, x0⟩ := (HRC.out.ext HX.out) k hlt
      cases e
      have xl := lt_of_cell x0
      simp only at xl
      obtain ⟨z, hz⟩ : ∃ z, b.radii[k] = z := ⟨_, rfl⟩
      have HZ := Lib.hid hz
      have hzb := HGR.out b.radii[k] (List.getElem_mem hlt)
      rw [hz] at x0 hzb
      obtain ⟨⟨u00, u01⟩, u10, u11⟩ := sq_range (r := z) (w := b.wire) hzb ⟨hw0, hw1⟩
      obtain ⟨hz0, hz1⟩ := hzb
      have HNK : Hid (nearP b.wire q b.radii[k] = (decide ((z - b.wire) * (z - b.wire) ≤ q) && decide (q ≤ (z + b.wire) * (z + b.wire)))) := Lib.hid (by rw [HZ.out]; exact near_iff)
      clear hz
      cases d1 : decide ((z - b.wire) * (z - b.wire) ≤ q)
      case false =>
        have HNB : Hid ((b.radii.take (k + 1)).any (nearP b.wire q) = false) := Lib.hid (by rw [any_take _ _ hlt HNA.out, HNK.out, d1]; rfl)
        go_upto_region 5 with fail
        refine wp_region_later (by kernel_rfl) (by kernel_rfl) ?_
        repeat (go_big_quiet_step (fail))
        refine wpQuiet_nil ?_
        intro w4 hw4
        obtain ⟨⟨w4, hx4⟩, rfl⟩ := hw4
        have HX4 := Lib.hid (HX.out.trans hx4)
        clear hx4
        go_wp2_with fail
        go_roundw
        case rel => exact ⟨k + 1, by omega, by go_num, HNB.out, HX4.out⟩
        case measure => simp [intOf]; omega
      case true =>
      cases d2 : decide (q ≤ (z + b.wire) * (z + b.wire))
      case false =>
        have HNB : Hid ((b.radii.take (k + 1)).any (nearP b.wire q) = false) := Lib.hid (by rw [any_take _ _ hlt HNA.out, HNK.out, d1, d2]; rfl)
        go_upto_region 5 with fail
        refine wp_region_later (by kernel_rfl) (by kernel_rfl) ?_
        repeat (go_big_quiet_step (fail))
        refine wpQuiet_nil ?_
        intro w4 hw4
        obtain ⟨⟨w4, hx4⟩, rfl⟩ := hw4
        have HX4 := Lib.hid (HX.out.trans hx4)
        clear hx4
        go_wp2_with fail
        go_roundw
        case rel => exact ⟨k + 1, by omega, by go_num, HNB.out, HX4.out⟩
        case measure => simp [intOf]; omega
      case true =>
        obtain rfl : g = true := by rw [HG0.out, any_hit _ _ hlt (by rw [HNK.out, d1, d2]; rfl), Bool.true_or]
        go_upto_region 5 with fail
        refine wp_region_later (by kernel_rfl) (by kernel_rfl) ?_
        repeat (go_big_quiet_step (fail))
        refine wpQuiet_nil ?_
        intro w4 hw4
        obtain ⟨⟨w4, hx4⟩, rfl⟩ := hw4
        have HX4 := Lib.hid (HX2.out.trans (HX.out.trans hx4))
        clear hx4
        go_wp2_with fail
        go_ret
        exact ⟨rfl, HX4.out⟩
    · have hke : k = b.radii.length := by omega
      have HG1 : Hid (g = (ins (b.bull * b.bull) (yz * yz) [q] && b.lines.any wp)) := Lib.hid (by
        have e := HNA.out
        rw [hke, List.take_of_length_le (Nat.le_refl _)] at e
        rw [HG0.out, e, Bool.false_or])
      obtain ⟨j, hj⟩ : ∃ k, b.radii.length = k + 1 := ⟨b.radii.length - 1, by omega⟩
      obtain ⟨_, _, e, x0⟩ := (HRC.out.ext HX.out) j (by omega)
      cases e
      have xl := lt_of_cell x0
      simp only at xl
      have hyb := HGR.out b.radii[j] (List.getElem_mem (by omega))
      rw [← HRLA.out j hj (by omega)] at x0 hyb
      obtain ⟨v0, v1⟩ := mul_small (a := yz) (b := yz) (by omega) (by omega)
      obtain ⟨hy0, hy1⟩ := hyb
      have hlk : (b.radii.length : Int) - 1 = (j : Int) := by omega
      have hlo : (decide ((b.radii.length : Int) < (b.radii.length : Int))) = false := decide_eq_false (by omega)
      subst hke
      obtain ⟨W, hW⟩ : ∃ x, wr = x := ⟨_, rfl⟩
      rw [hW] at HBr HX m0 m1 m2 m3 m4 m5 ml x0 xl ⊢
      have HB5 := Lib.hid (HB4.out.ext HX.out)
      have HXW := Lib.hid (HX2.out.trans HX.out)
      clear hW HG0 HNA HR1 HRC HRLA HGR HDT HRR
      cases d3 : decide (b.bull * b.bull ≤ q)
      case false =>
        obtain rfl : g = false := by rw [HG1.out, ins_dec, d3]; rfl
        go_wp2_with fail
        go_loopw [9] (fun i wr => i = .int .i64 0 ∧ wr = W) (fun _ _ => 0)
        case atStart => exact ⟨rfl, rfl⟩
        case round =>
          obtain ⟨rfl, rfl⟩ := hrel
          go_wp2_with fail
          all_goals (go_ret; exact ⟨rfl, HXW.out⟩)
      case true =>
      cases d4 : decide (q ≤ yz * yz)
      case false =>
        obtain rfl : g = false := by rw [HG1.out, ins_dec, d3, d4]; rfl
        go_wp2_with fail
        go_loopw [9] (fun i wr => i = .int .i64 0 ∧ wr = W) (fun _ _ => 0)
        case atStart => exact ⟨rfl, rfl⟩
        case round =>
          obtain ⟨rfl, rfl⟩ := hrel
          go_wp2_with fail
          all_goals (go_ret; exact ⟨rfl, HXW.out⟩)
      case true =>
      have HG2 : Hid (g = b.lines.any wp) := Lib.hid (by rw [HG1.out, ins_dec, d3, d4]; rfl)
      clear HG1
      go_wp2_with fail
      go_loopw [9] (fun i wr => ∃ k : Nat, k ≤ b.lines.length ∧ i = .int .i64 k ∧ (b.lines.take k).any wp = false ∧ Ext W wr) (fun i _ => b.lines.length - (intOf i).toNat)
      case atStart => exact ⟨0, Nat.zero_le _, rfl, rfl, Ext.refl W⟩
      case round =>
        obtain ⟨k, hk, rfl, hna, hx⟩ := hrel
        have HNA := Lib.hid hna
        have HX3 := Lib.hid hx
        have HX5 := Lib.hid (HXW.out.trans hx)
        have HBn := Lib.hid (HBr.out.ext hx)
        have HBm := Lib.hid (HB5.out.ext hx)
        clear hx hna m0 m1 m2 m3 m4 m5 ml x0 xl
        have m0 := HBn.out.cell 0 (v := .int .i64 b.eye) rfl
        have m1 := HBn.out.cell 1 (v := .int .i64 b.bull) rfl
        have m2 := HBn.out.cell 2 (v := .slice a1 b.rings.length a4) rfl
        have m3 := HBn.out.cell 3 (v := .slice a2 b.lines.length a5) rfl
        have m4 := HBn.out.cell 4 (v := .slice a3 b.nums.length a6) rfl
        have m5 := HBn.out.cell 5 (v := .int .i64 b.wire) rfl
        have ml := HBn.out.lt
        by_cases hlt : k < b.lines.length
        · obtain ⟨lb, lo, e, x0, x1⟩ := (HB.out.lines.ext HX5.out) k hlt
          have xl := lt_of_cell x0
          simp only at e xl
          have HC := Lib.hid (HCP.out k hlt)
          have HD := Lib.hid (HDP.out k hlt)
          have HS := Lib.hid (HSP.out k hlt)
          have hcb := HCB.out k hlt
          have hsb := HSB.out k hlt
          have HWP := Lib.hid (HPL.out k hlt)
          generalize crossP b.lines[k] ⟨px, py⟩ = cr at *
          generalize dotP b.lines[k] ⟨px, py⟩ = dt at *
          generalize dotP b.lines[k] b.lines[k] = sq at *
          generalize hlp : b.lines[k] = lp at *
          obtain ⟨lx, ly⟩ := lp
          unfold Pt.agg at HC HD HS
          simp only at HC HD HS x0 x1
          have c1 := mul_bound (a := cr) (b := cr) (m := 50000000) (n := 50000000) (by omega) (by omega)
          have c2 := mul_bound (a := b.wire) (b := b.wire) (m := 20) (n := 20) (by omega) (by omega)
          have c3 := mul_bound (a := b.wire * b.wire) (b := sq) (m := 20 * 20) (n := 50000000) c2 (by omega)
          have c10 : -2500000000000000 ≤ cr * cr := by omega
          have c11 : cr * cr ≤ 2500000000000000 := by omega
          have c20 : -400 ≤ b.wire * b.wire := by omega
          have c21 : b.wire * b.wire ≤ 400 := by omega
          have c30 : -20000000000 ≤ b.wire * b.wire * sq := by omega
          have c31 : b.wire * b.wire * sq ≤ 20000000000 := by omega
          subst e
          clear c1 c2 c3 hcb hsb
          have n0 := HBm.out.cell 0 (v := .int .i64 px) rfl
          have n1 := HBm.out.cell 1 (v := .int .i64 py) rfl
          have nl := HBm.out.lt
          go_upto_region 11 with fail
          refine wp_region_later (by kernel_rfl) (by kernel_rfl) ?_
          repeat (go_big_quiet_step (refine Calls.later (HC.out _)))
          refine wpQuiet_nil ?_
          intro w4 hw4
          obtain ⟨⟨w4, hx4⟩, rfl⟩ := hw4
          have HX6 := Lib.hid (HX3.out.trans hx4)
          have HX7 := Lib.hid (HX5.out.trans hx4)
          have HBo := Lib.hid (HBn.out.ext hx4)
          have HBp := Lib.hid (HBm.out.ext hx4)
          replace x0 := hx4.cell x0
          replace x1 := hx4.cell x1
          clear hx4 m0 m1 m2 m3 m4 m5 ml n0 n1 nl xl
          have xl := lt_of_cell x0
          simp only at xl
          have m0 := HBo.out.cell 0 (v := .int .i64 b.eye) rfl
          have m1 := HBo.out.cell 1 (v := .int .i64 b.bull) rfl
          have m2 := HBo.out.cell 2 (v := .slice a1 b.rings.length a4) rfl
          have m3 := HBo.out.cell 3 (v := .slice (some ⟨lb, lo, none⟩) b.lines.length a5) rfl
          have m4 := HBo.out.cell 4 (v := .slice a3 b.nums.length a6) rfl
          have m5 := HBo.out.cell 5 (v := .int .i64 b.wire) rfl
          have ml := HBo.out.lt
          have n0 := HBp.out.cell 0 (v := .int .i64 px) rfl
          have n1 := HBp.out.cell 1 (v := .int .i64 py) rfl
          have nl := HBp.out.lt
          go_upto_region 12 with fail
          cases d5 : decide (0 < dt)
          case false =>
            have HNB : Hid ((b.lines.take (k + 1)).any wp = false) := Lib.hid (by rw [any_take _ _ hlt HNA.out, hlp, HWP.out, d5]; rfl)
            refine wp_region_later (by kernel_rfl) (by kernel_rfl) ?_
            repeat (go_big_quiet_step (refine Calls.later (HD.out _)))
            refine wpQuiet_nil ?_
            intro w4 hw4
            obtain ⟨⟨w4, hx4⟩, rfl⟩ := hw4
            have HX8 := Lib.hid (HX6.out.trans hx4)
            clear hx4
            go_wp2_with fail
            go_roundw
            case rel => exact ⟨k + 1, by omega, by go_num, HNB.out, HX8.out⟩
            case measure => simp [intOf]; omega
          case true =>
          cases d6 : decide (cr * cr ≤ b.wire * b.wire * sq)
          case false =>
            have HNB : Hid ((b.lines.take (k + 1)).any wp = false) := Lib.hid (by rw [any_take _ _ hlt HNA.out, hlp, HWP.out, d5, d6]; rfl)
            refine wp_region_later (by kernel_rfl) (by kernel_rfl) ?_
            repeat (go_big_quiet_step (first | with_reducible refine Calls.later (HD.out _) | with_reducible refine Calls.later (HS.out _)))
            refine wpQuiet_nil ?_
            intro w4 hw4
            obtain ⟨⟨w4, hx4⟩, rfl⟩ := hw4
            have HX8 := Lib.hid (HX6.out.trans hx4)
            clear hx4
            go_wp2_with fail
            go_roundw
            case rel => exact ⟨k + 1, by omega, by go_num, HNB.out, HX8.out⟩
            case measure => simp [intOf]; omega
          case true =>
            obtain rfl : g = true := by rw [HG2.out]; exact any_hit _ _ hlt (by rw [hlp, HWP.out, d5, d6]; rfl)
            refine wp_region_later (by kernel_rfl) (by kernel_rfl) ?_
            repeat (go_big_quiet_step (first | with_reducible refine Calls.later (HD.out _) | with_reducible refine Calls.later (HS.out _)))
            refine wpQuiet_nil ?_
            intro w4 hw4
            obtain ⟨⟨w4, hx4⟩, rfl⟩ := hw4
            have HX8 := Lib.hid (HX7.out.trans hx4)
            clear hx4
            go_wp2_with fail
            go_ret
            exact ⟨rfl, HX8.out⟩
        · obtain rfl : g = false := by
            have e := HNA.out
            rw [show k = b.lines.length by omega, List.take_of_length_le (Nat.le_refl _)] at e
            rw [HG2.out, e]
          have hke : k = b.lines.length := by omega
          subst hke
          go_wp2_with fail
          go_ret
          exact ⟨rfl, HX5.out⟩
end Go.Proofs.Ytlkbbcfbnbnagaa
namespace Go.Proofs.Ytlkbbcfbnbnagaa
open Go.RowKit Go.BigFrame
attribute [local go_sem] Later.cell Later.frozen
theorem find_at {α : Type} (q : α → Bool) (l : List α) {k : Nat} (h : k < l.length) (hn : (l.take k).any q = false) (hq : q l[k] = true) : l.find? q = some l[k] := by
  have e : l = l.take k ++ l[k] :: l.drop (k + 1) := by rw [List.getElem_cons_drop, List.take_append_drop]
  have h1 : (l.take k).find? q = none := List.find?_eq_none.2 (fun x hx => by have := List.any_eq_false.1 hn x hx; simpa using this)
  have h2 : (l.take k ++ l[k] :: l.drop (k + 1)).find? q = some l[k] := by rw [List.find?_append, h1, List.find?_cons_of_pos hq]; rfl
  rw [← e] at h2
  exact h2
theorem find_not {α : Type} (q : α → Bool) (l : List α) (hn : l.any q = false) : l.find? q = none := List.find?_eq_none.2 (fun x hx => by have := List.any_eq_false.1 hn x hx; simpa using this)
theorem bnz_of {b : Brd} {p : Pt} (hb : 0 < b.bull) (h : ¬ dotP p p < b.bull * b.bull) : p.nz := by
  intro e
  have h1 : 0 < b.bull * b.bull := Int.mul_pos hb hb
  have h2 : dotP p p = 0 := by unfold dotP; rw [e.1, e.2]; rfl
  omega
set_option maxRecDepth 100000 in
set_option maxHeartbeats 8000000 in
theorem ref_bed (a1 a2 a3 : Option Addr) (a4 a5 a6 : Nat) (b : Brd) (p : Pt) (w : World) (h : BrdAt w ⟨a1, a2, a3, a4, a5, a6⟩ b) (hg : GoodB b) (hl : linesB b.lines = true) (hb : 0 < b.bull) (hp : p.ok) :
    Calls Try.prog 27 #[.agg #[.int .i64 b.eye, .int .i64 b.bull, .slice a1 b.rings.length a4, .slice a2 b.lines.length a5, .slice a3 b.nums.length a6, .int .i64 b.wire], p.agg] w fun e w' => e = .returned (.int .i64 (bedB b p)) ∧ Ext w w' := by
  have HB := Lib.hid h
  have HW := Lib.hid (fun W (hx : Ext w W) => ref_wire a1 a2 a3 a4 a5 a6 b p W (h.ext hx) hg hp)
  have HSE := Lib.hid (fun hnz W (hx : Ext w W) => ref_sector a1 a2 a3 a4 a5 a6 b p W (h.ext hx) hg.small.l hl hp hnz)
  have HNZ := Lib.hid (fun h => bnz_of (p := p) hb h)
  have HDT := Lib.hid (fun W => ref_dot p p W hp hp)
  have hq0 := dot_small hp hp
  have hsl : secB b.lines p < b.nums.length := by
    rw [hg.len]
    exact secUp_lt _ _ _ _ hg.ptl
  have HFC := Lib.hid (fun i (hi : i < b.rings.length) => hg.fac _ (List.getElem_mem hi))
  have HNM := Lib.hid (fun i (hi : i < b.nums.length) => hg.num _ (List.getElem_mem hi))
  have HOU := Lib.hid (fun i (hi : i < b.rings.length) => hg.rad b.rings[i].outer (by simp [Brd.radii]; exact .inr (.inr ⟨_, List.getElem_mem hi, rfl⟩)))
  obtain ⟨he0, he1⟩ : 0 ≤ b.eye ∧ b.eye ≤ 5000 := hg.rad b.eye (by simp [Brd.radii])
  obtain ⟨hu0, hu1⟩ : 0 ≤ b.bull ∧ b.bull ≤ 5000 := hg.rad b.bull (by simp [Brd.radii])
  obtain ⟨a00, a01⟩ := mul_small (a := b.eye) (b := b.eye) (by omega) (by omega)
  obtain ⟨a10, a11⟩ := mul_small (a := b.bull) (b := b.bull) (by omega) (by omega)
  have hrl := hg.small.r
  have hnl := hg.small.n
  obtain ⟨g, hgg⟩ : ∃ c, bedB b p = c := ⟨_, rfl⟩
  obtain ⟨ow, how⟩ : ∃ c, onWire b p = c := ⟨_, rfl⟩
  obtain ⟨q, hq⟩ : ∃ c, dotP p p = c := ⟨_, rfl⟩
  have HG0 : Hid (g = if ow = true then 0 else if q < b.eye * b.eye then 225 else if q < b.bull * b.bull then 125 else bedOf b p (b.rings.find? (inRing q))) := Lib.hid (by rw [← hgg, ← how, ← hq]; rfl)
  have HBO : Hid (∀ r : Rg, bedOf b p (some r) = if r.factor = 0 then 0 else 100 * r.factor + b.nums.getD (secB b.lines p) 0) := Lib.hid (fun _ => rfl)
  have HBN : Hid (bedOf b p none = 0) := Lib.hid rfl
  rw [hgg]
  rw [how] at HW
  rw [hq] at HDT hq0 HNZ
  generalize bedOf b p = bo at *
  generalize secB b.lines p = sc at *
  obtain ⟨px, py⟩ := p
  obtain ⟨hq00, hq01⟩ := hq0
  unfold Pt.agg at HDT HW HSE ⊢
  simp only at HDT HW HSE ⊢
  clear h hg hl hb hp hgg hq how
  go_enter Try.func27, Try.ntmps27
  go_wp2_with fail
  refine (HDT.out _).mono ?_
  rintro e w1 ⟨rfl, hx1⟩
  have HX1 := Lib.hid (Ext.trans (((Ext.refl w).alloc _).alloc _) hx1)
  have HB1 : Hid (Blk w1 w.heap.size #[.int .i64 b.eye, .int .i64 b.bull, .slice a1 b.rings.length a4, .slice a2 b.lines.length a5, .slice a3 b.nums.length a6, .int .i64 b.wire]) := Lib.hid (((Blk.new w _ _).alloc _).ext hx1)
  have HB2 : Hid (Blk w1 (w.heap.size + 1) #[.int .i64 px, .int .i64 py]) := Lib.hid ((Blk.at _ (by simp)).ext hx1)
  clear hx1
  have m0 := HB1.out.cell 0 (v := .int .i64 b.eye) rfl
  have m1 := HB1.out.cell 1 (v := .int .i64 b.bull) rfl
  have m2 := HB1.out.cell 2 (v := .slice a1 b.rings.length a4) rfl
  have m3 := HB1.out.cell 3 (v := .slice a2 b.lines.length a5) rfl
  have m4 := HB1.out.cell 4 (v := .slice a3 b.nums.length a6) rfl
  have m5 := HB1.out.cell 5 (v := .int .i64 b.wire) rfl
  have ml := HB1.out.lt
  have n0 := HB2.out.cell 0 (v := .int .i64 px) rfl
  have n1 := HB2.out.cell 1 (v := .int .i64 py) rfl
  have nl := HB2.out.lt
  go_wp2_with fail
  refine (HW.out _ HX1.out).mono ?_
  rintro e w2 ⟨rfl, hx2⟩
  have HX2 := Lib.hid (HX1.out.trans hx2)
  have HB3 := Lib.hid (HB1.out.ext hx2)
  have HB4 := Lib.hid (HB2.out.ext hx2)
  clear hx2 m0 m1 m2 m3 m4 m5 ml n0 n1 nl HB1 HB2 HX1
  have m0 := HB3.out.cell 0 (v := .int .i64 b.eye) rfl
  have m1 := HB3.out.cell 1 (v := .int .i64 b.bull) rfl
  have m2 := HB3.out.cell 2 (v := .slice a1 b.rings.length a4) rfl
  have m3 := HB3.out.cell 3 (v := .slice a2 b.lines.length a5) rfl
  have m4 := HB3.out.cell 4 (v := .slice a3 b.nums.length a6) rfl
  have m5 := HB3.out.cell 5 (v := .int .i64 b.wire) rfl
  have ml := HB3.out.lt
  cases ow
  case true =>
    obtain rfl : g = 0 := by rw [HG0.out, if_pos rfl]
    go_wp2_with fail
    go_ret
    exact ⟨rfl, HX2.out⟩
  case false =>
  cases d1 : decide (q < b.eye * b.eye)
  case true =>
    obtain rfl : g = 225 := by rw [HG0.out, if_neg (by simp), if_pos (of_decide_eq_true d1)]
    go_wp2_with fail
    go_ret
    exact ⟨rfl, HX2.out⟩
  case false =>
  cases d2 : decide (q < b.bull * b.bull)
  case true =>
    obtain rfl : g = 125 := by rw [HG0.out, if_neg (by simp), if_neg (of_decide_eq_false d1), if_pos (of_decide_eq_true d2)]
    go_wp2_with fail
    go_ret
    exact ⟨rfl, HX2.out⟩
  case false =>
  have HG1 : Hid (g = bo (b.rings.find? (inRing q))) := Lib.hid (by rw [HG0.out, if_neg (by simp), if_neg (of_decide_eq_false d1), if_neg (of_decide_eq_false d2)])
  have HS1 := Lib.hid (HSE.out (HNZ.out (by have := of_decide_eq_false d2; omega)))
  clear HG0 HSE HNZ HW HDT
  go_wp2_with fail
  go_loopw [6] (fun i wr => ∃ k : Nat, k ≤ b.rings.length ∧ i = .int .i64 k ∧ (b.rings.take k).any (inRing q) = false ∧ Ext w2 wr) (fun i _ => b.rings.length - (intOf i).toNat)
  case atStart => exact ⟨0, Nat.zero_le _, rfl, rfl, Ext.refl w2⟩
  case round =>
    obtain ⟨k, hk, rfl, hna, hx⟩ := hrel
    have HNA := Lib.hid hna
    have HX3 := Lib.hid (HX2.out.trans hx)
    have HX := Lib.hid hx
    have HB5 := Lib.hid (HB3.out.ext hx)
    have HB6 := Lib.hid (HB4.out.ext hx)
    clear hx hna m0 m1 m2 m3 m4 m5 ml d1 d2
    have m0 := HB5.out.cell 0 (v := .int .i64 b.eye) rfl
    have m1 := HB5.out.cell 1 (v := .int .i64 b.bull) rfl
    have m2 := HB5.out.cell 2 (v := .slice a1 b.rings.length a4) rfl
    have m3 := HB5.out.cell 3 (v := .slice a2 b.lines.length a5) rfl
    have m4 := HB5.out.cell 4 (v := .slice a3 b.nums.length a6) rfl
    have m5 := HB5.out.cell 5 (v := .int .i64 b.wire) rfl
    have ml := HB5.out.lt
    by_cases hlt : k < b.rings.length
    · obtain ⟨gb, go, e, x0, x1⟩ := (HB.out.rings.ext HX3.out) k hlt
      have xl := lt_of_cell x0
      simp only at e xl
      have hfc := HFC.out k hlt
      have hou := HOU.out k hlt
      have HIR := Lib.hid (show inRing q b.rings[k] = decide (q < b.rings[k].outer * b.rings[k].outer) from rfl)
      generalize hrk : b.rings[k] = rk at *
      obtain ⟨z, f⟩ := rk
      simp only at x0 x1 hfc hou HIR
      obtain ⟨v0, v1⟩ := mul_small (a := z) (b := z) (by omega) (by omega)
      obtain ⟨hf0, hf1⟩ := hfc
      subst e
      clear hou
      cases d3 : decide (q < z * z)
      case false =>
        have HNB : Hid ((b.rings.take (k + 1)).any (inRing q) = false) := Lib.hid (by rw [any_take _ _ hlt HNA.out, hrk, HIR.out, d3])
        go_upto_region 11 with fail
        refine wp_region_later (by kernel_rfl) (by kernel_rfl) ?_
        repeat (go_big_quiet_step (fail))
        refine wpQuiet_nil ?_
        intro w4 hw4
        obtain ⟨⟨w4, hx4⟩, rfl⟩ := hw4
        have HX4 := Lib.hid (HX.out.trans hx4)
        clear hx4
        go_wp2_with fail
        go_roundw
        case rel => exact ⟨k + 1, by omega, by go_num, HNB.out, HX4.out⟩
        case measure => simp [intOf]; omega
      case true =>
        have HG2 : Hid (g = if f = 0 then 0 else 100 * f + b.nums.getD sc 0) := Lib.hid (by
          rw [HG1.out, find_at _ _ hlt HNA.out (by rw [hrk, HIR.out, d3]), hrk, HBO.out])
        go_upto_region 11 with fail
        refine wp_region_later (by kernel_rfl) (by kernel_rfl) ?_
        repeat (go_big_quiet_step (fail))
        refine wpQuiet_nil ?_
        intro w4 hw4
        obtain ⟨⟨w4, hx4⟩, rfl⟩ := hw4
        have HX4 := Lib.hid (HX3.out.trans hx4)
        have HB7 := Lib.hid (HB5.out.ext hx4)
        have HB8 := Lib.hid (HB6.out.ext hx4)
        replace x1 := hx4.cell x1
        clear hx4 m0 m1 m2 m3 m4 m5 ml xl x0 d3
        have xl := lt_of_cell x1
        simp only at xl
        have m0 := HB7.out.cell 0 (v := .int .i64 b.eye) rfl
        have m1 := HB7.out.cell 1 (v := .int .i64 b.bull) rfl
        have m2 := HB7.out.cell 2 (v := .slice (some ⟨gb, go, none⟩) b.rings.length a4) rfl
        have m3 := HB7.out.cell 3 (v := .slice a2 b.lines.length a5) rfl
        have m4 := HB7.out.cell 4 (v := .slice a3 b.nums.length a6) rfl
        have m5 := HB7.out.cell 5 (v := .int .i64 b.wire) rfl
        have ml := HB7.out.lt
        cases d4 : (f == 0)
        case true =>
          obtain rfl : g = 0 := by rw [HG2.out, if_pos (by simpa using d4)]
          go_wp2_with fail
          go_ret
          exact ⟨rfl, HX4.out⟩
        case false =>
          have HG3 : Hid (g = 100 * f + b.nums.getD sc 0) := Lib.hid (by rw [HG2.out, if_neg (by simpa using d4)])
          have n0 := HB8.out.cell 0 (v := .int .i64 px) rfl
          have n1 := HB8.out.cell 1 (v := .int .i64 py) rfl
          have nl := HB8.out.lt
          obtain ⟨nb, no, e, y0⟩ := (HB.out.nums.ext HX4.out) sc hsl
          have yl := lt_of_cell y0
          simp only at e yl
          obtain ⟨hn0, hn1⟩ := HNM.out sc hsl
          obtain ⟨nn, hnn⟩ : ∃ c, b.nums[sc] = c := ⟨_, rfl⟩
          have HG4 : Hid (g = 100 * f + nn) := Lib.hid (by rw [HG3.out, ← hnn]; simp [List.getD, hsl])
          rw [hnn] at y0 hn0 hn1
          subst e
          clear hnn
          have HS2 := Lib.hid (HS1.out _ HX4.out)
          go_upto_region 14 with fail
          refine wp_region_later (by kernel_rfl) (by kernel_rfl) ?_
          repeat (go_big_quiet_step (with_reducible refine Calls.later (HS1.out _ (HX4.out.trans (Later.ext _)))))
          refine wpQuiet_nil ?_
          intro w5 hw5
          obtain ⟨⟨w5, hx5⟩, rfl⟩ := hw5
          have HX5 := Lib.hid (HX4.out.trans hx5)
          clear hx5
          obtain rfl : g = 100 * f + nn := HG4.out
          go_wp2_with fail
          go_ret
          exact ⟨rfl, HX5.out⟩
    · obtain rfl : g = 0 := by
        have e := HNA.out
        rw [show k = b.rings.length by omega, List.take_of_length_le (Nat.le_refl _)] at e
        rw [HG1.out, find_not _ _ e, HBN.out]
      go_wp2_with fail
      go_ret
      exact ⟨rfl, HX3.out⟩
end Go.Proofs.Ytlkbbcfbnbnagaa
namespace Go.Proofs.Ytlkbbcfbnbnagaa
open Go.RowKit Go.BigFrame
attribute [local go_sem] Later.cell Later.frozen
theorem info_bed : (Try.prog.info? 55).map (fun i => (i.zero, i.size, i.bytes)) = some (some (.int .i64 0), 1, 8) := by kernel_rfl
theorem wp_append_d {w : World} {ops : Array Oper} {rest : List Oper} {o : Oper} {a : Act} {Q : Exit → Act → World → Prop} (hgd : o.guard = none) (s x : Operand)
    (ho : o.op = .call { callee := .builtin .append, args := #[s, x], argTypes := #[36, 36] }) (base : Nat) (v : Value) (xs : List Int) (hs : a.eval s = v) (hown : OwnD w base v xs) (ad : Addr) (c : Nat) (n : Int)
    (hx : a.eval x = .slice (some ad) 1 c) (hn : w.cell? ad = some (.int .i64 n)) (hlen : xs.length ≤ 1000000000000) (hbase : base ≤ w.heap.size)
    (h : ∀ v' w', OwnD w' base v' (xs ++ [n]) → w.grownBy w' v.ownBlock → wpList Try.prog ops Q rest (a.put o.dst v') w') : wpList Try.prog ops Q (o :: rest) a w := by
  obtain ⟨i0, hi, hz0, hz1, hz2⟩ := info_parts info_bed
  refine wpList_append_own w hgd s x 36 ho base 55 i0 (.int .i64 0) 1 8 (by kernel_rfl) hi hz0 hz1 hz2 rfl (by decide) v xs.length _ hs hown ad 1 c [.int .i64 n] hx rfl ?_ ?_ (by unfold maxLen; omega) (by omega) hbase ?_
  · intro j u hj
    match j, hj with
    | 0, hj => simp at hj; subst hj; simpa [Addr.add] using hn
  · intro u hu; simp at hu; subst hu; rfl
  · intro v' w' ho' hg _
    refine h v' w' ?_ hg
    unfold OwnD
    simpa [encZ] using ho'
/-- The beds below k that are on a list. -/
def setTo (S : List Int) (k : Nat) : List Int := ((List.range k).filter fun (i : Nat) => S.contains (i : Int)).map fun (i : Nat) => (i : Int)
theorem setTo_on {S : List Int} {k : Nat} (h : S.contains (k : Int) = true) : setTo S (k + 1) = setTo S k ++ [(k : Int)] := by
  unfold setTo
  rw [List.range_succ, List.filter_append, List.map_append]
  congr 1
  simp only [List.filter_cons, h, if_true, List.filter_nil, List.map_cons, List.map_nil]
theorem setTo_off {S : List Int} {k : Nat} (h : S.contains (k : Int) = false) : setTo S (k + 1) = setTo S k := by
  unfold setTo
  rw [List.range_succ, List.filter_append]
  simp only [List.filter_cons, h, List.filter_nil, Bool.false_eq_true, if_false, List.append_nil]
theorem setTo_len (S : List Int) (k : Nat) : (setTo S k).length ≤ k := by
  unfold setTo
  rw [List.length_map]
  exact Nat.le_trans (List.length_filter_le _ _) (by simp)
set_option maxRecDepth 100000 in
set_option maxHeartbeats 4000000 in
theorem ref_sorted (S : List Int) (w : World) :
    Calls Try.prog 50 #[.agg (markC S)] w fun e w' => ∃ v, e = .returned v ∧ OwnD w' w.heap.size v (setL S) ∧ Ext w w' := by
  have HON : Hid (∀ k : Nat, S.contains (k : Int) = true → setTo S (k + 1) = setTo S k ++ [(k : Int)]) := Lib.hid (fun k h => setTo_on h)
  have HOF : Hid (∀ k : Nat, S.contains (k : Int) = false → setTo S (k + 1) = setTo S k) := Lib.hid (fun k h => setTo_off h)
  have HLE := Lib.hid (fun k => setTo_len S k)
  have HAL : Hid (setTo S 500 = setL S) := Lib.hid rfl
  have HZE : Hid (setTo S 0 = []) := Lib.hid rfl
  have HMG : Hid (∀ i : Nat, i < 500 → (markC S)[i]? = some (.bool (S.contains (i : Int)))) := Lib.hid (fun i h => markC_get S h)
  generalize setL S = sl at *
  generalize setTo S = st at *
  generalize markC S = mc at *
  obtain ⟨ct, hct⟩ : ∃ f : Nat → Bool, f = fun (k : Nat) => S.contains (k : Int) := ⟨_, rfl⟩
  have HMC : Hid (∀ i : Nat, i < 500 → mc[i]? = some (.bool (ct i))) := Lib.hid (by rw [hct]; exact HMG.out)
  have HO1 : Hid (∀ k, ct k = true → st (k + 1) = st k ++ [(k : Int)]) := Lib.hid (by rw [hct]; exact HON.out)
  have HO2 : Hid (∀ k, ct k = false → st (k + 1) = st k) := Lib.hid (by rw [hct]; exact HOF.out)
  clear HMG HON HOF hct
  go_enter Try.func50, Try.ntmps50
  go_upto_region 1 with fail
  obtain ⟨w1, hw1⟩ : ∃ x, x = w.alloc (.cells mc 59) := ⟨_, rfl⟩
  rw [← hw1]
  have HB1 : Hid (Blk w1 w.heap.size mc) := Lib.hid (by rw [hw1]; exact Blk.new _ _ _)
  have HX1 : Hid (Ext w w1) := Lib.hid (by rw [hw1]; exact (Ext.refl w).alloc _)
  have hs1 : w1.heap.size = w.heap.size + 1 := by rw [hw1]; simp
  have HO0 : Hid (OwnD (w1.alloc (.cells #[] 55)) (w.heap.size + 1) (.slice (some ⟨w.heap.size + 1, 0, none⟩) 0 0) (st 0)) := Lib.hid (by
    rw [← hs1, HZE.out]
    exact own_empty rfl (Nat.le_refl _))
  obtain ⟨w2, hw2⟩ : ∃ y, y = w1.alloc (.cells #[] 55) := ⟨_, rfl⟩
  rw [← hw2] at HO0
  have HX2 : Hid (Ext w1 w2) := Lib.hid (by rw [hw2]; exact (Ext.refl w1).alloc _)
  have HS1 := Lib.hid hs1
  go_upto_block 0 with fail
  rw [← hw1, ← hw2]
  clear hw1 hw2 hs1
  go_wp2_with fail
  go_loopw [3, 4] (fun v i wr => ∃ k : Nat, k ≤ 500 ∧ i = .int .i64 k ∧ OwnD wr (w.heap.size + 1) v (st k) ∧ Ext w1 wr) (fun _ i _ => 500 - (intOf i).toNat)
  case atStart => exact ⟨0, Nat.zero_le _, rfl, HO0.out, HX2.out⟩
  case round =>
    obtain ⟨k, hk, rfl, ho, hx⟩ := hrel
    obtain ⟨va, vc, rfl⟩ := own_shape ho
    have HO := Lib.hid ho
    have HX := Lib.hid hx
    have HBr := Lib.hid (HB1.out.ext hx)
    clear ho hx
    by_cases hlt : k < 500
    · have x0 := HBr.out.cell k (HMC.out k hlt)
      have xl := HBr.out.lt
      have HLN := Lib.hid (HLE.out k)
      have hbs : w.heap.size + 1 ≤ wr.heap.size := by have := HX.out.size; have := HS1.out; omega
      cases hc : ct k
      case false =>
        have HSU := Lib.hid (HO2.out k hc)
        rw [hc] at x0
        go_wp2_with fail
        go_roundw
        case rel => exact ⟨k + 1, by omega, by go_num, by rw [HSU.out]; exact HO.out, HX.out⟩
        case measure => simp [intOf]; omega
      case true =>
        have HSU := Lib.hid (HO1.out k hc)
        rw [hc] at x0
        go_wp2_with (at_builtin; refine wp_append_d rfl _ _ rfl (w.heap.size + 1) _ (st k) rfl (HO.out.ext ((Ext.refl wr).alloc _)) ⟨wr.heap.size, 0, none⟩ 1 k rfl (Blk.cell (Blk.new _ _ _) 0 rfl) (by have := HLN.out; omega) (by simp; omega) ?_)
        intro v' w4 ho4 hg4
        obtain ⟨av, ac, rfl⟩ := own_shape ho4
        have HO4 := Lib.hid ho4
        have hoA := HO.out.ext ((Ext.refl wr).alloc (.cells #[.int .i64 k] 55))
        have HX4 := Lib.hid (Chg.to_ext (HX.out.alloc (.cells #[.int .i64 k] 55)) (grown_chg hg4) (fun j e => by rw [HS1.out]; exact (own_lt hoA j e).1))
        clear ho4 hg4 hoA
        go_wp2
        go_roundw
        case rel => exact ⟨k + 1, by omega, by go_num, by rw [HSU.out]; exact HO4.out, HX4.out⟩
        case measure => simp [intOf]; omega
    · obtain rfl : k = 500 := by omega
      have HR := Lib.hid (own_mono (base' := w.heap.size) HO.out (by omega))
      have HXe := Lib.hid (HX1.out.trans HX.out)
      have HOD : Hid (OwnD wr w.heap.size (.slice va (st 500).length vc) sl) := Lib.hid (by
        rw [← HAL.out]; exact HR.out)
      go_wp2_with fail
      go_ret
      exact ⟨_, rfl, HOD.out, HXe.out⟩
end Go.Proofs.Ytlkbbcfbnbnagaa
namespace Go.Proofs.Ytlkbbcfbnbnagaa
open Go.RowKit Go.BigFrame
attribute [local go_sem] Later.cell Later.frozen Lat.cell Lat.frozen
theorem seen_init : ((Try.zeroCells59.toList.set 125 (Value.bool true)).set 225 (Value.bool true)) = (markC [125, 225]).toList := by kernel_rfl
theorem init_seen (w : World) : ∃ W, (storeCells ⟨w.heap.size, 0, none⟩ ((Try.zeroCells59.toList.set 125 (Value.bool true)).set 225 (Value.bool true))).run Try.prog (w.alloc (.cells Try.zeroCells59 59)) = .ok () W ∧ Blk W w.heap.size (markC [125, 225]) ∧ Ext w W := by
  rw [seen_init, seen_zero]
  have h := Blk.new w (markC []) 59
  have hr := run_storeCells_cells (P := Try.prog) w.heap.size 0 (markC [125, 225]).toList 0 (w.alloc (.cells (markC []) 59)) (fun j hj => by
    have hj : j < 500 := by simpa [markC_size] using hj
    rw [Nat.zero_add, h.cell _ (Array.getElem?_eq_getElem (by rw [markC_size]; omega))]; rfl) (fun j hj => h.frozen _) (markC_one _)
  refine ⟨_, by simpa using hr, ?_, Chg.to_ext ((Ext.refl w).alloc _) (chg_setCells (S := (· = w.heap.size)) rfl _ _ _ (Chg.refl _ _)) (by rintro i rfl; exact Nat.le_refl _)⟩
  have h1 := Blk.setCells (markC [125, 225]).toList 0 _ _ h (by simp [markC_size])
  simpa using h1
theorem wpl_load_seen {ops : Array Oper} {rest : List Oper} {op : Oper} {a : Act} {w : World} {Q : Exit → Act → World → Prop} (hgd : op.guard = none) (x : Operand) (ho : op.op = .load 59 x)
    (b : Nat) (hx : a.eval x = .pointer (some ⟨b, 0, none⟩)) {S : List Int} (h : Blk w b (markC S)) (k : wpList Try.prog ops Q rest (a.put op.dst (.agg (markC S))) w) : wpList Try.prog ops Q (op :: rest) a w := by
  have hr := seen_row
  cases hu : Try.prog.underlying 59 with
  | none => rw [hu] at hr; cases hr
  | some d =>
    rw [hu] at hr
    exact wpList_load_mid hgd 59 x ho b 0 hx (markC S).toList d h.range hu (by simpa using hr) (by rw [seen_size]; simp [markC_size]) (by simpa using k)
theorem frm_one {lo b : Nat} {cs : Array Value} {w : World} (h : Blk w b cs) (hb : lo ≤ b) : Frm lo [Res.blk b cs] w := by
  refine ⟨fun i r hr => ?_, fun i j r s hi hj hij => ?_⟩
  · match i, hr with
    | 0, hr =>
      obtain rfl : Res.blk b cs = r := by simpa using hr
      exact ⟨h, fun k hk => by obtain rfl : k = b := hk; exact ⟨hb, h.lt⟩⟩
  · match i, j, hi, hj with
    | 0, 0, _, _ => exact absurd rfl hij
set_option maxRecDepth 100000 in
set_option maxHeartbeats 8000000 in
theorem ref_all (a1 a2 a3 : Option Addr) (a4 a5 a6 : Nat) (b : Brd) (w : World) (h : BrdAt w ⟨a1, a2, a3, a4, a5, a6⟩ b) (hg : GoodB b) :
    Calls Try.prog 25 #[.agg #[.int .i64 b.eye, .int .i64 b.bull, .slice a1 b.rings.length a4, .slice a2 b.lines.length a5, .slice a3 b.nums.length a6, .int .i64 b.wire]] w fun e w' => ∃ v, e = .returned v ∧ OwnD w' w.heap.size v (setL (allM b)) ∧ Ext w w' := by
  have HB := Lib.hid h
  have HFC := Lib.hid (fun i (hi : i < b.rings.length) => hg.fac _ (List.getElem_mem hi))
  have HNM := Lib.hid (fun i (hi : i < b.nums.length) => hg.num _ (List.getElem_mem hi))
  have hrl := hg.small.r
  have hnl := hg.small.n
  have HA0 : Hid (allTo b 0 = [125, 225]) := Lib.hid (by simp [allTo])
  have HAS := Lib.hid (fun k (hk : k < b.rings.length) => allTo_succ b k hk)
  have HAE : Hid (allTo b b.rings.length = allM b) := Lib.hid rfl
  generalize allM b = am at *
  generalize allTo b = at' at *
  clear h hg
  go_enter Try.func25, Try.ntmps25
  obtain ⟨w2, hrun, hb2, hx2⟩ := init_seen (w.alloc (.cells #[.int .i64 b.eye, .int .i64 b.bull, .slice a1 b.rings.length a4, .slice a2 b.lines.length a5, .slice a3 b.nums.length a6, .int .i64 b.wire] 26))
  have hsz : (w.alloc (.cells #[.int .i64 b.eye, .int .i64 b.bull, .slice a1 b.rings.length a4, .slice a2 b.lines.length a5, .slice a3 b.nums.length a6, .int .i64 b.wire] 26)).heap.size = w.heap.size + 1 := by simp
  rw [hsz] at hrun hb2
  have HBB : Hid (Blk w2 w.heap.size #[.int .i64 b.eye, .int .i64 b.bull, .slice a1 b.rings.length a4, .slice a2 b.lines.length a5, .slice a3 b.nums.length a6, .int .i64 b.wire]) := Lib.hid ((Blk.new _ _ _).ext hx2)
  have HX2 := Lib.hid (((Ext.refl w).alloc (.cells #[.int .i64 b.eye, .int .i64 b.bull, .slice a1 b.rings.length a4, .slice a2 b.lines.length a5, .slice a3 b.nums.length a6, .int .i64 b.wire] 26)).trans hx2)
  have HM2 : Hid (Blk w2 (w.heap.size + 1) (markC (at' 0))) := Lib.hid (by rw [HA0.out]; exact hb2)
  clear hsz hb2 hx2
  go_upto_block 0 with fail
  clear hrun
  go_wp2_with fail
  go_loopw [4] (fun i wr => ∃ k : Nat, k ≤ b.rings.length ∧ i = .int .i64 k ∧ Blk wr (w.heap.size + 1) (markC (at' k)) ∧ Chg (fun j => w.heap.size + 1 ≤ j) w2 wr) (fun i _ => b.rings.length - (intOf i).toNat)
  case atStart => exact ⟨0, Nat.zero_le _, rfl, HM2.out, Chg.refl _ _⟩
  case round =>
    obtain ⟨k, hk, rfl, hm, hc⟩ := hrel
    have HMk := Lib.hid hm
    have HCk := Lib.hid hc
    have HXk := Lib.hid (Chg.to_ext HX2.out hc (fun i hi => by omega))
    have HBk := Lib.hid (HBB.out.chg hc (by omega))
    clear hm hc
    have m0 := HBk.out.cell 0 (v := .int .i64 b.eye) rfl
    have m1 := HBk.out.cell 1 (v := .int .i64 b.bull) rfl
    have m2 := HBk.out.cell 2 (v := .slice a1 b.rings.length a4) rfl
    have m3 := HBk.out.cell 3 (v := .slice a2 b.lines.length a5) rfl
    have m4 := HBk.out.cell 4 (v := .slice a3 b.nums.length a6) rfl
    have m5 := HBk.out.cell 5 (v := .int .i64 b.wire) rfl
    have ml := HBk.out.lt
    by_cases hlt : k < b.rings.length
    · have HSU := Lib.hid (HAS.out k hlt)
      obtain ⟨gb, go, e, -, x1w⟩ := HB.out.rings k hlt
      have xlw := lt_of_cell x1w
      simp only at e xlw
      obtain ⟨hf0, hf1⟩ := HFC.out k hlt
      generalize b.rings[k].factor = f at *
      subst e
      obtain ⟨w3, hw3⟩ : ∃ x, wr = x := ⟨_, rfl⟩
      rw [hw3] at HMk HCk HXk HBk m0 m1 m2 m3 m4 m5 ml ⊢
      have HM3 : Hid (Blk w3 (w.heap.size + 1) (markC (at' k ++ ringTo b.nums f 0))) := Lib.hid (by rw [ringTo_zero, List.append_nil]; exact HMk.out)
      clear hw3
      go_wp2_with fail
      go_loopw [5] (fun i wr => ∃ j : Nat, j ≤ b.nums.length ∧ i = .int .i64 j ∧ Blk wr (w.heap.size + 1) (markC (at' k ++ ringTo b.nums f j)) ∧ Chg (fun j => w.heap.size + 1 ≤ j) w3 wr) (fun i _ => b.nums.length - (intOf i).toNat)
      case atStart => exact ⟨0, Nat.zero_le _, rfl, HM3.out, Chg.refl _ _⟩
      case round =>
        obtain ⟨j, hj, rfl, hm, hc⟩ := hrel
        have HMj := Lib.hid hm
        have HCj := Lib.hid hc
        have HXj := Lib.hid (Chg.to_ext HXk.out hc (fun i hi => by omega))
        have HBj := Lib.hid (HBk.out.chg hc (by omega))
        clear hm hc m0 m1 m2 m3 m4 m5 ml
        have m0 := HBj.out.cell 0 (v := .int .i64 b.eye) rfl
        have m1 := HBj.out.cell 1 (v := .int .i64 b.bull) rfl
        have m2 := HBj.out.cell 2 (v := .slice (some ⟨gb, go, none⟩) b.rings.length a4) rfl
        have m3 := HBj.out.cell 3 (v := .slice a2 b.lines.length a5) rfl
        have m4 := HBj.out.cell 4 (v := .slice a3 b.nums.length a6) rfl
        have m5 := HBj.out.cell 5 (v := .int .i64 b.wire) rfl
        have ml := HBj.out.lt
        by_cases hjl : j < b.nums.length
        · have x1 := HXj.out.cell x1w
          have xl := lt_of_cell x1
          simp only at xl
          cases d0 : (f != 0)
          case false =>
            have f0 : f = 0 := by simpa using d0
            have HMs : Hid (Blk wr (w.heap.size + 1) (markC (at' k ++ ringTo b.nums f (j + 1)))) := Lib.hid (by rw [ringTo_not b.nums f (j + 1) j (by omega)]; exact HMj.out)
            clear f0
            go_wp2_with fail
            go_roundw
            case rel => exact ⟨j + 1, by omega, by go_num, HMs.out, HCj.out⟩
            case measure => simp [intOf]; omega
          case true =>
            have hfp : 0 < f := by have := bne_iff_ne.1 d0; omega
            have HRA := Lib.hid (ringTo_add b.nums f j hjl hfp)
            obtain ⟨nb, no, e, y0w⟩ := HB.out.nums j hjl
            have ylw := lt_of_cell y0w
            simp only at e ylw
            obtain ⟨hn0, hn1⟩ := HNM.out j hjl
            generalize b.nums[j] = nn at *
            subst e
            have y0 := HXj.out.cell y0w
            have yl := lt_of_cell y0
            simp only at yl
            obtain ⟨z, hz⟩ : ∃ z : Nat, 100 * f + nn = (z : Int) := ⟨(100 * f + nn).toNat, by omega⟩
            have hz5 : z < 500 := by omega
            rw [hz] at HRA
            have HF := Lib.hid (frm_one HMj.out (Nat.le_refl _))
            have hlo : w.heap.size + 1 ≤ wr.heap.size := Nat.le_of_lt HMj.out.lt
            have HMG := Lib.hid (markC_get (at' k ++ ringTo b.nums f j) hz5)
            have HMS := Lib.hid (markC_set (at' k ++ ringTo b.nums f j) hz5)
            have HLA : Hid (at' k ++ ringTo b.nums f j ++ [(z : Int)] = at' k ++ ringTo b.nums f (j + 1)) := Lib.hid (by rw [HRA.out, List.append_assoc])
            generalize at' k ++ ringTo b.nums f j = S at *
            have q2 : ∀ y : Lat (fun b _ => w.heap.size + 1 ≤ b) wr, y.world.cell? ⟨w.heap.size, 2, none⟩ = some (.slice (some ⟨gb, go, none⟩) b.rings.length a4) := fun y => (HBj.out.chg y.chg (by rintro ⟨_, h⟩; omega)).cell 2 rfl
            have q4 : ∀ y : Lat (fun b _ => w.heap.size + 1 ≤ b) wr, y.world.cell? ⟨w.heap.size, 4, none⟩ = some (.slice (some ⟨nb, no, none⟩) b.nums.length a6) := fun y => (HBj.out.chg y.chg (by rintro ⟨_, h⟩; omega)).cell 4 rfl
            clear hn0 hn1 HRA
            go_upto_region 9 with fail
            refine wp_region_sep (by kernel_rfl) [.no, .no, .no, .no, .no, .no, .no, .no, .no, .no, .no, .no, .no, .no, .any] (w.heap.size + 1) (fun L _ => [Res.blk (w.heap.size + 1) (bif L 14 then (markC S).setIfInBounds z (.bool true) else markC S)]) (by kernel_rfl) (Nat.le_of_ble_eq_true rfl) (fun L L' u hh => by simp only [hh 14 rfl]) (fun _ => HF.out) ?_
            intro T hT hne u hu
            clear hu
            refine lx_next 14 (by rfl) (by decide) ?_
            dsimp only [List.take, List.drop]
            repeat (go_big_quiet_step (fail))
            refine wpQuiet_nil ?_
            refine lx_loud (by rfl) (by kernel_rfl) ?_ (fun K hK => ?_)
            · intro L w3 hL hd hcl hC hs
              obtain ⟨y, rfl⟩ := hC
              have hzs := y.size
              simp only [hL, cond_false] at hs
              have f3 := (hs.get 0 rfl).frozen z
              have hlt := (hs.get 0 rfl).lt
              have hcc := (hs.get 0 rfl).cell z HMG.out
              go_wp2
              exact aft_store y hlo trivial hs 0 rfl (by first | (simp [upd, hL]; done) | (simp [upd, hL]; rfl))
            go_simp
            with_reducible refine hK _ ?_
            clear hK K
            refine lx_nil ?_
            intro y hs
            simp only [cond_true] at hs
            have HMe : Hid (Blk y.world (w.heap.size + 1) (markC (at' k ++ ringTo b.nums f (j + 1)))) := Lib.hid (by rw [← HLA.out, ← HMS.out]; exact hs.get 0 rfl)
            have HCe := Lib.hid (HCj.out.trans (y.chg.mono (fun k _ h => by obtain ⟨_, h⟩ := h; exact h)))
            clear hs hT hne
            generalize y.world = w4 at *
            go_wp2_with fail
            go_roundw
            case rel => exact ⟨j + 1, by omega, by go_num, HMe.out, HCe.out⟩
            case measure => simp [intOf]; omega
        · have HMe : Hid (Blk wr (w.heap.size + 1) (markC (at' (k + 1)))) := Lib.hid (by rw [HSU.out, ← ringTo_all b.nums f j (by omega)]; exact HMj.out)
          have HCe := Lib.hid (HCk.out.trans HCj.out)
          go_wp2_with fail
          go_roundw
          case rel => exact ⟨k + 1, by omega, by go_num, HMe.out, HCe.out⟩
          case measure => simp [intOf]; omega
    · have HMe : Hid (Blk wr (w.heap.size + 1) (markC am)) := Lib.hid (by rw [← HAE.out, ← show k = b.rings.length by omega]; exact HMk.out)
      have hml := HMe.out.lt
      go_wp2_with (refine wpl_load_seen rfl _ rfl (w.heap.size + 1) rfl HMe.out ?_)
      refine (ref_sorted am _).mono ?_
      rintro e w5 ⟨v, rfl, hO, hx⟩
      have HO := Lib.hid (own_mono (base' := w.heap.size) hO (by omega))
      have HX5 := Lib.hid (HXk.out.trans hx)
      clear hO hx
      go_wp2_with fail
      go_ret
      exact ⟨_, rfl, HO.out, HX5.out⟩
end Go.Proofs.Ytlkbbcfbnbnagaa
