/-
  The reference of chapter 1: the error of a board.
-/
import Derived.Test.YtlkbbcfbnbnagaaGreatRgc
namespace Go.Proofs.YtlkbbcfbnbnagaaGreat
open Go.RowKit Go.BigFrame
attribute [local go_sem] Later.cell Later.frozen
theorem radB_iff (wire : Int) : ∀ (l : List Int) (a : Int), radB wire a l = true ↔ ∀ i, (h : i < l.length) → l[i] ≤ 5000 ∧ (a :: l)[i]'(by simp; omega) + 2 * wire + 1 ≤ l[i]
  | [], a => ⟨fun _ i h => absurd h (by simp), fun _ => rfl⟩
  | y :: l, a => by
    show (ins (a + 2 * wire + 1) 5000 [y] && radB wire y l) = true ↔ _
    rw [Bool.and_eq_true, ins_one, radB_iff wire l y]
    constructor
    · rintro ⟨h1, h2⟩ i h
      cases i with
      | zero => exact ⟨h1.2, h1.1⟩
      | succ i => exact h2 i (by simpa using h)
    · intro h
      exact ⟨⟨(h 0 (by simp)).2, (h 0 (by simp)).1⟩, fun i hi => h (i + 1) (by simpa using hi)⟩
structure GoodR (b : Brd) : Prop where
  rg : b.rings.length ≠ 0
  w0 : 0 ≤ b.wire
  w1 : b.wire ≤ 20
  ln : b.nums.length = b.lines.length
  li : linesR b.lines = true
  ey : b.wire < b.eye
  rad : ∀ i, (h : i < b.radii.length) → b.radii[i] ≤ 5000 ∧ ∀ j, i = j + 1 → (hj : j < b.radii.length) → 2 * b.wire < b.radii[i] - b.radii[j]
  fac : ∀ i, (h : i < b.rings.length) → 0 ≤ b.rings[i].factor ∧ b.rings[i].factor ≤ 4
  num : ∀ i, (h : i < b.nums.length) → 1 ≤ b.nums[i] ∧ b.nums[i] ≤ 20
  dup : ∀ i j, j < i → (h : i < b.nums.length) → (hj : j < b.nums.length) → b.nums[j] ≠ b.nums[i]
theorem goodR_iff (b : Brd) : goodB b = true ↔ GoodR b := by
  have hr0 : ∀ h : 0 < b.radii.length, b.radii[0] = b.eye := fun _ => rfl
  unfold goodB ringsB numsB numsTo
  simp only [Bool.and_eq_true, Bool.not_eq_true', decide_eq_true_eq, List.any_eq_false, List.all_eq_true, radB_iff, ← lines_eq]
  constructor
  · rintro ⟨⟨h1, h2, h3, h4⟩, h5, ⟨h6, h7⟩, h8⟩
    have h2 := ins_one.1 h2
    refine ⟨?_, h2.1, h2.2, h8, h5, ?_, fun i h => ⟨(h4 i h).1, fun j e hj => ?_⟩, fun i h => ?_, fun i h => ins_one.1 (h6 _ (List.getElem_mem h)), fun i j hji h hj => ?_⟩
    · intro h
      rw [List.length_eq_zero_iff.1 h] at h1
      cases h1
    · have h0 : 0 < b.radii.length := by unfold Brd.radii; simp
      have := (h4 0 h0).2
      rw [hr0 h0] at this
      simp only [List.getElem_cons_zero] at this
      omega
    · subst e
      have := (h4 (j + 1) h).2
      simp only [List.getElem_cons_succ] at this
      omega
    · have := h3 _ (List.getElem_mem h)
      simp only [Bool.not_eq_false] at this
      exact ins_one.1 this
    · have := List.pairwise_iff_getElem.1 h7 j i hj h hji
      exact this
  · intro H
    refine ⟨⟨?_, ins_one.2 ⟨H.w0, H.w1⟩, fun x hx => ?_, fun i h => ⟨(H.rad i h).1, ?_⟩⟩, H.li, ⟨fun x hx => ?_, ?_⟩, H.ln⟩
    · cases hb : b.rings with
      | nil => exact absurd (by rw [hb]; rfl) H.rg
      | cons a l => rfl
    · obtain ⟨i, hi, rfl⟩ := List.getElem_of_mem hx
      have := ins_one.2 (H.fac i hi)
      simp [this]
    · cases i with
      | zero =>
        rw [hr0 h]
        simp only [List.getElem_cons_zero]
        have := H.ey
        omega
      | succ j =>
        simp only [List.getElem_cons_succ]
        have := (H.rad (j + 1) h).2 j rfl (by omega)
        omega
    · obtain ⟨i, hi, rfl⟩ := List.getElem_of_mem hx
      exact ins_one.2 (H.num i hi)
    · exact List.pairwise_iff_getElem.2 fun j i hj hi hji => H.dup i j hji hi hj
theorem err_of {b : Brd} (hl : longB b = false) : (GoodR b → errB b = 0) ∧ (¬ GoodR b → errB b = 2) := by
  unfold errB
  rw [hl]
  refine ⟨fun h => ?_, fun h => ?_⟩
  · rw [if_neg (by simp), if_pos ((goodR_iff b).2 h)]
  · rw [if_neg (by simp), if_neg (fun hh => h ((goodR_iff b).1 hh))]
/-- What the statements look at is small. -/
structure GrtB (b : Brd) : Prop where
  eye : -1000000 ≤ b.eye ∧ b.eye ≤ 1000000
  bull : -1000000 ≤ b.bull ∧ b.bull ≤ 1000000
  wire : -1000000 ≤ b.wire ∧ b.wire ≤ 1000000
  out : ∀ r ∈ b.rings, -1000000 ≤ r.outer ∧ r.outer ≤ 1000000
theorem grt_of {b : Brd} (h : greatB b = false) : GrtB b := by
  unfold greatB farB at h
  simp only [Bool.or_eq_false_iff, decide_eq_false_iff_not, List.any_eq_false, Bool.or_eq_true, decide_eq_true_eq, not_or] at h
  obtain ⟨-, -, -, h1, h2, h3, h4, -⟩ := h
  exact ⟨by omega, by omega, by omega, fun r hr => by have := h4 r hr; omega⟩
theorem GrtB.rad {b : Brd} (h : GrtB b) : ∀ x ∈ b.radii, -1000000 ≤ x ∧ x ≤ 1000000 := by
  intro x hx
  unfold Brd.radii at hx
  rcases List.mem_cons.1 hx with rfl | hx
  · exact h.eye
  rcases List.mem_cons.1 hx with rfl | hx
  · exact h.bull
  obtain ⟨r, hr, rfl⟩ := List.mem_map.1 hx
  exact h.out r hr
set_option maxRecDepth 100000 in
set_option maxHeartbeats 8000000 in
theorem ref_check (a1 a2 a3 : Option Addr) (a4 a5 a6 : Nat) (b : Brd) (w : World) (h : BrdAt w ⟨a1, a2, a3, a4, a5, a6⟩ b) (hs : SmallB b) (hg : GrtB b) :
    Calls Tryz.prog 15 #[.agg #[.int .i64 b.eye, .int .i64 b.bull, .slice a1 b.rings.length a4, .slice a2 b.lines.length a5, .slice a3 b.nums.length a6, .int .i64 b.wire]] w fun e w' => e = .returned (.int .i64 (errB b)) ∧ Ext w w' := by
  have HB := Lib.hid h
  have HRL := Lib.hid (fun W (hx : Ext w W) => ref_lines b.lines a2 a5 W (h.lines.ext hx) hs.l)
  have HRR := Lib.hid (fun W (hx : Ext w W) => ref_radii ⟨a1, a2, a3, a4, a5, a6⟩ b W (h.ext hx) hs.r)
  unfold BrdV.cells at HRR
  have HGR := Lib.hid hg.rad
  obtain ⟨hw0, hw1⟩ := hg.wire
  obtain ⟨hs1, hs2, hs3⟩ := hs
  have HLO : Hid (∀ q, decide ((8 : Int) < (b.rings.length : Int)) = q → ∀ r, decide ((20 : Int) < (b.lines.length : Int)) = r → ∀ s, decide ((20 : Int) < (b.nums.length : Int)) = s → longB b = (q || (r || s))) := Lib.hid (fun q h1 r h2 s h3 => by
    unfold longB
    rw [← h1, ← h2, ← h3]
    congr 1
    · exact decide_eq_decide.2 (by omega)
    · congr 1 <;> exact decide_eq_decide.2 (by omega))
  have HLE : Hid (longB b = true → errB b = 5) := Lib.hid (fun h => by unfold errB; rw [if_pos h])
  have HEO := Lib.hid (fun h => err_of (b := b) h)
  obtain ⟨g, hgg⟩ : ∃ g, errB b = g := ⟨_, rfl⟩
  rw [hgg] at HLE HEO ⊢
  clear h hg hgg
  go_enter Tryz.func15, Tryz.ntmps15
  cases c0 : decide ((8 : Int) < (b.rings.length : Int))
  case true =>
    obtain rfl : g = 5 := HLE.out (by rw [HLO.out _ c0 _ rfl _ rfl]; rfl)
    go_wp2_with fail
    go_ret
    exact ⟨rfl, (Ext.refl w).alloc _⟩
  case false =>
  cases c1 : decide ((20 : Int) < (b.lines.length : Int))
  case true =>
    obtain rfl : g = 5 := HLE.out (by rw [HLO.out _ c0 _ c1 _ rfl]; rfl)
    go_wp2_with fail
    go_ret
    exact ⟨rfl, (Ext.refl w).alloc _⟩
  case false =>
  cases c2 : decide ((20 : Int) < (b.nums.length : Int))
  case true =>
    obtain rfl : g = 5 := HLE.out (by rw [HLO.out _ c0 _ c1 _ c2]; rfl)
    go_wp2_with fail
    go_ret
    exact ⟨rfl, (Ext.refl w).alloc _⟩
  case false =>
  have HG0 : Hid (GoodR b → g = 0) := Lib.hid (HEO.out (HLO.out _ c0 _ c1 _ c2)).1
  have HG2 : Hid (¬ GoodR b → g = 2) := Lib.hid (HEO.out (HLO.out _ c0 _ c1 _ c2)).2
  cases d0 : ((b.rings.length : Int) == 0)
  case true =>
    obtain rfl : g = 2 := HG2.out (fun h => h.rg (by simpa using d0))
    go_wp2_with fail
    go_ret
    exact ⟨rfl, (Ext.refl w).alloc _⟩
  case false =>
  cases d1 : decide (b.wire < 0)
  case true =>
    obtain rfl : g = 2 := HG2.out (fun h => by have := h.w0; have := of_decide_eq_true d1; omega)
    go_wp2_with fail
    go_ret
    exact ⟨rfl, (Ext.refl w).alloc _⟩
  case false =>
  cases d2 : decide (20 < b.wire)
  case true =>
    obtain rfl : g = 2 := HG2.out (fun h => by have := h.w1; have := of_decide_eq_true d2; omega)
    go_wp2_with fail
    go_ret
    exact ⟨rfl, (Ext.refl w).alloc _⟩
  case false =>
  cases d3 : ((b.nums.length : Int) != (b.lines.length : Int))
  case true =>
    obtain rfl : g = 2 := HG2.out (fun h => by
      have e : (b.nums.length : Int) = (b.lines.length : Int) := by rw [h.ln]
      rw [e] at d3
      simp at d3)
    go_wp2_with fail
    go_ret
    exact ⟨rfl, (Ext.refl w).alloc _⟩
  case false =>
  have k1 : 0 ≤ b.wire := by have := of_decide_eq_false d1; omega
  have k2 : b.wire ≤ 20 := by have := of_decide_eq_false d2; omega
  have k0 : Hid (b.rings.length ≠ 0) := Lib.hid (by have := beq_eq_false_iff_ne.1 d0; omega)
  have k3 : Hid (b.nums.length = b.lines.length) := Lib.hid (by have := bne_eq_false_iff_eq.1 d3; omega)
  go_wp2_with fail
  refine (HRL.out _ ((Ext.refl w).alloc _)).mono ?_
  rintro e w1 ⟨rfl, hx1⟩
  have HX1 := Lib.hid (((Ext.refl w).alloc (.cells #[.int .i64 b.eye, .int .i64 b.bull, .slice a1 b.rings.length a4, .slice a2 b.lines.length a5, .slice a3 b.nums.length a6, .int .i64 b.wire] 26)).trans hx1)
  have HB1 : Hid (Blk w1 w.heap.size #[.int .i64 b.eye, .int .i64 b.bull, .slice a1 b.rings.length a4, .slice a2 b.lines.length a5, .slice a3 b.nums.length a6, .int .i64 b.wire]) := Lib.hid ((Blk.new _ _ _).ext hx1)
  clear hx1 c0 c1 c2 d0 d3
  cases d4 : linesR b.lines
  case false =>
    obtain rfl : g = 2 := HG2.out (fun h => by have := h.li; rw [d4] at this; cases this)
    go_wp2_with fail
    go_ret
    exact ⟨rfl, HX1.out⟩
  case true =>
  have m0 := HB1.out.cell 0 (v := .int .i64 b.eye) rfl
  have m1 := HB1.out.cell 1 (v := .int .i64 b.bull) rfl
  have m2 := HB1.out.cell 2 (v := .slice a1 b.rings.length a4) rfl
  have m3 := HB1.out.cell 3 (v := .slice a2 b.lines.length a5) rfl
  have m4 := HB1.out.cell 4 (v := .slice a3 b.nums.length a6) rfl
  have m5 := HB1.out.cell 5 (v := .int .i64 b.wire) rfl
  have ml := HB1.out.lt
  cases d5 : decide (b.eye ≤ b.wire)
  case true =>
    obtain rfl : g = 2 := HG2.out (fun h => by have := h.ey; have := of_decide_eq_true d5; omega)
    go_wp2_with fail
    go_ret
    exact ⟨rfl, HX1.out⟩
  case false =>
  have k5 : Hid (b.wire < b.eye) := Lib.hid (by have := of_decide_eq_false d5; omega)
  go_wp2_with fail
  refine (HRR.out _ HX1.out).mono ?_
  rintro e w2 ⟨ra, rc, rfl, hr, hx2⟩
  have HB2 := Lib.hid (HB1.out.ext hx2)
  have HX2 := Lib.hid (HX1.out.trans hx2)
  have HR2 := Lib.hid hr
  have hrl : 2 ≤ b.radii.length ∧ b.radii.length ≤ 1000002 := by unfold Brd.radii; simp; omega
  obtain ⟨hrl0, hrl1⟩ := hrl
  obtain ⟨rb, ro, rcc, e, hrc, -⟩ := hr.head (by omega)
  cases e
  have HRC := Lib.hid hrc
  have k4 := Lib.hid d4
  have HGD : Hid (∀ x : (∀ i, (h : i < b.radii.length) → b.radii[i] ≤ 5000 ∧ ∀ j, i = j + 1 → (hj : j < b.radii.length) → 2 * b.wire < b.radii[i] - b.radii[j]), ∀ y : (∀ i, (h : i < b.rings.length) → 0 ≤ b.rings[i].factor ∧ b.rings[i].factor ≤ 4), ∀ z : (∀ i, (h : i < b.nums.length) → 1 ≤ b.nums[i] ∧ b.nums[i] ≤ 20), ∀ t : (∀ i j, j < i → (h : i < b.nums.length) → (hj : j < b.nums.length) → b.nums[j] ≠ b.nums[i]), g = 0) := Lib.hid (fun x y z t => HG0.out ⟨k0.out, k1, k2, k3.out, k4.out, k5.out, x, y, z, t⟩)
  clear hr hx2 m0 m1 m2 m3 m4 m5 ml hrc d1 d2 d4 d5 HRL HRR HLO HLE HEO HG0 k0 k3 k4 k5 HB1 HX1
  go_wp2_with fail
  go_loopw [4] (fun i wr => ∃ k : Nat, k ≤ b.radii.length ∧ i = .int .i64 k ∧ (∀ i, i < k → (h : i < b.radii.length) → b.radii[i] ≤ 5000 ∧ ∀ j, i = j + 1 → (hj : j < b.radii.length) → 2 * b.wire < b.radii[i] - b.radii[j]) ∧ Ext w2 wr) (fun i _ => b.radii.length - (intOf i).toNat)
  case atStart => exact ⟨0, Nat.zero_le _, rfl, fun i h => absurd h (Nat.not_lt_zero i), Ext.refl w2⟩
  case round =>
    obtain ⟨k, hk, rfl, hok, hx⟩ := hrel
    have HOK := Lib.hid hok
    have HX := Lib.hid hx
    have HBr := Lib.hid (HB2.out.ext hx)
    clear hok hx
    have m0 := HBr.out.cell 0 (v := .int .i64 b.eye) rfl
    have m1 := HBr.out.cell 1 (v := .int .i64 b.bull) rfl
    have m2 := HBr.out.cell 2 (v := .slice a1 b.rings.length a4) rfl
    have m3 := HBr.out.cell 3 (v := .slice a2 b.lines.length a5) rfl
    have m4 := HBr.out.cell 4 (v := .slice a3 b.nums.length a6) rfl
    have m5 := HBr.out.cell 5 (v := .int .i64 b.wire) rfl
    have ml := HBr.out.lt
    by_cases hlt : k < b.radii.length
    · obtain ⟨_, _, e, x0⟩ := (HRC.out.ext HX.out) k hlt
      cases e
      have xl := lt_of_cell x0
      simp only at xl
      obtain ⟨z, hz⟩ : ∃ z, b.radii[k] = z := ⟨_, rfl⟩
      have HZ := Lib.hid hz
      have hzb := HGR.out b.radii[k] (List.getElem_mem hlt)
      rw [hz] at x0 hzb
      obtain ⟨hz0, hz1⟩ := hzb
      clear hz
      cases d6 : decide (5000 < z)
      case true =>
        obtain rfl : g = 2 := HG2.out (fun h => by have := (h.rad k hlt).1; rw [HZ.out] at this; have := of_decide_eq_true d6; omega)
        go_upto_region 9 with fail
        refine wp_region_later (by kernel_rfl) (by kernel_rfl) ?_
        repeat (go_big_quiet_step (fail))
        refine wpQuiet_nil ?_
        intro w4 hw4
        obtain ⟨⟨w4, hx4⟩, rfl⟩ := hw4
        have HX4 := Lib.hid (HX.out.trans hx4)
        clear hx4
        go_wp2_with fail
        go_ret
        exact ⟨rfl, HX2.out.trans HX4.out⟩
      case false =>
      cases k with
      | zero =>
        have e0 : ((0 : Nat) : Int) = 0 := rfl
        rw [e0]
        rw [Nat.add_zero] at x0
        clear e0
        have HOK1 : Hid (∀ i, i < 0 + 1 → (h : i < b.radii.length) → b.radii[i] ≤ 5000 ∧ ∀ j, i = j + 1 → (hj : j < b.radii.length) → 2 * b.wire < b.radii[i] - b.radii[j]) := Lib.hid (fun i hi h => by
          obtain rfl : i = 0 := by omega
          exact ⟨by rw [HZ.out]; have := of_decide_eq_false d6; omega, fun j e => by omega⟩)
        go_upto_region 9 with fail
        refine wp_region_later (by kernel_rfl) (by kernel_rfl) ?_
        repeat (go_big_quiet_step (fail))
        refine wpQuiet_nil ?_
        intro w4 hw4
        obtain ⟨⟨w4, hx4⟩, rfl⟩ := hw4
        have HX4 := Lib.hid (HX.out.trans hx4)
        clear hx4
        go_wp2_with fail
        go_roundw
        case rel => exact ⟨1, by omega, by go_num, HOK1.out, HX4.out⟩
        case measure => simp [intOf]; omega
      | succ j =>
        obtain ⟨_, _, e, y0⟩ := (HRC.out.ext HX.out) j (by omega)
        cases e
        obtain ⟨y, hy⟩ : ∃ y, b.radii[j] = y := ⟨_, rfl⟩
        have HY := Lib.hid hy
        have hyb := HGR.out b.radii[j] (List.getElem_mem (by omega))
        rw [hy] at y0 hyb
        obtain ⟨hy0, hy1⟩ := hyb
        have hj0 : decide ((0 : Int) < (j : Int) + 1) = true := decide_eq_true (by omega)
        clear hy
        cases d7 : decide (z - y ≤ 2 * b.wire)
        case true =>
          obtain rfl : g = 2 := HG2.out (fun h => by have := (h.rad (j + 1) hlt).2 j rfl (by omega); rw [HZ.out, HY.out] at this; have := of_decide_eq_true d7; omega)
          go_upto_region 9 with fail
          refine wp_region_later (by kernel_rfl) (by kernel_rfl) ?_
          repeat (go_big_quiet_step (fail))
          refine wpQuiet_nil ?_
          intro w4 hw4
          obtain ⟨⟨w4, hx4⟩, rfl⟩ := hw4
          have HX4 := Lib.hid (HX.out.trans hx4)
          clear hx4
          go_wp2_with fail
          go_ret
          exact ⟨rfl, HX2.out.trans HX4.out⟩
        case false =>
          have HOK1 : Hid (∀ i, i < j + 1 + 1 → (h : i < b.radii.length) → b.radii[i] ≤ 5000 ∧ ∀ j, i = j + 1 → (hj : j < b.radii.length) → 2 * b.wire < b.radii[i] - b.radii[j]) := Lib.hid (fun i hi h => by
            rcases Nat.lt_or_ge i (j + 1) with h' | h'
            · exact HOK.out i h' h
            · obtain rfl : i = j + 1 := by omega
              refine ⟨by rw [HZ.out]; have := of_decide_eq_false d6; omega, fun j' e hj' => ?_⟩
              obtain rfl : j' = j := by omega
              rw [HZ.out, HY.out]
              have := of_decide_eq_false d7
              omega)
          go_upto_region 9 with fail
          refine wp_region_later (by kernel_rfl) (by kernel_rfl) ?_
          repeat (go_big_quiet_step (fail))
          refine wpQuiet_nil ?_
          intro w4 hw4
          obtain ⟨⟨w4, hx4⟩, rfl⟩ := hw4
          have HX4 := Lib.hid (HX.out.trans hx4)
          clear hx4
          go_wp2_with fail
          go_roundw
          case rel => exact ⟨j + 1 + 1, by omega, by go_num, HOK1.out, HX4.out⟩
          case measure => simp [intOf]; omega
    · have hke : k = b.radii.length := by omega
      have HG1 := Lib.hid (HGD.out (fun i h => HOK.out i (by omega) h))
      obtain ⟨W, hW⟩ : ∃ x, wr = x := ⟨_, rfl⟩
      rw [hW] at HBr HX m0 m1 m2 m3 m4 m5 ml ⊢
      have HXW := Lib.hid (HX2.out.trans HX.out)
      subst hke
      clear hW
      go_wp2_with fail
      go_loopw [5] (fun i wr => ∃ k : Nat, k ≤ b.rings.length ∧ i = .int .i64 k ∧ (∀ i, i < k → (h : i < b.rings.length) → 0 ≤ b.rings[i].factor ∧ b.rings[i].factor ≤ 4) ∧ wr = W) (fun i _ => b.rings.length - (intOf i).toNat)
      case atStart => exact ⟨0, Nat.zero_le _, rfl, fun i h => absurd h (Nat.not_lt_zero i), rfl⟩
      case round =>
        obtain ⟨k, hk, rfl, hok, rfl⟩ := hrel
        have HOK2 := Lib.hid hok
        clear hok
        by_cases hlt : k < b.rings.length
        · obtain ⟨gb, go, e, -, x1⟩ := (HB.out.rings.ext HXW.out) k hlt
          have xl := lt_of_cell x1
          simp only at e xl
          obtain ⟨z, hz⟩ : ∃ z, b.rings[k].factor = z := ⟨_, rfl⟩
          have HZ := Lib.hid hz
          rw [hz] at x1
          subst e
          clear hz
          cases d6 : decide (z < 0)
          case true =>
            obtain rfl : g = 2 := HG2.out (fun h => by have := (h.fac k hlt).1; rw [HZ.out] at this; have := of_decide_eq_true d6; omega)
            go_wp2_with fail
            go_ret
            exact ⟨rfl, HXW.out⟩
          case false =>
          cases d7 : decide (4 < z)
          case true =>
            obtain rfl : g = 2 := HG2.out (fun h => by have := (h.fac k hlt).2; rw [HZ.out] at this; have := of_decide_eq_true d7; omega)
            go_wp2_with fail
            go_ret
            exact ⟨rfl, HXW.out⟩
          case false =>
          have HOK3 : Hid (∀ i, i < k + 1 → (h : i < b.rings.length) → 0 ≤ b.rings[i].factor ∧ b.rings[i].factor ≤ 4) := Lib.hid (fun i hi h => by
            rcases Nat.lt_or_ge i k with h' | h'
            · exact HOK2.out i h' h
            · obtain rfl : i = k := by omega
              rw [HZ.out]
              have := of_decide_eq_false d6
              have := of_decide_eq_false d7
              omega)
          go_wp2_with fail
          go_roundw
          case rel => exact ⟨k + 1, by omega, by go_num, HOK3.out, by first | trivial | rfl⟩
          case measure => simp [intOf]; omega
        · have HG4 := Lib.hid (HG1.out (fun i h => HOK2.out i (by omega) h))
          have hke : k = b.rings.length := by omega
          subst hke
          obtain ⟨W2, hW2⟩ : ∃ x, wr = x := ⟨_, rfl⟩
          rw [hW2] at HBr HXW m0 m1 m2 m3 m4 m5 ml ⊢
          clear hW2 HG1
          go_wp2_with fail
          go_loopw [6] (fun i wr => ∃ k : Nat, k ≤ b.nums.length ∧ i = .int .i64 k ∧ (∀ i, i < k → (h : i < b.nums.length) → 1 ≤ b.nums[i] ∧ b.nums[i] ≤ 20) ∧ (∀ i j, i < k → j < i → (h : i < b.nums.length) → (hj : j < b.nums.length) → b.nums[j] ≠ b.nums[i]) ∧ Ext W2 wr) (fun i _ => b.nums.length - (intOf i).toNat)
          case atStart => exact ⟨0, Nat.zero_le _, rfl, fun i h => absurd h (Nat.not_lt_zero i), fun i j h => absurd h (Nat.not_lt_zero i), Ext.refl W2⟩
          case round =>
            obtain ⟨k, hk, rfl, hok, hdu, hx⟩ := hrel
            have HOK3 := Lib.hid hok
            have HDU := Lib.hid hdu
            have HX3 := Lib.hid hx
            have HBn := Lib.hid (HBr.out.ext hx)
            have HXn := Lib.hid (HXW.out.trans hx)
            clear hok hdu hx m0 m1 m2 m3 m4 m5 ml
            have m0 := HBn.out.cell 0 (v := .int .i64 b.eye) rfl
            have m1 := HBn.out.cell 1 (v := .int .i64 b.bull) rfl
            have m2 := HBn.out.cell 2 (v := .slice a1 b.rings.length a4) rfl
            have m3 := HBn.out.cell 3 (v := .slice a2 b.lines.length a5) rfl
            have m4 := HBn.out.cell 4 (v := .slice a3 b.nums.length a6) rfl
            have m5 := HBn.out.cell 5 (v := .int .i64 b.wire) rfl
            have ml := HBn.out.lt
            by_cases hlt : k < b.nums.length
            · obtain ⟨gb, go, e, x1⟩ := (HB.out.nums.ext HXn.out) k hlt
              have xl := lt_of_cell x1
              simp only at e xl
              obtain ⟨z, hz⟩ : ∃ z, b.nums[k] = z := ⟨_, rfl⟩
              have HZ := Lib.hid hz
              rw [hz] at x1
              subst e
              clear hz
              cases d6 : decide (z < 1)
              case true =>
                obtain rfl : g = 2 := HG2.out (fun h => by have := (h.num k hlt).1; rw [HZ.out] at this; have := of_decide_eq_true d6; omega)
                go_wp2_with fail
                go_ret
                exact ⟨rfl, HXn.out⟩
              case false =>
              cases d7 : decide (20 < z)
              case true =>
                obtain rfl : g = 2 := HG2.out (fun h => by have := (h.num k hlt).2; rw [HZ.out] at this; have := of_decide_eq_true d7; omega)
                go_wp2_with fail
                go_ret
                exact ⟨rfl, HXn.out⟩
              case false =>
              have HOK4 : Hid (∀ i, i < k + 1 → (h : i < b.nums.length) → 1 ≤ b.nums[i] ∧ b.nums[i] ≤ 20) := Lib.hid (fun i hi h => by
                rcases Nat.lt_or_ge i k with h' | h'
                · exact HOK3.out i h' h
                · obtain rfl : i = k := by omega
                  rw [HZ.out]
                  have := of_decide_eq_false d6
                  have := of_decide_eq_false d7
                  omega)
              obtain ⟨W3, hW3⟩ : ∃ x, wr = x := ⟨_, rfl⟩
              rw [hW3] at HBn HXn HX3 x1 xl m0 m1 m2 m3 m4 m5 ml ⊢
              clear hW3
              go_wp2_with fail
              go_loopw [7] (fun i wr => ∃ q : Nat, q ≤ k ∧ i = .int .i64 q ∧ (∀ j, j < q → (hj : j < b.nums.length) → b.nums[j] ≠ z) ∧ Ext W3 wr) (fun i _ => k - (intOf i).toNat)
              case atStart => exact ⟨0, Nat.zero_le _, rfl, fun i h => absurd h (Nat.not_lt_zero i), Ext.refl W3⟩
              case round =>
                obtain ⟨q, hq, rfl, hne, hx⟩ := hrel
                have HNE := Lib.hid hne
                have HX4 := Lib.hid hx
                have HBq := Lib.hid (HBn.out.ext hx)
                have HXq := Lib.hid (HXn.out.trans hx)
                have x1' := hx.cell x1
                clear hne hx m0 m1 m2 m3 m4 m5 ml
                have m0 := HBq.out.cell 0 (v := .int .i64 b.eye) rfl
                have m1 := HBq.out.cell 1 (v := .int .i64 b.bull) rfl
                have m2 := HBq.out.cell 2 (v := .slice a1 b.rings.length a4) rfl
                have m3 := HBq.out.cell 3 (v := .slice a2 b.lines.length a5) rfl
                have m4 := HBq.out.cell 4 (v := .slice (some ⟨gb, go, none⟩) b.nums.length a6) rfl
                have m5 := HBq.out.cell 5 (v := .int .i64 b.wire) rfl
                have ml := HBq.out.lt
                by_cases hql : q < k
                · obtain ⟨_, _, e, y1⟩ := (HB.out.nums.ext HXq.out) q (by omega)
                  cases e
                  have yl := lt_of_cell y1
                  simp only at yl
                  obtain ⟨y, hy⟩ : ∃ y, b.nums[q] = y := ⟨_, rfl⟩
                  have HY := Lib.hid hy
                  rw [hy] at y1
                  clear hy
                  cases d8 : (y == z)
                  case true =>
                    obtain rfl : g = 2 := HG2.out (fun h => by
                      refine h.dup k q hql hlt (by omega) ?_
                      rw [HZ.out, HY.out]
                      simpa using d8)
                    go_upto_region 24 with fail
                    refine wp_region_later (by kernel_rfl) (by kernel_rfl) ?_
                    repeat (go_big_quiet_step (fail))
                    refine wpQuiet_nil ?_
                    intro w4 hw4
                    obtain ⟨⟨w4, hx4⟩, rfl⟩ := hw4
                    have HX5 := Lib.hid (HXq.out.trans hx4)
                    clear hx4
                    go_wp2_with fail
                    go_ret
                    exact ⟨rfl, HX5.out⟩
                  case false =>
                    have HNE1 : Hid (∀ j, j < q + 1 → (hj : j < b.nums.length) → b.nums[j] ≠ z) := Lib.hid (fun j hj h => by
                      rcases Nat.lt_or_ge j q with h' | h'
                      · exact HNE.out j h' h
                      · obtain rfl : j = q := by omega
                        rw [HY.out]
                        simpa using d8)
                    go_upto_region 24 with fail
                    refine wp_region_later (by kernel_rfl) (by kernel_rfl) ?_
                    repeat (go_big_quiet_step (fail))
                    refine wpQuiet_nil ?_
                    intro w4 hw4
                    obtain ⟨⟨w4, hx4⟩, rfl⟩ := hw4
                    have HX5 := Lib.hid (HX4.out.trans hx4)
                    clear hx4
                    go_wp2_with fail
                    go_roundw
                    case rel => exact ⟨q + 1, by omega, by go_num, HNE1.out, HX5.out⟩
                    case measure => simp [intOf]; omega
                · have hqe : q = k := by omega
                  subst hqe
                  have HDU1 : Hid (∀ i j, i < q + 1 → j < i → (h : i < b.nums.length) → (hj : j < b.nums.length) → b.nums[j] ≠ b.nums[i]) := Lib.hid (fun i j hi hji h hj => by
                    rcases Nat.lt_or_ge i q with h' | h'
                    · exact HDU.out i j h' hji h hj
                    · obtain rfl : i = q := by omega
                      rw [HZ.out]
                      exact HNE.out j hji hj)
                  have HXe := Lib.hid (HX3.out.trans HX4.out)
                  go_wp2_with fail
                  go_roundw
                  case rel => exact ⟨q + 1, by omega, by go_num, HOK4.out, HDU1.out, HXe.out⟩
                  case measure => simp [intOf]; omega
            · obtain rfl : g = 0 := HG4.out (fun i h => HOK3.out i (by omega) h) (fun i j hji h hj => HDU.out i j (by omega) hji h hj)
              go_wp2_with fail
              go_ret
              exact ⟨rfl, HXn.out⟩
end Go.Proofs.YtlkbbcfbnbnagaaGreat
