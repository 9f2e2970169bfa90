/-
  The statements of chapter 1: same.
-/
import Derived.Test.YtlkbbcfbnbnagaaGreatLbc
namespace Go.Proofs.YtlkbbcfbnbnagaaGreat
open Go.RowKit Go.BigFrame
attribute [local go_sem] Later.cell Later.frozen
theorem take_sameT {α : Type} {xs ys : List α} (h : xs.length = ys.length) (k : Nat) (hk : k < xs.length) (e : xs.take k = ys.take k) : xs.take (k + 1) = ys.take (k + 1) ↔ xs[k] = ys[k]'(h ▸ hk) := by
  have hk' : k < ys.length := h ▸ hk
  rw [List.take_succ_eq_append_getElem hk, List.take_succ_eq_append_getElem hk', e]
  simp only [List.append_cancel_left_eq, List.cons.injEq, and_true]
def sameB (a b : Brd) : Bool := decide (a.eye = b.eye ∧ a.bull = b.bull ∧ a.wire = b.wire ∧ a.rings.length = b.rings.length ∧ a.lines.length = b.lines.length ∧ a.nums = b.nums ∧ a.rings = b.rings ∧ a.lines = b.lines)
set_option maxHeartbeats 4000000 in
theorem law_same (v v' : BrdV) (a b : Brd) (w : World) (ha : BrdAt w v a) (hb : BrdAt w v' b) (hs : SmallB a) :
    Calls Tryz.prog 23 #[.agg (v.cells a), .agg (v'.cells b)] w fun e w' => e = .returned (.bool (sameB a b)) ∧ Ext w w' := by
  have HA := Lib.hid ha
  have HB := Lib.hid hb
  obtain ⟨r, hr⟩ : ∃ r, sameB a b = r := ⟨_, rfl⟩
  have HR := Lib.hid hr
  rw [hr]
  obtain ⟨eye, bull, rings, lines, nums, wire⟩ := a
  obtain ⟨ra, la, na, rc, lc, nc⟩ := v
  obtain ⟨eye', bull', rings', lines', nums', wire'⟩ := b
  obtain ⟨ra', la', na', rc', lc', nc'⟩ := v'
  unfold BrdV.cells
  simp only
  clear ha hb hr
  go_enter Tryz.func23, Tryz.ntmps23
  by_cases h1 : eye = eye'
  case neg =>
    have h1' : ((eye : Int) != (eye' : Int)) = true := by simpa using h1
    have e : r = false := by rw [← HR.out]; unfold sameB; exact decide_eq_false (fun h => h1 (by simp_all))
    subst e
    go_wp2
    go_ret
    exact ⟨rfl, ((Ext.refl w).alloc _).alloc _⟩
  subst h1
  by_cases h2 : bull = bull'
  case neg =>
    have h2' : ((bull : Int) != (bull' : Int)) = true := by simpa using h2
    have e : r = false := by rw [← HR.out]; unfold sameB; exact decide_eq_false (fun h => h2 (by simp_all))
    subst e
    go_wp2
    go_ret
    exact ⟨rfl, ((Ext.refl w).alloc _).alloc _⟩
  subst h2
  by_cases h3 : wire = wire'
  case neg =>
    have h3' : ((wire : Int) != (wire' : Int)) = true := by simpa using h3
    have e : r = false := by rw [← HR.out]; unfold sameB; exact decide_eq_false (fun h => h3 (by simp_all))
    subst e
    go_wp2
    go_ret
    exact ⟨rfl, ((Ext.refl w).alloc _).alloc _⟩
  subst h3
  by_cases h4 : rings.length = rings'.length
  case neg =>
    have h4' : ((rings.length : Int) != (rings'.length : Int)) = true := by simp only [bne_iff_ne, ne_eq]; omega
    have e : r = false := by rw [← HR.out]; unfold sameB; exact decide_eq_false (fun h => h4 (by simp_all))
    subst e
    go_wp2
    go_ret
    exact ⟨rfl, ((Ext.refl w).alloc _).alloc _⟩
  by_cases h5 : lines.length = lines'.length
  case neg =>
    have h5' : ((lines.length : Int) != (lines'.length : Int)) = true := by simp only [bne_iff_ne, ne_eq]; omega
    have e : r = false := by rw [← HR.out]; unfold sameB; exact decide_eq_false (fun h => h5 (by simp_all))
    subst e
    go_wp2
    go_ret
    exact ⟨rfl, ((Ext.refl w).alloc _).alloc _⟩
  have H4 := Lib.hid h4
  have H5 := Lib.hid h5
  obtain ⟨rn, hrn⟩ : ∃ n, rings.length = n := ⟨_, rfl⟩
  obtain ⟨ln, hln⟩ : ∃ n, lines.length = n := ⟨_, rfl⟩
  have HRN := Lib.hid hrn
  have HLN := Lib.hid hln
  rw [← h4, ← h5, hrn, hln]
  obtain ⟨hs1, hs2, hs3⟩ := hs
  simp only at hs1 hs2 hs3
  rw [hrn] at hs1
  rw [hln] at hs2
  clear h4 h5 hrn hln
  go_wp2_with fail
  have hx0 : Ext w ((w.alloc (.cells #[.int .i64 eye, .int .i64 bull, .slice ra rn rc, .slice la ln lc, .slice na nums.length nc, .int .i64 wire] 26)).alloc (.cells #[.int .i64 eye, .int .i64 bull, .slice ra' rn rc', .slice la' ln lc', .slice na' nums'.length nc', .int .i64 wire] 26)) := ((Ext.refl w).alloc _).alloc _
  have hA0 : Blk ((w.alloc (.cells #[.int .i64 eye, .int .i64 bull, .slice ra rn rc, .slice la ln lc, .slice na nums.length nc, .int .i64 wire] 26)).alloc (.cells #[.int .i64 eye, .int .i64 bull, .slice ra' rn rc', .slice la' ln lc', .slice na' nums'.length nc', .int .i64 wire] 26)) w.heap.size #[.int .i64 eye, .int .i64 bull, .slice ra rn rc, .slice la ln lc, .slice na nums.length nc, .int .i64 wire] := (Blk.new _ _ _).alloc _
  have hB0 : Blk ((w.alloc (.cells #[.int .i64 eye, .int .i64 bull, .slice ra rn rc, .slice la ln lc, .slice na nums.length nc, .int .i64 wire] 26)).alloc (.cells #[.int .i64 eye, .int .i64 bull, .slice ra' rn rc', .slice la' ln lc', .slice na' nums'.length nc', .int .i64 wire] 26)) (w.heap.size + 1) #[.int .i64 eye, .int .i64 bull, .slice ra' rn rc', .slice la' ln lc', .slice na' nums'.length nc', .int .i64 wire] := Blk.at _ (by simp)
  refine (law_alike nums nums' na na' nc nc' _ (HA.out.nums.ext hx0) (HB.out.nums.ext hx0) hs3).mono ?_
  rintro e w1 ⟨rfl, hx1⟩
  have HX1 := Lib.hid (hx0.trans hx1)
  have HA1 := Lib.hid (hA0.ext hx1)
  have HB1 := Lib.hid (hB0.ext hx1)
  clear hx0 hA0 hB0 hx1
  cases h6 : decide (nums = nums')
  · have e : r = false := by rw [← HR.out]; unfold sameB; exact decide_eq_false (fun h => (of_decide_eq_false h6) h.2.2.2.2.2.1)
    subst e
    go_wp2
    go_ret
    exact ⟨rfl, HX1.out⟩
  have HNE := Lib.hid (of_decide_eq_true h6)
  clear h6
  have a2 := HA1.out.cell 2 (v := .slice ra rn rc) rfl
  have b2 := HB1.out.cell 2 (v := .slice ra' rn rc') rfl
  have hal := HA1.out.lt
  have hbl := HB1.out.lt
  go_wp2
  go_loopw [5] (fun i wr => ∃ k : Nat, k ≤ rn ∧ i = .int .i64 k ∧ rings.take k = rings'.take k ∧ Ext w1 wr) (fun i _ => rn - (intOf i).toNat)
  case atStart => exact ⟨0, Nat.zero_le _, rfl, rfl, Ext.refl w1⟩
  case round =>
    obtain ⟨k, hk, rfl, hE, hx2⟩ := hrel
    have HE := Lib.hid hE
    have HX2 := Lib.hid hx2
    have a2' := hx2.cell a2
    have b2' := hx2.cell b2
    have hsz2 := hx2.size
    have hal' : w.heap.size < wr.heap.size := by omega
    have hbl' : w.heap.size + 1 < wr.heap.size := by omega
    clear hE hx2
    by_cases hlt : k < rn
    · have hk1 : k < rings.length := by rw [HRN.out]; exact hlt
      have hk2 : k < rings'.length := by rw [← H4.out]; exact hk1
      obtain ⟨p1, o1, e1, c1, c2⟩ := HA.out.rings k hk1
      obtain ⟨p2, o2, e2, d1, d2⟩ := HB.out.rings k hk2
      simp only at e1 e2
      subst e1
      subst e2
      replace c1 := HX2.out.cell (HX1.out.cell c1)
      replace c2 := HX2.out.cell (HX1.out.cell c2)
      replace d1 := HX2.out.cell (HX1.out.cell d1)
      replace d2 := HX2.out.cell (HX1.out.cell d2)
      have l1 := lt_of_cell c1
      have l2 := lt_of_cell d1
      simp only at l1 l2
      have hs := take_sameT H4.out k hk1 HE.out
      have HSM := Lib.hid hs
      clear hs
      generalize rings[k] = x at *
      generalize rings'[k] = y at *
      obtain ⟨x0, x1⟩ := x
      obtain ⟨y0, y1⟩ := y
      simp only at c1 c2 d1 d2
      by_cases hxy : x0 = y0 ∧ x1 = y1
      · obtain ⟨rfl, rfl⟩ := hxy
        have HSM' := Lib.hid (HSM.out.2 rfl)
        go_upto_region 6 with fail
        refine wp_region_later (by kernel_rfl) (by kernel_rfl) ?_
        repeat (go_big_quiet_step (fail))
        refine wpQuiet_nil ?_
        intro w4 hw4
        obtain ⟨⟨w4, hx4⟩, rfl⟩ := hw4
        go_wp2
        go_roundw
        case rel => exact ⟨k + 1, by omega, by go_num, HSM'.out, HX2.out.trans hx4⟩
        case measure => simp [intOf]; omega
      have HNS := Lib.hid hxy
      cases h0 : (x0 == y0)
      · clear hxy
        go_upto_region 6 with fail
        refine wp_region_later (by kernel_rfl) (by kernel_rfl) ?_
        repeat (go_big_quiet_step (fail))
        refine wpQuiet_nil ?_
        intro w4 hw4
        obtain ⟨⟨w4, hx4⟩, rfl⟩ := hw4
        have e : r = false := by rw [← HR.out]; unfold sameB; exact decide_eq_false (fun h => HNS.out (by have hh : rings = rings' := h.2.2.2.2.2.2.1; have h' := HSM.out.1 (by rw [hh]); simpa using h'))
        subst e
        go_wp2
        go_ret
        exact ⟨rfl, HX1.out.trans (HX2.out.trans hx4)⟩
      · cases h1 : (x1 == y1)
        case true => exact absurd ⟨by simpa using h0, by simpa using h1⟩ hxy
        obtain rfl : x0 = y0 := by simpa using h0
        clear hxy
        go_upto_region 6 with fail
        refine wp_region_later (by kernel_rfl) (by kernel_rfl) ?_
        repeat (go_big_quiet_step (fail))
        refine wpQuiet_nil ?_
        intro w4 hw4
        obtain ⟨⟨w4, hx4⟩, rfl⟩ := hw4
        have e : r = false := by rw [← HR.out]; unfold sameB; exact decide_eq_false (fun h => HNS.out (by have hh : rings = rings' := h.2.2.2.2.2.2.1; have h' := HSM.out.1 (by rw [hh]); simpa using h'))
        subst e
        go_wp2
        go_ret
        exact ⟨rfl, HX1.out.trans (HX2.out.trans hx4)⟩
    · have HALL := Lib.hid (show rings = rings' by
        have := HE.out
        rwa [List.take_of_length_le (by rw [HRN.out]; omega), List.take_of_length_le (by rw [← H4.out, HRN.out]; omega)] at this)
      have HXM := Lib.hid HX2.out
      clear a2 b2 hal hbl HX2 HE
      have a3 := HA1.out.cell 3 (v := .slice la ln lc) rfl
      have b3 := HB1.out.cell 3 (v := .slice la' ln lc') rfl
      have a3m := HXM.out.cell a3
      have b3m := HXM.out.cell b3
      have hal := HA1.out.lt
      have hbl := HB1.out.lt
      have hsm := HXM.out.size
      obtain ⟨wm, rfl⟩ : ∃ x, x = wr := ⟨_, rfl⟩
      have halm : w.heap.size < wm.heap.size := by omega
      have hblm : w.heap.size + 1 < wm.heap.size := by omega
      go_wp2
      go_loopw [6] (fun i wr => ∃ k : Nat, k ≤ ln ∧ i = .int .i64 k ∧ lines.take k = lines'.take k ∧ Ext w1 wr) (fun i _ => ln - (intOf i).toNat)
      case atStart => exact ⟨0, Nat.zero_le _, rfl, rfl, HXM.out⟩
      case round =>
        obtain ⟨k, hk, rfl, hE, hx2⟩ := hrel
        have HE := Lib.hid hE
        have HX2 := Lib.hid hx2
        have a3' := hx2.cell a3
        have b3' := hx2.cell b3
        have hsz2 := hx2.size
        have hal' : w.heap.size < wr.heap.size := by omega
        have hbl' : w.heap.size + 1 < wr.heap.size := by omega
        clear hE hx2
        by_cases hlt : k < ln
        · have hk1 : k < lines.length := by rw [HLN.out]; exact hlt
          have hk2 : k < lines'.length := by rw [← H5.out]; exact hk1
          obtain ⟨p1, o1, e1, c1, c2⟩ := HA.out.lines k hk1
          obtain ⟨p2, o2, e2, d1, d2⟩ := HB.out.lines k hk2
          simp only at e1 e2
          subst e1
          subst e2
          replace c1 := HX2.out.cell (HX1.out.cell c1)
          replace c2 := HX2.out.cell (HX1.out.cell c2)
          replace d1 := HX2.out.cell (HX1.out.cell d1)
          replace d2 := HX2.out.cell (HX1.out.cell d2)
          have l1 := lt_of_cell c1
          have l2 := lt_of_cell d1
          simp only at l1 l2
          have hs := take_sameT H5.out k hk1 HE.out
          have HSM := Lib.hid hs
          clear hs
          generalize lines[k] = x at *
          generalize lines'[k] = y at *
          obtain ⟨x0, x1⟩ := x
          obtain ⟨y0, y1⟩ := y
          simp only at c1 c2 d1 d2
          by_cases hxy : x0 = y0 ∧ x1 = y1
          · obtain ⟨rfl, rfl⟩ := hxy
            have HSM' := Lib.hid (HSM.out.2 rfl)
            go_upto_region 11 with fail
            refine wp_region_later (by kernel_rfl) (by kernel_rfl) ?_
            repeat (go_big_quiet_step (fail))
            refine wpQuiet_nil ?_
            intro w4 hw4
            obtain ⟨⟨w4, hx4⟩, rfl⟩ := hw4
            go_wp2
            go_roundw
            case rel => exact ⟨k + 1, by omega, by go_num, HSM'.out, HX2.out.trans hx4⟩
            case measure => simp [intOf]; omega
          have HNS := Lib.hid hxy
          cases h0 : (x0 == y0)
          · clear hxy
            go_upto_region 11 with fail
            refine wp_region_later (by kernel_rfl) (by kernel_rfl) ?_
            repeat (go_big_quiet_step (fail))
            refine wpQuiet_nil ?_
            intro w4 hw4
            obtain ⟨⟨w4, hx4⟩, rfl⟩ := hw4
            have e : r = false := by rw [← HR.out]; unfold sameB; exact decide_eq_false (fun h => HNS.out (by have hh : lines = lines' := h.2.2.2.2.2.2.2; have h' := HSM.out.1 (by rw [hh]); simpa using h'))
            subst e
            go_wp2
            go_ret
            exact ⟨rfl, HX1.out.trans (HX2.out.trans hx4)⟩
          · cases h1 : (x1 == y1)
            case true => exact absurd ⟨by simpa using h0, by simpa using h1⟩ hxy
            obtain rfl : x0 = y0 := by simpa using h0
            clear hxy
            go_upto_region 11 with fail
            refine wp_region_later (by kernel_rfl) (by kernel_rfl) ?_
            repeat (go_big_quiet_step (fail))
            refine wpQuiet_nil ?_
            intro w4 hw4
            obtain ⟨⟨w4, hx4⟩, rfl⟩ := hw4
            have e : r = false := by rw [← HR.out]; unfold sameB; exact decide_eq_false (fun h => HNS.out (by have hh : lines = lines' := h.2.2.2.2.2.2.2; have h' := HSM.out.1 (by rw [hh]); simpa using h'))
            subst e
            go_wp2
            go_ret
            exact ⟨rfl, HX1.out.trans (HX2.out.trans hx4)⟩
        · have HALL2 := Lib.hid (show lines = lines' by
            have := HE.out
            rwa [List.take_of_length_le (by rw [HLN.out]; omega), List.take_of_length_le (by rw [← H5.out, HLN.out]; omega)] at this)
          have e : r = true := by
            rw [← HR.out]
            unfold sameB
            exact decide_eq_true ⟨rfl, rfl, rfl, H4.out, H5.out, HNE.out, HALL.out, HALL2.out⟩
          subst e
          go_wp2
          go_ret
          exact ⟨rfl, HX1.out.trans HX2.out⟩
end Go.Proofs.YtlkbbcfbnbnagaaGreat
