/-
  The reference of chapter 1: lines, radii.
-/
import Derived.Test.YtlkbbcfbnbnagaaGreatRga
import Derived.Test.YtlkbbcfbnbnagaaGreatOwn
namespace Go.Proofs.YtlkbbcfbnbnagaaGreat
open Go.RowKit Go.BigFrame
attribute [local go_sem] Later.cell Later.frozen
theorem cnt_succ (q : Nat → Bool) (k : Nat) : cntTo q (k + 1) = cntTo q k + (if q k = true then 1 else 0) := rfl
theorem cnt_le (q : Nat → Bool) (k : Nat) : cntTo q k ≤ k := by
  induction k with
  | zero => exact Nat.le_refl 0
  | succ k ih => rw [cnt_succ]; split <;> omega
theorem badP_eq (p : Pt) : badP p = (!ptB p || (p.x == 0 && p.y == 0)) := rfl
theorem ptAt_eq (l : List Pt) {i : Nat} (h : i < l.length) : ptAt l i = l[i] := by
  show List.getD _ _ _ = _
  rw [List.getD_eq_getElem?_getD, List.getElem?_eq_getElem h]; rfl
set_option maxHeartbeats 4000000 in
theorem ref_lines (l : List Pt) (a : Option Addr) (c : Nat) (w : World) (h : PtsAt w a l) (hl : l.length ≤ 1000000) :
    Calls Tryz.prog 35 #[.slice a l.length c] w fun e w' => e = .returned (.bool (linesR l)) ∧ Ext w w' := by
  have HP := Lib.hid h
  have HPT := Lib.hid ref_point
  obtain ⟨g, hg⟩ : ∃ g, linesR l = g := ⟨_, rfl⟩
  have HG := Lib.hid hg
  rw [hg]
  unfold linesR at HG
  clear h hg
  go_enter Tryz.func35, Tryz.ntmps35
  by_cases h3 : 3 ≤ l.length
  case neg =>
    obtain rfl : g = false := by rw [← HG.out, decide_eq_false h3, Bool.false_and]
    have h3' : (l.length : Int) < 3 := by omega
    go_wp2_with fail
    go_ret
    exact ⟨rfl, Ext.refl w⟩
  have HG1 : Hid ((!l.any badP && ((List.range l.length).all (linkR l) && decide (cntTo (inR l (ptAt l 0)) l.length = 1))) = g) := Lib.hid (by rw [← HG.out, decide_eq_true h3, Bool.true_and])
  have h3' : ¬ ((l.length : Int) < 3) := by omega
  clear HG
  go_wp2_with fail
  go_loopw [5] (fun i wr => ∃ k : Nat, k ≤ l.length ∧ i = .int .i64 k ∧ (l.take k).any badP = false ∧ Ext w wr) (fun i _ => l.length - (intOf i).toNat)
  case atStart => exact ⟨0, Nat.zero_le _, rfl, rfl, Ext.refl w⟩
  case round =>
    obtain ⟨k, hk, rfl, hno, hx⟩ := hrel
    have HNO := Lib.hid hno
    have HX := Lib.hid hx
    have hP := HP.out.ext hx
    clear hno hx
    by_cases hlt : k < l.length
    · obtain ⟨b, o, e, x0, x1⟩ := hP k hlt
      have xl := lt_of_cell x0
      simp only at xl
      subst e
      have HT := Lib.hid (any_take badP l hlt HNO.out)
      have HH := Lib.hid (any_hit badP l hlt)
      obtain ⟨⟨px, py⟩, hp⟩ : ∃ p, l[k] = p := ⟨_, rfl⟩
      rw [hp] at x0 x1 HT HH
      rw [badP_eq] at HT HH
      have HPP := Lib.hid (HPT.out ⟨px, py⟩ wr)
      unfold Pt.agg at HPP
      simp only at x0 x1
      simp only [] at HT HH HPP
      generalize ptB ⟨px, py⟩ = q at *
      clear hP hp
      go_wp2_with fail
      refine HPP.out.mono ?_
      rintro e w5 ⟨rfl, hx5⟩
      have HX5 := Lib.hid (HX.out.trans hx5)
      replace x0 := hx5.cell x0
      replace x1 := hx5.cell x1
      have xl := lt_of_cell x0
      simp only at xl
      clear hx5
      have hbad : ∀ r : Bool, (!q || (px == 0 && py == 0)) = r → r = true → g = false := fun r h1 h2 => by
        rw [← HG1.out, HH.out (by rw [← h2, ← h1])]; rfl
      have HBD := Lib.hid hbad
      clear hbad
      cases q
      case false =>
        obtain rfl := HBD.out true rfl rfl
        go_wp2_with fail
        go_ret
        exact ⟨rfl, HX5.out⟩
      case true =>
      cases hq1 : (px == 0)
      case false =>
        have HT2 : Hid ((l.take (k + 1)).any badP = false) := Lib.hid (by rw [HT.out]; simp only [hq1]; rfl)
        go_wp2_with fail
        go_roundw
        case rel => exact ⟨k + 1, by omega, by go_num, HT2.out, HX5.out⟩
        case measure => simp [intOf]; omega
      case true =>
      cases hq2 : (py == 0)
      case false =>
        have HT2 : Hid ((l.take (k + 1)).any badP = false) := Lib.hid (by rw [HT.out]; simp only [hq1, hq2]; rfl)
        go_wp2_with fail
        go_roundw
        case rel => exact ⟨k + 1, by omega, by go_num, HT2.out, HX5.out⟩
        case measure => simp [intOf]; omega
      case true =>
        obtain rfl := HBD.out true (by simp only [hq1, hq2]; rfl) rfl
        go_wp2_with fail
        go_ret
        exact ⟨rfl, HX5.out⟩
    · obtain rfl : k = l.length := by omega
      have hnb := HNO.out
      rw [List.take_of_length_le (Nat.le_refl _)] at hnb
      have HNB := Lib.hid hnb
      have HG2 : Hid (((List.range l.length).all (linkR l) && decide (cntTo (inR l (ptAt l 0)) l.length = 1)) = g) := Lib.hid (by rw [← HG1.out, HNB.out]; rfl)
      have HOK : Hid (∀ i, i < l.length → (ptAt l i).ok) := Lib.hid (fun i hi => by
        have h1 := List.any_eq_false.1 HNB.out (ptAt l i) (by rw [ptAt_eq l hi]; exact List.getElem_mem hi)
        exact ok_of_bad (by simpa using h1))
      obtain ⟨W, hW⟩ : ∃ x, wr = x := ⟨_, rfl⟩
      rw [hW] at HX hP ⊢
      have HPW := Lib.hid hP
      clear hP hW hnb
      go_wp2_with fail
      go_loopw [4, 6] (fun s i wr => ∃ k : Nat, k ≤ l.length ∧ i = .int .i64 k ∧ s = .int .i64 (cntTo (inR l (ptAt l 0)) k) ∧ (∀ j, j < k → linkR l j = true) ∧ Ext W wr) (fun _ i _ => l.length - (intOf i).toNat)
      case atStart => exact ⟨0, Nat.zero_le _, rfl, rfl, fun j h => absurd h (Nat.not_lt_zero j), Ext.refl W⟩
      case round =>
        obtain ⟨k, hk, rfl, rfl, hln, hx⟩ := hrel
        have HLN := Lib.hid hln
        have HXr := Lib.hid hx
        clear hln hx
        by_cases hlt : k < l.length
        · obtain ⟨q, hq⟩ : ∃ q : Nat, (k + 1) % l.length = q := ⟨_, rfl⟩
          have hql : q < l.length := by rw [← hq]; exact Nat.mod_lt _ (by omega)
          have hqm : ((k : Int) + 1).tmod (l.length : Int) = (q : Int) := by
            rw [show ((k : Int) + 1) = ((k + 1 : Nat) : Int) by omega, ← hq]; rfl
          have hlz : ¬ ((l.length : Int) = 0) := by omega
          have hP := HPW.out.ext HXr.out
          obtain ⟨b, o, e, x0, x1⟩ := hP k hlt
          obtain ⟨_, _, e', y0, y1⟩ := hP q hql
          obtain ⟨_, _, e'', z0, z1⟩ := hP 0 (by omega)
          subst e
          cases e'
          cases e''
          have hk1 := HOK.out k hlt
          have hq1 := HOK.out q hql
          have h01 := HOK.out 0 (by omega)
          rw [ptAt_eq l hlt] at hk1
          rw [ptAt_eq l hql] at hq1
          rw [ptAt_eq l (by omega : 0 < l.length)] at h01
          have HLK : Hid (linkR l k = decide (crossP l[k] l[q] < 0)) := Lib.hid (by unfold linkR; rw [hq, ptAt_eq l hlt, ptAt_eq l hql])
          have HIN : Hid (inR l (ptAt l 0) k = btwP l[k] l[q] l[0]) := Lib.hid (by unfold inR; rw [hq, ptAt_eq l hlt, ptAt_eq l hql, ptAt_eq l (by omega : 0 < l.length)])
          have HCS := Lib.hid (cnt_succ (inR l (ptAt l 0)) k)
          have hcl := cnt_le (inR l (ptAt l 0)) k
          have HC := Lib.hid (fun W => ref_cross l[k] l[q] W hk1 hq1)
          have HB := Lib.hid (fun W => ref_between l[k] l[q] l[0] W hk1 hq1 h01)
          generalize l[k] = pk at *
          generalize l[q] = pq at *
          generalize l[0] = p0 at *
          generalize crossP pk pq = cr at *
          generalize btwP pk pq p0 = bt at *
          generalize cntTo (inR l (ptAt l 0)) k = cn at *
          obtain ⟨kx, ky⟩ := pk
          obtain ⟨qx, qy⟩ := pq
          obtain ⟨zx, zy⟩ := p0
          unfold Pt.agg at HC HB
          simp only [Nat.zero_mul, Nat.add_zero] at x0 x1 y0 y1 z0 z1
          have xl := lt_of_cell x0
          simp only at xl
          clear hP hq hk1 hq1 h01
          go_upto_region 13 with fail
          obtain ⟨w6, hw6⟩ : ∃ y, y = wr.alloc (.cells #[.int .i64 qx, .int .i64 qy] 60) := ⟨_, rfl⟩
          rw [← hw6]
          have hx6 : Ext wr w6 := by rw [hw6]; exact (Ext.refl wr).alloc _
          have HB6 : Hid (Blk w6 wr.heap.size #[.int .i64 qx, .int .i64 qy]) := Lib.hid (by rw [hw6]; exact Blk.new _ _ _)
          have HX6 := Lib.hid (HXr.out.trans hx6)
          replace x0 := hx6.cell x0
          replace x1 := hx6.cell x1
          replace z0 := hx6.cell z0
          replace z1 := hx6.cell z1
          have xl := lt_of_cell x0
          simp only at xl
          have n0 := HB6.out.cell 0 (v := .int .i64 qx) rfl
          have n1 := HB6.out.cell 1 (v := .int .i64 qy) rfl
          have nl := HB6.out.lt
          generalize wr.heap.size = kn at *
          clear hw6 hx6 y0 y1
          refine wp_region_later (by kernel_rfl) (by kernel_rfl) ?_
          repeat (go_big_quiet_step (refine Calls.later (HC.out _)))
          refine wpQuiet_nil ?_
          intro w7 hw7
          obtain ⟨⟨w7, hx7⟩, rfl⟩ := hw7
          have HX7 := Lib.hid (HX6.out.trans hx7)
          replace x0 := hx7.cell x0
          replace x1 := hx7.cell x1
          replace z0 := hx7.cell z0
          replace z1 := hx7.cell z1
          replace n0 := hx7.cell n0
          replace n1 := hx7.cell n1
          have xl := lt_of_cell x0
          have nl := lt_of_cell n0
          simp only at xl nl
          clear hx7
          cases hd : decide (0 ≤ cr)
          case true =>
            obtain rfl : g = false := by
              rw [← HG2.out]
              have h1 : linkR l k = false := by rw [HLK.out]; exact decide_eq_false (by have := of_decide_eq_true hd; omega)
              have h2 : (List.range l.length).all (linkR l) = false := List.all_eq_false.2 ⟨k, List.mem_range.2 hlt, by simp [h1]⟩
              rw [h2, Bool.false_and]
            go_wp2
            go_ret
            exact ⟨rfl, HX.out.trans HX7.out⟩
          case false =>
            have HL1 : Hid (∀ j, j < k + 1 → linkR l j = true) := Lib.hid (fun j hj => by
              rcases Nat.lt_or_ge j k with h | h
              · exact HLN.out j h
              · obtain rfl : j = k := by omega
                rw [HLK.out]
                exact decide_eq_true (by have := of_decide_eq_false hd; omega))
            go_upto_region 15 with fail
            refine wp_region_later (by kernel_rfl) (by kernel_rfl) ?_
            repeat (go_big_quiet_step (refine Calls.later (HB.out _)))
            refine wpQuiet_nil ?_
            intro w8 hw8
            obtain ⟨⟨w8, hx8⟩, rfl⟩ := hw8
            have HX8 := Lib.hid (HX7.out.trans hx8)
            clear hx8
            rw [HIN.out] at HCS
            cases bt
            case false =>
              rw [if_neg (by simp)] at HCS
              go_wp2
              go_roundw
              case rel => exact ⟨k + 1, by omega, by go_num, by rw [HCS.out]; rfl, HL1.out, HX8.out⟩
              case measure => simp [intOf]; omega
            case true =>
              rw [if_pos rfl] at HCS
              go_wp2
              go_roundw
              case rel => exact ⟨k + 1, by omega, by go_num, by rw [HCS.out]; go_num, HL1.out, HX8.out⟩
              case measure => simp [intOf]; omega
        · obtain rfl : k = l.length := by omega
          have HG3 : Hid (decide (((cntTo (inR l (ptAt l 0)) l.length : Nat) : Int) = 1) = g) := Lib.hid (by
            rw [← HG2.out]
            have h2 : (List.range l.length).all (linkR l) = true := List.all_eq_true.2 (fun j hj => HLN.out j (List.mem_range.1 hj))
            rw [h2, Bool.true_and]
            exact decide_eq_decide.2 (by omega))
          generalize cntTo (inR l (ptAt l 0)) l.length = cn at *
          have HXe := Lib.hid (HX.out.trans HXr.out)
          have hg : (((cn : Nat) : Int) == 1) = g := HG3.out
          cases g
          all_goals
            go_wp2
            go_ret
            exact ⟨rfl, HXe.out⟩
end Go.Proofs.YtlkbbcfbnbnagaaGreat
