/-
  The reference of chapter 6: Ints, Same.
-/
import Derived.Test.YtmopadnkjlodnaaRhc
import Derived.Test.YtmopadnkjlodnaaMtd
namespace Go.Proofs.Ytmopadnkjlodnaa
open Go.RowKit Go.BigFrame
attribute [local go_sem] Later.cell Later.frozen
theorem take_same {xs ys : List Int} (h : xs.length = ys.length) (k : Nat) (hk : k < xs.length) (e : xs.take k = ys.take k) : xs.take (k + 1) = ys.take (k + 1) ↔ xs[k] = ys[k]'(h ▸ hk) := by
  have hk' : k < ys.length := h ▸ hk
  rw [List.take_succ_eq_append_getElem hk, List.take_succ_eq_append_getElem hk', e]
  simp only [List.append_cancel_left_eq, List.cons.injEq, and_true]
theorem ref_Ints (xs ys : List Int) (a b : Option Addr) (c d : Nat) (w : World) (hx : CellsAt w .i64 a xs) (hy : CellsAt w .i64 b ys) (hl : xs.length ≤ 1000000)  :
    Calls Try.prog 52 #[.slice a xs.length c, .slice b ys.length d] w fun e w' => e = .returned (.bool (decide (xs = ys))) ∧ Ext w w' := by
  have HX := Lib.hid hx
  have HY := Lib.hid hy
  obtain ⟨r, hr⟩ : ∃ r, decide (xs = ys) = r := ⟨_, rfl⟩
  have HR := Lib.hid hr
  rw [hr]
  clear hx hy hr
  by_cases hne : xs.length = ys.length
  case neg =>
    have e : r = false := by rw [← HR.out]; exact decide_eq_false (fun h => hne (by rw [h]))
    subst e
    have hne' : ((xs.length : Int) != (ys.length : Int)) = true := by simpa using fun h => hne (by omega)
    go_enter Try.func52, Try.ntmps52
    go_wp2
    go_ret
    exact ⟨rfl, Ext.refl w⟩
  have HN := Lib.hid hne
  obtain ⟨n, hn⟩ : ∃ n, xs.length = n := ⟨_, rfl⟩
  have HL := Lib.hid hn
  rw [← hne, hn]
  rw [hn] at hl
  clear hne hn
  go_enter Try.func52, Try.ntmps52
  go_wp2
  go_loopw [5] (fun i wr => ∃ k : Nat, k ≤ n ∧ i = .int .i64 k ∧ xs.take k = ys.take k ∧ Ext w wr) (fun i _ => n - (intOf i).toNat)
  case atStart => exact ⟨0, Nat.zero_le _, rfl, rfl, Ext.refl w⟩
  case round =>
    obtain ⟨k, hk, rfl, hE, hx1⟩ := hrel
    have HE := Lib.hid hE
    clear hE
    by_cases hlt : k < n
    · have hkx : k < xs.length := by rw [HL.out]; exact hlt
      have hky : k < ys.length := by rw [← HN.out]; exact hkx
      obtain ⟨b1, o1, rfl, c1⟩ := HX.out k hkx
      obtain ⟨b2, o2, rfl, c2⟩ := HY.out k hky
      replace c1 := hx1.cell c1
      replace c2 := hx1.cell c2
      have l1 := lt_of_cell c1
      have l2 := lt_of_cell c2
      simp only at l1 l2
      have hs := take_same HN.out k hkx HE.out
      have HS := Lib.hid hs
      clear hs
      generalize xs[k] = x at *
      generalize ys[k] = y at *
      go_upto_region 6 with fail
      refine wp_region_later (by kernel_rfl) (by kernel_rfl) ?_
      repeat (go_big_quiet_step (fail))
      refine wpQuiet_nil ?_
      intro w4 hw4
      obtain ⟨⟨w4, hx4⟩, rfl⟩ := hw4
      have hx5 := hx1.trans hx4
      cases hxy : (x != y)
      · have e : x = y := by simpa using hxy
        have HS' := Lib.hid (HS.out.2 e)
        subst e
        clear HS hkx hky
        go_wp2
        go_roundw
        case rel => exact ⟨k + 1, by omega, by go_num, HS'.out, hx5⟩
        case measure => simp [intOf]; omega
      · have e : r = false := by
          rw [← HR.out]
          refine decide_eq_false fun h => ?_
          have hz := HS.out.1 (by rw [h])
          rw [hz] at hxy
          simp at hxy
        subst e
        clear HS hkx hky
        go_wp2
        go_ret
        exact ⟨rfl, hx5⟩
    · have e : r = true := by
        rw [← HR.out]
        refine decide_eq_true ?_
        have := HE.out
        rwa [List.take_of_length_le (by rw [HL.out]; omega), List.take_of_length_le (by rw [← HN.out, HL.out]; omega)] at this
      subst e
      go_wp2
      go_ret
      exact ⟨rfl, hx1⟩
theorem take_same' {xs ys : List (List Int)} (h : xs.length = ys.length) (k : Nat) (hk : k < xs.length) (e : xs.take k = ys.take k) : xs.take (k + 1) = ys.take (k + 1) ↔ xs[k] = ys[k]'(h ▸ hk) := by
  have hk' : k < ys.length := h ▸ hk
  rw [List.take_succ_eq_append_getElem hk, List.take_succ_eq_append_getElem hk', e]
  simp only [List.append_cancel_left_eq, List.cons.injEq, and_true]
set_option maxHeartbeats 2000000 in
theorem ref_Same (xs ys : List (List Int)) (a b : Option Addr) (c d : Nat) (w : World) (hx : VssAt w a xs) (hy : VssAt w b ys) (hl : xs.length ≤ 1000000) :
    Calls Try.prog 24 #[.slice a xs.length c, .slice b ys.length d] w fun e w' => e = .returned (.bool (decide (xs = ys))) ∧ Ext w w' := by
  have HX := Lib.hid hx
  have HY := Lib.hid hy
  obtain ⟨r, hr⟩ : ∃ r, decide (xs = ys) = r := ⟨_, rfl⟩
  have HR := Lib.hid hr
  rw [hr]
  clear hx hy hr
  by_cases hne : xs.length = ys.length
  case neg =>
    have e : r = false := by rw [← HR.out]; exact decide_eq_false (fun h => hne (by rw [h]))
    subst e
    have hne' : ((xs.length : Int) != (ys.length : Int)) = true := by simpa using fun h => hne (by omega)
    go_enter Try.func24, Try.ntmps24
    go_wp2
    go_ret
    exact ⟨rfl, Ext.refl w⟩
  have HN := Lib.hid hne
  obtain ⟨n, hn⟩ : ∃ n, xs.length = n := ⟨_, rfl⟩
  have HL := Lib.hid hn
  rw [← hne, hn]
  rw [hn] at hl
  clear hne hn
  go_enter Try.func24, Try.ntmps24
  go_wp2
  go_loopw [5, 6] (fun i _ wr => ∃ k : Nat, k ≤ n ∧ i = .int .i64 k ∧ xs.take k = ys.take k ∧ Ext w wr) (fun i _ _ => n - (intOf i).toNat)
  case atStart => exact ⟨0, Nat.zero_le _, rfl, rfl, Ext.refl w⟩
  case round =>
    obtain ⟨k, hk, rfl, hE, hx1⟩ := hrel
    have HE := Lib.hid hE
    have HX1 := Lib.hid hx1
    clear hE hx1
    obtain ⟨w0, rfl⟩ : ∃ x, x = wr := ⟨_, rfl⟩
    by_cases hlt : k < n
    · have hkx : k < xs.length := by rw [HL.out]; exact hlt
      have hky : k < ys.length := by rw [← HN.out]; exact hkx
      obtain ⟨b1, o1, a1, q1, rfl, c1, x1, -, -, m1⟩ := HX.out k hkx
      obtain ⟨b2, o2, a2, q2, rfl, c2, x2, -, -, m2⟩ := HY.out k hky
      have hs := take_same' HN.out k hkx HE.out
      have HS := Lib.hid hs
      clear hs
      generalize xs[k] = x at *
      generalize ys[k] = y at *
      have C1 := Lib.hid (HX1.out.cell c1)
      have C2 := Lib.hid (HX1.out.cell c2)
      have XI1 := Lib.hid (x1.ext HX1.out)
      have XI2 := Lib.hid (x2.ext HX1.out)
      have M1 := Lib.hid m1
      clear c1 c2 x1 x2 m1 m2
      have c1 : ∀ z : Later w0, z.world.cell? ⟨b1, o1 + k, none⟩ = some (.slice a1 x.length q1) := fun z => z.ext.cell C1.out
      have c2 : ∀ z : Later w0, z.world.cell? ⟨b2, o2 + k, none⟩ = some (.slice a2 y.length q2) := fun z => z.ext.cell C2.out
      have l1 := lt_of_cell C1.out
      have l2 := lt_of_cell C2.out
      simp only at l1 l2
      by_cases hxy : x.length = y.length
      case neg =>
        have e : r = false := by
          rw [← HR.out]
          refine decide_eq_false fun h => hxy ?_
          rw [HS.out.1 (by rw [h])]
        subst e
        have hne' : ((x.length : Int) != (y.length : Int)) = true := by simpa using fun h => hxy (by omega)
        clear HS hkx hky hxy
        go_upto_region 6 with fail
        refine wp_region_later (by kernel_rfl) (by kernel_rfl) ?_
        repeat (go_big_quiet_step (fail))
        refine wpQuiet_nil ?_
        intro w4 hw4
        obtain ⟨⟨w4, hx4⟩, rfl⟩ := hw4
        have hx5 := HX1.out.trans hx4
        go_wp2
        go_ret
        exact ⟨rfl, hx5⟩
      have HXY := Lib.hid hxy
      obtain ⟨m, hm⟩ : ∃ m, x.length = m := ⟨_, rfl⟩
      have HM := Lib.hid hm
      have hm2 : y.length = m := by rw [← hxy, hm]
      rw [hm] at c1
      rw [hm2] at c2
      have C1' : Hid (w0.cell? ⟨b1, o1 + k, none⟩ = some (.slice a1 m q1)) := Lib.hid (by rw [C1.out, hm])
      have C2' : Hid (w0.cell? ⟨b2, o2 + k, none⟩ = some (.slice a2 m q2)) := Lib.hid (by rw [C2.out, hm2])
      have HM2 := Lib.hid hm2
      have hml : m ≤ 1000 := by rw [← hm]; exact M1.out
      have HML := Lib.hid hml
      clear hxy hm hm2 hml C1 C2
      go_upto_region 6 with fail
      refine wp_region_later (by kernel_rfl) (by kernel_rfl) ?_
      repeat (go_big_quiet_step (fail))
      refine wpQuiet_nil ?_
      intro w4 hw4
      obtain ⟨⟨w4, hx4⟩, rfl⟩ := hw4
      have HX4 := Lib.hid hx4
      have D1 := Lib.hid (hx4.cell C1'.out)
      have D2 := Lib.hid (hx4.cell C2'.out)
      clear hx4 c1 c2 l1 l2
      go_wp2
      go_loopw [6] (fun i wq => ∃ j : Nat, j ≤ m ∧ i = .int .i64 j ∧ x.take j = y.take j ∧ Ext w4 wq) (fun i _ => m - (intOf i).toNat)
      case atStart => exact ⟨0, Nat.zero_le _, rfl, rfl, Ext.refl w4⟩
      case round =>
        obtain ⟨j, hj, rfl, hF, hx6⟩ := hrel
        have HF := Lib.hid hF
        have HX6 := Lib.hid hx6
        have E1 := Lib.hid (hx6.cell D1.out)
        have E2 := Lib.hid (hx6.cell D2.out)
        have c1 := E1.out
        have l1 := lt_of_cell E1.out
        simp only at l1
        clear hF hx6
        by_cases hjt : j < m
        · have hjx : j < x.length := by rw [HM.out]; exact hjt
          have hjy : j < y.length := by rw [← HXY.out]; exact hjx
          obtain ⟨b3, o3, rfl, d1⟩ := XI1.out j hjx
          obtain ⟨b4, o4, rfl, d2⟩ := XI2.out j hjy
          have hs := take_same HXY.out j hjx HF.out
          have HS2 := Lib.hid hs
          clear hs
          have HX06 := Lib.hid (HX4.out.trans HX6.out)
          generalize x[j] = p at *
          generalize y[j] = q at *
          have F1 := Lib.hid (HX06.out.cell d1)
          have F2 := Lib.hid (HX06.out.cell d2)
          have e1 : ∀ z : Later wr, z.world.cell? ⟨b1, o1 + k, none⟩ = some (.slice (some ⟨b3, o3, none⟩) m q1) := fun z => z.ext.cell E1.out
          have e2 : ∀ z : Later wr, z.world.cell? ⟨b2, o2 + k, none⟩ = some (.slice (some ⟨b4, o4, none⟩) m q2) := fun z => z.ext.cell E2.out
          have f1 : ∀ z : Later wr, z.world.cell? ⟨b3, o3 + j, none⟩ = some (.int .i64 p) := fun z => z.ext.cell F1.out
          have f2 : ∀ z : Later wr, z.world.cell? ⟨b4, o4 + j, none⟩ = some (.int .i64 q) := fun z => z.ext.cell F2.out
          have l2 := lt_of_cell E2.out
          have l3 := lt_of_cell F1.out
          have l4 := lt_of_cell F2.out
          simp only at l2 l3 l4
          clear d1 d2
          go_upto_region 11 with fail
          refine wp_region_later (by kernel_rfl) (by kernel_rfl) ?_
          repeat (go_big_quiet_step (fail))
          refine wpQuiet_nil ?_
          intro w7 hw7
          obtain ⟨⟨w7, hx7⟩, rfl⟩ := hw7
          have HX7 := Lib.hid (HX6.out.trans hx7)
          clear hx7 e1 e2 f1 f2
          cases hpq : (p != q)
          · have e : p = q := by simpa using hpq
            have HS' := Lib.hid (HS2.out.2 e)
            clear HS2 hjx hjy c1
            have hml := HML.out
            go_wp2
            go_roundw
            case rel => exact ⟨j + 1, by omega, by go_num, HS'.out, HX7.out⟩
            case measure => simp [intOf]; omega
          · have e : r = false := by
              rw [← HR.out]
              refine decide_eq_false fun h => ?_
              have hz := HS.out.1 (by rw [h])
              have hv := HS2.out.1 (by rw [hz])
              rw [hv] at hpq
              simp at hpq
            subst e
            clear HS2 hjx hjy c1
            go_wp2
            go_ret
            exact ⟨rfl, (HX1.out.trans HX4.out).trans HX7.out⟩
        · have hxy2 : x = y := by
            have := HF.out
            rwa [List.take_of_length_le (by rw [HM.out]; omega), List.take_of_length_le (by rw [HM2.out]; omega)] at this
          have HS' := Lib.hid (HS.out.2 hxy2)
          go_wp2
          go_roundw
          case rel => exact ⟨k + 1, by omega, by go_num, HS'.out, (HX1.out.trans HX4.out).trans HX6.out⟩
          case measure => simp [intOf]; omega
    · have e : r = true := by
        rw [← HR.out]
        refine decide_eq_true ?_
        have := HE.out
        rwa [List.take_of_length_le (by rw [HL.out]; omega), List.take_of_length_le (by rw [← HN.out, HL.out]; omega)] at this
      subst e
      go_wp2
      go_ret
      exact ⟨rfl, HX1.out⟩
end Go.Proofs.Ytmopadnkjlodnaa
