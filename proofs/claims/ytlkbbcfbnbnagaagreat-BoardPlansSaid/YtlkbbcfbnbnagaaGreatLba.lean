/-
  The statements of chapter 1: alike, equal.
-/
import Derived.Test.YtlkbbcfbnbnagaaGreatBoB
import Derived.BigQuiet
namespace Go.Proofs.YtlkbbcfbnbnagaaGreat
open Go.RowKit Go.BigFrame
attribute [local go_sem] Later.cell Later.frozen
theorem take_same {xs ys : List Int} (h : xs.length = ys.length) (k : Nat) (hk : k < xs.length) (e : xs.take k = ys.take k) : xs.take (k + 1) = ys.take (k + 1) ↔ xs[k] = ys[k]'(h ▸ hk) := by
  have hk' : k < ys.length := h ▸ hk
  rw [List.take_succ_eq_append_getElem hk, List.take_succ_eq_append_getElem hk', e]
  simp only [List.append_cancel_left_eq, List.cons.injEq, and_true]
theorem law_alike (xs ys : List Int) (a b : Option Addr) (c d : Nat) (w : World) (hx : CellsAt w .i64 a xs) (hy : CellsAt w .i64 b ys) (hl : xs.length ≤ 1000000)  :
    Calls Tryz.prog 14 #[.slice a xs.length c, .slice b ys.length d] w fun e w' => e = .returned (.bool (decide (xs = ys))) ∧ Ext w w' := by
  have HX := Lib.hid hx
  have HY := Lib.hid hy
  obtain ⟨r, hr⟩ : ∃ r, decide (xs = ys) = r := ⟨_, rfl⟩
  have HR := Lib.hid hr
  rw [hr]
  clear hx hy hr
  by_cases hne : xs.length = ys.length
  case neg =>
    have e : r = false := by rw [← HR.out]; exact decide_eq_false (fun h => hne (by rw [h]))
    subst e
    have hne' : ((xs.length : Int) != (ys.length : Int)) = true := by simpa using fun h => hne (by omega)
    go_enter Tryz.func14, Tryz.ntmps14
    go_wp2
    go_ret
    exact ⟨rfl, Ext.refl w⟩
  have HN := Lib.hid hne
  obtain ⟨n, hn⟩ : ∃ n, xs.length = n := ⟨_, rfl⟩
  have HL := Lib.hid hn
  rw [← hne, hn]
  rw [hn] at hl
  clear hne hn
  go_enter Tryz.func14, Tryz.ntmps14
  go_wp2
  go_loopw [5] (fun i wr => ∃ k : Nat, k ≤ n ∧ i = .int .i64 k ∧ xs.take k = ys.take k ∧ Ext w wr) (fun i _ => n - (intOf i).toNat)
  case atStart => exact ⟨0, Nat.zero_le _, rfl, rfl, Ext.refl w⟩
  case round =>
    obtain ⟨k, hk, rfl, hE, hx1⟩ := hrel
    have HE := Lib.hid hE
    clear hE
    by_cases hlt : k < n
    · have hkx : k < xs.length := by rw [HL.out]; exact hlt
      have hky : k < ys.length := by rw [← HN.out]; exact hkx
      obtain ⟨b1, o1, rfl, c1⟩ := HX.out k hkx
      obtain ⟨b2, o2, rfl, c2⟩ := HY.out k hky
      replace c1 := hx1.cell c1
      replace c2 := hx1.cell c2
      have l1 := lt_of_cell c1
      have l2 := lt_of_cell c2
      simp only at l1 l2
      have hs := take_same HN.out k hkx HE.out
      have HS := Lib.hid hs
      clear hs
      generalize xs[k] = x at *
      generalize ys[k] = y at *
      go_upto_region 6 with fail
      refine wp_region_later (by kernel_rfl) (by kernel_rfl) ?_
      repeat (go_big_quiet_step (fail))
      refine wpQuiet_nil ?_
      intro w4 hw4
      obtain ⟨⟨w4, hx4⟩, rfl⟩ := hw4
      have hx5 := hx1.trans hx4
      cases hxy : (x != y)
      · have e : x = y := by simpa using hxy
        have HS' := Lib.hid (HS.out.2 e)
        subst e
        clear HS hkx hky
        go_wp2
        go_roundw
        case rel => exact ⟨k + 1, by omega, by go_num, HS'.out, hx5⟩
        case measure => simp [intOf]; omega
      · have e : r = false := by
          rw [← HR.out]
          refine decide_eq_false fun h => ?_
          have hz := HS.out.1 (by rw [h])
          rw [hz] at hxy
          simp at hxy
        subst e
        clear HS hkx hky
        go_wp2
        go_ret
        exact ⟨rfl, hx5⟩
    · have e : r = true := by
        rw [← HR.out]
        refine decide_eq_true ?_
        have := HE.out
        rwa [List.take_of_length_le (by rw [HL.out]; omega), List.take_of_length_le (by rw [← HN.out, HL.out]; omega)] at this
      subst e
      go_wp2
      go_ret
      exact ⟨rfl, hx1⟩
theorem law_equal (xs ys : List Int) (a b : Option Addr) (c d : Nat) (w : World) (hx : CellsAt w .i64 a xs) (hy : CellsAt w .i64 b ys) (hl : xs.length ≤ 1000000)  :
    Calls Tryz.prog 28 #[.slice a xs.length c, .slice b ys.length d] w fun e w' => e = .returned (.bool (decide (xs = ys))) ∧ Ext w w' := by
  have HX := Lib.hid hx
  have HY := Lib.hid hy
  obtain ⟨r, hr⟩ : ∃ r, decide (xs = ys) = r := ⟨_, rfl⟩
  have HR := Lib.hid hr
  rw [hr]
  clear hx hy hr
  by_cases hne : xs.length = ys.length
  case neg =>
    have e : r = false := by rw [← HR.out]; exact decide_eq_false (fun h => hne (by rw [h]))
    subst e
    have hne' : ((xs.length : Int) != (ys.length : Int)) = true := by simpa using fun h => hne (by omega)
    go_enter Tryz.func28, Tryz.ntmps28
    go_wp2
    go_ret
    exact ⟨rfl, Ext.refl w⟩
  have HN := Lib.hid hne
  obtain ⟨n, hn⟩ : ∃ n, xs.length = n := ⟨_, rfl⟩
  have HL := Lib.hid hn
  rw [← hne, hn]
  rw [hn] at hl
  clear hne hn
  go_enter Tryz.func28, Tryz.ntmps28
  go_wp2
  go_loopw [5] (fun i wr => ∃ k : Nat, k ≤ n ∧ i = .int .i64 k ∧ xs.take k = ys.take k ∧ Ext w wr) (fun i _ => n - (intOf i).toNat)
  case atStart => exact ⟨0, Nat.zero_le _, rfl, rfl, Ext.refl w⟩
  case round =>
    obtain ⟨k, hk, rfl, hE, hx1⟩ := hrel
    have HE := Lib.hid hE
    clear hE
    by_cases hlt : k < n
    · have hkx : k < xs.length := by rw [HL.out]; exact hlt
      have hky : k < ys.length := by rw [← HN.out]; exact hkx
      obtain ⟨b1, o1, rfl, c1⟩ := HX.out k hkx
      obtain ⟨b2, o2, rfl, c2⟩ := HY.out k hky
      replace c1 := hx1.cell c1
      replace c2 := hx1.cell c2
      have l1 := lt_of_cell c1
      have l2 := lt_of_cell c2
      simp only at l1 l2
      have hs := take_same HN.out k hkx HE.out
      have HS := Lib.hid hs
      clear hs
      generalize xs[k] = x at *
      generalize ys[k] = y at *
      go_upto_region 6 with fail
      refine wp_region_later (by kernel_rfl) (by kernel_rfl) ?_
      repeat (go_big_quiet_step (fail))
      refine wpQuiet_nil ?_
      intro w4 hw4
      obtain ⟨⟨w4, hx4⟩, rfl⟩ := hw4
      have hx5 := hx1.trans hx4
      cases hxy : (x != y)
      · have e : x = y := by simpa using hxy
        have HS' := Lib.hid (HS.out.2 e)
        subst e
        clear HS hkx hky
        go_wp2
        go_roundw
        case rel => exact ⟨k + 1, by omega, by go_num, HS'.out, hx5⟩
        case measure => simp [intOf]; omega
      · have e : r = false := by
          rw [← HR.out]
          refine decide_eq_false fun h => ?_
          have hz := HS.out.1 (by rw [h])
          rw [hz] at hxy
          simp at hxy
        subst e
        clear HS hkx hky
        go_wp2
        go_ret
        exact ⟨rfl, hx5⟩
    · have e : r = true := by
        rw [← HR.out]
        refine decide_eq_true ?_
        have := HE.out
        rwa [List.take_of_length_le (by rw [HL.out]; omega), List.take_of_length_le (by rw [← HN.out, HL.out]; omega)] at this
      subst e
      go_wp2
      go_ret
      exact ⟨rfl, hx1⟩
end Go.Proofs.YtlkbbcfbnbnagaaGreat
