/-
  The reference of chapter 6: smaller.
-/
import Derived.Test.YtmopadnkjlodnaaPsh
import Derived.Test.YtmopadnkjlodnaaRhd
namespace Go.Proofs.Ytmopadnkjlodnaa
open Go.RowKit Go.BigFrame
attribute [local go_sem] Later.cell Later.frozen
theorem smlB_end {xs ys : List Int} {k : Nat} (e : xs.take k = ys.take k) (_hx : k ≤ xs.length) (_hy : k ≤ ys.length) (h : k = xs.length ∨ k = ys.length) : smlB xs ys = false := by
  rw [← List.take_append_drop k xs, ← List.take_append_drop k ys, e, smlB_pre]
  rcases h with h | h
  · rw [List.drop_of_length_le (l := xs) (by omega)]; rfl
  · rw [List.drop_of_length_le (l := ys) (by omega)]; cases List.drop k xs <;> rfl
theorem smlB_at {xs ys : List Int} {k : Nat} (e : xs.take k = ys.take k) (hx : k < xs.length) (hy : k < ys.length) (h : xs[k] ≠ ys[k]) : smlB xs ys = decide (xs[k] < ys[k]) := by
  have h1 : smlB xs ys = smlB (xs.take k ++ xs.drop k) (ys.take k ++ ys.drop k) := by rw [List.take_append_drop, List.take_append_drop]
  rw [h1, e, smlB_pre, List.drop_eq_getElem_cons hx, List.drop_eq_getElem_cons hy]
  show (if xs[k] = ys[k] then _ else decide (xs[k] < ys[k])) = _
  rw [if_neg h]
set_option maxRecDepth 100000 in
set_option maxHeartbeats 2000000 in
theorem ref_smaller (xs ys : List Int) (a b : Option Addr) (c d : Nat) (w : World) (hx : CellsAt w .i64 a xs) (hy : CellsAt w .i64 b ys) (hl : xs.length ≤ 1000000) (_hl2 : ys.length ≤ 1000000) :
    Calls Try.prog 60 #[.slice a xs.length c, .slice b ys.length d] w fun e w' => e = .returned (.bool (smlB xs ys)) ∧ Ext w w' := by
  have HX := Lib.hid hx
  have HY := Lib.hid hy
  obtain ⟨r, hr⟩ : ∃ r, smlB xs ys = r := ⟨_, rfl⟩
  have HR := Lib.hid hr
  rw [hr]
  clear hx hy hr
  go_enter Try.func60, Try.ntmps60
  go_wp2
  go_loopw [5] (fun i wr => ∃ k : Nat, k ≤ xs.length ∧ k ≤ ys.length ∧ i = .int .i64 k ∧ xs.take k = ys.take k ∧ Ext w wr) (fun i _ => xs.length - (intOf i).toNat)
  case atStart => exact ⟨0, Nat.zero_le _, Nat.zero_le _, rfl, rfl, Ext.refl w⟩
  case round =>
    obtain ⟨k, hk, hk2, rfl, hE, hx1⟩ := hrel
    have HE := Lib.hid hE
    clear hE
    by_cases hlt : k < xs.length
    · by_cases hlt2 : k < ys.length
      · obtain ⟨b1, o1, rfl, c1⟩ := HX.out k hlt
        obtain ⟨b2, o2, rfl, c2⟩ := HY.out k hlt2
        replace c1 := hx1.cell c1
        replace c2 := hx1.cell c2
        have l1 := lt_of_cell c1
        have l2 := lt_of_cell c2
        simp only at l1 l2
        have HS := Lib.hid (smlB_at HE.out hlt hlt2)
        have HT : Hid (xs[k] = ys[k] → xs.take (k + 1) = ys.take (k + 1)) := Lib.hid (fun h => by rw [List.take_succ_eq_append_getElem hlt, List.take_succ_eq_append_getElem hlt2, HE.out, h])
        obtain ⟨x, hxk⟩ : ∃ x, xs[k] = x := ⟨_, rfl⟩
        obtain ⟨y, hyk⟩ : ∃ y, ys[k] = y := ⟨_, rfl⟩
        rw [hxk, hyk] at HS HT
        rw [hxk] at c1
        rw [hyk] at c2
        clear hxk hyk
        go_upto_region 4 with fail
        refine wp_region_later (by kernel_rfl) (by kernel_rfl) ?_
        repeat (go_big_quiet_step (fail))
        refine wpQuiet_nil ?_
        intro w4 hw4
        obtain ⟨⟨w4, hx4⟩, rfl⟩ := hw4
        have hx5 := hx1.trans hx4
        have HX5 := Lib.hid hx5
        replace c1 := hx4.cell c1
        replace c2 := hx4.cell c2
        replace l1 := Nat.lt_of_lt_of_le l1 hx4.size
        replace l2 := Nat.lt_of_lt_of_le l2 hx4.size
        clear hx4 hx5 hx1
        cases hxy : (x != y)
        · have e : x = y := by simpa using hxy
          have HT' := Lib.hid (HT.out e)
          subst e
          clear HS HT hxy
          go_wp2
          go_roundw
          case rel => exact ⟨k + 1, by omega, by omega, by go_num, HT'.out, HX5.out⟩
          case measure => simp [intOf]; omega
        · have hne : x ≠ y := by simpa using hxy
          obtain rfl : decide (x < y) = r := by rw [← HR.out, HS.out hne]
          clear HS HT
          go_upto_region 5 with fail
          refine wp_region_later (by kernel_rfl) (by kernel_rfl) ?_
          repeat (go_big_quiet_step (fail))
          refine wpQuiet_nil ?_
          intro w6 hw6
          obtain ⟨⟨w6, hx6⟩, rfl⟩ := hw6
          have HX6 := Lib.hid (HX5.out.trans hx6)
          clear hx6
          go_wp2
          go_ret
          exact ⟨rfl, HX6.out⟩
      · obtain rfl : r = false := by rw [← HR.out]; exact smlB_end HE.out hk hk2 (.inr (by omega))
        have h2 : ¬ (k : Int) < (ys.length : Int) := by omega
        go_wp2
        go_ret
        exact ⟨rfl, hx1⟩
    · obtain rfl : r = false := by rw [← HR.out]; exact smlB_end HE.out hk hk2 (.inl (by omega))
      go_wp2
      go_ret
      exact ⟨rfl, hx1⟩
end Go.Proofs.Ytmopadnkjlodnaa
