/-
  The statements of chapter 1: wear that is looked at, its first week, copies of weeks.
-/
import Derived.Test.YtlkbbcfbnbnagaaGreatRwc
import Derived.Test.YtlkbbcfbnbnagaaGreatRex
namespace Go.Proofs.YtlkbbcfbnbnagaaGreat
open Go.RowKit Go.BigFrame
attribute [local go_sem] Later.cell Later.frozen
/-- Wear, weeks, a turn and a limit. -/
structure Wre where
  worn : List Int
  wks : List (List Int)
  turn : Int
  lim : Int
def bigW (x : Wre) : Bool := decide (25 < x.worn.length) || (decide (4 < x.wks.length) || x.wks.any fun l => decide (25 < l.length))
theorem big_not {x : Wre} (h : bigW x = false) : x.worn.length ≤ 25 ∧ x.wks.length ≤ 4 ∧ ∀ wk ∈ x.wks, wk.length ≤ 25 := by
  unfold bigW at h
  simp only [Bool.or_eq_false_iff, decide_eq_false_iff_not, List.any_eq_false, decide_eq_true_eq] at h
  exact ⟨by omega, by omega, fun wk hw => by have := h.2.2 wk hw; omega⟩
set_option maxHeartbeats 2000000 in
theorem law_big (x : Wre) (wa ka : Option Addr) (wc kc : Nat) (w : World) (hk : WkC w ka x.wks) (hl : x.wks.length ≤ maxLen) (hw : x.worn.length ≤ maxLen) (hs : ∀ wk ∈ x.wks, wk.length ≤ maxLen) :
    Calls Tryz.prog 6 #[.agg #[.slice wa x.worn.length wc, .slice ka x.wks.length kc, .int .i64 x.turn, .int .i64 x.lim]] w fun e w' => e = .returned (.bool (bigW x)) ∧ Ext w w' := by
  have HK := Lib.hid hk
  obtain ⟨r, hr⟩ : ∃ r, bigW x = r := ⟨_, rfl⟩
  have HR := Lib.hid hr
  rw [hr]
  obtain ⟨worn, wks, turn, lim⟩ := x
  unfold maxLen at *
  simp only at HK HR hl hw hs ⊢
  have HS := Lib.hid hs
  clear hk hr hs
  go_enter Tryz.func6, Tryz.ntmps6
  by_cases h1 : 25 < worn.length
  · obtain rfl : r = true := by rw [← HR.out]; unfold bigW; simp [h1]
    go_wp2
    go_ret
    exact ⟨rfl, (Ext.refl w).alloc _⟩
  by_cases h2 : 4 < wks.length
  · obtain rfl : r = true := by rw [← HR.out]; unfold bigW; simp [h2]
    go_wp2
    go_ret
    exact ⟨rfl, (Ext.refl w).alloc _⟩
  have HR2 : Hid ((wks.any fun l => decide (25 < l.length)) = r) := Lib.hid (by rw [← HR.out]; unfold bigW; simp only [h1, h2, decide_false, Bool.false_or])
  obtain ⟨w1, hw1⟩ : ∃ y, y = w.alloc (.cells #[.slice wa worn.length wc, .slice ka wks.length kc, .int .i64 turn, .int .i64 lim] 29) := ⟨_, rfl⟩
  have HX1 : Hid (Ext w w1) := Lib.hid (by rw [hw1]; exact (Ext.refl w).alloc _)
  have HB1 : Hid (Blk w1 w.heap.size #[.slice wa worn.length wc, .slice ka wks.length kc, .int .i64 turn, .int .i64 lim]) := Lib.hid (by rw [hw1]; exact Blk.new _ _ _)
  have HW1 := Lib.hid hw1
  clear hw1 HR
  go_wp2
  rw [← HW1.out]
  have m1 := HB1.out.cell 1 (v := .slice ka wks.length kc) rfl
  have ml := HB1.out.lt
  go_loopw [3] (fun i wr => ∃ k : Nat, k ≤ wks.length ∧ i = .int .i64 k ∧ (∀ j, (h : j < wks.length) → j < k → wks[j].length ≤ 25) ∧ wr = w1) (fun i _ => wks.length - (intOf i).toNat)
  case atStart => exact ⟨0, Nat.zero_le _, rfl, fun j _ h => absurd h (by omega), rfl⟩
  case round =>
    obtain ⟨k, hk, rfl, ha, rfl⟩ := hrel
    have HA := Lib.hid ha
    clear ha
    by_cases hlt : k < wks.length
    · obtain ⟨b, o, ua, uc, e, c1, -, -⟩ := (HK.out.ext HX1.out) k hlt
      subst e
      have l1 := lt_of_cell c1
      simp only at l1
      have hsl := HS.out _ (List.getElem_mem hlt)
      by_cases h3 : 25 < wks[k].length
      · obtain rfl : r = true := by rw [← HR2.out]; exact List.any_eq_true.2 ⟨_, List.getElem_mem hlt, by simpa using h3⟩
        generalize wks[k].length = m at *
        go_wp2
        go_ret
        exact ⟨rfl, HX1.out⟩
      · have H3 := Lib.hid h3
        generalize hm : wks[k].length = m at *
        have HM := Lib.hid hm
        clear hm
        go_wp2
        go_roundw
        case rel =>
          refine ⟨k + 1, by omega, by go_num, fun j hj hjk => ?_, by first | trivial | rfl⟩
          rcases Nat.lt_or_ge j k with h | h
          · exact HA.out j hj h
          · obtain rfl : j = k := by omega
            have := H3.out
            have := HM.out
            omega
        case measure => simp [intOf]; omega
    · obtain rfl : r = false := by
        rw [← HR2.out, List.any_eq_false]
        intro l hl
        obtain ⟨j, hj, rfl⟩ := List.mem_iff_getElem.1 hl
        have := HA.out j hj (by omega)
        simp; omega
      go_wp2
      go_ret
      exact ⟨rfl, HX1.out⟩
theorem law_week (x : Wre) (wa ka : Option Addr) (wc kc : Nat) (w : World) (hk : WkC w ka x.wks) (hl : x.wks.length ≤ maxLen) :
    ∃ ua uc, CellsAt w .i64 ua (x.wks.headD []) ∧ (ua = none → (x.wks.headD []).length = 0 ∧ uc = 0) ∧ ∀ W, Ext w W →
      Calls Tryz.prog 13 #[.agg #[.slice wa x.worn.length wc, .slice ka x.wks.length kc, .int .i64 x.turn, .int .i64 x.lim]] W fun e w' => e = .returned (.slice ua (x.wks.headD []).length uc) ∧ Ext W w' := by
  have HK := Lib.hid hk
  obtain ⟨worn, wks, turn, lim⟩ := x
  unfold maxLen at hl
  simp only at HK hl ⊢
  clear hk
  cases wks with
  | nil =>
    refine ⟨none, 0, CellsAt.nil _ _ _, fun _ => ⟨rfl, rfl⟩, fun W hx => ?_⟩
    simp only [List.headD_nil, List.length_nil]
    go_enter Tryz.func13, Tryz.ntmps13
    go_wp2
    go_ret
    exact ⟨rfl, (Ext.refl W).alloc _⟩
  | cons wk rest =>
    obtain ⟨b, o, ua, uc, e, c1, c2, c3⟩ := HK.out 0 (by simp)
    subst e
    simp only [List.getElem_cons_zero, Nat.add_zero] at c1 c2 c3
    refine ⟨ua, uc, c2, c3, fun W hx => ?_⟩
    simp only [List.headD_cons, List.length_cons] at hl ⊢
    have m1 := hx.cell c1
    have ml := lt_of_cell m1
    simp only at ml
    obtain ⟨m, hm⟩ : ∃ m, rest.length = m := ⟨_, rfl⟩
    rw [hm] at hl ⊢
    have hz : ¬ ((m : Int) + 1 = 0) := by omega
    generalize wk.length = q at *
    clear c1 c2 c3 HK hm hx
    go_enter Tryz.func13, Tryz.ntmps13
    go_wp2
    go_ret
    exact ⟨rfl, (Ext.refl W).alloc _⟩
end Go.Proofs.YtlkbbcfbnbnagaaGreat
