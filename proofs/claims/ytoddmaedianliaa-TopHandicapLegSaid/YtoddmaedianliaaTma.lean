/-
  Package team: within, total, Grow and Concat of two lists of one number, the starts of a handicap.
-/
import Derived.Test.YtoddmaedianliaaPla
import Derived.Test.YtoddmaedianliaaApp
import Derived.Test.YtoddmaedianliaaOwn
import Derived.Lib.AppendZerosOnto
namespace Go.Proofs.Ytoddmaedianliaa
open Go.RowKit Go.BigFrame
attribute [local go_sem] Later.cell Later.frozen
theorem CellsAt.of1 {w : World} {b : Nat} {x : Int} (h : w.cell? ⟨b, 0, none⟩ = some (.int .i64 x)) : CellsAt w .i64 (some ⟨b, 0, none⟩) [x] := fun i hi => by
  obtain rfl : i = 0 := by simpa using hi
  exact ⟨b, 0, rfl, h⟩
theorem team_within1 (n least most : Int) (al am : Addr) (w : World) (h1 : w.cell? al = some (.int .i64 least)) (h2 : w.cell? am = some (.int .i64 most)) :
    Calls Try.prog 22 #[.int .i64 n, .pointer (some al), .pointer (some am)] w fun e w' => e = .returned (.bool (out1 least most n)) ∧ Ext w w' := by
  go_enter Try.func22, Try.ntmps22
  go_wp2
  all_goals (go_ret; exact ⟨ret_bool (by simp [out1, *]), Ext.refl w⟩)
theorem enters_teamWithin1 : Enters Try.prog 22 := enters_of Try.func22 (by kernel_rfl) rfl
theorem team_within (least most : Int) (l : List Int) (a : Option Addr) (c : Nat) (w : World) (hl : l.length ≤ 9223372036854775807) (ha : CellsAt w .i64 a l) :
    Calls Try.prog 9 #[.int .i64 least, .int .i64 most, .slice a l.length c] w fun e w' => e = .returned (.bool (ins least most l)) ∧ Ext w w' := by
  go_enter Try.func9, Try.ntmps9
  go_wp2_with fail
  have hx : Ext w ((w.alloc (.cells #[.int .i64 least] 3)).alloc (.cells #[.int .i64 most] 3)) := ((Ext.refl w).alloc _).alloc _
  refine (containsFunc_i 22 _ enters_teamWithin1 (out1 least most) l a c _ (by exact ha.ext hx) hl (by exact fun x _ w1 hx1 => team_within1 x least most _ _ w1 (hx1.cell (by simp [go_sem])) (hx1.cell (by simp [go_sem])))).mono ?_
  rintro e w1 ⟨rfl, hx1⟩
  go_wp2
  go_ret
  exact ⟨rfl, hx.trans hx1⟩
theorem team_within_1 (lo hi x : Int) (w : World) (n : Nat) (hn : n = w.heap.size) :
    Calls Try.prog 9 #[.int .i64 lo, .int .i64 hi, .slice (some ⟨n, 0, none⟩) 1 1] (w.alloc (.cells #[.int .i64 x] 3)) fun e w' => e = .returned (.bool (ins lo hi [x])) ∧ Ext w w' :=
  (team_within lo hi [x] _ 1 _ (by simp) (CellsAt.one w x _ hn)).mono fun _ _ ⟨he, hx⟩ => ⟨he, ((Ext.refl w).alloc _).trans hx⟩
theorem team_total1 (x : Int) (hx : 0 ≤ x ∧ x ≤ 1000) (a : Option Addr) (c : Nat) (w : World) (ha : CellsAt w .i64 a [x]) :
    Calls Try.prog 11 #[.slice a 1 c] w fun e w' => e = .returned (.int .i64 x) ∧ Ext w w' := by
  obtain ⟨b, o, rfl, hc⟩ := ha 0 (by simp)
  simp only [List.getElem_cons_zero, Nat.add_zero] at hc
  have hlt := lt_of_cell hc
  go_enter Try.func11, Try.ntmps11
  go_wp2
  go_loopw [2, 7] (fun s i wr => ∃ k : Nat, k ≤ 1 ∧ s = .int .i64 (if k = 0 then 0 else x) ∧ i = .int .i64 k ∧ Ext w wr) (fun _ i _ => 1 - (intOf i).toNat)
  case atStart => exact ⟨0, by omega, rfl, rfl, Ext.refl w⟩
  case round =>
    obtain ⟨k, hk, rfl, rfl, hx1⟩ := hrel
    replace hc := hx1.cell hc
    by_cases h0 : k = 0
    · subst h0
      have hw : wrap64 x = x := wrap64_in' ⟨by omega, by omega⟩
      go_wp2
      go_roundw
      case rel => exact ⟨1, by omega, by simp, by go_num, hx1⟩
      case measure => simp [intOf]
    · obtain rfl : k = 1 := by omega
      go_wp2
      go_ret
      exact ⟨rfl, hx1⟩
theorem team_start (start step least weaker : Int) (w : World) (h1 : 0 ≤ start ∧ start ≤ 1001) (h2 : 0 ≤ step ∧ step ≤ 1001) (h3 : -1000 ≤ weaker ∧ weaker ≤ 1000) :
    Calls Try.prog 12 #[.agg #[.int .i64 start, .int .i64 step, .int .i64 least], .int .i64 weaker] w fun e w' => e = .returned (.int .i64 (max least (start - step * max 0 weaker))) ∧ Ext w w' := by
  have hm : 0 ≤ step * max 0 weaker ∧ step * max 0 weaker ≤ 1001000 := by
    have e1 : 0 ≤ max 0 weaker ∧ max 0 weaker ≤ 1000 := by omega
    refine ⟨Int.mul_nonneg h2.1 e1.1, ?_⟩
    calc step * max 0 weaker ≤ 1001 * max 0 weaker := Int.mul_le_mul_of_nonneg_right h2.2 e1.1
      _ ≤ 1001 * 1000 := Int.mul_le_mul_of_nonneg_left e1.2 (by decide)
      _ = 1001000 := rfl
  have hw1 : wrap64 (step * max 0 weaker) = step * max 0 weaker := wrap64_in' ⟨by omega, by omega⟩
  have hw2 : wrap64 (start - step * max 0 weaker) = start - step * max 0 weaker := wrap64_in' ⟨by omega, by omega⟩
  rcases (by omega : weaker ≤ 0 ∨ 0 < weaker) with h0 | h0
  · have e : max 0 weaker = 0 := by omega
    rw [e, Int.mul_zero] at hw1 hw2
    rw [e, Int.mul_zero]
    go_enter Try.func12, Try.ntmps12
    go_wp2
    all_goals (go_ret; refine ⟨ret_int ?_, (Ext.refl w).alloc _⟩)
    all_goals omega
  · have e : max 0 weaker = weaker := by omega
    rw [e] at hw1 hw2
    rw [e]
    go_enter Try.func12, Try.ntmps12
    go_wp2
    all_goals (go_ret; refine ⟨ret_int ?_, (Ext.refl w).alloc _⟩)
    all_goals omega
set_option maxRecDepth 100000 in
/-- A new row with room. -/
theorem grow_nil (n : Nat) (hn : 0 < n ∧ n ≤ 1000) (w : World) :
    Calls Try.prog 23 #[.slice none 0 0, .int .i64 n] w fun e w' => ∃ v, e = .returned v ∧ OwnI w' w.heap.size v [] ∧ (∃ g c, v = .slice (some ⟨g, 0, none⟩) 0 c) ∧ Ext w w' := by
  obtain ⟨i0, hi, hz0, hz1, hz2⟩ := info_parts info_int
  have hck : 0 + n = n := by omega
  have hold : (Builtin.firstCells i0.size 0 (.slice none 0 0)).run Try.prog w.drew = .ok ([] : List Value).toArray w.drew := run_firstCells_none w.drew i0.size 0 0 0
  have hrz : ∀ ty, (Builtin.append_ #[29, 3] ty #[.slice none 0 0, .int .i64 n]).run Try.prog w =
      .ok (.slice (some ⟨w.heap.size, 0, none⟩) n (grownCap w n 0 3)) (w.drew.alloc (.cells (#[] ++ Builtin.zeroCells (Value.int .i64 0).cells n ++ Builtin.zeroCells (Value.int .i64 0).cells (grownCap w n 0 3 - n)) 3)) := fun ty => by
    have h := Lib.run_append_grow_zeros w 29 3 ty 3 i0 (.int .i64 0) .i64 .i64 (by kernel_rfl) (by kernel_rfl) hi hz0 none 0 0 [] hold n (by omega) (by rw [hz1]; decide) (by omega) (by omega) (by rw [hz2]; omega) (by rw [hck]; exact growslice_fits (by omega) (by rw [hz2]; omega))
    rw [hck] at h
    exact h
  have hGn : n ≤ grownCap w n 0 3 := grownCap_ge w _ _ _
  have hGm : grownCap w n 0 3 ≤ maxLen := grownCap_le_maxLen w n 0 3 (by unfold maxLen; omega)
  obtain ⟨G, hG⟩ : ∃ G, grownCap w n 0 3 = G := ⟨_, rfl⟩
  rw [hG] at hrz hGn hGm
  have hw : wrap64 (n : Int) = n := wrap64_in' ⟨by omega, by omega⟩
  have HGM := Lib.hid hGm
  clear hold hck hG hGm
  have hpos : (0 : Int) < n := by omega
  go_enter Try.func23, Try.ntmps23
  go_wp2_with (at_builtin; refine Lib.wpList_append_run _ rfl _ _ _ _ rfl _ _ rfl rfl _ _ (hrz _) ?_)
  all_goals (go_ret; refine ⟨_, rfl, ?_, ⟨_, _, rfl⟩, ((Ext.refl w).drew.alloc _)⟩)
  all_goals refine ⟨rfl, .inr ⟨w.heap.size, G, _, rfl, Nat.le_refl _, heap_new w.drew _, Nat.zero_le _, HGM.out, ?_, by simp⟩⟩
  all_goals (simp [size_zeroCells]; omega)
set_option maxRecDepth 100000 in
set_option maxHeartbeats 1000000 in
/-- Two lists of one number, put together. -/
theorem concat2 (x y : Int) (b : Nat) (ax ay : Nat) (w : World) (hb : Blk w b #[.slice (some ⟨ax, 0, none⟩) 1 1, .slice (some ⟨ay, 0, none⟩) 1 1]) (hx : w.cell? ⟨ax, 0, none⟩ = some (.int .i64 x)) (hy : w.cell? ⟨ay, 0, none⟩ = some (.int .i64 y)) :
    Calls Try.prog 10 #[.slice (some ⟨b, 0, none⟩) 2 2] w fun e w' => ∃ a c, e = .returned (.slice a 2 c) ∧ CellsAt w' .i64 a [x, y] ∧ Ext w w' := by
  have HB := Lib.hid hb
  have HX := Lib.hid hx
  have HY := Lib.hid hy
  clear hb hx hy
  go_enter Try.func10, Try.ntmps10
  go_wp2
  go_loopw [3, 11] (fun s i wr => ∃ k : Nat, k ≤ 2 ∧ s = .int .i64 k ∧ i = .int .i64 k ∧ Ext w wr) (fun _ i _ => 2 - (intOf i).toNat)
  case atStart => exact ⟨0, by omega, rfl, rfl, Ext.refl w⟩
  case round =>
    obtain ⟨k, hk, rfl, rfl, hx1⟩ := hrel
    have hb1 := HB.out.ext hx1
    have c0 := hb1.cell 0 (v := .slice (some ⟨ax, 0, none⟩) 1 1) rfl
    have c1 := hb1.cell 1 (v := .slice (some ⟨ay, 0, none⟩) 1 1) rfl
    have hbl := hb1.lt
    have HB1 := Lib.hid hb1
    clear hb1
    rcases (by omega : k = 0 ∨ k = 1 ∨ k = 2) with rfl | rfl | rfl
    · go_wp2
      go_roundw
      case rel => exact ⟨1, by omega, by go_num, by go_num, hx1⟩
      case measure => simp [intOf]
    · go_wp2
      go_roundw
      case rel => exact ⟨2, by omega, by go_num, by go_num, hx1⟩
      case measure => simp [intOf]
    · go_wp2_with fail
      refine (grow_nil 2 (by omega) _).mono ?_
      rintro e w2 ⟨v2, rfl, hO2, ⟨g2, cp2, rfl⟩, hx2⟩
      have hE2 := hx1.trans hx2
      have hO3 : OwnI w2 w.heap.size (.slice (some ⟨g2, 0, none⟩) 0 cp2) [] := own_mono hO2 hx1.size
      have HO3 := Lib.hid hO3
      clear hO2 hO3 hx2 c0 c1 hbl HB1
      go_wp2
      go_loopw [6, 27] (fun v i wq => ∃ k : Nat, k ≤ 2 ∧ i = .int .i64 k ∧ OwnI wq w.heap.size v ([x, y].take k) ∧ Ext w wq) (fun _ i _ => 2 - (intOf i).toNat)
      case atStart => exact ⟨0, by omega, rfl, HO3.out, hE2⟩
      case round =>
        obtain ⟨k, hk, rfl, hO, hx4⟩ := hrel
        have hb1 := HB.out.ext hx4
        have c0 := hb1.cell 0 (v := .slice (some ⟨ax, 0, none⟩) 1 1) rfl
        have c1 := hb1.cell 1 (v := .slice (some ⟨ay, 0, none⟩) 1 1) rfl
        have hbl := hb1.lt
        have HB1 := Lib.hid hb1
        have HO := Lib.hid hO
        have hlt := own_lt hO
        have HLT := Lib.hid hlt
        obtain ⟨va, vc, hv, hcv⟩ := hO.cells
        have HCV := Lib.hid hcv
        clear hb1 hO hlt hcv
        have hsz := hx4.size
        rcases (by omega : k = 0 ∨ k = 1 ∨ k = 2) with rfl | rfl | rfl
        · subst hv
          go_wp2_with (at_builtin; refine wp_append_vals rfl _ _ 29 3 (.int .i64 0) 1 8 rfl info_int (by kernel_rfl) rfl (by decide) w.heap.size _ 0 [] rfl HO.out (some ⟨ax, 0, none⟩) 1 1 [.int .i64 x] rfl (fun h => by cases h) rfl (fun ad e j u hj => by cases e; cases j with | zero => simp at hj; subst hj; simpa [Addr.add] using hx4.cell HX.out | succ j => simp at hj) (fun u hu => by simp at hu; subst hu; rfl) (by omega) (by omega) hsz ?_)
          intro v' w5 hO5 hg5
          have hE5 := Chg.to_ext hx4 (grown_chg hg5) (fun i e => (HLT.out i e).1)
          have HO5 := Lib.hid (show OwnI w5 w.heap.size v' ([x, y].take 1) from hO5)
          clear hO5 hg5
          go_wp2
          go_roundw
          case rel => exact ⟨1, by omega, by go_num, HO5.out, hE5⟩
          case measure => simp [intOf]
        · subst hv
          go_wp2_with (at_builtin; refine wp_append_vals rfl _ _ 29 3 (.int .i64 0) 1 8 rfl info_int (by kernel_rfl) rfl (by decide) w.heap.size _ 1 [.int .i64 x] rfl HO.out (some ⟨ay, 0, none⟩) 1 1 [.int .i64 y] rfl (fun h => by cases h) rfl (fun ad e j u hj => by cases e; cases j with | zero => simp at hj; subst hj; simpa [Addr.add] using hx4.cell HY.out | succ j => simp at hj) (fun u hu => by simp at hu; subst hu; rfl) (by omega) (by omega) hsz ?_)
          intro v' w5 hO5 hg5
          have hE5 := Chg.to_ext hx4 (grown_chg hg5) (fun i e => (HLT.out i e).1)
          have HO5 := Lib.hid (show OwnI w5 w.heap.size v' ([x, y].take 2) from hO5)
          clear hO5 hg5
          go_wp2
          go_roundw
          case rel => exact ⟨2, by omega, by go_num, HO5.out, hE5⟩
          case measure => simp [intOf]
        · subst hv
          go_wp2
          go_ret
          exact ⟨_, _, rfl, HCV.out, hx4⟩
end Go.Proofs.Ytoddmaedianliaa
