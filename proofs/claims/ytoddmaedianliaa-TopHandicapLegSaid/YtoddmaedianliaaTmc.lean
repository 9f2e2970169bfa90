/-
  Package team: an order of one game with one player is closed; the examples of chapters 3 and 10 that the tops ask.
-/
import Derived.Test.YtoddmaedianliaaTmb
namespace Go.Proofs.Ytoddmaedianliaa
open Go.RowKit Go.BigFrame
attribute [local go_sem] Later.cell Later.frozen Lat.cell Lat.frozen
theorem indexFunc_g (g : Nat) (cap : Array Value) (eg : Enters Try.prog g) (p : Cnt → Bool) (xs : List Cnt) (a : Option Addr) (c : Nat) (w : World) (ha : CntsAt w a xs) (hl : xs.length ≤ 9223372036854775807)
    (hg : TestsC g cap p xs w) :
    Calls Try.prog 51 #[.slice a xs.length c, .func (.func g) #[] cap] w fun e w' => e = .returned (.int .i64 (idx p xs)) ∧ Ext w w' := by
  unfold Enters at eg
  go_enter Try.func51, Try.ntmps51
  go_wp2
  go_loopw [8] (fun i wr => ∃ k : Nat, k ≤ xs.length ∧ i = .int .i64 k ∧ (∀ j, (h : j < xs.length) → j < k → p xs[j] = false) ∧ Ext w wr) (fun i _ => xs.length - (intOf i).toNat)
  case atStart => exact ⟨0, Nat.zero_le _, rfl, by omega, Ext.refl w⟩
  case round =>
    obtain ⟨k, hk, rfl, hall, hx⟩ := hrel
    by_cases hlt : k < xs.length
    · obtain ⟨b, off, rfl, hc0, hc1, hc2⟩ := ha k hlt
      replace hc0 := hx.cell hc0
      replace hc1 := hx.cell hc1
      replace hc2 := hx.cell hc2
      have hgk := hg xs[k] (List.getElem_mem hlt) wr hx
      have H := Lib.hid hall
      clear hall ha hg
      go_wp2_with fail
      refine hgk.mono ?_
      rintro e w1 ⟨rfl, hx1⟩
      cases hp : p xs[k]
      · go_wp2
        go_roundw
        case rel => exact ⟨k + 1, by omega, by go_num, fun j hj hjk => by rcases Nat.lt_or_ge j k with h | h; exact H.out j hj h; obtain rfl : j = k := by omega
                                                                          exact hp, hx.trans hx1⟩
        case measure => simp [intOf]; omega
      · go_wp2
        go_ret
        exact ⟨ret_int (idx_hit p xs k hlt hp H.out).symm, hx.trans hx1⟩
    · go_wp2
      go_ret
      exact ⟨ret_int (idx_none p xs fun j hj => hall j hj (by omega)).symm, hx⟩
theorem containsFunc_g (g : Nat) (cap : Array Value) (eg : Enters Try.prog g) (p : Cnt → Bool) (xs : List Cnt) (a : Option Addr) (c : Nat) (w : World) (ha : CntsAt w a xs) (hl : xs.length ≤ 9223372036854775807)
    (hg : TestsC g cap p xs w) :
    Calls Try.prog 43 #[.slice a xs.length c, .func (.func g) #[] cap] w fun e w' => e = .returned (.bool (xs.any p)) ∧ Ext w w' := by
  go_enter Try.func43, Try.ntmps43
  go_wp2_with fail
  refine (indexFunc_g g cap eg p xs a c w ha hl hg).mono ?_
  rintro e w1 ⟨rfl, hx⟩
  go_wp2
  go_ret
  exact ⟨ret_bool (idx_any p xs), hx⟩

theorem team_times (a b : Int) (w : World) (ha : 0 ≤ a ∧ a ≤ 2147483647) (hb : 0 ≤ b ∧ b ≤ 2147483647) :
    Calls Try.prog 34 #[.int .i64 a, .int .i64 b] w fun e w' => e = .returned (.int .i64 (a * b % 2147483647)) ∧ w' = w := by
  have h0 : 0 ≤ a * b := Int.mul_nonneg ha.1 hb.1
  have h1 : a * b ≤ 2147483647 * 2147483647 := Int.le_trans (Int.mul_le_mul_of_nonneg_right ha.2 hb.1) (Int.mul_le_mul_of_nonneg_left hb.2 (by decide))
  have hw : wrap64 (a * b) = a * b := wrap64_in' ⟨by omega, by omega⟩
  have ht : Int.tmod (a * b) 2147483647 = a * b % 2147483647 := Int.tmod_eq_emod_of_nonneg h0
  have hw2 : wrap64 (a * b % 2147483647) = a * b % 2147483647 := wrap64_in' ⟨by omega, by omega⟩
  go_enter Try.func34, Try.ntmps34
  go_wp2
  go_ret
  exact ⟨rfl, rfl⟩
theorem team_power1 (a : Int) (w : World) (ha : 0 ≤ a ∧ a < 2147483647) :
    Calls Try.prog 44 #[.int .i64 a, .int .i64 1] w fun e w' => e = .returned (.int .i64 a) ∧ w' = w := by
  go_enter Try.func44, Try.ntmps44
  go_wp2
  go_loopw [0, 1, 5] (fun x n out wr => wr = w ∧ ((x = .int .i64 a ∧ n = .int .i64 1 ∧ out = .int .i64 1) ∨ (x = .int .i64 (a * a % 2147483647) ∧ n = .int .i64 0 ∧ out = .int .i64 a))) (fun _ n _ _ => (intOf n).toNat)
  case atStart => exact ⟨rfl, .inl ⟨rfl, rfl, rfl⟩⟩
  case round =>
    obtain ⟨rfl, ⟨rfl, rfl, rfl⟩ | ⟨rfl, rfl, rfl⟩⟩ := hrel
    · go_wp2_with fail
      refine (team_times 1 a _ (by omega) (by omega)).mono ?_
      rintro e w1 ⟨rfl, rfl⟩
      go_wp2_with fail
      refine (team_times a a _ (by omega) (by omega)).mono ?_
      rintro e w2 ⟨rfl, rfl⟩
      go_wp2
      go_roundw
      case rel => exact ⟨trivial, .inr ⟨rfl, rfl, by congr 1; omega⟩⟩
      case measure => simp [intOf]
    · go_wp2
      go_ret
      exact ⟨rfl, rfl⟩
theorem team_front1 (w : World) : Calls Try.prog 32 #[.int .i64 1] w fun e w' => e = .returned (.int .i64 7) ∧ Ext w w' := by
  go_enter Try.func32, Try.ntmps32
  go_wp2_with fail
  refine (team_power1 7 _ (by omega)).mono ?_
  rintro e w1 ⟨rfl, rfl⟩
  go_wp2
  go_ret
  exact ⟨rfl, Ext.refl _⟩
theorem team_mask1 (w : World) : Calls Try.prog 35 #[.int .i64 1, .int .i64 0] w fun e w' => e = .returned (.int .i64 48271) ∧ Ext w w' := by
  go_enter Try.func35, Try.ntmps35
  go_wp2_with fail
  refine (team_power1 48271 _ (by omega)).mono ?_
  rintro e w1 ⟨rfl, rfl⟩
  go_wp2
  go_ret
  exact ⟨rfl, Ext.refl _⟩
theorem team_code1 (b : Nat) (c : Nat) (w : World) (hc : w.cell? ⟨b, 0, none⟩ = some (.int .i64 2)) : Calls Try.prog 33 #[.slice (some ⟨b, 0, none⟩) 1 c] w fun e w' => e = .returned (.int .i64 3) ∧ Ext w w' := by
  have hlt := lt_of_cell hc
  go_enter Try.func33, Try.ntmps33
  go_wp2
  go_loopw [3, 8] (fun s i wr => ∃ k : Nat, k ≤ 1 ∧ s = .int .i64 (if k = 0 then 1 else 3) ∧ i = .int .i64 k ∧ Ext w wr) (fun _ i _ => 1 - (intOf i).toNat)
  case atStart => exact ⟨0, by omega, rfl, rfl, Ext.refl w⟩
  case round =>
    obtain ⟨k, hk, rfl, rfl, hx1⟩ := hrel
    replace hc := hx1.cell hc
    rcases (by omega : k = 0 ∨ k = 1) with rfl | rfl
    · go_wp2
      go_roundw
      case rel => exact ⟨1, by omega, by simp, by go_num, hx1⟩
      case measure => simp [intOf]
    · go_wp2
      go_ret
      exact ⟨rfl, hx1⟩
theorem team_isGame1 (gb : Nat) (w : World) :
    Calls Try.prog 42 #[.agg #[.int .i64 4, .slice (some ⟨gb, 0, none⟩) 1 1, .int .i64 1, .int .i64 0], .agg #[.int .i64 1, .int .i64 3, .int .i64 1]] w fun e w' => e = .returned (.bool true) ∧ Ext w w' := by
  go_enter Try.func42, Try.ntmps42
  go_wp2_with fail
  refine (team_within_1 1 2 1 _ _ (by simp)).mono ?_
  rintro e w1 ⟨rfl, hx1⟩
  rw [ins_ok (by decide)]
  have hb1 : Blk w1 (w.heap.size + 1) #[.int .i64 1, .int .i64 3, .int .i64 1] := (Blk.at _ (by simp)).ext hx1
  have hE1 := (((Ext.refl w).alloc (.cells #[.int .i64 4, .slice (some ⟨gb, 0, none⟩) 1 1, .int .i64 1, .int .i64 0] 92)).alloc (.cells #[.int .i64 1, .int .i64 3, .int .i64 1] 75)).trans hx1
  have c1 := hb1.cell 1 (v := .int .i64 3) rfl
  have hlt := hb1.lt
  have HB1 := Lib.hid hb1
  clear hb1 hx1
  go_wp2_with fail
  refine (team_within_1 1 15 3 _ _ (by simp)).mono ?_
  rintro e w2 ⟨rfl, hx2⟩
  rw [ins_ok (by decide)]
  have hb2 := HB1.out.ext hx2
  have hE2 := hE1.trans hx2
  clear c1 hlt HB1 hx2 hE1
  have c2 := hb2.cell 2 (v := .int .i64 1) rfl
  have hlt := hb2.lt
  go_wp2_with fail
  refine (team_within_1 0 99 1 _ _ (by simp)).mono ?_
  rintro e w3 ⟨rfl, hx3⟩
  rw [ins_ok (by decide)]
  go_wp2
  go_ret
  exact ⟨rfl, hE2.trans hx3⟩
theorem team_check1 (gb rb : Nat) (w : World) (hr : Blk w rb #[.int .i64 4, .slice (some ⟨gb, 0, none⟩) 1 1, .int .i64 1, .int .i64 0]) :
    Calls Try.prog 41 #[.agg #[.int .i64 1, .int .i64 3, .int .i64 1], .pointer (some ⟨rb, 0, none⟩)] w fun e w' => e = .returned (.bool false) ∧ Ext w w' := by
  have c0 := hr.cell 0 (v := .int .i64 4) rfl
  have c1 := hr.cell 1 (v := .slice (some ⟨gb, 0, none⟩) 1 1) rfl
  have c2 := hr.cell 2 (v := .int .i64 1) rfl
  have c3 := hr.cell 3 (v := .int .i64 0) rfl
  have hlt := hr.lt
  clear hr
  go_enter Try.func41, Try.ntmps41
  go_wp2_with fail
  refine (team_isGame1 gb _).mono ?_
  rintro e w1 ⟨rfl, hx1⟩
  go_wp2
  go_ret
  exact ⟨rfl, ((Ext.refl w).alloc _).trans hx1⟩
theorem enters_teamCheck1 : Enters Try.prog 41 := enters_of Try.func41 (by kernel_rfl) rfl
end Go.Proofs.Ytoddmaedianliaa
