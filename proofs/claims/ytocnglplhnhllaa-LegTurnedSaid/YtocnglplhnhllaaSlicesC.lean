/-
  The library's slices functions at lists of beds, Index, Contains.
-/
import Derived.Test.YtocnglplhnhllaaSlicesI
namespace Go.Proofs.Ytocnglplhnhllaa
open Go.RowKit

theorem index_b (v : Int) (xs : List Int) (a : Option Addr) (c : Nat) (w : World) (ha : CellsAt w .i64 a xs) (hl : xs.length ≤ 9223372036854775807) :
    Calls Try.prog 87 #[.slice a xs.length c, .int .i64 v] w fun e w' => e = .returned (.int .i64 (idx (v == ·) xs)) ∧ Ext w w' := by
  go_enter Try.func87, Try.ntmps87
  go_wp2
  go_loop [8] (fun i => ∃ k : Nat, k ≤ xs.length ∧ i = .int .i64 k ∧ (∀ j, (h : j < xs.length) → j < k → (v == xs[j]) = false)) (fun i => xs.length - (intOf i).toNat)
  case atStart => exact ⟨0, Nat.zero_le _, rfl, by omega⟩
  case round =>
    obtain ⟨k, hk, rfl, hall⟩ := hrel
    by_cases hlt : k < xs.length
    · obtain ⟨b, off, rfl, hc0⟩ := ha k hlt
      have H := Lib.hid hall
      clear hall ha
      cases hp : v == xs[k]
      · go_wp2
        go_round
        case rel => exact ⟨k + 1, by omega, by go_num, fun j hj hjk => by rcases Nat.lt_or_ge j k with h | h; exact H.out j hj h; obtain rfl : j = k := by omega
                                                                          exact hp⟩
        case measure => simp [intOf]; omega
      · go_wp2
        go_ret
        exact ⟨ret_int (idx_hit (v == ·) xs k hlt hp H.out).symm, Ext.refl w⟩
    · go_wp2
      go_ret
      exact ⟨ret_int (idx_none (v == ·) xs fun j hj => hall j hj (by omega)).symm, Ext.refl w⟩
theorem contains_b (v : Int) (xs : List Int) (a : Option Addr) (c : Nat) (w : World) (ha : CellsAt w .i64 a xs) (hl : xs.length ≤ 9223372036854775807) :
    Calls Try.prog 80 #[.slice a xs.length c, .int .i64 v] w fun e w' => e = .returned (.bool (xs.any (v == ·))) ∧ Ext w w' := by
  go_enter Try.func80, Try.ntmps80
  go_wp2_with fail
  refine (index_b v xs a c w ha hl).mono ?_
  rintro e w1 ⟨rfl, hx⟩
  go_wp2
  go_ret
  exact ⟨ret_bool (idx_any (v == ·) xs), hx⟩
end Go.Proofs.Ytocnglplhnhllaa
