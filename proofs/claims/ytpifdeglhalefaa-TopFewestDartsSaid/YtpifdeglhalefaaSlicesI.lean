/-
  The library's slices functions at lists of integers, by contracts over whatever function value: IndexFunc, ContainsFunc, Index, Contains.
-/
import Derived.Test.YtpifdeglhalefaaProg
import Derived.Shelf.Abstract
import Derived.Test.YtpifdeglhalefaaBase
namespace Go.Proofs.Ytpifdeglhalefaa
open Go.RowKit

/-- What a function value owes: at each element, in each later world, it returns p of it. -/
def Tests (g : Nat) (cap : Array Value) (p : Int → Bool) (xs : List Int) (w : World) : Prop :=
  ∀ x, x ∈ xs → ∀ w1, Ext w w1 → Calls Try.prog g (#[.int .i64 x] ++ cap) w1 fun e w' => e = .returned (.bool (p x)) ∧ Ext w1 w'
theorem Tests.ext {g : Nat} {cap : Array Value} {p : Int → Bool} {xs : List Int} {w w1 : World} (h : Tests g cap p xs w) (he : Ext w w1) : Tests g cap p xs w1 := fun x hx w2 h2 => h x hx w2 (he.trans h2)

theorem indexFunc_i (g : Nat) (cap : Array Value) (eg : Enters Try.prog g) (p : Int → Bool) (xs : List Int) (a : Option Addr) (c : Nat) (w : World) (ha : CellsAt w .i64 a xs) (hl : xs.length ≤ 9223372036854775807)
    (hg : Tests g cap p xs w) :
    Calls Try.prog 86 #[.slice a xs.length c, .func (.func g) #[] cap] w fun e w' => e = .returned (.int .i64 (idx p xs)) ∧ Ext w w' := by
  unfold Enters at eg
  go_enter Try.func86, Try.ntmps86
  go_wp2
  go_loopw [8] (fun i wr => ∃ k : Nat, k ≤ xs.length ∧ i = .int .i64 k ∧ (∀ j, (h : j < xs.length) → j < k → p xs[j] = false) ∧ Ext w wr) (fun i _ => xs.length - (intOf i).toNat)
  case atStart => exact ⟨0, Nat.zero_le _, rfl, by omega, Ext.refl w⟩
  case round =>
    obtain ⟨k, hk, rfl, hall, hx⟩ := hrel
    by_cases hlt : k < xs.length
    · obtain ⟨b, off, rfl, hc0⟩ := ha k hlt
      have hc := hx.cell hc0
      have hgk := hg xs[k] (List.getElem_mem hlt) wr hx
      have H := Lib.hid hall
      clear hall ha hg hc0
      go_wp2_with fail
      refine hgk.mono ?_
      rintro e w1 ⟨rfl, hx1⟩
      cases hp : p xs[k]
      · go_wp2
        go_roundw
        case rel => exact ⟨k + 1, by omega, by go_num, fun j hj hjk => by rcases Nat.lt_or_ge j k with h | h; exact H.out j hj h; obtain rfl : j = k := by omega
                                                                          exact hp, hx.trans hx1⟩
        case measure => simp [intOf]; omega
      · go_wp2
        go_ret
        exact ⟨ret_int (idx_hit p xs k hlt hp H.out).symm, hx.trans hx1⟩
    · go_wp2
      go_ret
      exact ⟨ret_int (idx_none p xs fun j hj => hall j hj (by omega)).symm, hx⟩
theorem containsFunc_i (g : Nat) (cap : Array Value) (eg : Enters Try.prog g) (p : Int → Bool) (xs : List Int) (a : Option Addr) (c : Nat) (w : World) (ha : CellsAt w .i64 a xs) (hl : xs.length ≤ 9223372036854775807)
    (hg : Tests g cap p xs w) :
    Calls Try.prog 55 #[.slice a xs.length c, .func (.func g) #[] cap] w fun e w' => e = .returned (.bool (xs.any p)) ∧ Ext w w' := by
  go_enter Try.func55, Try.ntmps55
  go_wp2_with fail
  refine (indexFunc_i g cap eg p xs a c w ha hl hg).mono ?_
  rintro e w1 ⟨rfl, hx⟩
  go_wp2
  go_ret
  exact ⟨ret_bool (idx_any p xs), hx⟩
end Go.Proofs.Ytpifdeglhalefaa
