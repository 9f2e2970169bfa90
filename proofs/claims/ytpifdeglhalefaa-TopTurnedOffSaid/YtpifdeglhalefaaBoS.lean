/-
  The library's slices functions at lists of rings and of points: IndexFunc, ContainsFunc. Printed by wip/bos.py.
-/
import Derived.Test.YtpifdeglhalefaaBoB
namespace Go.Proofs.Ytpifdeglhalefaa
open Go.RowKit
def Rg.agg (c : Rg) : Value := .agg #[.int .i64 c.outer, .int .i64 c.factor]
/-- What a function value owes. -/
def TestsRg (g : Nat) (cap : Array Value) (p : Rg → Bool) (xs : List Rg) (w : World) : Prop :=
  ∀ x, x ∈ xs → ∀ w1, Ext w w1 → Calls Try.prog g (#[x.agg] ++ cap) w1 fun e w' => e = .returned (.bool (p x)) ∧ Ext w1 w'
theorem TestsRg.ext {g : Nat} {cap : Array Value} {p : Rg → Bool} {xs : List Rg} {w w1 : World} (h : TestsRg g cap p xs w) (he : Ext w w1) : TestsRg g cap p xs w1 := fun x hx w2 h2 => h x hx w2 (he.trans h2)
theorem indexFunc_rb (g : Nat) (cap : Array Value) (eg : Enters Try.prog g) (p : Rg → Bool) (xs : List Rg) (a : Option Addr) (c : Nat) (w : World) (ha : RgsAt w a xs) (hl : xs.length ≤ 9223372036854775807)
    (hg : TestsRg g cap p xs w) :
    Calls Try.prog 52 #[.slice a xs.length c, .func (.func g) #[] cap] w fun e w' => e = .returned (.int .i64 (idx p xs)) ∧ Ext w w' := by
  unfold Enters at eg
  go_enter Try.func52, Try.ntmps52
  go_wp2
  go_loopw [8] (fun i wr => ∃ k : Nat, k ≤ xs.length ∧ i = .int .i64 k ∧ (∀ j, (h : j < xs.length) → j < k → p xs[j] = false) ∧ Ext w wr) (fun i _ => xs.length - (intOf i).toNat)
  case atStart => exact ⟨0, Nat.zero_le _, rfl, by omega, Ext.refl w⟩
  case round =>
    obtain ⟨k, hk, rfl, hall, hx⟩ := hrel
    by_cases hlt : k < xs.length
    · obtain ⟨b, off, rfl, hc0, hc1⟩ := ha k hlt
      replace hc0 := hx.cell hc0
      replace hc1 := hx.cell hc1
      have hgk := hg xs[k] (List.getElem_mem hlt) wr hx
      have H := Lib.hid hall
      clear hall ha hg
      go_wp2_with fail
      refine hgk.mono ?_
      rintro e w1 ⟨rfl, hx1⟩
      cases hp : p xs[k]
      · go_wp2
        go_roundw
        case rel => exact ⟨k + 1, by omega, by go_num, fun j hj hjk => by rcases Nat.lt_or_ge j k with h | h; exact H.out j hj h; obtain rfl : j = k := by omega
                                                                          exact hp, hx.trans hx1⟩
        case measure => simp [intOf]; omega
      · go_wp2
        go_ret
        exact ⟨ret_int (idx_hit p xs k hlt hp H.out).symm, hx.trans hx1⟩
    · go_wp2
      go_ret
      exact ⟨ret_int (idx_none p xs fun j hj => hall j hj (by omega)).symm, hx⟩
theorem containsFunc_rb (g : Nat) (cap : Array Value) (eg : Enters Try.prog g) (p : Rg → Bool) (xs : List Rg) (a : Option Addr) (c : Nat) (w : World) (ha : RgsAt w a xs) (hl : xs.length ≤ 9223372036854775807)
    (hg : TestsRg g cap p xs w) :
    Calls Try.prog 102 #[.slice a xs.length c, .func (.func g) #[] cap] w fun e w' => e = .returned (.bool (xs.any p)) ∧ Ext w w' := by
  go_enter Try.func102, Try.ntmps102
  go_wp2_with fail
  refine (indexFunc_rb g cap eg p xs a c w ha hl hg).mono ?_
  rintro e w1 ⟨rfl, hx⟩
  go_wp2
  go_ret
  exact ⟨ret_bool (idx_any p xs), hx⟩
/-- What a function value owes. -/
def TestsPt (g : Nat) (cap : Array Value) (p : Pt → Bool) (xs : List Pt) (w : World) : Prop :=
  ∀ x, x ∈ xs → ∀ w1, Ext w w1 → Calls Try.prog g (#[x.agg] ++ cap) w1 fun e w' => e = .returned (.bool (p x)) ∧ Ext w1 w'
theorem TestsPt.ext {g : Nat} {cap : Array Value} {p : Pt → Bool} {xs : List Pt} {w w1 : World} (h : TestsPt g cap p xs w) (he : Ext w w1) : TestsPt g cap p xs w1 := fun x hx w2 h2 => h x hx w2 (he.trans h2)
theorem indexFunc_pb (g : Nat) (cap : Array Value) (eg : Enters Try.prog g) (p : Pt → Bool) (xs : List Pt) (a : Option Addr) (c : Nat) (w : World) (ha : PtsAt w a xs) (hl : xs.length ≤ 9223372036854775807)
    (hg : TestsPt g cap p xs w) :
    Calls Try.prog 107 #[.slice a xs.length c, .func (.func g) #[] cap] w fun e w' => e = .returned (.int .i64 (idx p xs)) ∧ Ext w w' := by
  unfold Enters at eg
  go_enter Try.func107, Try.ntmps107
  go_wp2
  go_loopw [8] (fun i wr => ∃ k : Nat, k ≤ xs.length ∧ i = .int .i64 k ∧ (∀ j, (h : j < xs.length) → j < k → p xs[j] = false) ∧ Ext w wr) (fun i _ => xs.length - (intOf i).toNat)
  case atStart => exact ⟨0, Nat.zero_le _, rfl, by omega, Ext.refl w⟩
  case round =>
    obtain ⟨k, hk, rfl, hall, hx⟩ := hrel
    by_cases hlt : k < xs.length
    · obtain ⟨b, off, rfl, hc0, hc1⟩ := ha k hlt
      replace hc0 := hx.cell hc0
      replace hc1 := hx.cell hc1
      have hgk := hg xs[k] (List.getElem_mem hlt) wr hx
      have H := Lib.hid hall
      clear hall ha hg
      go_wp2_with fail
      refine hgk.mono ?_
      rintro e w1 ⟨rfl, hx1⟩
      cases hp : p xs[k]
      · go_wp2
        go_roundw
        case rel => exact ⟨k + 1, by omega, by go_num, fun j hj hjk => by rcases Nat.lt_or_ge j k with h | h; exact H.out j hj h; obtain rfl : j = k := by omega
                                                                          exact hp, hx.trans hx1⟩
        case measure => simp [intOf]; omega
      · go_wp2
        go_ret
        exact ⟨ret_int (idx_hit p xs k hlt hp H.out).symm, hx.trans hx1⟩
    · go_wp2
      go_ret
      exact ⟨ret_int (idx_none p xs fun j hj => hall j hj (by omega)).symm, hx⟩
theorem containsFunc_pb (g : Nat) (cap : Array Value) (eg : Enters Try.prog g) (p : Pt → Bool) (xs : List Pt) (a : Option Addr) (c : Nat) (w : World) (ha : PtsAt w a xs) (hl : xs.length ≤ 9223372036854775807)
    (hg : TestsPt g cap p xs w) :
    Calls Try.prog 82 #[.slice a xs.length c, .func (.func g) #[] cap] w fun e w' => e = .returned (.bool (xs.any p)) ∧ Ext w w' := by
  go_enter Try.func82, Try.ntmps82
  go_wp2_with fail
  refine (indexFunc_pb g cap eg p xs a c w ha hl hg).mono ?_
  rintro e w1 ⟨rfl, hx⟩
  go_wp2
  go_ret
  exact ⟨ret_bool (idx_any p xs), hx⟩
end Go.Proofs.Ytpifdeglhalefaa
