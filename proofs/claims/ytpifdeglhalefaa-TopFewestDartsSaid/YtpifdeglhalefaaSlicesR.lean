/-
  The library's slices functions at lists of the structs of chapter 3 (Count, LegOff): IndexFunc, ContainsFunc.
-/
import Derived.Test.YtpifdeglhalefaaProg
import Derived.Test.YtpifdeglhalefaaBase
import Derived.Shelf.Abstract
namespace Go.Proofs.Ytpifdeglhalefaa
open Go.RowKit

/-- The laws of a player. -/
structure Cnt where
  start : Int
  gin : Int
  gout : Int
  deriving DecidableEq
def Cnt.agg (c : Cnt) : Value := .agg #[.int .i64 c.start, .int .i64 c.gin, .int .i64 c.gout]
/-- The cells at an address read as laws of players. -/
def CntsAt (w : World) (a : Option Addr) (xs : List Cnt) : Prop :=
  ∀ i, (h : i < xs.length) → ∃ b o, a = some ⟨b, o, none⟩ ∧ w.cell? ⟨b, o + i * 3, none⟩ = some (.int .i64 xs[i].start) ∧ w.cell? ⟨b, o + i * 3 + 1, none⟩ = some (.int .i64 xs[i].gin) ∧ w.cell? ⟨b, o + i * 3 + 2, none⟩ = some (.int .i64 xs[i].gout)
theorem CntsAt.ext {w w' : World} {a : Option Addr} {xs : List Cnt} (h : CntsAt w a xs) (he : Ext w w') : CntsAt w' a xs := fun i hi => by
  obtain ⟨b, o, e, h0, h1, h2⟩ := h i hi
  exact ⟨b, o, e, he.cell h0, he.cell h1, he.cell h2⟩
/-- What a function value owes. -/
def TestsC (g : Nat) (cap : Array Value) (p : Cnt → Bool) (xs : List Cnt) (w : World) : Prop :=
  ∀ x, x ∈ xs → ∀ w1, Ext w w1 → Calls Try.prog g (#[x.agg] ++ cap) w1 fun e w' => e = .returned (.bool (p x)) ∧ Ext w1 w'
theorem TestsC.ext {g : Nat} {cap : Array Value} {p : Cnt → Bool} {xs : List Cnt} {w w1 : World} (h : TestsC g cap p xs w) (he : Ext w w1) : TestsC g cap p xs w1 := fun x hx w2 h2 => h x hx w2 (he.trans h2)
theorem indexFunc_c (g : Nat) (cap : Array Value) (eg : Enters Try.prog g) (p : Cnt → Bool) (xs : List Cnt) (a : Option Addr) (c : Nat) (w : World) (ha : CntsAt w a xs) (hl : xs.length ≤ 9223372036854775807)
    (hg : TestsC g cap p xs w) :
    Calls Try.prog 110 #[.slice a xs.length c, .func (.func g) #[] cap] w fun e w' => e = .returned (.int .i64 (idx p xs)) ∧ Ext w w' := by
  unfold Enters at eg
  go_enter Try.func110, Try.ntmps110
  go_wp2
  go_loopw [8] (fun i wr => ∃ k : Nat, k ≤ xs.length ∧ i = .int .i64 k ∧ (∀ j, (h : j < xs.length) → j < k → p xs[j] = false) ∧ Ext w wr) (fun i _ => xs.length - (intOf i).toNat)
  case atStart => exact ⟨0, Nat.zero_le _, rfl, by omega, Ext.refl w⟩
  case round =>
    obtain ⟨k, hk, rfl, hall, hx⟩ := hrel
    by_cases hlt : k < xs.length
    · obtain ⟨b, off, rfl, hc0, hc1, hc2⟩ := ha k hlt
      replace hc0 := hx.cell hc0
      replace hc1 := hx.cell hc1
      replace hc2 := hx.cell hc2
      have hgk := hg xs[k] (List.getElem_mem hlt) wr hx
      have H := Lib.hid hall
      clear hall ha hg
      go_wp2_with fail
      refine hgk.mono ?_
      rintro e w1 ⟨rfl, hx1⟩
      cases hp : p xs[k]
      · go_wp2
        go_roundw
        case rel => exact ⟨k + 1, by omega, by go_num, fun j hj hjk => by rcases Nat.lt_or_ge j k with h | h; exact H.out j hj h; obtain rfl : j = k := by omega
                                                                          exact hp, hx.trans hx1⟩
        case measure => simp [intOf]; omega
      · go_wp2
        go_ret
        exact ⟨ret_int (idx_hit p xs k hlt hp H.out).symm, hx.trans hx1⟩
    · go_wp2
      go_ret
      exact ⟨ret_int (idx_none p xs fun j hj => hall j hj (by omega)).symm, hx⟩
theorem containsFunc_c (g : Nat) (cap : Array Value) (eg : Enters Try.prog g) (p : Cnt → Bool) (xs : List Cnt) (a : Option Addr) (c : Nat) (w : World) (ha : CntsAt w a xs) (hl : xs.length ≤ 9223372036854775807)
    (hg : TestsC g cap p xs w) :
    Calls Try.prog 94 #[.slice a xs.length c, .func (.func g) #[] cap] w fun e w' => e = .returned (.bool (xs.any p)) ∧ Ext w w' := by
  go_enter Try.func94, Try.ntmps94
  go_wp2_with fail
  refine (indexFunc_c g cap eg p xs a c w ha hl hg).mono ?_
  rintro e w1 ⟨rfl, hx⟩
  go_wp2
  go_ret
  exact ⟨ret_bool (idx_any p xs), hx⟩
/-- A dart at the bull. -/
structure Toss where
  bed : Int
  far : Int
  deriving DecidableEq
def Toss.agg (c : Toss) : Value := .agg #[.int .i64 c.bed, .int .i64 c.far]
/-- The cells at an address read as darts at the bull. -/
def TossAt (w : World) (a : Option Addr) (xs : List Toss) : Prop :=
  ∀ i, (h : i < xs.length) → ∃ b o, a = some ⟨b, o, none⟩ ∧ w.cell? ⟨b, o + i * 2, none⟩ = some (.int .i64 xs[i].bed) ∧ w.cell? ⟨b, o + i * 2 + 1, none⟩ = some (.int .i64 xs[i].far)
theorem TossAt.ext {w w' : World} {a : Option Addr} {xs : List Toss} (h : TossAt w a xs) (he : Ext w w') : TossAt w' a xs := fun i hi => by
  obtain ⟨b, o, e, h0, h1⟩ := h i hi
  exact ⟨b, o, e, he.cell h0, he.cell h1⟩
/-- What a function value owes. -/
def TestsO (g : Nat) (cap : Array Value) (p : Toss → Bool) (xs : List Toss) (w : World) : Prop :=
  ∀ x, x ∈ xs → ∀ w1, Ext w w1 → Calls Try.prog g (#[x.agg] ++ cap) w1 fun e w' => e = .returned (.bool (p x)) ∧ Ext w1 w'
theorem TestsO.ext {g : Nat} {cap : Array Value} {p : Toss → Bool} {xs : List Toss} {w w1 : World} (h : TestsO g cap p xs w) (he : Ext w w1) : TestsO g cap p xs w1 := fun x hx w2 h2 => h x hx w2 (he.trans h2)
theorem indexFunc_o (g : Nat) (cap : Array Value) (eg : Enters Try.prog g) (p : Toss → Bool) (xs : List Toss) (a : Option Addr) (c : Nat) (w : World) (ha : TossAt w a xs) (hl : xs.length ≤ 9223372036854775807)
    (hg : TestsO g cap p xs w) :
    Calls Try.prog 57 #[.slice a xs.length c, .func (.func g) #[] cap] w fun e w' => e = .returned (.int .i64 (idx p xs)) ∧ Ext w w' := by
  unfold Enters at eg
  go_enter Try.func57, Try.ntmps57
  go_wp2
  go_loopw [8] (fun i wr => ∃ k : Nat, k ≤ xs.length ∧ i = .int .i64 k ∧ (∀ j, (h : j < xs.length) → j < k → p xs[j] = false) ∧ Ext w wr) (fun i _ => xs.length - (intOf i).toNat)
  case atStart => exact ⟨0, Nat.zero_le _, rfl, by omega, Ext.refl w⟩
  case round =>
    obtain ⟨k, hk, rfl, hall, hx⟩ := hrel
    by_cases hlt : k < xs.length
    · obtain ⟨b, off, rfl, hc0, hc1⟩ := ha k hlt
      replace hc0 := hx.cell hc0
      replace hc1 := hx.cell hc1
      have hgk := hg xs[k] (List.getElem_mem hlt) wr hx
      have H := Lib.hid hall
      clear hall ha hg
      go_wp2_with fail
      refine hgk.mono ?_
      rintro e w1 ⟨rfl, hx1⟩
      cases hp : p xs[k]
      · go_wp2
        go_roundw
        case rel => exact ⟨k + 1, by omega, by go_num, fun j hj hjk => by rcases Nat.lt_or_ge j k with h | h; exact H.out j hj h; obtain rfl : j = k := by omega
                                                                          exact hp, hx.trans hx1⟩
        case measure => simp [intOf]; omega
      · go_wp2
        go_ret
        exact ⟨ret_int (idx_hit p xs k hlt hp H.out).symm, hx.trans hx1⟩
    · go_wp2
      go_ret
      exact ⟨ret_int (idx_none p xs fun j hj => hall j hj (by omega)).symm, hx⟩
theorem containsFunc_o (g : Nat) (cap : Array Value) (eg : Enters Try.prog g) (p : Toss → Bool) (xs : List Toss) (a : Option Addr) (c : Nat) (w : World) (ha : TossAt w a xs) (hl : xs.length ≤ 9223372036854775807)
    (hg : TestsO g cap p xs w) :
    Calls Try.prog 32 #[.slice a xs.length c, .func (.func g) #[] cap] w fun e w' => e = .returned (.bool (xs.any p)) ∧ Ext w w' := by
  go_enter Try.func32, Try.ntmps32
  go_wp2_with fail
  refine (indexFunc_o g cap eg p xs a c w ha hl hg).mono ?_
  rintro e w1 ⟨rfl, hx⟩
  go_wp2
  go_ret
  exact ⟨ret_bool (idx_any p xs), hx⟩
end Go.Proofs.Ytpifdeglhalefaa
