/-
  Package leg's small functions: 'within', the parts of a dart, whether it is valid, what it opens; whether laws are valid.
-/
import Derived.Test.YtocnglplhnhllaaBeds
import Derived.Test.YtocnglplhnhllaaSlicesI
import Derived.Test.YtocnglplhnhllaaSlicesC
namespace Go.Proofs.Ytocnglplhnhllaa
open Go.RowKit
attribute [local go_sem] Later.cell Later.frozen

theorem leg_within1 (n least most : Int) (al am : Addr) (w : World) (h1 : w.cell? al = some (.int .i64 least)) (h2 : w.cell? am = some (.int .i64 most)) :
    Calls Try.prog 66 #[.int .i64 n, .pointer (some al), .pointer (some am)] w fun e w' => e = .returned (.bool (out1 least most n)) ∧ Ext w w' := by
  go_enter Try.func66, Try.ntmps66
  go_wp2
  all_goals (go_ret; exact ⟨ret_bool (by simp [out1, *]), Ext.refl w⟩)
theorem enters_legWithin1 : Enters Try.prog 66 := enters_of Try.func66 (by kernel_rfl) rfl
theorem leg_within (least most : Int) (l : List Int) (a : Option Addr) (c : Nat) (w : World) (hl : l.length ≤ 9223372036854775807) (ha : CellsAt w .i64 a l) :
    Calls Try.prog 40 #[.int .i64 least, .int .i64 most, .slice a l.length c] w fun e w' => e = .returned (.bool (ins least most l)) ∧ Ext w w' := by
  go_enter Try.func40, Try.ntmps40
  go_wp2_with fail
  have hx : Ext w ((w.alloc (.cells #[.int .i64 least] 3)).alloc (.cells #[.int .i64 most] 3)) := ((Ext.refl w).alloc _).alloc _
  refine (containsFunc_i 66 _ enters_legWithin1 (out1 least most) l a c _ (by exact ha.ext hx) hl (by exact fun x _ w1 hx1 => leg_within1 x least most _ _ w1 (hx1.cell (by simp [go_sem])) (hx1.cell (by simp [go_sem])))).mono ?_
  rintro e w1 ⟨rfl, hx1⟩
  go_wp2
  go_ret
  exact ⟨rfl, hx.trans hx1⟩
theorem leg_within_1 (lo hi x : Int) (w : World) (n : Nat) (hn : n = w.heap.size) :
    Calls Try.prog 40 #[.int .i64 lo, .int .i64 hi, .slice (some ⟨n, 0, none⟩) 1 1] (w.alloc (.cells #[.int .i64 x] 3)) fun e w' => e = .returned (.bool (ins lo hi [x])) ∧ Ext w w' :=
  (leg_within lo hi [x] _ 1 _ (by simp) (CellsAt.one w x _ hn)).mono fun _ _ ⟨he, hx⟩ => ⟨he, ((Ext.refl w).alloc _).trans hx⟩

theorem dart_factor (b : Int) (w : World) (hb : I64 b) : Calls Try.prog 81 #[.agg #[.int .i64 b]] w fun e w' => e = .returned (.int .i64 (fct b)) ∧ Ext w w' := by
  go_enter Try.func81, Try.ntmps81
  go_wp2
  go_ret
  exact ⟨ret_int (wrap_fct hb), (Ext.refl w).alloc _⟩
theorem dart_number (b : Int) (w : World) : Calls Try.prog 82 #[.agg #[.int .i64 b]] w fun e w' => e = .returned (.int .i64 (nmb b)) ∧ Ext w w' := by
  go_enter Try.func82, Try.ntmps82
  go_wp2
  go_ret
  exact ⟨rfl, (Ext.refl w).alloc _⟩
theorem dart_worth (b : Int) (w : World) (hb : I64 b) : Calls Try.prog 84 #[.agg #[.int .i64 b]] w fun e w' => e = .returned (.int .i64 (wrt b)) ∧ Ext w w' := by
  go_enter Try.func84, Try.ntmps84
  go_wp2
  refine wp_region_later (by kernel_rfl) (by kernel_rfl) ?_
  repeat (quiet_step (first | (refine Calls.later (dart_factor _ _ hb)) | (refine Calls.later (dart_number _ _))))
  refine wpQuiet_nil ?_
  rintro _ ⟨⟨w1, hx1⟩, rfl⟩
  go_wp2
  go_ret
  exact ⟨ret_int (wrap_wrt hb), ((Ext.refl w).alloc _).trans hx1⟩
theorem leg_isGate (g : Int) (w : World) : Calls Try.prog 64 #[.int .i64 g] w fun e w' => e = .returned (.bool (ins 0 2 [g])) ∧ Ext w w' := by
  go_enter Try.func64, Try.ntmps64
  go_wp2_with fail
  refine (leg_within_1 _ _ _ _ _ (by simp)).mono ?_
  rintro e w1 ⟨rfl, hx1⟩
  go_wp2
  go_ret
  exact ⟨rfl, hx1⟩
/-- Whether the laws of a player are valid. -/
def cntB (start gin gout : Int) : Bool := ins 2 1001 [start] && (ins 0 2 [gin] && ins 0 2 [gout])
theorem leg_isCount (start gin gout : Int) (w : World) : Calls Try.prog 39 #[.agg #[.int .i64 start, .int .i64 gin, .int .i64 gout]] w fun e w' => e = .returned (.bool (cntB start gin gout)) ∧ Ext w w' := by
  go_enter Try.func39, Try.ntmps39
  go_wp2_with fail
  refine (leg_within_1 _ _ _ _ _ (by simp)).mono ?_
  rintro e w1 ⟨rfl, hx1⟩
  have hx := ((Ext.refl w).alloc (.cells #[.int .i64 start, .int .i64 gin, .int .i64 gout] 24)).trans hx1
  cases h1 : ins 2 1001 [start]
  · go_wp2
    go_ret
    exact ⟨ret_bool (by simp [cntB, h1]), hx⟩
  · obtain ⟨hc1, hf1⟩ := hx1.reads
    go_wp2_with fail
    refine (leg_isGate _ _).mono ?_
    rintro e w2 ⟨rfl, hx2⟩
    clear hc1 hf1
    obtain ⟨hc2, hf2⟩ := (hx1.trans hx2).reads
    cases h2 : ins 0 2 [gin]
    · go_wp2
      go_ret
      exact ⟨ret_bool (by simp [cntB, h2]), hx.trans hx2⟩
    · go_wp2_with fail
      refine (leg_isGate _ _).mono ?_
      rintro e w3 ⟨rfl, hx3⟩
      go_wp2
      go_ret
      exact ⟨ret_bool (by simp [cntB, h1, h2]), (hx.trans hx2).trans hx3⟩
/-- Whether a dart is valid, a miss as well. -/
def validB (b : Int) : Bool := [0, 125, 225].any (b == ·) || (ins 1 4 [fct b] && ins 1 20 [nmb b])
theorem dart_isValid (b : Int) (w : World) (hb : I64 b) : Calls Try.prog 68 #[.agg #[.int .i64 b]] w fun e w' => e = .returned (.bool (validB b)) ∧ Ext w w' := by
  go_enter Try.func68, Try.ntmps68
  go_wp2_with fail
  refine (contains_b b [0, 125, 225] _ 3 _ (by exact CellsAt.three _ 0 125 225 _ (by simp)) (by simp)).mono ?_
  rintro e w1 ⟨rfl, hx1⟩
  have hx0 : Ext (w.alloc (.cells #[.int .i64 b] 134)) w1 := ((Ext.refl _).alloc _).trans hx1
  cases h1 : [(0 : Int), 125, 225].any (b == ·)
  · obtain ⟨hc1, hf1⟩ := hx0.reads
    go_wp2_with fail
    refine (dart_factor _ _ hb).mono ?_
    rintro e w2 ⟨rfl, hx2⟩
    clear hc1 hf1
    obtain ⟨hc1, hf1⟩ := (hx0.trans hx2).reads
    go_wp2_with fail
    refine (leg_within_1 _ _ _ _ _ (by simp)).mono ?_
    rintro e w3 ⟨rfl, hx3⟩
    clear hc1 hf1
    have hx := (hx0.trans hx2).trans hx3
    obtain ⟨hc1, hf1⟩ := hx.reads
    cases h2 : ins 1 4 [fct b]
    · go_wp2
      go_ret
      exact ⟨ret_bool (by rw [validB, h1, h2]; rfl), ((Ext.refl w).alloc _).trans hx⟩
    · go_wp2_with fail
      refine (dart_number _ _).mono ?_
      rintro e w4 ⟨rfl, hx4⟩
      go_wp2_with fail
      refine (leg_within_1 _ _ _ _ _ (by simp)).mono ?_
      rintro e w5 ⟨rfl, hx5⟩
      go_wp2
      go_ret
      exact ⟨ret_bool (by rw [validB, h1, h2]; simp), ((Ext.refl w).alloc _).trans ((hx.trans hx4).trans hx5)⟩
  · go_wp2
    go_ret
    exact ⟨ret_bool (by rw [validB, h1]; rfl), ((Ext.refl w).alloc _).trans hx0⟩
/-- Whether a dart opens a gate. -/
def opn4 (g b : Int) : Bool := if g = 1 then ins 2 2 [fct b] else if g = 2 then ins 2 4 [fct b] else ins 1 4 [fct b]
theorem dart_opens (b g : Int) (w : World) (hb : I64 b) : Calls Try.prog 83 #[.agg #[.int .i64 b], .int .i64 g] w fun e w' => e = .returned (.bool (opn4 g b)) ∧ Ext w w' := by
  by_cases h1 : g = 1
  · subst h1
    go_enter Try.func83, Try.ntmps83
    go_wp2_with fail
    refine (dart_factor _ _ hb).mono ?_
    rintro e w1 ⟨rfl, hx1⟩
    go_wp2_with fail
    refine (leg_within_1 _ _ _ _ _ (by simp)).mono ?_
    rintro e w2 ⟨rfl, hx2⟩
    go_wp2
    go_ret
    exact ⟨ret_bool (by simp [opn4]), ((Ext.refl w).alloc _).trans (hx1.trans hx2)⟩
  by_cases h2 : g = 2
  · subst h2
    go_enter Try.func83, Try.ntmps83
    go_wp2_with fail
    refine (dart_factor _ _ hb).mono ?_
    rintro e w1 ⟨rfl, hx1⟩
    go_wp2_with fail
    refine (leg_within_1 _ _ _ _ _ (by simp)).mono ?_
    rintro e w2 ⟨rfl, hx2⟩
    go_wp2
    go_ret
    exact ⟨ret_bool (by simp [opn4]), ((Ext.refl w).alloc _).trans (hx1.trans hx2)⟩
  · have e1 : (g == 1) = false := by simpa using h1
    have e2 : (g == 2) = false := by simpa using h2
    go_enter Try.func83, Try.ntmps83
    go_wp2_with fail
    refine (dart_factor _ _ hb).mono ?_
    rintro e w1 ⟨rfl, hx1⟩
    go_wp2_with fail
    refine (leg_within_1 _ _ _ _ _ (by simp)).mono ?_
    rintro e w2 ⟨rfl, hx2⟩
    go_wp2
    go_ret
    exact ⟨ret_bool (by simp [opn4, h1, h2]), ((Ext.refl w).alloc _).trans (hx1.trans hx2)⟩
end Go.Proofs.Ytocnglplhnhllaa
