/-
  Package mean's small functions: the parts of a bed, what opens a gate, 'within'.
-/
import Derived.Test.YtmopadnkjlodnaaBeds
import Derived.Test.YtmopadnkjlodnaaSlicesI
import Derived.Test.YtmopadnkjlodnaaSlicesB
namespace Go.Proofs.Ytmopadnkjlodnaa
open Go.RowKit
attribute [local go_sem] Later.cell Later.frozen

theorem mean_factor (b : Int) (w : World) (hb : I64 b) : Calls Try.prog 92 #[.agg #[.int .i64 b]] w fun e w' => e = .returned (.int .i64 (fct b)) ∧ Ext w w' := by
  go_enter Try.func92, Try.ntmps92
  go_wp2
  go_ret
  exact ⟨ret_int (wrap_fct hb), (Ext.refl w).alloc _⟩
theorem mean_number (b : Int) (w : World) : Calls Try.prog 93 #[.agg #[.int .i64 b]] w fun e w' => e = .returned (.int .i64 (nmb b)) ∧ Ext w w' := by
  go_enter Try.func93, Try.ntmps93
  go_wp2
  go_ret
  exact ⟨rfl, (Ext.refl w).alloc _⟩
theorem mean_worth (b : Int) (w : World) (hb : I64 b) : Calls Try.prog 99 #[.agg #[.int .i64 b]] w fun e w' => e = .returned (.int .i64 (wrt b)) ∧ Ext w w' := by
  go_enter Try.func99, Try.ntmps99
  go_wp2
  refine wp_region_later (by kernel_rfl) (by kernel_rfl) ?_
  repeat (quiet_step (first | (refine Calls.later (mean_factor _ _ hb)) | (refine Calls.later (mean_number _ _))))
  refine wpQuiet_nil ?_
  rintro _ ⟨⟨w1, hx1⟩, rfl⟩
  go_wp2
  go_ret
  exact ⟨ret_int (wrap_wrt hb), ((Ext.refl w).alloc _).trans hx1⟩
theorem mean_within1 (n least most : Int) (al am : Addr) (w : World) (h1 : w.cell? al = some (.int .i64 least)) (h2 : w.cell? am = some (.int .i64 most)) :
    Calls Try.prog 84 #[.int .i64 n, .pointer (some al), .pointer (some am)] w fun e w' => e = .returned (.bool (out1 least most n)) ∧ Ext w w' := by
  go_enter Try.func84, Try.ntmps84
  go_wp2
  all_goals (go_ret; exact ⟨ret_bool (by simp [out1, *]), Ext.refl w⟩)
theorem enters_within1 : Enters Try.prog 84 := enters_of Try.func84 (by kernel_rfl) rfl
theorem mean_within (least most : Int) (l : List Int) (a : Option Addr) (c : Nat) (w : World) (hl : l.length ≤ 9223372036854775807) (ha : CellsAt w .i64 a l) :
    Calls Try.prog 61 #[.int .i64 least, .int .i64 most, .slice a l.length c] w fun e w' => e = .returned (.bool (ins least most l)) ∧ Ext w w' := by
  go_enter Try.func61, Try.ntmps61
  go_wp2_with fail
  have hx : Ext w ((w.alloc (.cells #[.int .i64 least] 3)).alloc (.cells #[.int .i64 most] 3)) := ((Ext.refl w).alloc _).alloc _
  refine (containsFunc_i 84 _ enters_within1 (out1 least most) l a c _ (by exact ha.ext hx) hl (by exact fun x _ w1 hx1 => mean_within1 x least most _ _ w1 (hx1.cell (by simp [go_sem])) (hx1.cell (by simp [go_sem])))).mono ?_
  rintro e w1 ⟨rfl, hx1⟩
  go_wp2
  go_ret
  exact ⟨rfl, hx.trans hx1⟩
theorem mean_opens (b g : Int) (w : World) (hb : I64 b) : Calls Try.prog 98 #[.agg #[.int .i64 b], .int .i64 g] w fun e w' => e = .returned (.bool (opn g b)) ∧ Ext w w' := by
  by_cases h1 : g = 1
  · subst h1
    go_enter Try.func98, Try.ntmps98
    go_wp2_with fail
    refine (mean_factor _ _ hb).mono ?_
    rintro e w1 ⟨rfl, hx1⟩
    go_wp2
    all_goals (go_ret; exact ⟨ret_bool (by simp [opn, *]), ((Ext.refl w).alloc _).trans hx1⟩)
  by_cases h2 : g = 2
  · subst h2
    go_enter Try.func98, Try.ntmps98
    go_wp2_with fail
    refine (mean_factor _ _ hb).mono ?_
    rintro e w1 ⟨rfl, hx1⟩
    go_wp2
    all_goals (go_ret; exact ⟨ret_bool (by simp [opn, *]), ((Ext.refl w).alloc _).trans hx1⟩)
  · have e1 : (g == 1) = false := by simpa using h1
    have e2 : (g == 2) = false := by simpa using h2
    go_enter Try.func98, Try.ntmps98
    go_wp2_with fail
    refine (mean_factor _ _ hb).mono ?_
    rintro e w1 ⟨rfl, hx1⟩
    go_wp2
    all_goals (go_ret; exact ⟨ret_bool (by simp [opn, *]), ((Ext.refl w).alloc _).trans hx1⟩)
end Go.Proofs.Ytmopadnkjlodnaa
