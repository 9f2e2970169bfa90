/-
  The reference of chapter 6: Bed, Score, Opens.
-/
import Derived.Test.YtmopadnkjlodnaaLegD
import Derived.Test.YtmopadnkjlodnaaPlc
namespace Go.Proofs.Ytmopadnkjlodnaa
open Go.RowKit Go.BigFrame
theorem ref_Bed (b : Int) (w : World) (hb : I64 b) : Calls Try.prog 78 #[.int .i64 b] w fun e w' => e = .returned (.bool (isBedB b)) ∧ Ext w w' := by
  have hf := wrap_fct hb
  have hn : b.tmod 100 = nmb b := rfl
  have HV : Hid (isBedB b = (b == 125 || b == 225 || (ins 1 4 [fct b] && ins 1 20 [nmb b]))) := Lib.hid rfl
  cases h1 : b == 125
  case' false => cases h2 : b == 225
  case false.false =>
    go_enter Try.func78, Try.ntmps78
    go_wp2_with fail
    refine (ref_In _ _ _ _).mono ?_
    rintro e w1 ⟨rfl, hx1⟩
    rw [hf]
    cases h3 : inB (fct b) 1 4
    · go_wp2
      go_ret
      exact ⟨ret_bool (by rw [HV.out, insm_one, insm_one]; simp [h1, h2, h3]), hx1⟩
    · go_wp2_with fail
      refine (ref_In _ _ _ _).mono ?_
      rintro e w2 ⟨rfl, hx2⟩
      go_wp2
      go_ret
      exact ⟨ret_bool (by rw [HV.out, insm_one, insm_one]; simp [h1, h2, h3, nmb]), hx1.trans hx2⟩
  all_goals
    go_enter Try.func78, Try.ntmps78
    go_wp2
    go_ret
    exact ⟨ret_bool (by rw [HV.out]; simp [*]), Ext.refl _⟩
theorem ref_Score (b : Int) (w : World) (hb : I64 b) : Calls Try.prog 90 #[.int .i64 b] w fun e w' => e = .returned (.int .i64 (wrt b)) ∧ Ext w w' := by
  have hf := wrap_fct hb
  go_enter Try.func90, Try.ntmps90
  go_wp2
  go_ret
  exact ⟨ret_int (wrap64_in' (x := wrt b) (by have := wrt_bounds hb; exact ⟨by omega, by omega⟩)), Ext.refl _⟩
theorem opn_eq {g b : Int} (hg : 0 ≤ g ∧ g ≤ 2) : opn g b = ((g == 0 && decide (1 ≤ fct b)) || (g == 1 && fct b == 2) || (g == 2 && decide (2 ≤ fct b))) := by
  unfold opn
  have hg' : g = 0 ∨ g = 1 ∨ g = 2 := by omega
  rcases hg' with rfl | rfl | rfl <;> simp
theorem ref_Opens (g b : Int) (w : World) (hb : I64 b) (hg : 0 ≤ g ∧ g ≤ 2) : Calls Try.prog 89 #[.int .i64 g, .int .i64 b] w fun e w' => e = .returned (.bool (opn g b)) ∧ Ext w w' := by
  have hf := wrap_fct hb
  have HE := Lib.hid (opn_eq (b := b) hg)
  have hg' : g = 0 ∨ g = 1 ∨ g = 2 := by omega
  clear hg
  rcases hg' with rfl | rfl | rfl
  case' inr.inl => cases h1 : fct b == 2
  case' inl => by_cases h1 : 1 ≤ fct b
  case' inr.inr => by_cases h1 : 2 ≤ fct b
  all_goals
    go_enter Try.func89, Try.ntmps89
    go_wp2
    go_ret
    exact ⟨ret_bool (by rw [HE.out]; simp [*]), Ext.refl _⟩
theorem ref_Count (start gin gout : Int) (w : World) : Calls Try.prog 53 #[.agg #[.int .i64 start, .int .i64 gin, .int .i64 gout]] w fun e w' => e = .returned (.bool (cntB start gin gout)) ∧ Ext w w' := by
  have HE : Hid (cntB start gin gout = (inB start 2 1001 && (inB gin 0 2 && inB gout 0 2))) := Lib.hid (by rw [← insm_one, ← insm_one, ← insm_one]; rfl)
  go_enter Try.func53, Try.ntmps53
  have hB : Blk (w.alloc (.cells #[.int .i64 start, .int .i64 gin, .int .i64 gout] 24)) w.heap.size #[.int .i64 start, .int .i64 gin, .int .i64 gout] := Blk.new _ _ _
  have hx0 := (Ext.refl w).alloc (.cells #[.int .i64 start, .int .i64 gin, .int .i64 gout] 24)
  go_wp2_with fail
  generalize w.heap.size = kb at *
  refine (ref_In _ _ _ _).mono ?_
  rintro e w1 ⟨rfl, hx1⟩
  cases h1 : inB start 2 1001
  · go_wp2
    go_ret
    exact ⟨ret_bool (by rw [HE.out]; simp [*]), hx0.trans hx1⟩
  · have b1 := (hB.ext hx1).cell 1 (v := .int .i64 gin) rfl
    go_wp2_with fail
    refine (ref_In _ _ _ _).mono ?_
    rintro e w2 ⟨rfl, hx2⟩
    cases h2 : inB gin 0 2
    · go_wp2
      go_ret
      exact ⟨ret_bool (by rw [HE.out]; simp [*]), (hx0.trans hx1).trans hx2⟩
    · have b2 := ((hB.ext hx1).ext hx2).cell 2 (v := .int .i64 gout) rfl
      go_wp2_with fail
      refine (ref_In _ _ _ _).mono ?_
      rintro e w3 ⟨rfl, hx3⟩
      go_wp2
      go_ret
      exact ⟨ret_bool (by rw [HE.out]; simp [*]), ((hx0.trans hx1).trans hx2).trans hx3⟩
end Go.Proofs.Ytmopadnkjlodnaa
