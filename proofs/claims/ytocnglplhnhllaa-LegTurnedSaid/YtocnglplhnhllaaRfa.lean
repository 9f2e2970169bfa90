/-
  The reference of chapter 3: In, Bed, Score, Opens, Count, Start.
-/
import Derived.Test.YtocnglplhnhllaaGmp
namespace Go.Proofs.Ytocnglplhnhllaa
open Go.RowKit
theorem ins_eq (a b x : Int) : ins a b [x] = (decide (a ≤ x) && decide (x ≤ b)) := by
  rw [Bool.eq_iff_iff, ins_one]; simp
theorem ref_In (n a b : Int) (w : World) : Calls Try.prog 42 #[.int .i64 n, .int .i64 a, .int .i64 b] w fun e w' => e = .returned (.bool (ins a b [n])) ∧ w = w' := by
  by_cases h1 : a ≤ n
  · go_enter Try.func42, Try.ntmps42
    go_wp2
    all_goals
      go_ret
      exact ⟨ret_bool (by rw [ins_eq]; simp [h1]), rfl⟩
  · go_enter Try.func42, Try.ntmps42
    go_wp2
    all_goals
      go_ret
      exact ⟨ret_bool (by rw [ins_eq]; simp; omega), rfl⟩
theorem ref_Bed (b : Int) (w : World) (hb : I64 b) : Calls Try.prog 43 #[.int .i64 b] w fun e w' => e = .returned (.bool (validB b)) ∧ w = w' := by
  have hf := wrap_fct hb
  have hn : b.tmod 100 = nmb b := rfl
  have HV : Hid (validB b = ([0, 125, 225].any (b == ·) || (ins 1 4 [fct b] && ins 1 20 [nmb b]))) := Lib.hid rfl
  cases h0 : b == 0
  case' false => cases h1 : b == 125
  case' false.false => cases h2 : b == 225
  case false.false.false =>
    go_enter Try.func43, Try.ntmps43
    go_wp2_with fail
    refine (ref_In _ _ _ _).mono ?_
    rintro e w1 ⟨rfl, rfl⟩
    rw [hf]
    cases h3 : ins 1 4 [fct b]
    · go_wp2
      go_ret
      exact ⟨ret_bool (by rw [HV.out]; simp [h0, h1, h2, h3]), rfl⟩
    · go_wp2_with fail
      refine (ref_In _ _ _ _).mono ?_
      rintro e w1 ⟨rfl, rfl⟩
      go_wp2
      go_ret
      exact ⟨ret_bool (by rw [HV.out]; simp [h0, h1, h2, h3, nmb]), rfl⟩
  all_goals
    go_enter Try.func43, Try.ntmps43
    go_wp2
    go_ret
    exact ⟨ret_bool (by rw [HV.out]; simp [*]), rfl⟩
theorem ref_Score (b : Int) (w : World) (hb : I64 b) : Calls Try.prog 45 #[.int .i64 b] w fun e w' => e = .returned (.int .i64 (wrt b)) ∧ w = w' := by
  have hf := wrap_fct hb
  go_enter Try.func45, Try.ntmps45
  go_wp2
  go_ret
  exact ⟨ret_int (wrap64_in' (x := wrt b) (by have := wrt_bounds hb; exact ⟨by omega, by omega⟩)), rfl⟩
theorem valid_fct {b : Int} (h : validB b = true) : 0 ≤ fct b ∧ fct b ≤ 4 := by
  unfold validB at h
  simp only [List.any_cons, List.any_nil, Bool.or_false, Bool.or_eq_true, beq_iff_eq, Bool.and_eq_true, ins_one] at h
  rcases h with (rfl | rfl | rfl) | ⟨h1, _⟩
  · decide
  · decide
  · decide
  · omega
theorem opn4_eq {g b : Int} (hg : 0 ≤ g ∧ g ≤ 2) (hv : validB b = true) : opn4 g b = ((g == 0 && decide (1 ≤ fct b)) || (g == 1 && fct b == 2) || (g == 2 && decide (2 ≤ fct b))) := by
  have hf := valid_fct hv
  unfold opn4
  rw [Bool.eq_iff_iff]
  simp only [Bool.or_eq_true, Bool.and_eq_true, beq_iff_eq, decide_eq_true_eq]
  split
  · rw [ins_one]; omega
  · split
    · rw [ins_one]; omega
    · rw [ins_one]; omega
theorem ref_Opens (g b : Int) (w : World) (hb : I64 b) (hg : 0 ≤ g ∧ g ≤ 2) (hv : validB b = true) : Calls Try.prog 44 #[.int .i64 g, .int .i64 b] w fun e w' => e = .returned (.bool (opn4 g b)) ∧ w = w' := by
  have hf := wrap_fct hb
  have HE := Lib.hid (opn4_eq hg hv)
  have hg' : g = 0 ∨ g = 1 ∨ g = 2 := by omega
  clear hg
  rcases hg' with rfl | rfl | rfl
  case' inr.inl => cases h1 : fct b == 2
  case' inl => by_cases h1 : 1 ≤ fct b
  case' inr.inr => by_cases h1 : 2 ≤ fct b
  all_goals
    go_enter Try.func44, Try.ntmps44
    go_wp2
    go_ret
    exact ⟨ret_bool (by rw [HE.out]; simp [*]), rfl⟩
theorem cntB_def (start gin gout : Int) : cntB start gin gout = (ins 2 1001 [start] && (ins 0 2 [gin] && ins 0 2 [gout])) := rfl
theorem ref_Count (start gin gout : Int) (w : World) : Calls Try.prog 15 #[.agg #[.int .i64 start, .int .i64 gin, .int .i64 gout]] w fun e w' => e = .returned (.bool (cntB start gin gout)) ∧ Ext w w' := by
  have HE := Lib.hid (cntB_def start gin gout)
  go_enter Try.func15, Try.ntmps15
  go_wp2_with fail
  refine (ref_In _ _ _ _).mono ?_
  rintro e w1 ⟨rfl, rfl⟩
  cases h1 : ins 2 1001 [start]
  · go_wp2
    go_ret
    exact ⟨ret_bool (by rw [HE.out]; simp [*]), (Ext.refl w).alloc _⟩
  · go_wp2_with fail
    refine (ref_In _ _ _ _).mono ?_
    rintro e w1 ⟨rfl, rfl⟩
    cases h2 : ins 0 2 [gin]
    · go_wp2
      go_ret
      exact ⟨ret_bool (by rw [HE.out]; simp [*]), (Ext.refl w).alloc _⟩
    · go_wp2_with fail
      refine (ref_In _ _ _ _).mono ?_
      rintro e w1 ⟨rfl, rfl⟩
      go_wp2
      go_ret
      exact ⟨ret_bool (by rw [HE.out]; simp [*]), (Ext.refl w).alloc _⟩
/-- Whether a player can have so much left. -/
def startB (start gout left : Int) (inn : Bool) : Bool := ins (leastS gout) start [left] && (inn || left == start)
theorem ref_Start (start gin gout left : Int) (inn : Bool) (w : World) : Calls Try.prog 16 #[.agg #[.int .i64 start, .int .i64 gin, .int .i64 gout], .bool inn, .int .i64 left] w fun e w' => e = .returned (.bool (startB start gout left inn)) ∧ Ext w w' := by
  have HE : Hid (startB start gout left inn = (ins (if (gout == 0) = true then 1 else 2) start [left] && (inn || left == start))) := Lib.hid (by unfold startB leastS; simp)
  cases hg : gout == 0
  all_goals
    rw [hg] at HE
    go_enter Try.func16, Try.ntmps16
    go_wp2_with fail
    refine (ref_In _ _ _ _).mono ?_
    rintro e w1 ⟨rfl, rfl⟩
    cases h1 : ins _ start [left]
    case' true =>
      cases inn
      case' false => cases h2 : left == start
    all_goals
      go_wp2
      go_ret
      exact ⟨ret_bool (by rw [HE.out]; simp [*]), (Ext.refl w).alloc _⟩
end Go.Proofs.Ytocnglplhnhllaa
