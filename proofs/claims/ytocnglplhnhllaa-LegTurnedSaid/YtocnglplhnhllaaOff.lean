/-
  Package leg: a dart at the bull: isValid, rank, the best ones.
-/
import Derived.Test.YtocnglplhnhllaaLegE
namespace Go.Proofs.Ytocnglplhnhllaa
open Go.RowKit Go.BigFrame
attribute [local go_sem] Later.cell Later.frozen
def Toss.ok (o : Toss) : Bool := validB o.bed && ins 0 10000 [o.far]
theorem off_isValid (o : Toss) (w : World) (hb : I64 o.bed) : Calls Try.prog 55 #[.agg #[.int .i64 o.bed, .int .i64 o.far]] w fun e w' => e = .returned (.bool o.ok) ∧ Ext w w' := by
  obtain ⟨bed, far⟩ := o
  go_enter Try.func55, Try.ntmps55
  go_wp2_with fail
  refine (dart_isValid bed _ hb).mono ?_
  rintro e w1 ⟨rfl, hx1⟩
  have hb1 : Blk w1 w.heap.size #[.int .i64 bed, .int .i64 far] := (Blk.at _ (by simp)).ext hx1
  have hE := ((Ext.refl w).alloc (.cells #[.int .i64 bed, .int .i64 far] 119)).trans hx1
  clear hx1
  have hlt := hb1.lt
  have k1 := hb1.cell 1 (v := .int .i64 far) rfl
  cases h1 : validB bed
  · go_wp2
    go_ret
    exact ⟨ret_bool (by simp only [Toss.ok, h1, Bool.false_and]), hE⟩
  · go_wp2_with fail
    refine (leg_within_1 _ _ _ _ _ (by simp)).mono ?_
    rintro e w2 ⟨rfl, hx2⟩
    go_wp2
    go_ret
    exact ⟨ret_bool (by simp only [Toss.ok, h1, Bool.true_and]), hE.trans hx2⟩
theorem off1 (o : Toss) (w : World) (hb : I64 o.bed) : Calls Try.prog 54 #[o.agg] w fun e w' => e = .returned (.bool (!o.ok)) ∧ Ext w w' := by
  have h := off_isValid o
  obtain ⟨bed, far⟩ := o
  unfold Toss.agg
  go_enter Try.func54, Try.ntmps54
  go_wp2_with fail
  refine (h _ hb).mono ?_
  rintro e w1 ⟨rfl, hx1⟩
  go_wp2
  go_ret
  exact ⟨rfl, ((Ext.refl w).alloc _).trans hx1⟩
theorem enters_off1 : Enters Try.prog 54 := enters_of Try.func54 (by kernel_rfl) rfl
/-- How good a dart is: the less the better. -/
def Toss.rank (o : Toss) : Int := if o.bed = 225 then -2 else if o.bed = 125 then -1 else if o.bed = 0 then 10001 else o.far
theorem off_rank (o : Toss) (w : World) : Calls Try.prog 77 #[.agg #[.int .i64 o.bed, .int .i64 o.far]] w fun e w' => e = .returned (.int .i64 o.rank) ∧ Ext w w' := by
  obtain ⟨bed, far⟩ := o
  generalize hi : idx (bed == ·) [225, 125] = i
  go_enter Try.func77, Try.ntmps77
  go_wp2
  refine wp_region_later (by kernel_rfl) (by kernel_rfl) ?_
  repeat (go_big_quiet_step (refine Calls.later (index_b bed [225, 125] _ _ _ (CellsAt.ext (CellsAt.two _ _ _ _ (by simp)) (Later.ext _)) (by simp))))
  refine wpQuiet_nil ?_
  intro w1 hw1
  obtain ⟨⟨w1, hx1⟩, rfl⟩ := hw1
  have hb1 : Blk w1 w.heap.size #[.int .i64 bed, .int .i64 far] := ((Blk.at _ (by simp)).alloc _).ext hx1
  have hE := (((Ext.refl w).alloc _).alloc _).trans hx1
  clear hx1
  have hlt := hb1.lt
  have k0 := hb1.cell 0 (v := .int .i64 bed) rfl
  have k1 := hb1.cell 1 (v := .int .i64 far) rfl
  rw [hi]
  by_cases h1 : bed = 225
  · obtain rfl : i = 0 := by rw [← hi, h1]; rfl
    go_wp2
    go_ret
    exact ⟨ret_int (by simp [Toss.rank, h1]), hE⟩
  · by_cases h2 : bed = 125
    · obtain rfl : i = 1 := by rw [← hi, h2]; rfl
      go_wp2
      go_ret
      exact ⟨ret_int (by simp [Toss.rank, h2]), hE⟩
    · obtain rfl : i = -1 := by rw [← hi]; simp [idx, h1, h2]
      cases h3 : bed == 0
      · go_wp2
        go_ret
        exact ⟨ret_int (by simp only [Toss.rank, h1, h2, if_false]; rw [if_neg (by simpa using h3)]), hE⟩
      · go_wp2
        go_ret
        exact ⟨ret_int (by obtain rfl : bed = 0 := by simpa using h3
                           rfl), hE⟩
theorem Toss.rank_bounds {o : Toss} (_h : I64 o.far) (h2 : 0 ≤ o.far ∧ o.far ≤ 10000) : -2 ≤ o.rank ∧ o.rank ≤ 10001 := by
  unfold Toss.rank; split; omega; split; omega; split <;> omega
theorem best1 (x y : Toss) (w : World) (hx : -2 ≤ x.rank ∧ x.rank ≤ 10001) (hy : -2 ≤ y.rank ∧ y.rank ≤ 10001) : Calls Try.prog 76 #[x.agg, y.agg] w fun e w' => e = .returned (.int .i64 (x.rank - y.rank)) ∧ Ext w w' := by
  have h1 := off_rank x
  have h2 := off_rank y
  have hw : wrap64 (x.rank - y.rank) = x.rank - y.rank := wrap64_in' ⟨by omega, by omega⟩
  generalize x.rank = rx at *
  generalize y.rank = ry at *
  obtain ⟨b1, f1⟩ := x
  obtain ⟨b2, f2⟩ := y
  unfold Toss.agg
  go_enter Try.func76, Try.ntmps76
  have H1 := Lib.hid h1
  have H2 := Lib.hid h2
  clear h1 h2
  go_wp2
  refine wp_region_later (by kernel_rfl) (by kernel_rfl) ?_
  repeat (go_big_quiet_step (first | with_reducible refine Calls.later (H1.out _) | with_reducible refine Calls.later (H2.out _)))
  refine wpQuiet_nil ?_
  intro w1 hw1
  obtain ⟨⟨w1, hx1⟩, rfl⟩ := hw1
  go_wp2
  go_ret
  exact ⟨rfl, (((Ext.refl w).alloc _).alloc _).trans hx1⟩
theorem enters_best1 : Enters Try.prog 76 := enters_of Try.func76 (by kernel_rfl) rfl
end Go.Proofs.Ytocnglplhnhllaa
