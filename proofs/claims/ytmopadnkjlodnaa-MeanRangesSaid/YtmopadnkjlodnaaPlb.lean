/-
  Plain: what Better and the reference say of ranges is the same.
-/
import Derived.Test.YtmopadnkjlodnaaMra
namespace Go.Proofs.Ytmopadnkjlodnaa
open Go.RowKit Go.BigFrame
attribute [local go_sem] Oper.semAt_some Later.cell Later.frozen
def inB (x lo hi : Int) : Bool := decide (lo ≤ x) && decide (x ≤ hi)
theorem ref_In (x lo hi : Int) (w : World) : Calls Try.prog 23 #[.int .i64 x, .int .i64 lo, .int .i64 hi] w fun e w' => e = .returned (.bool (inB x lo hi)) ∧ Ext w w' := by
  go_enter Try.func23, Try.ntmps23
  by_cases h1 : lo ≤ x <;> by_cases h2 : x ≤ hi
  all_goals
    go_wp2
    go_ret
    exact ⟨ret_bool (by simp [inB, *]), Ext.refl w⟩
def lesW (a b : Fra) : Bool := decide (wrap64 (a.n * b.d) < wrap64 (b.n * a.d))
theorem ref_Less (an ad bn bd : Int) (w : World) : Calls Try.prog 34 #[.agg #[.int .i64 an, .int .i64 ad], .agg #[.int .i64 bn, .int .i64 bd]] w fun e w' => e = .returned (.bool (lesW ⟨an, ad⟩ ⟨bn, bd⟩)) ∧ Ext w w' := by
  go_enter Try.func34, Try.ntmps34
  go_wp2
  refine bodyPost_ret (v := .bool (lesW ⟨an, ad⟩ ⟨bn, bd⟩)) (by simp [results, Try.results34, go_sem, lesW]) rfl ⟨rfl, ((Ext.refl w).alloc _).alloc _⟩
def ranR (r : Ran) : Bool := inB r.lo.n 0 3000000 && (inB r.hi.n 0 3000000 && (inB r.lo.d 1 1000000 && (inB r.hi.d 1 1000000 && !lesW r.hi r.lo)))
set_option maxHeartbeats 4000000 in
theorem ref_Range (ln ld hn hd : Int) (w : World) : Calls Try.prog 33 #[.agg #[.int .i64 ln, .int .i64 ld, .int .i64 hn, .int .i64 hd]] w fun e w' => e = .returned (.bool (ranR ⟨⟨ln, ld⟩, ⟨hn, hd⟩⟩)) ∧ Ext w w' := by
  obtain ⟨rb, hrb⟩ : ∃ c, ranR ⟨⟨ln, ld⟩, ⟨hn, hd⟩⟩ = c := ⟨_, rfl⟩
  rw [hrb]
  have HRB := Lib.hid hrb
  clear hrb
  go_enter Try.func33, Try.ntmps33
  go_wp2_with fail
  refine (ref_In ln 0 3000000 _).mono ?_
  rintro e w1 ⟨rfl, hx1⟩
  have HX1 := Lib.hid (((Ext.refl w).alloc _).trans hx1)
  have hb1 : Blk w1 w.heap.size #[.int .i64 ln, .int .i64 ld, .int .i64 hn, .int .i64 hd] := (Blk.new _ _ _).ext hx1
  clear hx1
  have HB1 := Lib.hid hb1
  have b0 := hb1.cell 0 (v := .int .i64 ln) rfl
  have b1 := hb1.cell 1 (v := .int .i64 ld) rfl
  have b2 := hb1.cell 2 (v := .int .i64 hn) rfl
  have b3 := hb1.cell 3 (v := .int .i64 hd) rfl
  have bl := hb1.lt
  clear hb1
  cases h1 : inB ln 0 3000000
  · have e : rb = false := by rw [← HRB.out]; simp [ranR, h1]
    subst e
    go_wp2
    refine bodyPost_ret (v := .bool false) (by simp [results, Try.results33, go_sem]) rfl ⟨rfl, HX1.out⟩
  go_wp2_with fail
  refine (ref_In hn 0 3000000 _).mono ?_
  rintro e w2 ⟨rfl, hx2⟩
  have HX2 := Lib.hid (HX1.out.trans hx2)
  have hb2 := HB1.out.ext hx2
  clear hx2 b0 b1 b2 b3 bl
  have HB2 := Lib.hid hb2
  have b0 := hb2.cell 0 (v := .int .i64 ln) rfl
  have b1 := hb2.cell 1 (v := .int .i64 ld) rfl
  have b2 := hb2.cell 2 (v := .int .i64 hn) rfl
  have b3 := hb2.cell 3 (v := .int .i64 hd) rfl
  have bl := hb2.lt
  clear hb2
  cases h2 : inB hn 0 3000000
  · have e : rb = false := by rw [← HRB.out]; simp [ranR, h1, h2]
    subst e
    go_wp2
    refine bodyPost_ret (v := .bool false) (by simp [results, Try.results33, go_sem]) rfl ⟨rfl, HX2.out⟩
  go_wp2_with fail
  refine (ref_In ld 1 1000000 _).mono ?_
  rintro e w3 ⟨rfl, hx3⟩
  have HX3 := Lib.hid (HX2.out.trans hx3)
  have hb3 := HB2.out.ext hx3
  clear hx3 b0 b1 b2 b3 bl
  have HB3 := Lib.hid hb3
  have b0 := hb3.cell 0 (v := .int .i64 ln) rfl
  have b1 := hb3.cell 1 (v := .int .i64 ld) rfl
  have b2 := hb3.cell 2 (v := .int .i64 hn) rfl
  have b3 := hb3.cell 3 (v := .int .i64 hd) rfl
  have bl := hb3.lt
  clear hb3
  cases h3 : inB ld 1 1000000
  · have e : rb = false := by rw [← HRB.out]; simp [ranR, h1, h2, h3]
    subst e
    go_wp2
    refine bodyPost_ret (v := .bool false) (by simp [results, Try.results33, go_sem]) rfl ⟨rfl, HX3.out⟩
  go_wp2_with fail
  refine (ref_In hd 1 1000000 _).mono ?_
  rintro e w4 ⟨rfl, hx4⟩
  have HX4 := Lib.hid (HX3.out.trans hx4)
  have hb4 := HB3.out.ext hx4
  clear hx4 b0 b1 b2 b3 bl
  have HB4 := Lib.hid hb4
  have b0 := hb4.cell 0 (v := .int .i64 ln) rfl
  have b1 := hb4.cell 1 (v := .int .i64 ld) rfl
  have b2 := hb4.cell 2 (v := .int .i64 hn) rfl
  have b3 := hb4.cell 3 (v := .int .i64 hd) rfl
  have bl := hb4.lt
  clear hb4
  cases h4 : inB hd 1 1000000
  · have e : rb = false := by rw [← HRB.out]; simp [ranR, h1, h2, h3, h4]
    subst e
    go_wp2
    refine bodyPost_ret (v := .bool false) (by simp [results, Try.results33, go_sem]) rfl ⟨rfl, HX4.out⟩
  go_wp2_with fail
  refine (ref_Less hn hd ln ld _).mono ?_
  rintro e w5 ⟨rfl, hx5⟩
  have HX5 := Lib.hid (HX4.out.trans hx5)
  have e : rb = !lesW ⟨hn, hd⟩ ⟨ln, ld⟩ := by rw [← HRB.out]; simp [ranR, h1, h2, h3, h4]
  have HE := Lib.hid e
  clear hx5 e
  go_wp2
  refine bodyPost_ret (v := .bool rb) (by simp [results, Try.results33, go_sem, HE.out]) rfl ⟨rfl, HX5.out⟩
end Go.Proofs.Ytmopadnkjlodnaa
namespace Go.Proofs.Ytmopadnkjlodnaa
open Go.RowKit Go.BigFrame
theorem insm_one (lo hi x : Int) : ins lo hi [x] = inB x lo hi := by
  simp only [ins, out1, inB, List.any_cons, List.any_nil, Bool.or_false, Bool.not_or]
  by_cases h1 : lo ≤ x <;> by_cases h2 : x ≤ hi <;> simp [h1, h2] <;> omega
theorem ins_two (lo hi x y : Int) : ins lo hi [x, y] = (inB x lo hi && inB y lo hi) := by
  rw [← insm_one, ← insm_one]
  simp [ins]
theorem prod_bounds {a b : Int} (ha : inB a 0 3000000 = true) (hb : inB b 1 1000000 = true) : wrap64 (a * b) = a * b ∧ 0 ≤ a * b ∧ a * b ≤ 3000000000000 := by
  simp only [inB, Bool.and_eq_true, decide_eq_true_eq] at ha hb
  have h1 : 0 ≤ a * b := Int.mul_nonneg ha.1 (by omega)
  have h2 : a * b ≤ 3000000 * 1000000 := Int.mul_le_mul ha.2 hb.2 (by omega) (by omega)
  exact ⟨wrap64_in' ⟨by omega, by omega⟩, h1, by omega⟩
theorem cmp_less {a b : Fra} (ha : inB a.n 0 3000000 = true) (hb : inB b.n 0 3000000 = true) (hc : inB a.d 1 1000000 = true) (hd : inB b.d 1 1000000 = true) : cmpW a b = a.n * b.d - b.n * a.d ∧ lesW b a = decide (0 < cmpW a b) := by
  obtain ⟨e1, h1, h2⟩ := prod_bounds ha hd
  obtain ⟨e2, h3, h4⟩ := prod_bounds hb hc
  have e : cmpW a b = a.n * b.d - b.n * a.d := by
    unfold cmpW
    rw [e1, e2]
    exact wrap64_in' ⟨by omega, by omega⟩
  refine ⟨e, ?_⟩
  unfold lesW
  rw [e, e1, e2]
  by_cases h : b.n * a.d < a.n * b.d
  · rw [decide_eq_true h, decide_eq_true (by omega)]
  · rw [decide_eq_false h, decide_eq_false (by omega)]
theorem ranR_ranB (r : Ran) : ranR r = ranB r := by
  unfold ranR ranB
  rw [ins_two, ins_two]
  cases h1 : inB r.lo.n 0 3000000
  · rfl
  cases h2 : inB r.hi.n 0 3000000
  · rfl
  cases h3 : inB r.lo.d 1 1000000
  · rfl
  cases h4 : inB r.hi.d 1 1000000
  · rfl
  simp only [Bool.true_and]
  rw [(cmp_less h1 h2 h3 h4).2]
  by_cases h : 0 < cmpW r.lo r.hi
  · rw [decide_eq_true h, decide_eq_false (by omega)]; rfl
  · rw [decide_eq_false h, decide_eq_true (by omega)]; rfl
theorem ranB_parts {r : Ran} (h : ranB r = true) : inB r.lo.n 0 3000000 = true ∧ inB r.hi.n 0 3000000 = true ∧ inB r.lo.d 1 1000000 = true ∧ inB r.hi.d 1 1000000 = true := by
  unfold ranB at h
  rw [ins_two, ins_two] at h
  simp only [Bool.and_eq_true] at h
  exact ⟨h.1.1, h.1.2, h.2.1.1, h.2.1.2⟩
/-- Better's answer, by the reference. -/
theorem bet_ok {a b : Ran} (ha : ranR a = true) (hb : ranR b = true) : betR a b = .tuple #[.bool (lesW b.hi a.lo), .bool (lesW b.lo a.hi), .int .i64 0] := by
  rw [ranR_ranB] at ha hb
  obtain ⟨a1, a2, a3, a4⟩ := ranB_parts ha
  obtain ⟨b1, b2, b3, b4⟩ := ranB_parts hb
  unfold betR
  rw [ha, hb, (cmp_less a1 b2 a3 b4).2, (cmp_less a2 b1 a4 b3).2]
  rfl
theorem bet_bad {a b : Ran} (h : ranR a = false ∨ ranR b = false) : betR a b = .tuple #[.bool false, .bool false, .int .i64 2] := by
  rw [ranR_ranB, ranR_ranB] at h
  unfold betR
  rw [if_pos h]
end Go.Proofs.Ytmopadnkjlodnaa
