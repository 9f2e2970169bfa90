/-
  MeanOrders: plain.
-/
import Derived.Test.YtmopadnkjlodnaaLmb
import Derived.Test.YtmopadnkjlodnaaRcj
namespace Go.Proofs.Ytmopadnkjlodnaa
open Go.RowKit Go.BigFrame
attribute [local go_sem] Later.cell Later.frozen Lat.cell Lat.frozen
/-- A range of two fractions. -/
def ordR (na da nb db : Int) : Ran := if nb * da < na * db then ⟨⟨nb, db⟩, ⟨na, da⟩⟩ else ⟨⟨na, da⟩, ⟨nb, db⟩⟩
/-- The cells of the ranges that are there after k rounds. -/
def rngC (k : Nat) (a b c : Ran) : Array Value :=
  #[.int .i64 (if 0 < k then a.lo.n else 0), .int .i64 (if 0 < k then a.lo.d else 0), .int .i64 (if 0 < k then a.hi.n else 0), .int .i64 (if 0 < k then a.hi.d else 0), .int .i64 (if 1 < k then b.lo.n else 0), .int .i64 (if 1 < k then b.lo.d else 0), .int .i64 (if 1 < k then b.hi.n else 0), .int .i64 (if 1 < k then b.hi.d else 0), .int .i64 (if 2 < k then c.lo.n else 0), .int .i64 (if 2 < k then c.lo.d else 0), .int .i64 (if 2 < k then c.hi.n else 0), .int .i64 (if 2 < k then c.hi.d else 0)]
def sOf (a b : Ran) : Bool := decide (b.hi.n * a.lo.d < a.lo.n * b.hi.d)
def pOf (a b : Ran) : Bool := decide (b.lo.n * a.hi.d < a.hi.n * b.lo.d)
/-- What is known of a range. -/
structure RngV (r : Ran) : Prop where
  ln : 0 ≤ r.lo.n ∧ r.lo.n ≤ 65535
  ld : 1 ≤ r.lo.d ∧ r.lo.d ≤ 65536
  hn : 0 ≤ r.hi.n ∧ r.hi.n ≤ 65535
  hd : 1 ≤ r.hi.d ∧ r.hi.d ≤ 65536
  le : r.lo.n * r.hi.d ≤ r.hi.n * r.lo.d
theorem mul_bd {x y : Int} (hx : 0 ≤ x ∧ x ≤ 65535) (hy : 1 ≤ y ∧ y ≤ 65536) : 0 ≤ x * y ∧ x * y ≤ 4294901760 ∧ wrap64 (x * y) = x * y := by
  have h1 : 0 ≤ x * y := Int.mul_nonneg hx.1 (by omega)
  have h2 : x * y ≤ 65535 * 65536 := Int.mul_le_mul hx.2 hy.2 (by omega) (by omega)
  exact ⟨h1, by omega, wrap64_in' ⟨by omega, by omega⟩⟩
theorem RngV.ran {r : Ran} (h : RngV r) : ranR r = true := by
  obtain ⟨h1, h2, h3, h4, h5⟩ := h
  have e1 := mul_bd h1 h4
  have e2 := mul_bd h3 h2
  simp only [ranR, inB, lesW, e1.2.2, e2.2.2]
  simp only [Bool.and_eq_true, decide_eq_true_eq, Bool.not_eq_true', decide_eq_false_iff_not]
  omega
theorem ord_ok {na da nb db : Int} (h0 : 0 ≤ na ∧ na ≤ 65535) (h1 : 1 ≤ da ∧ da ≤ 65536) (h2 : 0 ≤ nb ∧ nb ≤ 65535) (h3 : 1 ≤ db ∧ db ≤ 65536) : RngV (ordR na da nb db) := by
  unfold ordR
  by_cases h : nb * da < na * db
  · rw [if_pos h]; exact ⟨h2, h3, h0, h1, by show nb * da ≤ na * db; omega⟩
  · rw [if_neg h]; exact ⟨h0, h1, h2, h3, by show na * db ≤ nb * da; omega⟩
theorem les_s {a b : Ran} (ha : RngV a) (hb : RngV b) : lesW b.hi a.lo = sOf a b := by
  unfold lesW sOf
  rw [(mul_bd hb.hn ha.ld).2.2, (mul_bd ha.ln hb.hd).2.2]
theorem les_p {a b : Ran} (ha : RngV a) (hb : RngV b) : lesW b.lo a.hi = pOf a b := by
  unfold lesW pOf
  rw [(mul_bd hb.ln ha.hd).2.2, (mul_bd ha.hn hb.ld).2.2]
theorem better_rng (a b : Ran) (ha : RngV a) (hb : RngV b) (w : World) : Calls Try.prog 32 #[.agg #[.int .i64 a.lo.n, .int .i64 a.lo.d, .int .i64 a.hi.n, .int .i64 a.hi.d], .agg #[.int .i64 b.lo.n, .int .i64 b.lo.d, .int .i64 b.hi.n, .int .i64 b.hi.d]] w fun e w' => e = .returned (.tuple #[.bool (sOf a b), .bool (pOf a b), .int .i64 0]) ∧ Ext w w' := by
  have h := mean_Better a b w
  rw [bet_ok ha.ran hb.ran, les_s ha hb, les_p ha hb] at h
  exact h
/-- Of two fractions: below. -/
def Fra.pos (x : Fra) : Prop := 0 ≤ x.n ∧ 1 ≤ x.d
theorem fra_trans {x y z : Fra} (hx : 1 ≤ x.d) (hy : 1 ≤ y.d) (hz : 1 ≤ z.d) (h1 : x.n * y.d ≤ y.n * x.d) (h2 : y.n * z.d < z.n * y.d) : x.n * z.d < z.n * x.d := by
  have e1 : x.n * y.d * z.d ≤ y.n * x.d * z.d := Int.mul_le_mul_of_nonneg_right h1 (by omega)
  have e2 : y.n * z.d * x.d < z.n * y.d * x.d := Int.mul_lt_mul_of_pos_right h2 (by omega)
  have e3 : x.n * z.d * y.d < z.n * x.d * y.d := by grind
  exact Int.lt_of_mul_lt_mul_right e3 (by omega)
theorem fra_trans2 {x y z : Fra} (hx : 1 ≤ x.d) (hy : 1 ≤ y.d) (hz : 1 ≤ z.d) (h1 : x.n * y.d < y.n * x.d) (h2 : y.n * z.d ≤ z.n * y.d) : x.n * z.d < z.n * x.d := by
  have e1 : x.n * y.d * z.d < y.n * x.d * z.d := Int.mul_lt_mul_of_pos_right h1 (by omega)
  have e2 : y.n * z.d * x.d ≤ z.n * y.d * x.d := Int.mul_le_mul_of_nonneg_right h2 (by omega)
  have e3 : x.n * z.d * y.d < z.n * x.d * y.d := by grind
  exact Int.lt_of_mul_lt_mul_right e3 (by omega)
theorem s_p {a b : Ran} (ha : RngV a) (hb : RngV b) (h : sOf a b = true) : pOf a b = true := by
  have h := of_decide_eq_true h
  have h1 := fra_trans hb.ld.1 hb.hd.1 ha.ld.1 hb.le h
  exact decide_eq_true (fra_trans2 hb.ld.1 ha.ld.1 ha.hd.1 h1 ha.le)
theorem s_same {a : Ran} (ha : RngV a) : sOf a a = false := by
  have := ha.le
  exact decide_eq_false (by omega)
theorem s_back {a b : Ran} (h : sOf a b = true) : pOf b a = false := by
  have h := of_decide_eq_true h
  exact decide_eq_false (by omega)
theorem s_trans {a b c : Ran} (ha : RngV a) (hb : RngV b) (hc : RngV c) (h1 : sOf a b = true) (h2 : sOf b c = true) : sOf a c = true := by
  have h1 := of_decide_eq_true h1
  have h2 := of_decide_eq_true h2
  exact decide_eq_true (fra_trans2 hc.hd.1 hb.ld.1 ha.ld.1 h2 (Int.le_of_lt (fra_trans hb.ld.1 hb.hd.1 ha.ld.1 hb.le h1)))
/-- The cells of the verdicts that are there after n rounds. -/
def matC (n : Nat) (a b c : Ran) : Array Value :=
  #[.bool (decide (0 < n) && sOf a a), .bool (decide (1 < n) && sOf a b), .bool (decide (2 < n) && sOf a c), .bool (decide (3 < n) && sOf b a), .bool (decide (4 < n) && sOf b b), .bool (decide (5 < n) && sOf b c), .bool (decide (6 < n) && sOf c a), .bool (decide (7 < n) && sOf c b), .bool (decide (8 < n) && sOf c c)]
theorem s_anti {a b : Ran} (ha : RngV a) (hb : RngV b) (h : sOf a b = true) : sOf b a = false := by
  cases e : sOf b a
  · rfl
  · have h1 := s_p hb ha e
    rw [s_back h] at h1
    cases h1
end Go.Proofs.Ytmopadnkjlodnaa
