/-
  Package leg: isMatch, Match.
-/
import Derived.Test.YtocnglplhnhllaaMau
namespace Go.Proofs.Ytocnglplhnhllaa
open Go.RowKit
theorem leg_isMatch (m : Mt) (w : World) : Calls Try.prog 58 #[.agg #[.int .i64 m.legs, .int .i64 m.sets, .int .i64 m.clear, .int .i64 m.extra, .int .i64 m.first]] w fun e w' => e = .returned (.bool m.ok) ∧ Ext w w' := by
  obtain ⟨legs, sets, clear, extra, first⟩ := m
  go_enter Try.func58, Try.ntmps58
  go_wp2_with fail
  refine (leg_within_1 _ _ _ _ _ (by simp)).mono ?_
  rintro e w1 ⟨rfl, hx1⟩
  have hb : Blk w1 w.heap.size #[.int .i64 legs, .int .i64 sets, .int .i64 clear, .int .i64 extra, .int .i64 first] := (Blk.at _ (by simp)).ext hx1
  have hE := ((Ext.refl w).alloc (.cells #[.int .i64 legs, .int .i64 sets, .int .i64 clear, .int .i64 extra, .int .i64 first] 68)).trans hx1
  clear hx1
  cases h1 : ins 1 25 [legs]
  case false =>
    go_wp2
    go_ret
    exact ⟨ret_bool (by simp only [Mt.ok, h1, Bool.false_and]), hE⟩
  have hlt := hb.lt
  have k1 := hb.cell 1 (v := .int .i64 sets) rfl
  go_wp2_with fail
  refine (leg_within_1 _ _ _ _ _ (by simp)).mono ?_
  rintro e w2 ⟨rfl, hx2⟩
  replace hb := hb.ext hx2
  replace hE := hE.trans hx2
  clear hx2 hlt k1
  cases h2 : ins 1 25 [sets]
  case false =>
    go_wp2
    go_ret
    exact ⟨ret_bool (by simp only [Mt.ok, h1, h2, Bool.false_and, Bool.true_and]), hE⟩
  have hlt := hb.lt
  have k1 := hb.cell 2 (v := .int .i64 clear) rfl
  go_wp2_with fail
  refine (leg_within_1 _ _ _ _ _ (by simp)).mono ?_
  rintro e w3 ⟨rfl, hx3⟩
  replace hb := hb.ext hx3
  replace hE := hE.trans hx3
  clear hx3 hlt k1
  cases h3 : ins 1 2 [clear]
  case false =>
    go_wp2
    go_ret
    exact ⟨ret_bool (by simp only [Mt.ok, h1, h2, h3, Bool.false_and, Bool.true_and]), hE⟩
  have hlt := hb.lt
  have k1 := hb.cell 3 (v := .int .i64 extra) rfl
  go_wp2_with fail
  refine (leg_within_1 _ _ _ _ _ (by simp)).mono ?_
  rintro e w4 ⟨rfl, hx4⟩
  replace hb := hb.ext hx4
  replace hE := hE.trans hx4
  clear hx4 hlt k1
  cases h4 : ins 0 25 [extra]
  case false =>
    go_wp2
    go_ret
    exact ⟨ret_bool (by simp only [Mt.ok, h1, h2, h3, h4, Bool.false_and, Bool.true_and]), hE⟩
  have hlt := hb.lt
  have k1 := hb.cell 4 (v := .int .i64 first) rfl
  go_wp2_with fail
  refine (leg_within_1 _ _ _ _ _ (by simp)).mono ?_
  rintro e w5 ⟨rfl, hx5⟩
  go_wp2
  go_ret
  exact ⟨ret_bool (by simp only [Mt.ok, h1, h2, h3, h4, Bool.true_and]), hE.trans hx5⟩
def Sc.zero : Sc := ⟨0, 0, 0, 0, 0, 0⟩
def Sc.agg (x : Sc) : Value := .agg #[.int .i64 x.s0, .int .i64 x.s1, .int .i64 x.l0, .int .i64 x.l1, .int .i64 x.first, .int .i64 x.winner]
/-- The legs of a match, one by one. -/
def matW (m : Mt) : List Int → Int → Sc → Int → Sc ⊕ (Int × Int)
  | [], _, x, _ => .inl x
  | p :: l, i, x, set => if decide (0 ≤ x.winner) = true then .inr (i, 33) else if ins 0 1 [p] = false then .inr (i, 2) else matW m l (i + 1) (m.add x set p).1 (m.add x set p).2
def matE : Sc ⊕ (Int × Int) → Sc × Int × Int
  | .inr (i, e) => (.zero, i, e)
  | .inl x => (x, 0, 0)
/-- A match after legs, or the number of the leg with an error. -/
def matS (m : Mt) (l : List Int) : Sc × Int × Int := if m.ok = false then (.zero, 0, 2) else matE (matW m l 0 ⟨0, 0, 0, 0, m.first, -1⟩ m.first)
theorem Mt.ok_bounds {m : Mt} (h : m.ok = true) : ((1 ≤ m.legs ∧ m.legs ≤ 25) ∧ (1 ≤ m.sets ∧ m.sets ≤ 25) ∧ (0 ≤ m.extra ∧ m.extra ≤ 25)) ∧ (1 ≤ m.clear ∧ m.clear ≤ 2) ∧ (0 ≤ m.first ∧ m.first ≤ 1) := by
  unfold Mt.ok at h
  simp only [Bool.and_eq_true, ins_one] at h
  omega
/-- What holds of a match after k legs. -/
def Sc.inv (x : Sc) (set : Int) (k : Int) : Prop :=
  ((0 ≤ x.l0 ∧ x.l0 ≤ k) ∧ (0 ≤ x.l1 ∧ x.l1 ≤ k) ∧ (0 ≤ x.s0 ∧ x.s0 ≤ k) ∧ (0 ≤ x.s1 ∧ x.s1 ≤ k)) ∧ (-1 ≤ x.first ∧ x.first ≤ 1) ∧ (0 ≤ set ∧ set ≤ 1) ∧ (x.winner < 0 → 0 ≤ x.first)
theorem Sc.inv_add {m : Mt} {x : Sc} {set k p : Int} (h : x.inv set k) (hp : p = 0 ∨ p = 1) (hw : x.winner < 0) : (m.add x set p).1.inv (m.add x set p).2 (k + 1) := by
  unfold Sc.inv at *
  have := h.2.2.2 hw
  rcases hp with rfl | rfl
  all_goals
    simp only [Mt.add, Sc.up, Int.reduceEq, ↓reduceIte]
    split
    · simp only; omega
    · split <;> simp only <;> omega
end Go.Proofs.Ytocnglplhnhllaa
