/-
  Package leg: Visit.
-/
import Derived.Test.YtocnglplhnhllaaLegC
namespace Go.Proofs.Ytocnglplhnhllaa
open Go.RowKit
attribute [local go_sem] Later.cell Later.frozen

/-- The least that a player can have left. -/
def leastS (gout : Int) : Int := if gout = 0 then 1 else 2
/-- What a visit comes to, or its error. -/
def visS (start gin gout : Int) (inn : Bool) (left : Int) (beds : List Int) : Thr × Int :=
  if cntB start gin gout = false then (.zero, 2)
  else if ins (leastS gout) start [left] = false then (.zero, 3)
  else if inn = false ∧ (left != start) = true then (.zero, 3)
  else ((thr gin gout inn left beds).1, (thr gin gout inn left beds).2.2)
theorem ins_one {a b x : Int} : ins a b [x] = true ↔ a ≤ x ∧ x ≤ b := by
  simp only [ins, out1, List.any_cons, List.any_nil, Bool.or_false, Bool.not_or, Bool.and_eq_true, Bool.not_eq_true', decide_eq_false_iff_not]; omega
theorem cntB_start {start gin gout : Int} (h : cntB start gin gout = true) : (2 ≤ start ∧ start ≤ 1001) ∧ (0 ≤ gin ∧ gin ≤ 2) ∧ (0 ≤ gout ∧ gout ≤ 2) := by
  unfold cntB at h; simp only [Bool.and_eq_true, ins_one] at h; exact h
theorem ret_two {a a' b b' : Value} (h1 : a = a') (h2 : b = b') : Ending.returned (.tuple #[a, b]) = .returned (.tuple #[a', b']) := by rw [h1, h2]
theorem six_set {w : World} {b : Nat} {v0 v1 v2 v3 v4 v5 : Value} (h : Blk w b #[v0, v1, v2, v3, v4, v5]) (x0 x1 x2 x3 x4 x5 : Value) :
    Blk ((((((w.setCell ⟨b, 0, none⟩ x0).setCell ⟨b, 1, none⟩ x1).setCell ⟨b, 2, none⟩ x2).setCell ⟨b, 3, none⟩ x3).setCell ⟨b, 4, none⟩ x4).setCell ⟨b, 5, none⟩ x5) b #[x0, x1, x2, x3, x4, x5] :=
  (((((h.set 0 x0).set 1 x1).set 2 x2).set 3 x3).set 4 x4).set 5 x5
theorem six_ext {a w : World} (h : Ext a w) {b : Nat} (hb : a.heap.size ≤ b) (x0 x1 x2 x3 x4 x5 : Value) :
    Ext a ((((((w.setCell ⟨b, 0, none⟩ x0).setCell ⟨b, 1, none⟩ x1).setCell ⟨b, 2, none⟩ x2).setCell ⟨b, 3, none⟩ x3).setCell ⟨b, 4, none⟩ x4).setCell ⟨b, 5, none⟩ x5) :=
  (((((h.setCell hb x0).setCell hb x1).setCell hb x2).setCell hb x3).setCell hb x4).setCell hb x5
set_option maxHeartbeats 1000000 in
theorem leg_Visit (start gin gout : Int) (inn : Bool) (left : Int) (beds : List Int) (a : Option Addr) (c : Nat) (w : World) (ha : CellsAt w .i64 a beds) (hb : ∀ x ∈ beds, I64 x) (hlen : beds.length ≤ 9223372036854775807)
    (T : Thr × Int) (hT : visS start gin gout inn left beds = T) :
    Calls Try.prog 14 #[.agg #[.int .i64 start, .int .i64 gin, .int .i64 gout], .bool inn, .int .i64 left, .slice a beds.length c] w fun e w' => e = .returned (.tuple #[T.1.agg, .int .i64 T.2]) ∧ Ext w w' := by
  have HT := Lib.hid hT
  have hA := Lib.hid ha
  have hB := Lib.hid hb
  clear hT ha hb
  cases hg : gout == 0
  all_goals
    go_enter Try.func14, Try.ntmps14
    go_wp2_with fail
    refine (leg_isCount start gin gout _).mono ?_
    rintro e w1 ⟨rfl, hx1⟩
    have hb1 : Blk w1 w.heap.size #[.int .i64 start, .int .i64 gin, .int .i64 gout] := ((Blk.at _ (by simp)).alloc _).ext hx1
    have hz1 : Blk w1 (w.heap.size + 1) #[.int .i64 0, .int .i64 0, .int .i64 0, .bool false, .bool false, .bool false] := (Blk.at _ (by simp)).ext hx1
    have hE1 := (((Ext.refl w).alloc _).alloc _).trans hx1
    clear hx1
    cases hc : cntB start gin gout
    · obtain ⟨⟨z0, z1, z2, z3, z4, z5⟩, zs, f0, f1, f2, f3, f4, f5⟩ := hz1.six
      clear hz1 hb1
      go_wp2
      refine bodyPost_ret (v := .tuple #[Thr.zero.agg, .int .i64 2]) (by simp [results, Try.results14, go_sem, Thr.zero, Thr.agg, *]) rfl ⟨?_, six_ext hE1 (by simp) _ _ _ _ _ _⟩
      rw [← HT.out]; simp [visS, hc]
    · have k0 := hb1.cell 0 (v := .int .i64 start) rfl
      have hs1 := hb1.lt
      go_wp2_with fail
      refine (leg_within_1 _ _ _ _ _ (by simp)).mono ?_
      rintro e w2 ⟨rfl, hx2⟩
      have hb2 := hb1.ext hx2
      have hz2 := hz1.ext hx2
      have hE2 := hE1.trans hx2
      have hL : leastS gout = if (gout == 0) = true then 1 else 2 := by simp [leastS]
      simp only [hg, if_true, if_false, Bool.false_eq_true] at hL
      clear hb1 hz1 hE1 hx2 k0 hs1
      have k0 := hb2.cell 0 (v := .int .i64 start) rfl
      have k1 := hb2.cell 1 (v := .int .i64 gin) rfl
      have k2 := hb2.cell 2 (v := .int .i64 gout) rfl
      have hs2 := hb2.lt
      have HZ := Lib.hid hz2
      obtain ⟨⟨z0, z1, z2, z3, z4, z5⟩, zs, f0, f1, f2, f3, f4, f5⟩ := hz2.six
      clear hz2
      cases hi : ins _ start [left]
      · go_wp2
        refine bodyPost_ret (v := .tuple #[Thr.zero.agg, .int .i64 3]) (by simp [results, Try.results14, go_sem, Thr.zero, Thr.agg, *]) rfl ⟨?_, six_ext hE2 (by simp) _ _ _ _ _ _⟩
        rw [← HT.out]; simp [visS, hc, hL, hi]
      · have hst := (cntB_start hc).1
        have hle := ins_one.1 hi
        generalize hTT : thr gin gout inn left beds = TT
        cases inn
        case' false => cases hn : left != start
        case false.true =>
          go_wp2
          refine bodyPost_ret (v := .tuple #[Thr.zero.agg, .int .i64 3]) (by simp [results, Try.results14, go_sem, Thr.zero, Thr.agg, *]) rfl ⟨?_, six_ext hE2 (by simp) _ _ _ _ _ _⟩
          rw [← HT.out]; simp [visS, hc, hL, hi, hn]
        all_goals
          go_wp2_with fail
          refine (leg_throw start gin gout _ left beds a c w2 (hA.out.ext hE2) hB.out hlen (by omega) _ hTT).mono ?_
          rintro e w3 ⟨rfl, hx3⟩
          have hz3 := HZ.out.ext hx3
          have HZ3 := Lib.hid hz3
          obtain ⟨⟨y0, y1, y2, y3, y4, y5⟩, ys, g0, g1, g2, g3, g4, g5⟩ := hz3.six
          clear hz3
          have hT : T = (TT.1, TT.2.2) := by rw [← HT.out]; simp [visS, *]
          clear HT hTT hA hB HZ hb2
          obtain ⟨⟨xl, xs, xd, xi, xb, xw⟩, at_, er⟩ := TT
          simp only [Thr.agg]
          go_wp2
          generalize hW : World.setCell _ _ _ = W
          have hE4 : Ext w W := by rw [← hW]; exact six_ext (six_ext (hE2.trans hx3) (by simp) _ _ _ _ _ _) (by simp) _ _ _ _ _ _
          have hZ4 : Blk W (w.heap.size + 1) #[.int .i64 xl, .int .i64 xs, .int .i64 xd, .bool xi, .bool xb, .bool xw] := by rw [← hW]; exact six_set (six_set HZ3.out _ _ _ _ _ _) _ _ _ _ _ _
          obtain ⟨⟨q0, q1, q2, q3, q4, q5⟩, _⟩ := hZ4.six
          refine bodyPost_ret (v := .tuple #[Thr.agg ⟨xl, xs, xd, xi, xb, xw⟩, .int .i64 er]) (by simp [results, Try.results14, go_sem, Thr.agg, q0, q1, q2, q3, q4, q5]) rfl ⟨?_, hE4⟩
          first | rfl | (rw [hT])
end Go.Proofs.Ytocnglplhnhllaa
