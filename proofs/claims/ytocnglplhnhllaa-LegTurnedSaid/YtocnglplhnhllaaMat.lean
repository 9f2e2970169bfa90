/-
  Package leg: a match while it is played.
-/
import Derived.Test.YtocnglplhnhllaaLegE
import Derived.ChangeKeysEq
namespace Go.Proofs.Ytocnglplhnhllaa
open Go.RowKit Go.BigFrame
attribute [local go_sem] Later.cell Later.frozen Lat.cell Lat.frozen

structure Mt where
  legs : Int
  sets : Int
  clear : Int
  extra : Int
  first : Int
structure Sc where
  s0 : Int
  s1 : Int
  l0 : Int
  l1 : Int
  first : Int
  winner : Int
def matC (m : Mt) (x : Sc) (set : Int) : Array Value := #[.int .i64 m.legs, .int .i64 m.sets, .int .i64 m.clear, .int .i64 m.extra, .int .i64 m.first, .int .i64 x.s0, .int .i64 x.s1, .int .i64 x.l0, .int .i64 x.l1, .int .i64 x.first, .int .i64 x.winner, .int .i64 set]
/-- A number that is small beside Go's int. -/
def Few (x : Int) : Prop := 0 ≤ x ∧ x ≤ 9223372036854775806
def Mt.ok (m : Mt) : Bool := ins 1 25 [m.legs] && (ins 1 25 [m.sets] && (ins 1 2 [m.clear] && (ins 0 25 [m.extra] && ins 0 1 [m.first])))
theorem Blk.mat {w : World} {b : Nat} {m : Mt} {x : Sc} {set : Int} (h : Blk w b (matC m x set)) :
    (w.cell? ⟨b, 0, none⟩ = some (.int .i64 m.legs) ∧ w.cell? ⟨b, 1, none⟩ = some (.int .i64 m.sets) ∧ w.cell? ⟨b, 2, none⟩ = some (.int .i64 m.clear) ∧ w.cell? ⟨b, 3, none⟩ = some (.int .i64 m.extra)) ∧
    (w.cell? ⟨b, 5, none⟩ = some (.int .i64 x.s0) ∧ w.cell? ⟨b, 6, none⟩ = some (.int .i64 x.s1) ∧ w.cell? ⟨b, 7, none⟩ = some (.int .i64 x.l0) ∧ w.cell? ⟨b, 8, none⟩ = some (.int .i64 x.l1) ∧ w.cell? ⟨b, 9, none⟩ = some (.int .i64 x.first) ∧ w.cell? ⟨b, 10, none⟩ = some (.int .i64 x.winner) ∧ w.cell? ⟨b, 11, none⟩ = some (.int .i64 set)) ∧ b < w.heap.size :=
  ⟨⟨h.cell 0 rfl, h.cell 1 rfl, h.cell 2 rfl, h.cell 3 rfl⟩, ⟨h.cell 5 rfl, h.cell 6 rfl, h.cell 7 rfl, h.cell 8 rfl, h.cell 9 rfl, h.cell 10 rfl, h.cell 11 rfl⟩, h.lt⟩
/-- Two pairs of integers are compared. -/
theorem run_equal_pair (d : Nat) (a b a' b' : Int) (w : World) : (Op.equalIn (d + 2) 69 (.agg #[.int .i64 a, .int .i64 b]) (.agg #[.int .i64 a', .int .i64 b'])).run Try.prog w = .ok (a == a' && b == b') w := by
  obtain ⟨i, hi⟩ : ∃ i, Try.prog.info? 3 = some i := Option.isSome_iff_exists.1 (by kernel_rfl)
  rw [run_equalIn_array w (d + 1) (t := 69) (e := 3) (n := 2) _ _ (by kernel_rfl) hi]
  rw [show Try.prog.cellsOf 3 = 1 by kernel_rfl, show List.range 2 = [0, 1] from rfl]
  simp only [Op.eqItems]
  cases h1 : a == a' <;> cases h2 : b == b' <;> simp [go_sem, h1, h2]
attribute [local go_sem] run_equal_pair
theorem run_eql_pair (a b a' b' : Int) (w : World) : (binOp .eql 69 (.agg #[.int .i64 a, .int .i64 b]) (.agg #[.int .i64 a', .int .i64 b'])).run Try.prog w = .ok (.bool (a == a' && b == b')) w := by
  rw [run_eql_struct, show (10000 : Nat) = 9998 + 2 from rfl, run_equal_pair]
  rfl
theorem run_guard_pair (x y : Operand) (xs ys : Array Value) (w : World) : (eqGuard .eql 69 x y (.agg xs) (.agg ys)).run Try.prog w = .ok () w := run_eqGuard_agg w .eql 69 x y xs ys (by kernel_rfl)
attribute [local go_sem] run_eql_pair run_guard_pair
theorem match_isLast (m : Mt) (x : Sc) (set : Int) (b : Nat) (w : World) (h : Blk w b (matC m x set)) (hm : 1 ≤ m.sets ∧ m.sets ≤ 25) :
    Calls Try.prog 88 #[.pointer (some ⟨b, 0, none⟩)] w fun e w' => e = .returned (.bool (x.s0 == m.sets - 1 && x.s1 == m.sets - 1)) ∧ Ext w w' := by
  obtain ⟨⟨c0, c1, c2, c3⟩, ⟨c5, c6, c7, c8, c9, c10, c11⟩, hlt⟩ := h.mat
  have hw : wrap64 (m.sets - 1) = m.sets - 1 := wrap64_in' ⟨by omega, by omega⟩
  clear h
  go_enter Try.func88, Try.ntmps88
  go_wp2
  refine wp_region_later (by kernel_rfl) (by kernel_rfl) ?_
  repeat (go_big_quiet_step (fail))
  refine wpQuiet_nil ?_
  intro w1 hw1
  obtain ⟨⟨w1, hx1⟩, rfl⟩ := hw1
  go_wp2
  go_ret
  exact ⟨rfl, hx1⟩
/-- Whether a player with so many legs has won the set. -/
def Mt.has (m : Mt) (x : Sc) (mine yours : Int) : Bool :=
  if decide (mine < m.legs) = true then false else if (x.s0 == m.sets - 1 && x.s1 == m.sets - 1) = true then decide (m.clear ≤ mine - yours) || mine == m.legs + m.extra else true
def Sc.legsOf (x : Sc) (p : Int) : Int := if p = 0 then x.l0 else x.l1
set_option maxHeartbeats 1000000 in
theorem match_hasSet (m : Mt) (x : Sc) (set p : Int) (b : Nat) (w : World) (h : Blk w b (matC m x set)) (hm : (1 ≤ m.legs ∧ m.legs ≤ 25) ∧ (1 ≤ m.sets ∧ m.sets ≤ 25) ∧ (0 ≤ m.extra ∧ m.extra ≤ 25)) (hl : Few x.l0 ∧ Few x.l1) (hp : p = 0 ∨ p = 1) :
    Calls Try.prog 78 #[.pointer (some ⟨b, 0, none⟩), .int .i64 p] w fun e w' => e = .returned (.bool (m.has x (x.legsOf p) (x.legsOf (1 - p)))) ∧ Ext w w' := by
  have hL := match_isLast m x set b
  obtain ⟨⟨hl00, hl01⟩, hl10, hl11⟩ := hl
  have hw1 : wrap64 (x.l0 - x.l1) = x.l0 - x.l1 := wrap64_in' ⟨by omega, by omega⟩
  have hw2 : wrap64 (x.l1 - x.l0) = x.l1 - x.l0 := wrap64_in' ⟨by omega, by omega⟩
  have hw3 : wrap64 (m.legs + m.extra) = m.legs + m.extra := wrap64_in' ⟨by omega, by omega⟩
  clear hl00 hl01 hl10 hl11
  have HL := Lib.hid hL
  clear hL
  rcases hp with rfl | rfl
  · go_enter Try.func78, Try.ntmps78
    obtain ⟨⟨c0, c1, c2, c3⟩, ⟨c5, c6, c7, c8, c9, c10, c11⟩, hlt⟩ := h.mat
    have H := Lib.hid h
    clear h
    go_wp2
    refine wp_region_later (by kernel_rfl) (by kernel_rfl) ?_
    repeat (go_big_quiet_step (fail))
    refine wpQuiet_nil ?_
    intro w1 hw1
    obtain ⟨⟨w1, hx1⟩, rfl⟩ := hw1
    replace H := Lib.hid (H.out.ext hx1)
    clear c0 c1 c2 c3 c5 c6 c7 c8 c9 c10 c11 hlt
    obtain ⟨⟨c0, c1, c2, c3⟩, ⟨c5, c6, c7, c8, c9, c10, c11⟩, hlt⟩ := H.out.mat
    cases e1 : decide (x.l0 < m.legs)
    case true =>
      go_wp2
      go_ret
      exact ⟨ret_bool (show _ = m.has x x.l0 x.l1 by simp only [Mt.has, e1, ↓reduceIte]), hx1⟩
    go_wp2_with fail
    refine (HL.out _ H.out hm.2.1).mono ?_
    rintro e w2 ⟨rfl, hx2⟩
    replace H := Lib.hid (H.out.ext hx2)
    clear c0 c1 c2 c3 c5 c6 c7 c8 c9 c10 c11 hlt
    obtain ⟨⟨c0, c1, c2, c3⟩, ⟨c5, c6, c7, c8, c9, c10, c11⟩, hlt⟩ := H.out.mat
    cases e2 : (x.s0 == m.sets - 1 && x.s1 == m.sets - 1)
    case false =>
      go_wp2
      go_ret
      exact ⟨ret_bool (show _ = m.has x x.l0 x.l1 by simp only [Mt.has, e1, e2, Bool.false_eq_true, ↓reduceIte]), hx1.trans hx2⟩
    cases e3 : decide (m.clear ≤ x.l0 - x.l1)
    all_goals
      go_wp2
      refine wp_region_later (by kernel_rfl) (by kernel_rfl) ?_
      repeat (go_big_quiet_step (fail))
      refine wpQuiet_nil ?_
      intro w3 hw3
      obtain ⟨⟨w3, hx3⟩, rfl⟩ := hw3
      go_wp2
      go_ret
      exact ⟨ret_bool (show _ = m.has x x.l0 x.l1 by simp only [Mt.has, e1, e2, e3, Bool.false_eq_true, ↓reduceIte, Bool.false_or, Bool.true_or]), (hx1.trans hx2).trans hx3⟩
  · go_enter Try.func78, Try.ntmps78
    obtain ⟨⟨c0, c1, c2, c3⟩, ⟨c5, c6, c7, c8, c9, c10, c11⟩, hlt⟩ := h.mat
    have H := Lib.hid h
    clear h
    go_wp2
    refine wp_region_later (by kernel_rfl) (by kernel_rfl) ?_
    repeat (go_big_quiet_step (fail))
    refine wpQuiet_nil ?_
    intro w1 hw1
    obtain ⟨⟨w1, hx1⟩, rfl⟩ := hw1
    replace H := Lib.hid (H.out.ext hx1)
    clear c0 c1 c2 c3 c5 c6 c7 c8 c9 c10 c11 hlt
    obtain ⟨⟨c0, c1, c2, c3⟩, ⟨c5, c6, c7, c8, c9, c10, c11⟩, hlt⟩ := H.out.mat
    cases e1 : decide (x.l1 < m.legs)
    case true =>
      go_wp2
      go_ret
      exact ⟨ret_bool (show _ = m.has x x.l1 x.l0 by simp only [Mt.has, e1, ↓reduceIte]), hx1⟩
    go_wp2_with fail
    refine (HL.out _ H.out hm.2.1).mono ?_
    rintro e w2 ⟨rfl, hx2⟩
    replace H := Lib.hid (H.out.ext hx2)
    clear c0 c1 c2 c3 c5 c6 c7 c8 c9 c10 c11 hlt
    obtain ⟨⟨c0, c1, c2, c3⟩, ⟨c5, c6, c7, c8, c9, c10, c11⟩, hlt⟩ := H.out.mat
    cases e2 : (x.s0 == m.sets - 1 && x.s1 == m.sets - 1)
    case false =>
      go_wp2
      go_ret
      exact ⟨ret_bool (show _ = m.has x x.l1 x.l0 by simp only [Mt.has, e1, e2, Bool.false_eq_true, ↓reduceIte]), hx1.trans hx2⟩
    cases e3 : decide (m.clear ≤ x.l1 - x.l0)
    all_goals
      go_wp2
      refine wp_region_later (by kernel_rfl) (by kernel_rfl) ?_
      repeat (go_big_quiet_step (fail))
      refine wpQuiet_nil ?_
      intro w3 hw3
      obtain ⟨⟨w3, hx3⟩, rfl⟩ := hw3
      go_wp2
      go_ret
      exact ⟨ret_bool (show _ = m.has x x.l1 x.l0 by simp only [Mt.has, e1, e2, e3, Bool.false_eq_true, ↓reduceIte, Bool.false_or, Bool.true_or]), (hx1.trans hx2).trans hx3⟩
end Go.Proofs.Ytocnglplhnhllaa
