/-
  Package team: the starts of two players.
-/
import Derived.Test.YtoddmaedianliaaTma
namespace Go.Proofs.Ytoddmaedianliaa
open Go.RowKit Go.BigFrame
attribute [local go_sem] Later.cell Later.frozen
theorem ins_ok {lo hi x : Int} (h : lo ≤ x ∧ x ≤ hi) : ins lo hi [x] = true := ins_one.2 h
set_option maxRecDepth 100000 in
set_option maxHeartbeats 1000000 in
theorem team_Starts (start step least x y : Int) (bx cy : Nat) (w : World) (h1 : 2 ≤ start ∧ start ≤ 1001) (h2 : 0 ≤ step ∧ step ≤ 1001) (h3 : 2 ≤ least ∧ least ≤ start) (hx : 0 ≤ x ∧ x ≤ 99) (hy : 0 ≤ y ∧ y ≤ 99)
    (d : Int) (hd : x - y = d) (cx : w.cell? ⟨bx, 0, none⟩ = some (.int .i64 x)) (cy' : w.cell? ⟨cy, 0, none⟩ = some (.int .i64 y)) :
    Calls Try.prog 4 #[.agg #[.int .i64 start, .int .i64 step, .int .i64 least], .slice (some ⟨bx, 0, none⟩) 1 1, .slice (some ⟨cy, 0, none⟩) 1 1] w fun e w' =>
      e = .returned (.tuple #[.int .i64 (max least (start - step * max 0 (-d))), .int .i64 (max least (start - step * max 0 d)), .int .i64 0]) ∧ Ext w w' := by
  have HX := Lib.hid cx
  have HY := Lib.hid cy'
  clear cx cy'
  have hX := Ext.refl w
  go_enter Try.func4, Try.ntmps4
  go_wp2_with fail
  refine (team_within_1 2 1001 start _ _ (by simp)).mono ?_
  rintro e w1 ⟨rfl, hx1⟩
  rw [ins_ok h1]
  have hA1 : Blk w1 w.heap.size #[.int .i64 start, .int .i64 step, .int .i64 least] := (Blk.new w _ _).ext hx1
  have hE1 := ((Ext.refl w).alloc (.cells #[.int .i64 start, .int .i64 step, .int .i64 least] 25)).trans hx1
  have c0 := hA1.cell 0 (v := .int .i64 start) rfl
  have c1 := hA1.cell 1 (v := .int .i64 step) rfl
  have hlt := hA1.lt
  have HA1 := Lib.hid hA1
  clear hA1 hx1
  go_wp2_with fail
  refine (team_within_1 0 1001 step _ _ (by simp)).mono ?_
  rintro e w2 ⟨rfl, hx2⟩
  rw [ins_ok h2]
  have hA2 := HA1.out.ext hx2
  have hE2 := hE1.trans hx2
  clear c0 c1 hlt HA1 hx2 hE1
  have c0 := hA2.cell 0 (v := .int .i64 start) rfl
  have c2 := hA2.cell 2 (v := .int .i64 least) rfl
  have hlt := hA2.lt
  have HA2 := Lib.hid hA2
  clear hA2
  go_wp2_with fail
  refine (team_within_1 2 start least _ _ (by simp)).mono ?_
  rintro e w3 ⟨rfl, hx3⟩
  rw [ins_ok h3]
  have hE3 := hE2.trans hx3
  have HA3 := Lib.hid (HA2.out.ext hx3)
  clear c0 c2 hlt HA2 hx3 hE2
  go_wp2_with fail
  refine (team_within_1 1 2 1 _ _ (by simp)).mono ?_
  rintro e w4 ⟨rfl, hx4⟩
  rw [ins_ok (by decide)]
  have hE4 := hE3.trans hx4
  have HA4 := Lib.hid (HA3.out.ext hx4)
  clear HA3 hx4 hE3
  go_wp2_with fail
  refine (concat2 x y w4.heap.size bx cy _ (by exact Blk.new w4 _ _) ((hE4.alloc _).cell HX.out) ((hE4.alloc _).cell HY.out)).mono ?_
  rintro e w5 ⟨a5, c5, rfl, hc5, hx5⟩
  have hE5 := (hE4.alloc (.cells #[.slice (some ⟨bx, 0, none⟩) 1 1, .slice (some ⟨cy, 0, none⟩) 1 1] 29)).trans hx5
  have HA5 := Lib.hid ((HA4.out.alloc (.cells #[.slice (some ⟨bx, 0, none⟩) 1 1, .slice (some ⟨cy, 0, none⟩) 1 1] 29)).ext hx5)
  have hW := team_within 0 99 [x, y] a5 c5 w5 (by simp) hc5
  have HW := Lib.hid hW
  clear HA4 hx5 hE4 hW hc5
  go_wp2_with fail
  refine HW.out.mono ?_
  rintro e w6 ⟨rfl, hx6⟩
  rw [show ins 0 99 [x, y] = true by simp [ins, out1]; omega]
  have hE6 := hE5.trans hx6
  have HA6 := Lib.hid (HA5.out.ext hx6)
  clear HA5 hx6 hE5 HW
  go_wp2_with fail
  refine (team_total1 x (by omega) _ _ _ (CellsAt.of1 (hE6.cell HX.out))).mono ?_
  rintro e w7 ⟨rfl, hx7⟩
  have hE7 := hE6.trans hx7
  have HA7 := Lib.hid (HA6.out.ext hx7)
  clear HA6 hx7 hE6
  go_wp2_with fail
  refine (team_total1 y (by omega) _ _ _ (CellsAt.of1 (hE7.cell HY.out))).mono ?_
  rintro e w8 ⟨rfl, hx8⟩
  have hE8 := hE7.trans hx8
  have hA8 := HA7.out.ext hx8
  have c0 := hA8.cell 0 (v := .int .i64 start) rfl
  have c1 := hA8.cell 1 (v := .int .i64 step) rfl
  have c2 := hA8.cell 2 (v := .int .i64 least) rfl
  have hlt := hA8.lt
  clear HA7 hx8 hE7 hA8
  have hw1 : wrap64 (x - y) = d := by rw [hd]; exact wrap64_in' ⟨by omega, by omega⟩
  have hw2 : wrap64 (-d) = -d := wrap64_in' ⟨by omega, by omega⟩
  have hdb : -99 ≤ d ∧ d ≤ 99 := by omega
  have HD := Lib.hid hd
  clear hd
  go_upto_region 11 with fail
  refine wp_region_later (by kernel_rfl) (by kernel_rfl) ?_
  repeat (go_big_quiet_step (refine Calls.later (team_start _ _ _ _ _ ⟨by omega, by omega⟩ ⟨by omega, by omega⟩ ⟨by omega, by omega⟩)))
  refine wpQuiet_nil ?_
  rintro _ ⟨⟨w9, hx9⟩, rfl⟩
  go_wp2
  refine bodyPost_ret (v := .tuple #[.int .i64 (max least (start - step * max 0 (-d))), .int .i64 (max least (start - step * max 0 d)), .int .i64 0]) (by rw [← HD.out]; simp [results, Try.results4, go_sem]) rfl ?_
  exact ⟨rfl, hE8.trans hx9⟩
end Go.Proofs.Ytoddmaedianliaa
