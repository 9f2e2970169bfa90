/-
  Package board: the tests of bed and of isWire.
-/
import Derived.Test.YtpifdeglhalefaaBoG
namespace Go.Proofs.Ytpifdeglhalefaa
open Go.RowKit Go.BigFrame
attribute [local go_sem] Later.cell Later.frozen
def inRing (q : Int) (x : Rg) : Bool := decide (q < x.outer * x.outer)
theorem bed1 (x : Rg) (kq : Nat) (q : Int) (w : World) (hq : w.cell? ⟨kq, 0, none⟩ = some (.int .i64 q)) (hx : -5000 ≤ x.outer ∧ x.outer ≤ 5000) :
    Calls Try.prog 53 #[x.agg, .pointer (some ⟨kq, 0, none⟩)] w fun e w' => e = .returned (.bool (inRing q x)) ∧ Ext w w' := by
  have hm := mul_small hx hx
  obtain ⟨rp, hrp⟩ : ∃ c, inRing q x = c := ⟨_, rfl⟩
  rw [hrp]
  have hk := lt_of_cell hq
  simp only at hk
  obtain ⟨o, f⟩ := x
  have hE : rp = decide (q < o * o) := hrp.symm
  simp only at hm
  obtain ⟨hm0, hm1⟩ := hm
  subst hE
  unfold Rg.agg
  clear hx hrp
  go_enter Try.func53, Try.ntmps53
  go_wp2
  go_ret
  exact ⟨rfl, (Ext.refl w).alloc _⟩
def wireP (wire : Int) (d p : Pt) : Bool := decide (0 < dotP p d) && decide (crossP p d * crossP p d ≤ wire * wire * dotP p p)
theorem mul_bound {a b : Int} {m n : Nat} (ha : a.natAbs ≤ m) (hb : b.natAbs ≤ n) : (a * b).natAbs ≤ m * n := by
  rw [Int.natAbs_mul]
  exact Nat.mul_le_mul ha hb
set_option maxHeartbeats 2000000 in
theorem wire1 (p d : Pt) (kd kt : Nat) (v : BrdV) (b : Brd) (w : World) (hp : p.ok) (hd : d.ok) (hw : 0 ≤ b.wire ∧ b.wire ≤ 20) (hkd : Blk w kd #[.int .i64 d.x, .int .i64 d.y]) (hkt : Blk w kt (v.cells b)) :
    Calls Try.prog 83 #[p.agg, .pointer (some ⟨kd, 0, none⟩), .pointer (some ⟨kt, 0, none⟩)] w fun e w' => e = .returned (.bool (wireP b.wire d p)) ∧ Ext w w' := by
  have HC := Lib.hid (fun W => brd_cross p d W hp hd)
  have HD := Lib.hid (fun W => brd_dot p d W hp hd)
  have HS := Lib.hid (fun W => brd_square p W hp)
  have b1 := cross_small hp hd
  have b2 := dot_small hp hp
  obtain ⟨rp, hrp⟩ : ∃ c, wireP b.wire d p = c := ⟨_, rfl⟩
  have hE : rp = (decide (0 < dotP p d) && decide (crossP p d * crossP p d ≤ b.wire * b.wire * dotP p p)) := hrp.symm
  rw [hrp]
  generalize crossP p d = cr at *
  generalize dotP p d = dt at *
  generalize dotP p p = sq at *
  obtain ⟨eye, bull, rings, lines, nums, wire⟩ := b
  obtain ⟨ra, la, na, rc, lc, nc⟩ := v
  simp only [BrdV.cells] at hw hkt hE ⊢
  have c1 := mul_bound (a := cr) (b := cr) (m := 50000000) (n := 50000000) (by omega) (by omega)
  have c2 := mul_bound (a := wire) (b := wire) (m := 20) (n := 20) (by omega) (by omega)
  have c3 := mul_bound (a := wire * wire) (b := sq) (m := 20 * 20) (n := 50000000) c2 (by omega)
  have c10 : -2500000000000000 ≤ cr * cr := by omega
  have c11 : cr * cr ≤ 2500000000000000 := by omega
  have c20 : -400 ≤ wire * wire := by omega
  have c21 : wire * wire ≤ 400 := by omega
  have c30 : -20000000000 ≤ wire * wire * sq := by omega
  have c31 : wire * wire * sq ≤ 20000000000 := by omega
  have HE := Lib.hid hE
  have HKD := Lib.hid hkd
  have HKT := Lib.hid hkt
  obtain ⟨px, py⟩ := p
  obtain ⟨dx, dy⟩ := d
  unfold Pt.agg at *
  simp only at HKD
  clear hp hd hrp hE b1 b2 c1 c2 c3 hkd hkt
  go_enter Try.func83, Try.ntmps83
  go_upto_region 2 with fail
  obtain ⟨w1, hw1⟩ : ∃ x, x = (w.alloc (.cells #[.int .i64 px, .int .i64 py] 40)).alloc (.cells #[.int .i64 px, .int .i64 py] 99) := ⟨_, rfl⟩
  have hx1 : Ext w w1 := by rw [hw1]; exact ((Ext.refl w).alloc _).alloc _
  have hp1 : Blk w1 (w.heap.size + 1) #[.int .i64 px, .int .i64 py] := by rw [hw1]; exact Blk.at _ (by simp)
  rw [← hw1]
  have x0 := hp1.cell 0 (v := .int .i64 px) rfl
  have x1 := hp1.cell 1 (v := .int .i64 py) rfl
  have hxl := hp1.lt
  have hkd := HKD.out.ext hx1
  have y0 := hkd.cell 0 (v := .int .i64 dx) rfl
  have y1 := hkd.cell 1 (v := .int .i64 dy) rfl
  have hyl := hkd.lt
  have hkt := HKT.out.ext hx1
  have z5 := hkt.cell 5 (v := .int .i64 wire) rfl
  have hzl := hkt.lt
  clear hw1 hp1 hkd hkt
  go_wp2_with fail
  refine (HC.out _).mono ?_
  rintro e w2 ⟨rfl, hx2⟩
  have hX2 := hx1.trans hx2
  replace x0 := hx2.cell x0
  replace x1 := hx2.cell x1
  replace y0 := hx2.cell y0
  replace y1 := hx2.cell y1
  replace z5 := hx2.cell z5
  have hs2 := hx2.size
  replace hxl : w.heap.size + 1 < w2.heap.size := by omega
  replace hyl : kd < w2.heap.size := by omega
  replace hzl : kt < w2.heap.size := by omega
  clear hx2 hx1
  obtain ⟨t, ht⟩ : ∃ t, decide (0 < dt) = t := ⟨_, rfl⟩
  obtain ⟨u, hu⟩ : ∃ u, decide (cr * cr ≤ wire * wire * sq) = u := ⟨_, rfl⟩
  have hrp : rp = (t && u) := by rw [HE.out, ht, hu]
  subst hrp
  go_upto_region 3 with fail
  cases t
  · refine wp_region_later (by kernel_rfl) (by kernel_rfl) ?_
    repeat (go_big_quiet_step (first | with_reducible refine Calls.later (HD.out _) | with_reducible refine Calls.later (HS.out _)))
    refine wpQuiet_nil ?_
    intro w3 hw3
    obtain ⟨⟨w3, hx3⟩, rfl⟩ := hw3
    go_wp2
    go_ret
    exact ⟨by simp, hX2.trans hx3⟩
  · refine wp_region_later (by kernel_rfl) (by kernel_rfl) ?_
    repeat (go_big_quiet_step (first | with_reducible refine Calls.later (HD.out _) | with_reducible refine Calls.later (HS.out _)))
    refine wpQuiet_nil ?_
    intro w3 hw3
    obtain ⟨⟨w3, hx3⟩, rfl⟩ := hw3
    go_wp2
    go_ret
    exact ⟨by simp, hX2.trans hx3⟩
end Go.Proofs.Ytpifdeglhalefaa
