/-
  Package board: Check, open.
-/
import Derived.Test.YtpifdeglhalefaaBoE
namespace Go.Proofs.Ytpifdeglhalefaa
open Go.RowKit Go.BigFrame
attribute [local go_sem] Later.cell Later.frozen
def longB (b : Brd) : Bool := decide (8 < b.rings.length) || (decide (20 < b.lines.length) || decide (20 < b.nums.length))
def goodB (b : Brd) : Bool := ringsB b && (linesB b.lines && numsB b)
def errB (b : Brd) : Int := if longB b = true then 5 else if goodB b = true then 0 else 2
structure SmallB (b : Brd) : Prop where
  r : b.rings.length ≤ 1000000
  l : b.lines.length ≤ 1000000
  n : b.nums.length ≤ 1000000
set_option maxHeartbeats 2000000 in
theorem brd_Check (v : BrdV) (b : Brd) (w : World) (h : BrdAt w v b) (hs : SmallB b) :
    Calls Try.prog 47 #[.agg (v.cells b)] w fun e w' => e = .returned (.int .i64 (errB b)) ∧ Ext w w' := by
  have HR := Lib.hid (fun W (hx : Ext w W) => brd_areRings v b W (h.ext hx) hs.r)
  have HL := Lib.hid (fun W (hx : Ext w W) => brd_areLines b.lines v.la v.lc W hs.l (h.lines.ext hx))
  have HN := Lib.hid (fun W (hx : Ext w W) => brd_areNumbers v b W (h.nums.ext hx) hs.n hs.l)
  obtain ⟨hs1, hs2, hs3⟩ := hs
  obtain ⟨rb, hrb⟩ : ∃ c, errB b = c := ⟨_, rfl⟩
  obtain ⟨q1, hq1⟩ : ∃ c, ringsB b = c := ⟨_, rfl⟩
  obtain ⟨q2, hq2⟩ : ∃ c, linesB b.lines = c := ⟨_, rfl⟩
  obtain ⟨q3, hq3⟩ : ∃ c, numsB b = c := ⟨_, rfl⟩
  have hE : rb = if longB b = true then 5 else if (q1 && (q2 && q3)) = true then 0 else 2 := by rw [← hrb, ← hq1, ← hq2, ← hq3]; rfl
  rw [hrb]
  rw [hq1] at HR
  rw [hq2] at HL
  rw [hq3] at HN
  have HE := Lib.hid hE
  obtain ⟨eye, bull, rings, lines, nums, wire⟩ := b
  obtain ⟨ra, la, na, rc, lc, nc⟩ := v
  unfold BrdV.cells at *
  simp only at hs1 hs2 hs3 HR HL HN ⊢
  clear hrb hE hq1 hq2 hq3 h
  go_enter Try.func47, Try.ntmps47
  by_cases h1 : 8 < rings.length
  · have e : rb = 5 := by rw [HE.out]; simp [longB, h1]
    subst e
    go_wp2
    go_ret
    exact ⟨rfl, (Ext.refl w).alloc _⟩
  by_cases h2 : 20 < lines.length
  · have e : rb = 5 := by rw [HE.out]; simp [longB, h2]
    subst e
    go_wp2
    go_ret
    exact ⟨rfl, (Ext.refl w).alloc _⟩
  by_cases h3 : 20 < nums.length
  · have e : rb = 5 := by rw [HE.out]; simp [longB, h3]
    subst e
    go_wp2
    go_ret
    exact ⟨rfl, (Ext.refl w).alloc _⟩
  have hE : rb = if (q1 && (q2 && q3)) = true then 0 else 2 := by rw [HE.out, if_neg (by simp [longB, h1, h2, h3])]
  have HE2 := Lib.hid hE
  clear hE HE
  go_wp2_with fail
  have hx0 := (Ext.refl w).alloc (.cells #[.int .i64 eye, .int .i64 bull, .slice ra rings.length rc, .slice la lines.length lc, .slice na nums.length nc, .int .i64 wire] 27)
  refine (HR.out _ hx0).mono ?_
  rintro e w1 ⟨rfl, hx1⟩
  have hX1 := hx0.trans hx1
  have hb1 : Blk w1 w.heap.size #[.int .i64 eye, .int .i64 bull, .slice ra rings.length rc, .slice la lines.length lc, .slice na nums.length nc, .int .i64 wire] := (Blk.new w _ _).ext hx1
  clear hx0 hx1
  cases q1
  · have e : rb = 2 := by rw [HE2.out]; rfl
    subst e
    go_wp2
    go_ret
    exact ⟨rfl, hX1⟩
  have m3 := hb1.cell 3 (v := .slice la lines.length lc) rfl
  have hml := hb1.lt
  go_wp2_with fail
  refine (HL.out _ hX1).mono ?_
  rintro e w2 ⟨rfl, hx2⟩
  have hX2 := hX1.trans hx2
  replace hb1 := hb1.ext hx2
  clear hx2 m3 hX1
  cases q2
  · have e : rb = 2 := by rw [HE2.out]; rfl
    subst e
    go_wp2
    go_ret
    exact ⟨rfl, hX2⟩
  have m0 := hb1.cell 0 (v := .int .i64 eye) rfl
  have m1 := hb1.cell 1 (v := .int .i64 bull) rfl
  have m2 := hb1.cell 2 (v := .slice ra rings.length rc) rfl
  have m3 := hb1.cell 3 (v := .slice la lines.length lc) rfl
  have m4 := hb1.cell 4 (v := .slice na nums.length nc) rfl
  have m5 := hb1.cell 5 (v := .int .i64 wire) rfl
  replace hml := hb1.lt
  go_wp2_with fail
  refine (HN.out _ hX2).mono ?_
  rintro e w3 ⟨rfl, hx3⟩
  have hX3 := hX2.trans hx3
  clear m0 m1 m2 m3 m4 m5 hx3
  cases q3
  · have e : rb = 2 := by rw [HE2.out]; rfl
    subst e
    go_wp2
    go_ret
    exact ⟨rfl, hX3⟩
  · have e : rb = 0 := by rw [HE2.out]; rfl
    subst e
    go_wp2
    go_ret
    exact ⟨rfl, hX3⟩
end Go.Proofs.Ytpifdeglhalefaa
