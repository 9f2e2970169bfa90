/-
  Package board: Bed.
-/
import Derived.Test.YtpifdeglhalefaaBoK
namespace Go.Proofs.Ytpifdeglhalefaa
open Go.RowKit Go.BigFrame
attribute [local go_sem] Later.cell Later.frozen
def ptB (p : Pt) : Bool := ins (-5000) 5000 [p.x, p.y]
theorem ptB_ok {p : Pt} (h : ptB p = true) : p.ok := ins_two.1 h
theorem Ext.alloc'' {a w : World} (h : Ext a w) (o : Obj) : Ext a (w.alloc o) := h.alloc o
theorem errB_good {b : Brd} (hs : SmallB b) (h : errB b = 0) : GoodB b := by
  unfold errB at h
  split at h
  · cases h
  · split at h
    case isTrue hg => exact goodB_of hs hg
    · cases h
def bedR (b : Brd) (p : Pt) : Int × Bool × Int := if errB b ≠ 0 then (0, false, errB b) else if ptB p = true then (bedB b p, onWire b p, 0) else (0, false, 2)
set_option maxHeartbeats 2000000 in
theorem brd_Bed (v : BrdV) (b : Brd) (p : Pt) (w : World) (h : BrdAt w v b) (hs : SmallB b) :
    Calls Try.prog 10 #[.agg (v.cells b), p.agg] w fun e w' => e = .returned (.tuple #[.int .i64 (bedR b p).1, .bool (bedR b p).2.1, .int .i64 (bedR b p).2.2]) ∧ Ext w w' := by
  have HO := Lib.hid (fun W (hx : Ext w W) => brd_open v b W (h.ext hx) hs)
  have HP := Lib.hid (fun W => brd_isPoint p W)
  have HBd := Lib.hid (fun (h0 : errB b = 0) (hp : ptB p = true) W (hx : Ext w W) => brd_bed v b p W (h.ext hx) (errB_good hs h0) (ptB_ok hp))
  obtain ⟨r0, r1, r2, hr⟩ : ∃ r0 r1 r2, bedR b p = (r0, r1, r2) := ⟨_, _, _, rfl⟩
  have HR := Lib.hid hr
  rw [hr]
  generalize herr : errB b = er at HO HBd
  have HER := Lib.hid herr
  obtain ⟨pb, hpb⟩ : ∃ c, ins (-5000) 5000 [p.x, p.y] = c := ⟨_, rfl⟩
  have hpb' : ptB p = pb := hpb
  have HPB := Lib.hid hpb'
  rw [hpb] at HP
  obtain ⟨eye, bull, rings, lines, nums, wire⟩ := b
  obtain ⟨ra, la, na, rc, lc, nc⟩ := v
  obtain ⟨px, py⟩ := p
  unfold Pt.agg BrdV.cells at *
  simp only at HO HBd ⊢
  clear h hs hr herr hpb hpb'
  go_enter Try.func10, Try.ntmps10
  go_wp2_with fail
  refine (HO.out _ (((Ext.refl w).alloc _).alloc _)).mono ?_
  rintro e w1 ⟨rfl, hx1⟩
  have hx := (((Ext.refl w).alloc (.cells #[.int .i64 eye, .int .i64 bull, .slice ra rings.length rc, .slice la lines.length lc, .slice na nums.length nc, .int .i64 wire] 27)).alloc (.cells #[.int .i64 px, .int .i64 py] 40)).trans hx1
  have hp1 : Blk w1 (w.heap.size + 1) #[.int .i64 px, .int .i64 py] := (Blk.at _ (by simp)).ext hx1
  have q0 := hp1.cell 0 (v := .int .i64 px) rfl
  have q1 := hp1.cell 1 (v := .int .i64 py) rfl
  have hql := hp1.lt
  have HX := Lib.hid hx
  have HP1 := Lib.hid hp1
  clear hx1 hx hp1
  by_cases h0 : er = 0
  case neg =>
    have h0' : (er != 0) = true := by simpa using h0
    have e : (r0, r1, r2) = ((0 : Int), false, er) := by rw [← HR.out]; unfold bedR; rw [if_pos (by rw [HER.out]; exact h0), HER.out]
    cases e
    go_wp2
    refine bodyPost_ret (v := .tuple #[.int .i64 0, .bool false, .int .i64 r2]) (by simp [results, Try.results10, go_sem]) rfl ⟨rfl, Ext.alloc'' HX.out _⟩
  subst h0
  have hR0 : (r0, r1, r2) = if pb = true then (bedB ⟨eye, bull, rings, lines, nums, wire⟩ ⟨px, py⟩, onWire ⟨eye, bull, rings, lines, nums, wire⟩ ⟨px, py⟩, 0) else ((0 : Int), false, (2 : Int)) := by
    rw [← HR.out]; unfold bedR; rw [if_neg (by rw [HER.out]; simp), HPB.out]
  have HR0 := Lib.hid hR0
  clear hR0
  have ht1 : Blk (w1.alloc (.cells #[.int .i64 eye, .int .i64 bull, .slice ra rings.length rc, .slice la lines.length lc, .slice na nums.length nc, .int .i64 wire] 90)) w1.heap.size #[.int .i64 eye, .int .i64 bull, .slice ra rings.length rc, .slice la lines.length lc, .slice na nums.length nc, .int .i64 wire] := Blk.at _ rfl
  have HT1 := Lib.hid ht1
  clear ht1
  go_wp2_with fail
  refine (HP.out _).mono ?_
  rintro e w2 ⟨rfl, hx2⟩
  have hX2 := (Ext.alloc'' HX.out (.cells #[.int .i64 eye, .int .i64 bull, .slice ra rings.length rc, .slice la lines.length lc, .slice na nums.length nc, .int .i64 wire] 90)).trans hx2
  have ht2 := HT1.out.ext hx2
  replace q0 := (((Ext.refl w1).alloc _).trans hx2).cell q0
  replace q1 := (((Ext.refl w1).alloc _).trans hx2).cell q1
  have m0 := ht2.cell 0 (v := .int .i64 eye) rfl
  have m1 := ht2.cell 1 (v := .int .i64 bull) rfl
  have m2 := ht2.cell 2 (v := .slice ra rings.length rc) rfl
  have m3 := ht2.cell 3 (v := .slice la lines.length lc) rfl
  have m4 := ht2.cell 4 (v := .slice na nums.length nc) rfl
  have m5 := ht2.cell 5 (v := .int .i64 wire) rfl
  have hml := ht2.lt
  replace hql : w.heap.size + 1 < w2.heap.size := lt_of_cell q0
  have HX2 := Lib.hid hX2
  clear hX2 hx2 ht2
  cases pb
  · have e : (r0, r1, r2) = ((0 : Int), false, (2 : Int)) := HR0.out
    obtain ⟨rfl, rfl, rfl⟩ : r0 = 0 ∧ r1 = false ∧ r2 = 2 := by simpa using e
    go_wp2
    refine bodyPost_ret (v := .tuple #[.int .i64 0, .bool false, .int .i64 2]) (by simp [results, Try.results10, go_sem]) rfl ⟨rfl, HX2.out⟩
  · have e : (r0, r1, r2) = (bedB ⟨eye, bull, rings, lines, nums, wire⟩ ⟨px, py⟩, onWire ⟨eye, bull, rings, lines, nums, wire⟩ ⟨px, py⟩, (0 : Int)) := HR0.out
    obtain ⟨h1, h2, rfl⟩ : r0 = bedB ⟨eye, bull, rings, lines, nums, wire⟩ ⟨px, py⟩ ∧ r1 = onWire ⟨eye, bull, rings, lines, nums, wire⟩ ⟨px, py⟩ ∧ r2 = 0 := by simpa using e
    have HB2 := Lib.hid (HBd.out (by trivial) HPB.out)
    rw [← h1, ← h2] at HB2
    clear e h1 h2
    go_wp2_with fail
    refine (HB2.out _ HX2.out).mono ?_
    rintro e w3 ⟨rfl, hx3⟩
    have HX3 := Lib.hid (HX2.out.trans hx3)
    clear hx3 q0 q1 m0 m1 m2 m3 m4 m5
    go_wp2
    refine bodyPost_ret (v := .tuple #[.int .i64 r0, .bool r1, .int .i64 0]) (by simp [results, Try.results10, go_sem]) rfl ⟨rfl, HX3.out⟩
end Go.Proofs.Ytpifdeglhalefaa
