/-
  Package board: the sector of a direction; the tests of bed and of isWire.
-/
import Derived.Test.YtpifdeglhalefaaBoF
namespace Go.Proofs.Ytpifdeglhalefaa
open Go.RowKit Go.BigFrame
attribute [local go_sem] Later.cell Later.frozen
/-- The last of the first k lines that is not behind a direction. -/
def secUp (f d : Pt) (l : List Pt) : Nat → Nat
  | 0 => 0
  | k + 1 => if befP f d (ptAt l k) = true then secUp f d l k else k
def secB (l : List Pt) (d : Pt) : Nat := secUp (ptAt l 0) d l l.length
theorem secUp_lt (f d : Pt) (l : List Pt) : ∀ k, 0 < k → secUp f d l k < k
  | 0, h => by omega
  | 1, _ => by
    unfold secUp
    split
    · simp [secUp]
    · omega
  | k + 2, _ => by
    have := secUp_lt f d l (k + 1) (by omega)
    unfold secUp
    split
    · omega
    · omega
theorem secUp_le (f d : Pt) (l : List Pt) (k : Nat) : secUp f d l k ≤ k := by
  cases k with
  | zero => exact Nat.le_refl _
  | succ k => have := secUp_lt f d l (k + 1) (by omega); omega
set_option maxHeartbeats 2000000 in
theorem brd_sector (v : BrdV) (b : Brd) (d : Pt) (w : World) (h : PtsAt w v.la b.lines) (hl : b.lines.length ≤ 1000000) (h0 : 0 < b.lines.length) (hok : ∀ i, (h : i < b.lines.length) → b.lines[i].ok) (hd : d.ok) :
    Calls Try.prog 54 #[.agg (v.cells b), d.agg] w fun e w' => e = .returned (.int .i64 (secB b.lines d)) ∧ Ext w w' := by
  have HL := Lib.hid h
  have HOK := Lib.hid hok
  obtain ⟨eye, bull, rings, lines, nums, wire⟩ := b
  obtain ⟨ra, la, na, rc, lc, nc⟩ := v
  unfold BrdV.cells
  simp only at hl h0 HL HOK ⊢
  clear h hok
  have hpt : ∀ i, (h : i < lines.length) → ptAt lines i = lines[i] := fun i h => by simp [ptAt, List.getD_eq_getElem?_getD, h]
  have HPT := Lib.hid hpt
  obtain ⟨f, hf⟩ : ∃ f, lines[0] = f := ⟨_, rfl⟩
  have hfok := HOK.out 0 h0
  rw [hf] at hfok
  have hsb : secB lines d = secUp f d lines lines.length := by unfold secB; rw [HPT.out 0 h0, hf]
  rw [hsb]
  have HF := Lib.hid hf
  obtain ⟨b0, o0, rfl, z0, z1⟩ := HL.out 0 h0
  rw [Nat.zero_mul, Nat.add_zero, hf] at z0 z1
  have hb0 := lt_of_cell z0
  simp only at hb0
  have HB := Lib.hid (fun (p : Pt) (hp : p.ok) W => brd_before f d p W hfok hd hp)
  have hm : ∀ k, k ≤ lines.length → secUp f d lines k ≤ lines.length := fun k hk => Nat.le_trans (secUp_le f d lines k) hk
  have HM := Lib.hid hm
  obtain ⟨dx, dy⟩ := d
  unfold Pt.agg at *
  clear hpt hf hfok hsb hd hm
  go_enter Try.func54, Try.ntmps54
  go_upto_region 1 with fail
  obtain ⟨w1, hw1⟩ : ∃ x, x = (w.alloc (.cells #[.int .i64 eye, .int .i64 bull, .slice ra rings.length rc, .slice (some ⟨b0, o0, none⟩) lines.length lc, .slice na nums.length nc, .int .i64 wire] 90)).alloc (.cells #[.int .i64 dx, .int .i64 dy] 99) := ⟨_, rfl⟩
  have hx1 : Ext w w1 := by rw [hw1]; exact ((Ext.refl w).alloc _).alloc _
  have hb1 : Blk w1 w.heap.size #[.int .i64 eye, .int .i64 bull, .slice ra rings.length rc, .slice (some ⟨b0, o0, none⟩) lines.length lc, .slice na nums.length nc, .int .i64 wire] := by rw [hw1]; exact (Blk.new _ _ _).alloc _
  have hd1 : Blk w1 (w.heap.size + 1) #[.int .i64 dx, .int .i64 dy] := by rw [hw1]; exact Blk.at _ (by simp)
  rw [← hw1]
  have m3 := hb1.cell 3 (v := .slice (some ⟨b0, o0, none⟩) lines.length lc) rfl
  have hml := hb1.lt
  replace z0 := hx1.cell z0
  replace z1 := hx1.cell z1
  replace hb0 : b0 < w1.heap.size := by have := hx1.size; omega
  clear hw1
  go_wp2_with fail
  obtain ⟨w2, hw2⟩ : ∃ x, x = w1.alloc (.cells #[.int .i64 f.x, .int .i64 f.y] 99) := ⟨_, rfl⟩
  have hx2 : Ext w1 w2 := by rw [hw2]; exact (Ext.refl w1).alloc _
  have hf2 : Blk w2 w1.heap.size #[.int .i64 f.x, .int .i64 f.y] := by rw [hw2]; exact Blk.new _ _ _
  rw [← hw2]
  have HX2 := Lib.hid (hx1.trans hx2)
  have HF2 := Lib.hid hf2
  have HD2 := Lib.hid (hd1.ext hx2)
  clear hw2 hx1 hx2 hf2 hb1 hd1 m3 hml z0 z1 hb0
  go_loopw [4, 18] (fun s i wr => ∃ k : Nat, k ≤ lines.length ∧ i = .int .i64 k ∧ s = .int .i64 (secUp f ⟨dx, dy⟩ lines k) ∧ Ext w2 wr) (fun _ i _ => lines.length - (intOf i).toNat)
  case atStart => exact ⟨0, Nat.zero_le _, rfl, rfl, Ext.refl w2⟩
  case round =>
    obtain ⟨k, hk, rfl, rfl, hx⟩ := hrel
    have hx0 := HX2.out.trans hx
    by_cases hlt : k < lines.length
    · have hsu : secUp f ⟨dx, dy⟩ lines (k + 1) = if befP f ⟨dx, dy⟩ lines[k] = true then secUp f ⟨dx, dy⟩ lines k else k := by
        show (if befP f ⟨dx, dy⟩ (ptAt lines k) = true then secUp f ⟨dx, dy⟩ lines k else k) = _
        rw [HPT.out k hlt]
      have hpo := HOK.out k hlt
      obtain ⟨_, _, e, p0, p1⟩ := HL.out k hlt
      cases e
      replace p0 := hx0.cell p0
      replace p1 := hx0.cell p1
      have hbl := lt_of_cell p0
      simp only at hbl
      generalize lines[k] = q at *
      have HBQ := Lib.hid (HB.out q hpo)
      obtain ⟨bq, hbq⟩ : ∃ c, befP f ⟨dx, dy⟩ q = c := ⟨_, rfl⟩
      rw [hbq] at HBQ hsu
      have HSU := Lib.hid hsu
      have hf2 := HF2.out.ext hx
      have hd2 := HD2.out.ext hx
      have g0 := hf2.cell 0 (v := .int .i64 f.x) rfl
      have g1 := hf2.cell 1 (v := .int .i64 f.y) rfl
      have hg := hf2.lt
      have d0 := hd2.cell 0 (v := .int .i64 dx) rfl
      have d1 := hd2.cell 1 (v := .int .i64 dy) rfl
      have hdl := hd2.lt
      have hsm := HM.out k hk
      generalize secUp f ⟨dx, dy⟩ lines k = sk at *
      have HX := Lib.hid hx
      clear hpo hbq hsu hf2 hd2 hx hx0
      go_wp2_with fail
      refine (HBQ.out _).mono ?_
      rintro e w3 ⟨rfl, hx3⟩
      have hT : Ext w2 w3 := HX.out.trans (Ext.trans ((Ext.refl wr).alloc _) hx3)
      have HT := Lib.hid hT
      clear hT hx3 p0 p1 hbl g0 g1 hg d0 d1 hdl
      cases bq
      · have HS2 := Lib.hid (HSU.out.trans (if_neg (by simp)))
        go_wp2
        go_roundw
        case rel => exact ⟨k + 1, by omega, by go_num, by rw [HS2.out], HT.out⟩
        case measure => simp [intOf]; omega
      · have HS2 := Lib.hid (HSU.out.trans (if_pos rfl))
        go_wp2
        go_roundw
        case rel => exact ⟨k + 1, by omega, by go_num, by rw [HS2.out], HT.out⟩
        case measure => simp [intOf]; omega
    · have hkn : k = lines.length := by omega
      subst hkn
      have HX0 := Lib.hid hx0
      clear hx hx0
      go_wp2
      go_ret
      exact ⟨rfl, HX0.out⟩
end Go.Proofs.Ytpifdeglhalefaa
