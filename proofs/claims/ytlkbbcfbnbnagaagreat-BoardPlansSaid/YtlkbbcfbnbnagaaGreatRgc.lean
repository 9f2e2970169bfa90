/-
  The reference of chapter 1: radii, the error of a board.
-/
import Derived.Test.YtlkbbcfbnbnagaaGreatRgb
import Derived.Test.YtlkbbcfbnbnagaaGreatBoV
import Derived.Test.YtlkbbcfbnbnagaaGreatSep
import Derived.Deep.CutBlock
namespace Go.Proofs.YtlkbbcfbnbnagaaGreat
open Go.RowKit Go.BigFrame
attribute [local go_sem] Later.cell Later.frozen
def radTo (b : Brd) (k : Nat) : List Int := b.eye :: b.bull :: (b.rings.take k).map (·.outer)
theorem radTo_succ (b : Brd) {k : Nat} (h : k < b.rings.length) : radTo b (k + 1) = radTo b k ++ [b.rings[k].outer] := by
  unfold radTo
  rw [List.take_succ_eq_append_getElem h, List.map_append]; rfl
theorem radTo_all (b : Brd) : radTo b b.rings.length = b.radii := by
  unfold radTo Brd.radii
  rw [List.take_of_length_le (Nat.le_refl _)]
theorem radTo_len (b : Brd) {k : Nat} (h : k ≤ b.rings.length) : (radTo b k).length = k + 2 := by unfold radTo; simp; omega
set_option maxHeartbeats 2000000 in
theorem ref_radii (v : BrdV) (b : Brd) (w : World) (h : BrdAt w v b) (hs : b.rings.length ≤ 1000000) :
    Calls Tryz.prog 36 #[.agg (v.cells b)] w fun e w' => ∃ a c, e = .returned (.slice a b.radii.length c) ∧ RdI S0 w' (.slice a b.radii.length c) b.radii ∧ Ext w w' := by
  have HR := Lib.hid h.rings
  have HT0 : Hid (radTo b 0 = [b.eye, b.bull]) := Lib.hid rfl
  have HTS := Lib.hid (fun k (h : k < b.rings.length) => radTo_succ b h)
  have HTL := Lib.hid (fun k (h : k ≤ b.rings.length) => radTo_len b h)
  have HTA := Lib.hid (radTo_all b)
  generalize b.radii = rr at *
  generalize radTo b = rt at *
  obtain ⟨eye, bull, rings, lines, nums, wire⟩ := b
  obtain ⟨ra, la, na, rc, lc, nc⟩ := v
  unfold BrdV.cells
  simp only at HR HT0 HTS HTL HTA hs ⊢
  clear h
  go_enter Tryz.func36, Tryz.ntmps36
  go_upto_block 0 with fail
  obtain ⟨w1, hw1⟩ : ∃ x, x = w.alloc (.cells #[.int .i64 eye, .int .i64 bull, .slice ra rings.length rc, .slice la lines.length lc, .slice na nums.length nc, .int .i64 wire] 26) := ⟨_, rfl⟩
  rw [← hw1]
  have hs1 : w1.heap.size = w.heap.size + 1 := by rw [hw1]; simp
  have HB1 : Hid (Blk w1 w.heap.size #[.int .i64 eye, .int .i64 bull, .slice ra rings.length rc, .slice la lines.length lc, .slice na nums.length nc, .int .i64 wire]) := Lib.hid (by rw [hw1]; exact Blk.new _ _ _)
  have HX1 : Hid (Ext w w1) := Lib.hid (by rw [hw1]; exact (Ext.refl w).alloc _)
  have HO0 : Hid (OwnI (w1.alloc (.cells #[.int .i64 eye, .int .i64 bull] 3)) w1.heap.size (.slice (some ⟨w.heap.size + 1, 0, none⟩) 2 2) (rt 0)) := Lib.hid (by
    rw [HT0.out, ← hs1]
    exact own_box (w := w1) (base := w1.heap.size) (size := 1) (m := 2) (e := 3) (cs := #[.int .i64 eye, .int .i64 bull]) (Nat.le_refl _) (by decide) rfl)
  have HS1 := Lib.hid hs1
  obtain ⟨w2, hw2⟩ : ∃ x, x = w1.alloc (.cells #[.int .i64 eye, .int .i64 bull] 3) := ⟨_, rfl⟩
  rw [← hw2] at HO0 ⊢
  have HX2 : Hid (Ext w1 w2) := Lib.hid (by rw [hw2]; exact (Ext.refl w1).alloc _)
  clear hw1 hw2 hs1
  go_wp2
  go_loopw [3, 4] (fun v i wr => ∃ k : Nat, k ≤ rings.length ∧ i = .int .i64 k ∧ OwnI wr w1.heap.size v (rt k) ∧ Ext w1 wr) (fun _ i _ => rings.length - (intOf i).toNat)
  case atStart => exact ⟨0, Nat.zero_le _, rfl, HO0.out, HX2.out⟩
  case round =>
    obtain ⟨k, hk, rfl, ho, hx⟩ := hrel
    obtain ⟨va, vc, rfl⟩ := own_shape ho
    have HO := Lib.hid ho
    have HX := Lib.hid hx
    have hb := HB1.out.ext hx
    have m2 := hb.cell 2 (v := .slice ra rings.length rc) rfl
    have ml := hb.lt
    clear ho hx hb
    by_cases hlt : k < rings.length
    · obtain ⟨b, o, e, x0, x1⟩ := (HR.out.ext (HX1.out.trans HX.out)) k hlt
      have xl := lt_of_cell x0
      simp only at xl
      subst e
      have HSU := Lib.hid (HTS.out k hlt)
      have HLN := Lib.hid (HTL.out k hk)
      generalize rings[k].outer = z at *
      have hbs : w1.heap.size ≤ wr.heap.size := HX.out.size
      clear x1
      go_wp2_with (at_builtin; refine wp_append_i rfl _ _ rfl w1.heap.size _ (rt k) rfl (HO.out.ext ((Ext.refl wr).alloc _)) ⟨wr.heap.size, 0, none⟩ 1 z rfl (Blk.cell (Blk.new _ _ _) 0 rfl) (by rw [HLN.out]; omega) (by simp; omega) ?_)
      intro v' w4 ho4 hg4
      obtain ⟨av, ac, rfl⟩ := own_shape ho4
      have HO4 := Lib.hid ho4
      have hoA := HO.out.ext ((Ext.refl wr).alloc (.cells #[.int .i64 z] 3))
      have HX4 := Lib.hid (Chg.to_ext (HX.out.alloc (.cells #[.int .i64 z] 3)) (grown_chg hg4) (fun j e => (own_lt hoA j e).1))
      clear ho4 hg4 hoA
      go_wp2
      go_roundw
      case rel => exact ⟨k + 1, by omega, by go_num, by rw [HSU.out]; exact HO4.out, HX4.out⟩
      case measure => simp [intOf]; omega
    · obtain rfl : k = rings.length := by omega
      have HG := Lib.hid (RdI.of_own (S := S0) HO.out (fun _ _ => id))
      have HXe := Lib.hid (HX1.out.trans HX.out)
      rw [HTA.out] at HG ⊢
      go_wp2
      go_ret
      exact ⟨_, _, rfl, HG.out, HXe.out⟩
end Go.Proofs.YtlkbbcfbnbnagaaGreat
